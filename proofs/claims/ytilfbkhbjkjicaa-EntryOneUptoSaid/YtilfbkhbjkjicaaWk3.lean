/- Wk3: a part of the proofs about the tuple space and its bytes. -/
import Derived.Test.YtilfbkhbjkjicaaWk2
set_option linter.all false
set_option maxRecDepth 100000
set_option maxHeartbeats 0
namespace Go.Abs
open Go
open Go.Proofs.Try (prog)
def yc0 (x : Wtr) (r : Req) : Rpl := ⟨x.Client, x.Seq, 2, r.T, true⟩
def zbg (s : Spc) (r : Req) : Itm := ⟨r.Client, if 0 < r.Lease then s.Now + r.Lease else 0, r.T⟩
def zam (s : Spc) (c : Nat) : Rpl := s.Last.getD c ⟨0, 0, 0, [], false⟩
def yba (x : Wtr) (s : Spc) (r : Req) : Spc := if (zam s x.Client.toNat).Seq = x.Seq then { s with Last := s.Last.set x.Client.toNat (yc0 x r) } else s
def qa3 (r : Req) : List Wtr → List Wtr → Spc → List Rpl → Spc × List Rpl
  | pre, [], s, out => ({ s with Waiters := pre, Items := s.Items ++ [zbg s r] }, out)
  | pre, x :: rest, s, out =>
    if ya6 x.P r.T = true then
      if x.Take = true then ({ yba x s r with Waiters := pre ++ rest }, out ++ [yc0 x r])
      else qa3 r pre rest (yba x s r) (out ++ [yc0 x r])
    else qa3 r (pre ++ [x]) rest s out
theorem told1_wt (x : Wtr) (s : Spc) (r : Req) (w : List Wtr) : yba x { s with Waiters := w } r = { yba x s r with Waiters := w } := by
  unfold yba zam
  split <;> rfl
theorem zdl (r : Req) : ∀ (rest pre : List Wtr) (s : Spc) (out : List Rpl) (w : List Wtr), qa3 r pre rest { s with Waiters := w } out = qa3 r pre rest s out
  | [], pre, s, out, w => rfl
  | x :: rest, pre, s, out, w => by
    simp only [qa3, told1_wt]
    split
    · split
      · rfl
      · exact zdl r rest pre _ _ w
    · exact zdl r rest (pre ++ [x]) s out w
structure PI (s0 : Spc) (r : Req) (out0 : List Rpl) (pre rest : List Wtr) (s : Spc) (out : List Rpl) : Prop where
  go : qa3 r pre rest s out = qa3 r [] s0.Waiters s0 out0
  wt : s.Waiters = pre ++ rest
  now : s.Now = s0.Now
  it : s.Items = s0.Items
  l4 : s.Last.length = 4
  ol : out.length + rest.length < 4294967296
  wl : pre.length + rest.length ≤ 4294967296
  cl : ∀ x ∈ rest, qar x.Client = true ∧ x.P.length ≤ 4294967296
theorem qbn {c : Int} (h : qar c = true) : ∃ n : Nat, c = n ∧ n < 4 := by
  simp only [qar, Bool.and_eq_true, decide_eq_true_eq] at h
  exact ⟨c.toNat, by omega, by omega⟩
def PIv (X : Nat → Prop) (k : Nat) (s : Spc) (r : Req) (out : List Rpl) (h : List Entry) (E : Nat → (Nat → AV) → Env) (j : Nat) (env : Env) (h1 : List Entry) : Prop :=
  ∃ pre rest s1 out1, PI s r out pre rest s1 out1 ∧ WS (zbf X h h1) k s1 r out1 h1 ∧ Keeps X h h1 ∧ j + rest.length = s.Waiters.length ∧ env = E pre.length (lk env)
theorem piv_mk {X : Nat → Prop} {k : Nat} {s : Spc} {r : Req} {out : List Rpl} {h : List Entry} {E : Nat → (Nat → AV) → Env} {j : Nat} {env : Env} {h1 : List Entry} (pre rest : List Wtr) (s1 : Spc) (out1 : List Rpl) (h1' : PI s r out pre rest s1 out1) (h2 : WS (zbf X h h1) k s1 r out1 h1) (h3 : Keeps X h h1)
    (h4 : j + rest.length = s.Waiters.length) (h5 : env = E pre.length (lk env)) : PIv X k s r out h E j env h1 := ⟨pre, rest, s1, out1, h1', h2, h3, h4, h5⟩
theorem WS.grown {X : Nat → Prop} {h h1 h2 : List Entry} {k : Nat} {s : Spc} {r : Req} {out : List Rpl} (w : WS (zbf X h h1) k s r out h2) (b : ∀ j, X j → j < h.length) (hl : h.length ≤ h1.length) (hl2 : h1.length ≤ h2.length) : WS (zbf X h h2) k s r out h2 :=
  w.up (fun j hj => hj.elim .inl fun a => .inr ⟨a.1, by omega⟩) (ya2 b (by omega))
theorem WS.grown2 {X : Nat → Prop} {h h1 h2 h3 : List Entry} {k : Nat} {s : Spc} {r : Req} {out : List Rpl} (w : WS (zbf (zbf X h h1) h2 h3) k s r out h3) (b : ∀ j, X j → j < h.length) (hl : h.length ≤ h1.length) (hl2 : h1.length ≤ h2.length) (hl3 : h2.length ≤ h3.length) : WS (zbf X h h3) k s r out h3 :=
  w.up (fun j hj => hj.elim (fun hj => hj.elim .inl fun a => .inr ⟨a.1, by omega⟩) fun a => .inr ⟨by omega, a.2⟩) (ya2 b (by omega))
theorem Keeps.app (X : Nat → Prop) (h l : List Entry) : Keeps X h (h ++ l) := ⟨by simp, fun j hj _ => zad hj⟩
theorem erase_mid {pre rest : List Wtr} {x : Wtr} : (pre.map eW ++ eW x :: rest.map eW).eraseIdx pre.length = (pre ++ rest).map eW := by
  rw [List.eraseIdx_append_of_length_le (by simp)]; simp
theorem get_mid {pre rest : List Wtr} {x : Wtr} {z : List AV} : ((pre.map eW ++ eW x :: rest.map eW) ++ z)[pre.length]? = some (eW x) := by
  rw [List.getElem?_append_left (by simp), List.getElem?_append_right (by simp)]; simp
theorem c_put {X : Nat → Prop} {k : Nat} {s : Spc} {r : Req} {out : List Rpl} {h : List Entry} (hw : WS X k s r out h) (hi : PI s r out [] s.Waiters s out) (hT : r.T.length ≤ 4294967296) (hI : s.Items.length < 4294967296) (hN : 0 ≤ s.Now ∧ s.Now ≤ 1099511627776) (hL : r.Lease ≤ 1099511627776) :
    FSpec prog 161 [.ref k [0] 148] h fun r' h' => r' = .tup [] ∧ WS (zbf X h h') k (qa3 r [] s.Waiters s out).1 r (qa3 r [] s.Waiters s out).2 h' ∧ Keeps X h h' := by
  refine frun_161 rfl ?_
  repeat' (first
    | simp (implicitDefEqProofs := false) only [push_cast, reduceIte, reduceCtorEq, Nat.reduceAdd, Nat.reduceSub, Nat.reduceEqDiff, Nat.reduceLT, Nat.reduceLeDiff, Nat.reduceBEq, Nat.reduceMul, Int.reduceLT, Int.reduceLE, Int.reduceEq, Int.reduceToNat, Int.reduceMul, Int.reduceNeg, Go.Proofs.Try.f161]
    | refine Sp2.f ?_ ?_
    | refine Spl.f ?_ ?_ <;> intro hb
    | refine qac rfl (fun b hb => ?_)
    | refine zaa (U := [[], [], [], [], [], [], [], [], []]) (H := []) zag (by kernel_rfl) (by decide +kernel) (by kernel_rfl) ?_
    | refine zaa (U := [[], [], [], [], [], [], [], [], [], [], [1, 3, 8], []]) (H := [⟨0, [], .hole⟩]) zag (by kernel_rfl) (by decide +kernel) (by kernel_rfl) ?_
    | refine zaa (U := [[], [], [], [], [], [], [], [], [], [], [], []]) (H := []) zag (by kernel_rfl) (by decide +kernel) (by kernel_rfl) ?_
    | refine zaa (U := [[], [], [], [], [], [], [], [], [], [], [4], [], [4, 9, 10], []]) (H := [⟨0, [], .hole⟩]) zag (by kernel_rfl) (by decide +kernel) (by kernel_rfl) ?_
    | refine zaa (U := [[], [], [], [], [], [], [], [], [], [], [], [], []]) (H := []) zag (by kernel_rfl) (by decide +kernel) (by kernel_rfl) ?_
    | refine zaa (U := [[], [], [], [], [], [], [], [5], [], [], [], [], []]) (H := [⟨0, [], .hole⟩, ⟨0, [], .hole⟩]) zag (by kernel_rfl) (by decide +kernel) (by kernel_rfl) ?_)
  refine zbl (PIv X k s r out h (fun n a => [(0, .ref k [0] 148), (2, .int .i64 n), (3, a 3), (4, a 4), (5, a 5), (13, a 13), (30, a 30), (67, a 67), (75, a 75), (93, a 93)])) s.Waiters.length (piv_mk [] s.Waiters s out hi (by rw [zc1]; exact hw) (.refl _ _) (by simp) rfl) ?_
  rintro j env h1 ⟨pre, rest, s1, out1, pi, w1, kp1, hj, henv⟩
  refine ⟨by omega, ?_⟩
  rw [henv]
  generalize lk env = a
  clear henv env
  have b0 := hw.bd
  have w0 := w1
  obtain ⟨b, o, vi, vw, vo, hk, v1, v2, v3⟩ := w1
  have hkl := yac hk
  have tI : 148 ≠ 87 := by decide
  have tW : 148 ≠ 89 := by decide
  have tR : 148 ≠ 26 := by decide
  have wI : 89 ≠ 87 := by decide
  have wR : 89 ≠ 26 := by decide
  cases rest with
  | nil =>
    have hgo := pi.go
    simp only [qa3] at hgo
    rw [← hgo]
    have hwe : s1.Waiters = pre := by rw [pi.wt, List.append_nil]
    have hpz : decide ((pre.length : Int) < 0) = false := by simp
    have hvw : vw = .nils ∨ ∃ kw lo, vw = .win kw [] 89 0 pre.length lo := by
      rw [hwe] at v2
      generalize hl : pre.map eW = l at v2
      have : l.length = pre.length := by rw [← hl]; simp
      cases v2 with
      | nil => exact .inl rfl
      | win => rw [this]; exact .inr ⟨_, _, rfl⟩
    have hlt : ¬ pre.length < pre.length := by omega
    have hIl : (s1.Items.map eI).length < 4294967296 := by rw [pi.it]; simpa using hI
    have hlr : ∀ y, (s1.Items ++ [y]).map eI = s1.Items.map eI ++ [eI y] := by simp
    rw [hwe] at v2
    generalize s1.Items.map eI = l at v1 hIl hlr
    have iW : 87 ≠ 89 := by decide
    have iR : 87 ≠ 26 := by decide
    cases v1 with
    | nil =>
      by_cases hL0 : 0 < r.Lease
      · have hle : decide (0 < r.Lease) = true := by simpa using hL0
        have hwr : IntKind.wrap .i64 (s1.Now + r.Lease) = s1.Now + r.Lease := by rw [pi.now]; exact IntWalk.i64_in _ (by omega)
        have hit : zbg s1 r = ⟨r.Client, s1.Now + r.Lease, r.T⟩ := by simp only [zbg, if_pos hL0]
        rcases hvw with rfl | ⟨kw, lo2, rfl⟩
        all_goals
          repeat' (first
    | simp (implicitDefEqProofs := false) only [push_cast, reduceIte, reduceCtorEq, Nat.reduceAdd, Nat.reduceSub, Nat.reduceEqDiff, Nat.reduceLT, Nat.reduceLeDiff, Nat.reduceBEq, Nat.reduceMul, Int.reduceLT, Int.reduceLE, Int.reduceEq, Int.reduceToNat, Int.reduceMul, Int.reduceNeg, Go.Proofs.Try.f161, hk, wkE, hkl, hpz, hle, hwr, eW, eQ, eI, eFs, yal hlt, Int.toNat_natCast, List.length_map, zad, yae, qad, zae, zab, qae, sst, qab, qaa, yaa, zac, qaq, List.replicate_succ, List.drop_zero, zaf hkl, yad hkl, qak hkl, yaf hkl]
    | refine Sp2.f ?_ ?_
    | refine Spl.f ?_ ?_ <;> intro hb
    | refine qac rfl (fun b hb => ?_)
    | refine zaa (U := [[], [], [], [], [], [], [], [], []]) (H := []) zag (by kernel_rfl) (by decide +kernel) (by kernel_rfl) ?_
    | refine zaa (U := [[], [], [], [], [], [], [], [], [], [], [1, 3, 8], []]) (H := [⟨0, [], .hole⟩]) zag (by kernel_rfl) (by decide +kernel) (by kernel_rfl) ?_
    | refine zaa (U := [[], [], [], [], [], [], [], [], [], [], [], []]) (H := []) zag (by kernel_rfl) (by decide +kernel) (by kernel_rfl) ?_
    | refine zaa (U := [[], [], [], [], [], [], [], [], [], [], [4], [], [4, 9, 10], []]) (H := [⟨0, [], .hole⟩]) zag (by kernel_rfl) (by decide +kernel) (by kernel_rfl) ?_
    | refine zaa (U := [[], [], [], [], [], [], [], [], [], [], [], [], []]) (H := []) zag (by kernel_rfl) (by decide +kernel) (by kernel_rfl) ?_
    | refine zaa (U := [[], [], [], [], [], [], [], [5], [], [], [], [], []]) (H := [⟨0, [], .hole⟩, ⟨0, [], .hole⟩]) zag (by kernel_rfl) (by decide +kernel) (by kernel_rfl) ?_
    | refine zbe (zav r.T hT) ?_)
          refine ⟨⟨ya2 b0 (by simp; have := kp1.len; omega), .inl hw.own, _, _, vo, by rw [zad (by simpa using hkl), zae hkl]; rfl, ?_, ((v2.set hk tW _).app _).up (fun j hj => hj.elim .inl fun a => .inr ⟨a.1, by have := a.2; simp; omega⟩), ((v3.set hk tR _).app _).up (fun j hj => hj.elim .inl fun a => .inr ⟨a.1, by have := a.2; simp; omega⟩)⟩, kp1.trans (Keeps.sets o _ _)⟩
          show View _ _ _ _ ((s1.Items ++ [zbg s1 r]).map eI)
          rw [hlr, hit]
          exact View.win' [] (.inr ⟨by have := kp1.len; omega, by simp⟩) qab (by simp [eI, eFs]) (by simp)
      · have hle : decide (0 < r.Lease) = false := by simpa using hL0
        have hit : zbg s1 r = ⟨r.Client, 0, r.T⟩ := by simp only [zbg, if_neg hL0]
        rcases hvw with rfl | ⟨kw, lo2, rfl⟩
        all_goals
          repeat' (first
    | simp (implicitDefEqProofs := false) only [push_cast, reduceIte, reduceCtorEq, Nat.reduceAdd, Nat.reduceSub, Nat.reduceEqDiff, Nat.reduceLT, Nat.reduceLeDiff, Nat.reduceBEq, Nat.reduceMul, Int.reduceLT, Int.reduceLE, Int.reduceEq, Int.reduceToNat, Int.reduceMul, Int.reduceNeg, Go.Proofs.Try.f161, hk, wkE, hkl, hpz, hle, eW, eQ, eI, eFs, yal hlt, Int.toNat_natCast, List.length_map, zad, yae, qad, zae, zab, qae, sst, qab, qaa, yaa, zac, qaq, List.replicate_succ, List.drop_zero, zaf hkl, yad hkl, qak hkl, yaf hkl]
    | refine Sp2.f ?_ ?_
    | refine Spl.f ?_ ?_ <;> intro hb
    | refine qac rfl (fun b hb => ?_)
    | refine zaa (U := [[], [], [], [], [], [], [], [], []]) (H := []) zag (by kernel_rfl) (by decide +kernel) (by kernel_rfl) ?_
    | refine zaa (U := [[], [], [], [], [], [], [], [], [], [], [1, 3, 8], []]) (H := [⟨0, [], .hole⟩]) zag (by kernel_rfl) (by decide +kernel) (by kernel_rfl) ?_
    | refine zaa (U := [[], [], [], [], [], [], [], [], [], [], [], []]) (H := []) zag (by kernel_rfl) (by decide +kernel) (by kernel_rfl) ?_
    | refine zaa (U := [[], [], [], [], [], [], [], [], [], [], [4], [], [4, 9, 10], []]) (H := [⟨0, [], .hole⟩]) zag (by kernel_rfl) (by decide +kernel) (by kernel_rfl) ?_
    | refine zaa (U := [[], [], [], [], [], [], [], [], [], [], [], [], []]) (H := []) zag (by kernel_rfl) (by decide +kernel) (by kernel_rfl) ?_
    | refine zaa (U := [[], [], [], [], [], [], [], [5], [], [], [], [], []]) (H := [⟨0, [], .hole⟩, ⟨0, [], .hole⟩]) zag (by kernel_rfl) (by decide +kernel) (by kernel_rfl) ?_
    | refine zbe (zav r.T hT) ?_)
          refine ⟨⟨ya2 b0 (by simp; have := kp1.len; omega), .inl hw.own, _, _, vo, by rw [zad (by simpa using hkl), zae hkl]; rfl, ?_, ((v2.set hk tW _).app _).up (fun j hj => hj.elim .inl fun a => .inr ⟨a.1, by have := a.2; simp; omega⟩), ((v3.set hk tR _).app _).up (fun j hj => hj.elim .inl fun a => .inr ⟨a.1, by have := a.2; simp; omega⟩)⟩, kp1.trans (Keeps.sets o _ _)⟩
          show View _ _ _ _ ((s1.Items ++ [zbg s1 r]).map eI)
          rw [hlr, hit]
          exact View.win' [] (.inr ⟨by have := kp1.len; omega, by simp⟩) qab (by simp [eI, eFs]) (by simp)
    | @win ki lo _ z hxi hki =>
      have hkil := yac hki
      have hne : ki ≠ k := by rintro rfl; rw [hk] at hki; cases hki
      have htk : (l ++ z).take l.length = l := by simp
      have hle2 : l.length ≤ (l ++ z).length := by simp
      have hdr : (l ++ z).drop (l.length + 1) = z.drop 1 := by rw [List.drop_append]; simp
      by_cases hfit : l.length + 1 ≤ lo
      · have hfit := eq_true hfit
        by_cases hL0 : 0 < r.Lease
        · have hle : decide (0 < r.Lease) = true := by simpa using hL0
          have hwr : IntKind.wrap .i64 (s1.Now + r.Lease) = s1.Now + r.Lease := by rw [pi.now]; exact IntWalk.i64_in _ (by omega)
          have hit : zbg s1 r = ⟨r.Client, s1.Now + r.Lease, r.T⟩ := by simp only [zbg, if_pos hL0]
          rcases hvw with rfl | ⟨kw, lo2, rfl⟩
          all_goals
            repeat' (first
    | simp (implicitDefEqProofs := false) only [push_cast, reduceIte, reduceCtorEq, Nat.reduceAdd, Nat.reduceSub, Nat.reduceEqDiff, Nat.reduceLT, Nat.reduceLeDiff, Nat.reduceBEq, Nat.reduceMul, Int.reduceLT, Int.reduceLE, Int.reduceEq, Int.reduceToNat, Int.reduceMul, Int.reduceNeg, Go.Proofs.Try.f161, hk, wkE, hkl, hpz, hle, hwr, eW, eQ, eI, eFs, yal hlt, Int.toNat_natCast, List.length_map, zad, yae, qad, zae, zab, qae, sst, qab, qaa, yaa, zac, qaq, List.replicate_succ, List.drop_zero, zaf hkl, yad hkl, qak hkl, yaf hkl, hki, hkil, hne, Ne.symm hne, qds hne, qds (Ne.symm hne), htk, hle2, hdr, hfit, zaf hkil, yad hkil, qak hkil, yaf hkil]
    | refine Sp2.f ?_ ?_
    | refine Spl.f ?_ ?_ <;> intro hb
    | refine qac rfl (fun b hb => ?_)
    | refine zaa (U := [[], [], [], [], [], [], [], [], []]) (H := []) zag (by kernel_rfl) (by decide +kernel) (by kernel_rfl) ?_
    | refine zaa (U := [[], [], [], [], [], [], [], [], [], [], [1, 3, 8], []]) (H := [⟨0, [], .hole⟩]) zag (by kernel_rfl) (by decide +kernel) (by kernel_rfl) ?_
    | refine zaa (U := [[], [], [], [], [], [], [], [], [], [], [], []]) (H := []) zag (by kernel_rfl) (by decide +kernel) (by kernel_rfl) ?_
    | refine zaa (U := [[], [], [], [], [], [], [], [], [], [], [4], [], [4, 9, 10], []]) (H := [⟨0, [], .hole⟩]) zag (by kernel_rfl) (by decide +kernel) (by kernel_rfl) ?_
    | refine zaa (U := [[], [], [], [], [], [], [], [], [], [], [], [], []]) (H := []) zag (by kernel_rfl) (by decide +kernel) (by kernel_rfl) ?_
    | refine zaa (U := [[], [], [], [], [], [], [], [5], [], [], [], [], []]) (H := [⟨0, [], .hole⟩, ⟨0, [], .hole⟩]) zag (by kernel_rfl) (by decide +kernel) (by kernel_rfl) ?_
    | refine zbe (zav r.T hT) ?_)
            all_goals first
              | omega
              | skip
            refine ⟨⟨ya2 b0 (by simp; have := kp1.len; omega), .inl hw.own, _, _, vo, by rw [zad (by simpa using hkl), zae (by simpa using hkl)]; rfl, ?_, (((v2.set hki iW _).set ((qad hne).trans hk) tW _).app _).up (fun j hj => hj.elim .inl fun a => .inr ⟨a.1, by have := a.2; simp; omega⟩), (((v3.set hki iR _).set ((qad hne).trans hk) tR _).app _).up (fun j hj => hj.elim .inl fun a => .inr ⟨a.1, by have := a.2; simp; omega⟩)⟩, kp1.trans (Keeps.sets2 hxi o _ _ _)⟩
            show View _ _ _ _ ((s1.Items ++ [zbg s1 r]).map eI)
            rw [hlr, hit]
            exact View.win' (z.drop 1) (hxi.elim .inl fun a => .inr ⟨a.1, by have := a.2; simp; omega⟩) (by rw [zad (by simpa using hkil), qad (Ne.symm hne), zae hkil]) (by simp [eI, eFs]) (by simp)
        · have hle : decide (0 < r.Lease) = false := by simpa using hL0
          have hit : zbg s1 r = ⟨r.Client, 0, r.T⟩ := by simp only [zbg, if_neg hL0]
          rcases hvw with rfl | ⟨kw, lo2, rfl⟩
          all_goals
            repeat' (first
    | simp (implicitDefEqProofs := false) only [push_cast, reduceIte, reduceCtorEq, Nat.reduceAdd, Nat.reduceSub, Nat.reduceEqDiff, Nat.reduceLT, Nat.reduceLeDiff, Nat.reduceBEq, Nat.reduceMul, Int.reduceLT, Int.reduceLE, Int.reduceEq, Int.reduceToNat, Int.reduceMul, Int.reduceNeg, Go.Proofs.Try.f161, hk, wkE, hkl, hpz, hle, eW, eQ, eI, eFs, yal hlt, Int.toNat_natCast, List.length_map, zad, yae, qad, zae, zab, qae, sst, qab, qaa, yaa, zac, qaq, List.replicate_succ, List.drop_zero, zaf hkl, yad hkl, qak hkl, yaf hkl, hki, hkil, hne, Ne.symm hne, qds hne, qds (Ne.symm hne), htk, hle2, hdr, hfit, zaf hkil, yad hkil, qak hkil, yaf hkil]
    | refine Sp2.f ?_ ?_
    | refine Spl.f ?_ ?_ <;> intro hb
    | refine qac rfl (fun b hb => ?_)
    | refine zaa (U := [[], [], [], [], [], [], [], [], []]) (H := []) zag (by kernel_rfl) (by decide +kernel) (by kernel_rfl) ?_
    | refine zaa (U := [[], [], [], [], [], [], [], [], [], [], [1, 3, 8], []]) (H := [⟨0, [], .hole⟩]) zag (by kernel_rfl) (by decide +kernel) (by kernel_rfl) ?_
    | refine zaa (U := [[], [], [], [], [], [], [], [], [], [], [], []]) (H := []) zag (by kernel_rfl) (by decide +kernel) (by kernel_rfl) ?_
    | refine zaa (U := [[], [], [], [], [], [], [], [], [], [], [4], [], [4, 9, 10], []]) (H := [⟨0, [], .hole⟩]) zag (by kernel_rfl) (by decide +kernel) (by kernel_rfl) ?_
    | refine zaa (U := [[], [], [], [], [], [], [], [], [], [], [], [], []]) (H := []) zag (by kernel_rfl) (by decide +kernel) (by kernel_rfl) ?_
    | refine zaa (U := [[], [], [], [], [], [], [], [5], [], [], [], [], []]) (H := [⟨0, [], .hole⟩, ⟨0, [], .hole⟩]) zag (by kernel_rfl) (by decide +kernel) (by kernel_rfl) ?_
    | refine zbe (zav r.T hT) ?_)
            all_goals first
              | omega
              | skip
            refine ⟨⟨ya2 b0 (by simp; have := kp1.len; omega), .inl hw.own, _, _, vo, by rw [zad (by simpa using hkl), zae (by simpa using hkl)]; rfl, ?_, (((v2.set hki iW _).set ((qad hne).trans hk) tW _).app _).up (fun j hj => hj.elim .inl fun a => .inr ⟨a.1, by have := a.2; simp; omega⟩), (((v3.set hki iR _).set ((qad hne).trans hk) tR _).app _).up (fun j hj => hj.elim .inl fun a => .inr ⟨a.1, by have := a.2; simp; omega⟩)⟩, kp1.trans (Keeps.sets2 hxi o _ _ _)⟩
            show View _ _ _ _ ((s1.Items ++ [zbg s1 r]).map eI)
            rw [hlr, hit]
            exact View.win' (z.drop 1) (hxi.elim .inl fun a => .inr ⟨a.1, by have := a.2; simp; omega⟩) (by rw [zad (by simpa using hkil), qad (Ne.symm hne), zae hkil]) (by simp [eI, eFs]) (by simp)
      · have hfit := eq_false hfit
        by_cases hL0 : 0 < r.Lease
        · have hle : decide (0 < r.Lease) = true := by simpa using hL0
          have hwr : IntKind.wrap .i64 (s1.Now + r.Lease) = s1.Now + r.Lease := by rw [pi.now]; exact IntWalk.i64_in _ (by omega)
          have hit : zbg s1 r = ⟨r.Client, s1.Now + r.Lease, r.T⟩ := by simp only [zbg, if_pos hL0]
          rcases hvw with rfl | ⟨kw, lo2, rfl⟩
          all_goals
            repeat' (first
    | simp (implicitDefEqProofs := false) only [push_cast, reduceIte, reduceCtorEq, Nat.reduceAdd, Nat.reduceSub, Nat.reduceEqDiff, Nat.reduceLT, Nat.reduceLeDiff, Nat.reduceBEq, Nat.reduceMul, Int.reduceLT, Int.reduceLE, Int.reduceEq, Int.reduceToNat, Int.reduceMul, Int.reduceNeg, Go.Proofs.Try.f161, hk, wkE, hkl, hpz, hle, hwr, eW, eQ, eI, eFs, yal hlt, Int.toNat_natCast, List.length_map, zad, yae, qad, zae, zab, qae, sst, qab, qaa, yaa, zac, qaq, List.replicate_succ, List.drop_zero, zaf hkl, yad hkl, qak hkl, yaf hkl, hki, hkil, hne, Ne.symm hne, qds hne, qds (Ne.symm hne), htk, hle2, hdr, hfit, zaf hkil, yad hkil, qak hkil, yaf hkil]
    | refine Sp2.f ?_ ?_
    | refine Spl.f ?_ ?_ <;> intro hb
    | refine qac rfl (fun b hb => ?_)
    | refine zaa (U := [[], [], [], [], [], [], [], [], []]) (H := []) zag (by kernel_rfl) (by decide +kernel) (by kernel_rfl) ?_
    | refine zaa (U := [[], [], [], [], [], [], [], [], [], [], [1, 3, 8], []]) (H := [⟨0, [], .hole⟩]) zag (by kernel_rfl) (by decide +kernel) (by kernel_rfl) ?_
    | refine zaa (U := [[], [], [], [], [], [], [], [], [], [], [], []]) (H := []) zag (by kernel_rfl) (by decide +kernel) (by kernel_rfl) ?_
    | refine zaa (U := [[], [], [], [], [], [], [], [], [], [], [4], [], [4, 9, 10], []]) (H := [⟨0, [], .hole⟩]) zag (by kernel_rfl) (by decide +kernel) (by kernel_rfl) ?_
    | refine zaa (U := [[], [], [], [], [], [], [], [], [], [], [], [], []]) (H := []) zag (by kernel_rfl) (by decide +kernel) (by kernel_rfl) ?_
    | refine zaa (U := [[], [], [], [], [], [], [], [5], [], [], [], [], []]) (H := [⟨0, [], .hole⟩, ⟨0, [], .hole⟩]) zag (by kernel_rfl) (by decide +kernel) (by kernel_rfl) ?_
    | refine zbe (zav r.T hT) ?_)
            all_goals first
              | omega
              | skip
            refine ⟨⟨ya2 b0 (by simp; have := kp1.len; omega), .inl hw.own, _, _, vo, by rw [zad (by simpa using hkl), zae (by simpa using hkl)]; rfl, ?_, (((v2.set hki iW _).set ((qad hne).trans hk) tW _).app _).up (fun j hj => hj.elim .inl fun a => .inr ⟨a.1, by have := a.2; simp; omega⟩), (((v3.set hki iR _).set ((qad hne).trans hk) tR _).app _).up (fun j hj => hj.elim .inl fun a => .inr ⟨a.1, by have := a.2; simp; omega⟩)⟩, kp1.trans (Keeps.sets2 hxi o _ _ _)⟩
            show View _ _ _ _ ((s1.Items ++ [zbg s1 r]).map eI)
            rw [hlr, hit]
            exact View.win' [] (.inr ⟨by have := kp1.len; omega, by simp⟩) yaa (by simp [eI, eFs]) (by simp)
        · have hle : decide (0 < r.Lease) = false := by simpa using hL0
          have hit : zbg s1 r = ⟨r.Client, 0, r.T⟩ := by simp only [zbg, if_neg hL0]
          rcases hvw with rfl | ⟨kw, lo2, rfl⟩
          all_goals
            repeat' (first
    | simp (implicitDefEqProofs := false) only [push_cast, reduceIte, reduceCtorEq, Nat.reduceAdd, Nat.reduceSub, Nat.reduceEqDiff, Nat.reduceLT, Nat.reduceLeDiff, Nat.reduceBEq, Nat.reduceMul, Int.reduceLT, Int.reduceLE, Int.reduceEq, Int.reduceToNat, Int.reduceMul, Int.reduceNeg, Go.Proofs.Try.f161, hk, wkE, hkl, hpz, hle, eW, eQ, eI, eFs, yal hlt, Int.toNat_natCast, List.length_map, zad, yae, qad, zae, zab, qae, sst, qab, qaa, yaa, zac, qaq, List.replicate_succ, List.drop_zero, zaf hkl, yad hkl, qak hkl, yaf hkl, hki, hkil, hne, Ne.symm hne, qds hne, qds (Ne.symm hne), htk, hle2, hdr, hfit, zaf hkil, yad hkil, qak hkil, yaf hkil]
    | refine Sp2.f ?_ ?_
    | refine Spl.f ?_ ?_ <;> intro hb
    | refine qac rfl (fun b hb => ?_)
    | refine zaa (U := [[], [], [], [], [], [], [], [], []]) (H := []) zag (by kernel_rfl) (by decide +kernel) (by kernel_rfl) ?_
    | refine zaa (U := [[], [], [], [], [], [], [], [], [], [], [1, 3, 8], []]) (H := [⟨0, [], .hole⟩]) zag (by kernel_rfl) (by decide +kernel) (by kernel_rfl) ?_
    | refine zaa (U := [[], [], [], [], [], [], [], [], [], [], [], []]) (H := []) zag (by kernel_rfl) (by decide +kernel) (by kernel_rfl) ?_
    | refine zaa (U := [[], [], [], [], [], [], [], [], [], [], [4], [], [4, 9, 10], []]) (H := [⟨0, [], .hole⟩]) zag (by kernel_rfl) (by decide +kernel) (by kernel_rfl) ?_
    | refine zaa (U := [[], [], [], [], [], [], [], [], [], [], [], [], []]) (H := []) zag (by kernel_rfl) (by decide +kernel) (by kernel_rfl) ?_
    | refine zaa (U := [[], [], [], [], [], [], [], [5], [], [], [], [], []]) (H := [⟨0, [], .hole⟩, ⟨0, [], .hole⟩]) zag (by kernel_rfl) (by decide +kernel) (by kernel_rfl) ?_
    | refine zbe (zav r.T hT) ?_)
            all_goals first
              | omega
              | skip
            refine ⟨⟨ya2 b0 (by simp; have := kp1.len; omega), .inl hw.own, _, _, vo, by rw [zad (by simpa using hkl), zae (by simpa using hkl)]; rfl, ?_, (((v2.set hki iW _).set ((qad hne).trans hk) tW _).app _).up (fun j hj => hj.elim .inl fun a => .inr ⟨a.1, by have := a.2; simp; omega⟩), (((v3.set hki iR _).set ((qad hne).trans hk) tR _).app _).up (fun j hj => hj.elim .inl fun a => .inr ⟨a.1, by have := a.2; simp; omega⟩)⟩, kp1.trans (Keeps.sets2 hxi o _ _ _)⟩
            show View _ _ _ _ ((s1.Items ++ [zbg s1 r]).map eI)
            rw [hlr, hit]
            exact View.win' [] (.inr ⟨by have := kp1.len; omega, by simp⟩) yaa (by simp [eI, eFs]) (by simp)
  | cons x rest =>
    obtain ⟨hcl, hxP⟩ := pi.cl x (by simp)
    obtain ⟨c, hc, hc4⟩ := qbn hcl
    have hct : x.Client.toNat = c := by rw [hc]; rfl
    have hwe : s1.Waiters.map eW = (pre.map eW) ++ eW x :: rest.map eW := by rw [pi.wt]; simp
    rw [hwe] at v2
    have hem := erase_mid (pre := pre) (rest := rest) (x := x)
    have hgx := fun z => get_mid (pre := pre) (rest := rest) (x := x) (z := z)
    generalize hl : pre.map eW ++ eW x :: rest.map eW = l at v2 hem hgx
    have hlen : l.length = pre.length + 1 + rest.length := by rw [← hl]; simp; omega
    have hwl := pi.wl
    simp only [List.length_cons] at hwl
    have hol := pi.ol
    simp only [List.length_cons] at hol
    have hp9 : pre.length < 9223372036854775807 := by omega
    have hlt : pre.length < l.length := by omega
    cases v2 with
    | nil => simp at hl
    | @win kw lo _ z hxw hkw =>
      have hkwl := yac hkw
      have hne : kw ≠ k := by rintro rfl; rw [hk] at hkw; cases hkw
      by_cases hm : ya6 x.P r.T = true
      · have hgo : qa3 r pre (x :: rest) s1 out1 = if x.Take = true then ({ yba x s1 r with Waiters := pre ++ rest }, out1 ++ [yc0 x r]) else qa3 r pre rest (yba x s1 r) (out1 ++ [yc0 x r]) := by rw [qa3, if_pos hm]
        have hkw2 : (h1 ++ [⟨89, [eW x], .own⟩])[kw]? = some ⟨89, l ++ z, .own⟩ := (zad hkwl).trans hkw
        have hw3 : WS (zbf X h h1) k { s1 with Waiters := pre ++ rest } r out1 ((h1.set kw ⟨89, l.eraseIdx pre.length ++ (zaj prog 89 :: z), .own⟩).set k (wkE { s1 with Waiters := pre ++ rest } r vi (.win kw [] 89 0 (l.length - 1) (max l.length lo)) vo) ++ [⟨89, [eW x], .own⟩, ⟨0, [], .hole⟩, ⟨26, [eR (yc0 x r)], .own⟩]) :=
          ⟨fun j hj => by have := b j hj; simp; omega, o, vi, _, vo, by rw [zad (by simpa using hkl), zae (by simpa using hkl)], ((v1.set hkw wI _).set ((qad hne).trans hk) tI _).app _, View.win' _ hxw (by rw [zad (by simpa using hkwl), qad (Ne.symm hne), zae hkwl]) (by rw [hem]) (by simp; omega), ((v3.set hkw wR _).set ((qad hne).trans hk) tR _).app _⟩
        have hkp3 : Keeps (zbf X h h1) h1 ((h1.set kw ⟨89, l.eraseIdx pre.length ++ (zaj prog 89 :: z), .own⟩).set k (wkE { s1 with Waiters := pre ++ rest } r vi (.win kw [] 89 0 (l.length - 1) (max l.length lo)) vo) ++ [⟨89, [eW x], .own⟩, ⟨0, [], .hole⟩, ⟨26, [eR (yc0 x r)], .own⟩]) := Keeps.sets2 hxw o _ _ _
        have ht3 : ((h1.set kw ⟨89, l.eraseIdx pre.length ++ (zaj prog 89 :: z), .own⟩).set k (wkE { s1 with Waiters := pre ++ rest } r vi (.win kw [] 89 0 (l.length - 1) (max l.length lo)) vo) ++ [⟨89, [eW x], .own⟩, ⟨0, [], .hole⟩, ⟨26, [eR (yc0 x r)], .own⟩])[h1.length]? = some ⟨89, [eW x], .own⟩ := by
          have := yas ((h1.set kw ⟨89, l.eraseIdx pre.length ++ (zaj prog 89 :: z), .own⟩).set k (wkE { s1 with Waiters := pre ++ rest } r vi (.win kw [] 89 0 (l.length - 1) (max l.length lo)) vo)) [⟨89, [eW x], .own⟩, ⟨0, [], .hole⟩, ⟨26, [eR (yc0 x r)], .own⟩]
          simpa using this
        have hn3 : ¬ zbf X h h1 h1.length := fun hj => by have := b _ hj; omega
        have hcm : c < (s1.Last.map eR).length := by simp [pi.l4]; omega
        have hy : s1.Last[c]? = some (zam s1 c) := by
          have : c < s1.Last.length := by rw [pi.l4]; exact hc4
          simp [zam, List.getD_eq_getElem?_getD, List.getElem?_eq_getElem this]
        have hgy : (s1.Last.map eR)[c]? = some (eR (zam s1 c)) := by rw [List.getElem?_map, hy]; rfl
        have hr4 : (0 ≤ (c : Int) ∧ (c : Int) < ((4 : Nat) : Int)) = True := by simp; omega
        have hr5 : (0 ≤ (c : Int) ∧ (c : Int) < 4) = True := by simp; omega
        generalize hh3 : (h1.set kw ⟨89, l.eraseIdx pre.length ++ (zaj prog 89 :: z), .own⟩).set k (wkE { s1 with Waiters := pre ++ rest } r vi (.win kw [] 89 0 (l.length - 1) (max l.length lo)) vo) ++ [⟨89, [eW x], .own⟩, ⟨0, [], .hole⟩, ⟨26, [eR (yc0 x r)], .own⟩] = h3 at hw3 hkp3 ht3
        have hcall : ∃ h4, WS (zbf (zbf X h h1) h3 h4) k { yba x s1 r with Waiters := pre ++ rest } r (out1 ++ [yc0 x r]) h4 ∧ Keeps (zbf X h h1) h3 h4 ∧ ((zam s1 c).Seq = x.Seq → FSpec prog 159 [.ref k [0] 148, eR (yc0 x r)] h3 fun r' h'' => r' = .tup [] ∧ h'' = h4) ∧ ((zam s1 c).Seq ≠ x.Seq → FSpec prog 111 [.ref k [0] 148, eR (yc0 x r)] h3 fun r' h'' => r' = .tup [] ∧ h'' = h4) := by
          by_cases hq : (zam s1 c).Seq = x.Seq
          · obtain ⟨h4, q1, q2, q3⟩ := c_note (s := { s1 with Waiters := pre ++ rest }) (out := out1) (yc0 x r) c hc hc4 pi.l4 hT (by omega) hw3
            refine ⟨h4, ?_, q2, fun _ => q3, fun h => absurd hq h⟩
            simp only [yba, hct, if_pos hq]; exact q1
          · obtain ⟨h4, q1, q2, q3⟩ := c_say (s := { s1 with Waiters := pre ++ rest }) (out := out1) (yc0 x r) hT (by omega) hw3
            refine ⟨h4, ?_, q2, fun h => absurd h hq, fun _ => q3⟩
            simp only [yba, hct, if_neg hq]; exact q1
        obtain ⟨h4, q1, q2, q3, q4⟩ := hcall
        have ht4 := q2.get ht3 hn3
        have hX4 : WS (zbf X h h4) k { yba x s1 r with Waiters := pre ++ rest } r (out1 ++ [yc0 x r]) h4 := q1.grown2 b0 kp1.len hkp3.len q2.len
        have hK4 : Keeps X h h4 := kp1.trans (hkp3.also q2)
        subst hh3
        have hl4 : (yba x s1 r).Last.length = 4 := by unfold yba; split <;> simp [pi.l4]
        have hn4 : (yba x s1 r).Now = s1.Now := by unfold yba; split <;> rfl
        have hi4 : (yba x s1 r).Items = s1.Items := by unfold yba; split <;> rfl
        obtain ⟨xc, xs, xt, xp⟩ := x
        simp only at hc hm hcl hxP
        subst hc
        by_cases hq : (zam s1 c).Seq = xs
        · have hqb : ((zam s1 c).Seq == xs) = true := by simp [hq]
          have hk3 := q3 hq
          cases xt with
          | true =>
            repeat' (first
    | simp (implicitDefEqProofs := false) only [push_cast, reduceIte, reduceCtorEq, Nat.reduceAdd, Nat.reduceSub, Nat.reduceEqDiff, Nat.reduceLT, Nat.reduceLeDiff, Nat.reduceBEq, Nat.reduceMul, Int.reduceLT, Int.reduceLE, Int.reduceEq, Int.reduceToNat, Int.reduceMul, Int.reduceNeg, Go.Proofs.Try.f161, hk, hkw, wkE, hkl, hkwl, eW, eQ, eR, eL, eFs, yc0, ht4, hgy, hr4, hr5, ybg, hqb, hne, Ne.symm hne, yaj hlt, qaj hlt, hgx, hm, Int.toNat_natCast, List.length_map, qaf hp9, zad, yae, qad, zae, zab, qae, sst, qab, qaa, yaa, zac, qaq, List.replicate_succ, List.drop_zero, zaf hkl, yad hkl, qak hkl, yaf hkl, zaf hkwl, yad hkwl, qak hkwl, yaf hkwl]
    | refine Sp2.f ?_ ?_
    | refine Spl.f ?_ ?_ <;> intro hb
    | refine qac rfl (fun b hb => ?_)
    | refine zaa (U := [[], [], [], [], [], [], [], [], []]) (H := []) zag (by kernel_rfl) (by decide +kernel) (by kernel_rfl) ?_
    | refine zaa (U := [[], [], [], [], [], [], [], [], [], [], [1, 3, 8], []]) (H := [⟨0, [], .hole⟩]) zag (by kernel_rfl) (by decide +kernel) (by kernel_rfl) ?_
    | refine zaa (U := [[], [], [], [], [], [], [], [], [], [], [], []]) (H := []) zag (by kernel_rfl) (by decide +kernel) (by kernel_rfl) ?_
    | refine zaa (U := [[], [], [], [], [], [], [], [], [], [], [4], [], [4, 9, 10], []]) (H := [⟨0, [], .hole⟩]) zag (by kernel_rfl) (by decide +kernel) (by kernel_rfl) ?_
    | refine zaa (U := [[], [], [], [], [], [], [], [], [], [], [], [], []]) (H := []) zag (by kernel_rfl) (by decide +kernel) (by kernel_rfl) ?_
    | refine zaa (U := [[], [], [], [], [], [], [], [5], [], [], [], [], []]) (H := [⟨0, [], .hole⟩, ⟨0, [], .hole⟩]) zag (by kernel_rfl) (by decide +kernel) (by kernel_rfl) ?_
    | refine zbe (c_Match xp r.T hxP hT) ?_
    | refine qa1 (zbx hkw2 hlt (by omega)) ?_
    | refine qa1 hk3 ?_)
            rw [← pi.go, hgo, if_pos rfl]
            exact ⟨hX4, hK4⟩
          | false =>
            repeat' (first
    | simp (implicitDefEqProofs := false) only [push_cast, reduceIte, reduceCtorEq, Nat.reduceAdd, Nat.reduceSub, Nat.reduceEqDiff, Nat.reduceLT, Nat.reduceLeDiff, Nat.reduceBEq, Nat.reduceMul, Int.reduceLT, Int.reduceLE, Int.reduceEq, Int.reduceToNat, Int.reduceMul, Int.reduceNeg, Go.Proofs.Try.f161, hk, hkw, wkE, hkl, hkwl, eW, eQ, eR, eL, eFs, yc0, ht4, hgy, hr4, hr5, ybg, hqb, hne, Ne.symm hne, yaj hlt, qaj hlt, hgx, hm, Int.toNat_natCast, List.length_map, qaf hp9, zad, yae, qad, zae, zab, qae, sst, qab, qaa, yaa, zac, qaq, List.replicate_succ, List.drop_zero, zaf hkl, yad hkl, qak hkl, yaf hkl, zaf hkwl, yad hkwl, qak hkwl, yaf hkwl]
    | refine Sp2.f ?_ ?_
    | refine Spl.f ?_ ?_ <;> intro hb
    | refine qac rfl (fun b hb => ?_)
    | refine zaa (U := [[], [], [], [], [], [], [], [], []]) (H := []) zag (by kernel_rfl) (by decide +kernel) (by kernel_rfl) ?_
    | refine zaa (U := [[], [], [], [], [], [], [], [], [], [], [1, 3, 8], []]) (H := [⟨0, [], .hole⟩]) zag (by kernel_rfl) (by decide +kernel) (by kernel_rfl) ?_
    | refine zaa (U := [[], [], [], [], [], [], [], [], [], [], [], []]) (H := []) zag (by kernel_rfl) (by decide +kernel) (by kernel_rfl) ?_
    | refine zaa (U := [[], [], [], [], [], [], [], [], [], [], [4], [], [4, 9, 10], []]) (H := [⟨0, [], .hole⟩]) zag (by kernel_rfl) (by decide +kernel) (by kernel_rfl) ?_
    | refine zaa (U := [[], [], [], [], [], [], [], [], [], [], [], [], []]) (H := []) zag (by kernel_rfl) (by decide +kernel) (by kernel_rfl) ?_
    | refine zaa (U := [[], [], [], [], [], [], [], [5], [], [], [], [], []]) (H := [⟨0, [], .hole⟩, ⟨0, [], .hole⟩]) zag (by kernel_rfl) (by decide +kernel) (by kernel_rfl) ?_
    | refine zbe (c_Match xp r.T hxP hT) ?_
    | refine qa1 (zbx hkw2 hlt (by omega)) ?_
    | refine qa1 hk3 ?_)
            exact piv_mk pre rest { yba ⟨c, xs, false, xp⟩ s1 r with Waiters := pre ++ rest } (out1 ++ [yc0 ⟨c, xs, false, xp⟩ r]) ⟨by rw [zdl, ← pi.go, hgo, if_neg (by simp)], rfl, by rw [← pi.now, ← hn4], by rw [← pi.it, ← hi4], hl4, by simp; omega, by omega, fun y hy => pi.cl y (by simp [hy])⟩ hX4 hK4 (by simp at hj; omega) rfl
        · have hqb : ((zam s1 c).Seq == xs) = false := by simp [hq]
          have hk3 := q4 hq
          cases xt with
          | true =>
            repeat' (first
    | simp (implicitDefEqProofs := false) only [push_cast, reduceIte, reduceCtorEq, Nat.reduceAdd, Nat.reduceSub, Nat.reduceEqDiff, Nat.reduceLT, Nat.reduceLeDiff, Nat.reduceBEq, Nat.reduceMul, Int.reduceLT, Int.reduceLE, Int.reduceEq, Int.reduceToNat, Int.reduceMul, Int.reduceNeg, Go.Proofs.Try.f161, hk, hkw, wkE, hkl, hkwl, eW, eQ, eR, eL, eFs, yc0, ht4, hgy, hr4, hr5, ybg, hqb, hne, Ne.symm hne, yaj hlt, qaj hlt, hgx, hm, Int.toNat_natCast, List.length_map, qaf hp9, zad, yae, qad, zae, zab, qae, sst, qab, qaa, yaa, zac, qaq, List.replicate_succ, List.drop_zero, zaf hkl, yad hkl, qak hkl, yaf hkl, zaf hkwl, yad hkwl, qak hkwl, yaf hkwl]
    | refine Sp2.f ?_ ?_
    | refine Spl.f ?_ ?_ <;> intro hb
    | refine qac rfl (fun b hb => ?_)
    | refine zaa (U := [[], [], [], [], [], [], [], [], []]) (H := []) zag (by kernel_rfl) (by decide +kernel) (by kernel_rfl) ?_
    | refine zaa (U := [[], [], [], [], [], [], [], [], [], [], [1, 3, 8], []]) (H := [⟨0, [], .hole⟩]) zag (by kernel_rfl) (by decide +kernel) (by kernel_rfl) ?_
    | refine zaa (U := [[], [], [], [], [], [], [], [], [], [], [], []]) (H := []) zag (by kernel_rfl) (by decide +kernel) (by kernel_rfl) ?_
    | refine zaa (U := [[], [], [], [], [], [], [], [], [], [], [4], [], [4, 9, 10], []]) (H := [⟨0, [], .hole⟩]) zag (by kernel_rfl) (by decide +kernel) (by kernel_rfl) ?_
    | refine zaa (U := [[], [], [], [], [], [], [], [], [], [], [], [], []]) (H := []) zag (by kernel_rfl) (by decide +kernel) (by kernel_rfl) ?_
    | refine zaa (U := [[], [], [], [], [], [], [], [5], [], [], [], [], []]) (H := [⟨0, [], .hole⟩, ⟨0, [], .hole⟩]) zag (by kernel_rfl) (by decide +kernel) (by kernel_rfl) ?_
    | refine zbe (c_Match xp r.T hxP hT) ?_
    | refine qa1 (zbx hkw2 hlt (by omega)) ?_
    | refine qa1 hk3 ?_)
            rw [← pi.go, hgo, if_pos rfl]
            exact ⟨hX4, hK4⟩
          | false =>
            repeat' (first
    | simp (implicitDefEqProofs := false) only [push_cast, reduceIte, reduceCtorEq, Nat.reduceAdd, Nat.reduceSub, Nat.reduceEqDiff, Nat.reduceLT, Nat.reduceLeDiff, Nat.reduceBEq, Nat.reduceMul, Int.reduceLT, Int.reduceLE, Int.reduceEq, Int.reduceToNat, Int.reduceMul, Int.reduceNeg, Go.Proofs.Try.f161, hk, hkw, wkE, hkl, hkwl, eW, eQ, eR, eL, eFs, yc0, ht4, hgy, hr4, hr5, ybg, hqb, hne, Ne.symm hne, yaj hlt, qaj hlt, hgx, hm, Int.toNat_natCast, List.length_map, qaf hp9, zad, yae, qad, zae, zab, qae, sst, qab, qaa, yaa, zac, qaq, List.replicate_succ, List.drop_zero, zaf hkl, yad hkl, qak hkl, yaf hkl, zaf hkwl, yad hkwl, qak hkwl, yaf hkwl]
    | refine Sp2.f ?_ ?_
    | refine Spl.f ?_ ?_ <;> intro hb
    | refine qac rfl (fun b hb => ?_)
    | refine zaa (U := [[], [], [], [], [], [], [], [], []]) (H := []) zag (by kernel_rfl) (by decide +kernel) (by kernel_rfl) ?_
    | refine zaa (U := [[], [], [], [], [], [], [], [], [], [], [1, 3, 8], []]) (H := [⟨0, [], .hole⟩]) zag (by kernel_rfl) (by decide +kernel) (by kernel_rfl) ?_
    | refine zaa (U := [[], [], [], [], [], [], [], [], [], [], [], []]) (H := []) zag (by kernel_rfl) (by decide +kernel) (by kernel_rfl) ?_
    | refine zaa (U := [[], [], [], [], [], [], [], [], [], [], [4], [], [4, 9, 10], []]) (H := [⟨0, [], .hole⟩]) zag (by kernel_rfl) (by decide +kernel) (by kernel_rfl) ?_
    | refine zaa (U := [[], [], [], [], [], [], [], [], [], [], [], [], []]) (H := []) zag (by kernel_rfl) (by decide +kernel) (by kernel_rfl) ?_
    | refine zaa (U := [[], [], [], [], [], [], [], [5], [], [], [], [], []]) (H := [⟨0, [], .hole⟩, ⟨0, [], .hole⟩]) zag (by kernel_rfl) (by decide +kernel) (by kernel_rfl) ?_
    | refine zbe (c_Match xp r.T hxP hT) ?_
    | refine qa1 (zbx hkw2 hlt (by omega)) ?_
    | refine qa1 hk3 ?_)
            exact piv_mk pre rest { yba ⟨c, xs, false, xp⟩ s1 r with Waiters := pre ++ rest } (out1 ++ [yc0 ⟨c, xs, false, xp⟩ r]) ⟨by rw [zdl, ← pi.go, hgo, if_neg (by simp)], rfl, by rw [← pi.now, ← hn4], by rw [← pi.it, ← hi4], hl4, by simp; omega, by omega, fun y hy => pi.cl y (by simp [hy])⟩ hX4 hK4 (by simp at hj; omega) rfl
      · have hgo : qa3 r pre (x :: rest) s1 out1 = qa3 r (pre ++ [x]) rest s1 out1 := by rw [qa3, if_neg hm]
        have hm : ya6 x.P r.T = false := by simpa using hm
        repeat' (first
    | simp (implicitDefEqProofs := false) only [push_cast, reduceIte, reduceCtorEq, Nat.reduceAdd, Nat.reduceSub, Nat.reduceEqDiff, Nat.reduceLT, Nat.reduceLeDiff, Nat.reduceBEq, Nat.reduceMul, Int.reduceLT, Int.reduceLE, Int.reduceEq, Int.reduceToNat, Int.reduceMul, Int.reduceNeg, Go.Proofs.Try.f161, hk, hkw, wkE, hkl, hkwl, eW, eQ, eFs, yaj hlt, qaj hlt, hgx, hm, Int.toNat_natCast, List.length_map, qaf hp9, zad, yae, qad, zae, zab, qae, sst, qab, qaa, yaa, zac, qaq, List.replicate_succ, List.drop_zero, zaf hkl, yad hkl, qak hkl, yaf hkl, zaf hkwl, yad hkwl, qak hkwl, yaf hkwl]
    | refine Sp2.f ?_ ?_
    | refine Spl.f ?_ ?_ <;> intro hb
    | refine qac rfl (fun b hb => ?_)
    | refine zaa (U := [[], [], [], [], [], [], [], [], []]) (H := []) zag (by kernel_rfl) (by decide +kernel) (by kernel_rfl) ?_
    | refine zaa (U := [[], [], [], [], [], [], [], [], [], [], [1, 3, 8], []]) (H := [⟨0, [], .hole⟩]) zag (by kernel_rfl) (by decide +kernel) (by kernel_rfl) ?_
    | refine zaa (U := [[], [], [], [], [], [], [], [], [], [], [], []]) (H := []) zag (by kernel_rfl) (by decide +kernel) (by kernel_rfl) ?_
    | refine zaa (U := [[], [], [], [], [], [], [], [], [], [], [4], [], [4, 9, 10], []]) (H := [⟨0, [], .hole⟩]) zag (by kernel_rfl) (by decide +kernel) (by kernel_rfl) ?_
    | refine zaa (U := [[], [], [], [], [], [], [], [], [], [], [], [], []]) (H := []) zag (by kernel_rfl) (by decide +kernel) (by kernel_rfl) ?_
    | refine zaa (U := [[], [], [], [], [], [], [], [5], [], [], [], [], []]) (H := [⟨0, [], .hole⟩, ⟨0, [], .hole⟩]) zag (by kernel_rfl) (by decide +kernel) (by kernel_rfl) ?_
    | refine zbe (c_Match x.P r.T hxP hT) ?_)
        refine piv_mk (pre ++ [x]) rest s1 out1 ⟨by rw [← hgo]; exact pi.go, by rw [pi.wt]; simp, pi.now, pi.it, pi.l4, by omega, by simp; omega, fun y hy => pi.cl y (by simp [hy])⟩ ?_ ?_ (by simp at hj; omega) ?_
        · exact (w0.app _).grown b0 kp1.len (by simp)
        · exact kp1.trans (Keeps.app _ _ _)
        · simp only [List.length_append, List.length_cons, List.length_nil]; rfl
end Go.Abs
