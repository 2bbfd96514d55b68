/- Wk4: a part of the proofs about the tuple space and its bytes. -/
import Derived.Test.YtilfbkhbjkjicaaWk2
set_option linter.all false
set_option maxRecDepth 100000
set_option maxHeartbeats 0
namespace Go.Abs
open Go
open Go.Proofs.Try (prog)
def qds (x : Wtr) (r : Req) : Rpl := ⟨x.Client, x.Seq, 2, r.T, true⟩
def qb4 (s : Spc) (r : Req) : Itm := ⟨r.Client, if 0 < r.Lease then s.Now + r.Lease else 0, r.T⟩
def yau (s : Spc) (c : Nat) : Rpl := s.Last.getD c ⟨0, 0, 0, [], false⟩
def qbc (x : Wtr) (s : Spc) (r : Req) : Spc := if (yau s x.Client.toNat).Seq = x.Seq then { s with Last := s.Last.set x.Client.toNat (qds x r) } else s
def ya8 (r : Req) : List Wtr → List Wtr → Spc → List Rpl → Spc × List Rpl
  | pre, [], s, out => ({ s with Waiters := pre, Items := s.Items ++ [qb4 s r] }, out)
  | pre, x :: rest, s, out =>
    if zbu x.P r.T = true then
      if x.Take = true then ({ qbc x s r with Waiters := pre ++ rest }, out ++ [qds x r])
      else ya8 r pre rest (qbc x s r) (out ++ [qds x r])
    else ya8 r (pre ++ [x]) rest s out
theorem told1_wt (x : Wtr) (s : Spc) (r : Req) (w : List Wtr) : qbc x { s with Waiters := w } r = { qbc x s r with Waiters := w } := by
  unfold qbc yau
  split <;> rfl
theorem zdh (r : Req) : ∀ (rest pre : List Wtr) (s : Spc) (out : List Rpl) (w : List Wtr), ya8 r pre rest { s with Waiters := w } out = ya8 r pre rest s out
  | [], pre, s, out, w => rfl
  | x :: rest, pre, s, out, w => by
    simp only [ya8, told1_wt]
    split
    · split
      · rfl
      · exact zdh r rest pre _ _ w
    · exact zdh r rest (pre ++ [x]) s out w
structure PI (s0 : Spc) (r : Req) (out0 : List Rpl) (pre rest : List Wtr) (s : Spc) (out : List Rpl) : Prop where
  go : ya8 r pre rest s out = ya8 r [] s0.Waiters s0 out0
  wt : s.Waiters = pre ++ rest
  now : s.Now = s0.Now
  it : s.Items = s0.Items
  l4 : s.Last.length = 4
  ol : out.length + rest.length < 4294967296
  wl : pre.length + rest.length ≤ 4294967296
  cl : ∀ x ∈ rest, zay x.Client = true ∧ x.P.length ≤ 4294967296
theorem ych {c : Int} (h : zay c = true) : ∃ n : Nat, c = n ∧ n < 4 := by
  simp only [zay, Bool.and_eq_true, decide_eq_true_eq] at h
  exact ⟨c.toNat, by omega, by omega⟩
def PIv (X : Nat → Prop) (k : Nat) (s : Spc) (r : Req) (out : List Rpl) (h : List Entry) (E : Nat → (Nat → AV) → Env) (j : Nat) (env : Env) (h1 : List Entry) : Prop :=
  ∃ pre rest s1 out1, PI s r out pre rest s1 out1 ∧ WS (ybh X h h1) k s1 r out1 h1 ∧ Keeps X h h1 ∧ j + rest.length = s.Waiters.length ∧ env = E pre.length (lk env)
theorem piv_mk {X : Nat → Prop} {k : Nat} {s : Spc} {r : Req} {out : List Rpl} {h : List Entry} {E : Nat → (Nat → AV) → Env} {j : Nat} {env : Env} {h1 : List Entry} (pre rest : List Wtr) (s1 : Spc) (out1 : List Rpl) (h1' : PI s r out pre rest s1 out1) (h2 : WS (ybh X h h1) k s1 r out1 h1) (h3 : Keeps X h h1)
    (h4 : j + rest.length = s.Waiters.length) (h5 : env = E pre.length (lk env)) : PIv X k s r out h E j env h1 := ⟨pre, rest, s1, out1, h1', h2, h3, h4, h5⟩
theorem WS.grown {X : Nat → Prop} {h h1 h2 : List Entry} {k : Nat} {s : Spc} {r : Req} {out : List Rpl} (w : WS (ybh X h h1) k s r out h2) (b : ∀ j, X j → j < h.length) (hl : h.length ≤ h1.length) (hl2 : h1.length ≤ h2.length) : WS (ybh X h h2) k s r out h2 :=
  w.up (fun j hj => hj.elim .inl fun a => .inr ⟨a.1, by omega⟩) (ya9 b (by omega))
theorem WS.grown2 {X : Nat → Prop} {h h1 h2 h3 : List Entry} {k : Nat} {s : Spc} {r : Req} {out : List Rpl} (w : WS (ybh (ybh X h h1) h2 h3) k s r out h3) (b : ∀ j, X j → j < h.length) (hl : h.length ≤ h1.length) (hl2 : h1.length ≤ h2.length) (hl3 : h2.length ≤ h3.length) : WS (ybh X h h3) k s r out h3 :=
  w.up (fun j hj => hj.elim (fun hj => hj.elim .inl fun a => .inr ⟨a.1, by omega⟩) fun a => .inr ⟨by omega, a.2⟩) (ya9 b (by omega))
theorem Keeps.app (X : Nat → Prop) (h l : List Entry) : Keeps X h (h ++ l) := ⟨by simp, fun j hj _ => zad hj⟩
theorem erase_mid {pre rest : List Wtr} {x : Wtr} : (pre.map eW ++ eW x :: rest.map eW).eraseIdx pre.length = (pre ++ rest).map eW := by
  rw [List.eraseIdx_append_of_length_le (by simp)]; simp
theorem get_mid {pre rest : List Wtr} {x : Wtr} {z : List AV} : ((pre.map eW ++ eW x :: rest.map eW) ++ z)[pre.length]? = some (eW x) := by
  rw [List.getElem?_append_left (by simp), List.getElem?_append_right (by simp)]; simp
theorem c_put {X : Nat → Prop} {k : Nat} {s : Spc} {r : Req} {out : List Rpl} {h : List Entry} (hw : WS X k s r out h) (hi : PI s r out [] s.Waiters s out) (hT : r.T.length ≤ 4294967296) (hI : s.Items.length < 4294967296) (hN : 0 ≤ s.Now ∧ s.Now ≤ 1099511627776) (hL : r.Lease ≤ 1099511627776) :
    FSpec prog 161 [.ref k [0] 148] h fun r' h' => r' = .tup [] ∧ WS (ybh X h h') k (ya8 r [] s.Waiters s out).1 r (ya8 r [] s.Waiters s out).2 h' ∧ Keeps X h h' := by
  refine frun_161 rfl ?_
  repeat' (first
    | simp (implicitDefEqProofs := false) only [push_cast, reduceIte, reduceCtorEq, Nat.reduceAdd, Nat.reduceSub, Nat.reduceEqDiff, Nat.reduceLT, Nat.reduceLeDiff, Nat.reduceBEq, Nat.reduceMul, Int.reduceLT, Int.reduceLE, Int.reduceEq, Int.reduceToNat, Int.reduceMul, Int.reduceNeg, Go.Proofs.Try.f161]
    | refine Sp2.f ?_ ?_
    | refine Spl.f ?_ ?_ <;> intro hb
    | refine yac rfl (fun b hb => ?_)
    | refine zaa (U := [[], [], [], [], [], [], [], [], []]) (H := []) yae (by kernel_rfl) (by decide +kernel) (by kernel_rfl) ?_
    | refine zaa (U := [[], [], [], [], [], [], [], [], [], [], [1, 3, 8], []]) (H := [⟨0, [], .hole⟩]) yae (by kernel_rfl) (by decide +kernel) (by kernel_rfl) ?_
    | refine zaa (U := [[], [], [], [], [], [], [], [], [], [], [], []]) (H := []) yae (by kernel_rfl) (by decide +kernel) (by kernel_rfl) ?_
    | refine zaa (U := [[], [], [], [], [], [], [], [], [], [], [4], [], [4, 9, 10], []]) (H := [⟨0, [], .hole⟩]) yae (by kernel_rfl) (by decide +kernel) (by kernel_rfl) ?_
    | refine zaa (U := [[], [], [], [], [], [], [], [], [], [], [], [], []]) (H := []) yae (by kernel_rfl) (by decide +kernel) (by kernel_rfl) ?_
    | refine zaa (U := [[], [], [], [], [], [], [], [5], [], [], [], [], []]) (H := [⟨0, [], .hole⟩, ⟨0, [], .hole⟩]) yae (by kernel_rfl) (by decide +kernel) (by kernel_rfl) ?_)
  refine qa6 (PIv X k s r out h (fun n a => [(0, .ref k [0] 148), (2, .int .i64 n), (3, a 3), (4, a 4), (5, a 5), (13, a 13), (30, a 30), (67, a 67), (75, a 75), (93, a 93)])) s.Waiters.length (piv_mk [] s.Waiters s out hi (by rw [qcv]; exact hw) (.refl _ _) (by simp) rfl) ?_
  rintro j env h1 ⟨pre, rest, s1, out1, pi, w1, kp1, hj, henv⟩
  refine ⟨by omega, ?_⟩
  rw [henv]
  generalize lk env = a
  clear henv env
  have b0 := hw.bd
  have w0 := w1
  obtain ⟨b, o, vi, vw, vo, hk, v1, v2, v3⟩ := w1
  have hkl := qab hk
  have tI : 148 ≠ 87 := by decide
  have tW : 148 ≠ 89 := by decide
  have tR : 148 ≠ 26 := by decide
  have wI : 89 ≠ 87 := by decide
  have wR : 89 ≠ 26 := by decide
  cases rest with
  | nil =>
    have hgo := pi.go
    simp only [ya8] at hgo
    rw [← hgo]
    have hwe : s1.Waiters = pre := by rw [pi.wt, List.append_nil]
    have hpz : decide ((pre.length : Int) < 0) = false := by simp
    have hvw : vw = .nils ∨ ∃ kw lo, vw = .win kw [] 89 0 pre.length lo := by
      rw [hwe] at v2
      generalize hl : pre.map eW = l at v2
      have : l.length = pre.length := by rw [← hl]; simp
      cases v2 with
      | nil => exact .inl rfl
      | win => rw [this]; exact .inr ⟨_, _, rfl⟩
    have hlt : ¬ pre.length < pre.length := by omega
    have hIl : (s1.Items.map eI).length < 4294967296 := by rw [pi.it]; simpa using hI
    have hlr : ∀ y, (s1.Items ++ [y]).map eI = s1.Items.map eI ++ [eI y] := by simp
    rw [hwe] at v2
    generalize s1.Items.map eI = l at v1 hIl hlr
    have iW : 87 ≠ 89 := by decide
    have iR : 87 ≠ 26 := by decide
    cases v1 with
    | nil =>
      by_cases hL0 : 0 < r.Lease
      · have hle : decide (0 < r.Lease) = true := by simpa using hL0
        have hwr : IntKind.wrap .i64 (s1.Now + r.Lease) = s1.Now + r.Lease := by rw [pi.now]; exact IntWalk.i64_in _ (by omega)
        have hit : qb4 s1 r = ⟨r.Client, s1.Now + r.Lease, r.T⟩ := by simp only [qb4, if_pos hL0]
        rcases hvw with rfl | ⟨kw, lo2, rfl⟩
        all_goals
          repeat' (first
    | simp (implicitDefEqProofs := false) only [push_cast, reduceIte, reduceCtorEq, Nat.reduceAdd, Nat.reduceSub, Nat.reduceEqDiff, Nat.reduceLT, Nat.reduceLeDiff, Nat.reduceBEq, Nat.reduceMul, Int.reduceLT, Int.reduceLE, Int.reduceEq, Int.reduceToNat, Int.reduceMul, Int.reduceNeg, Go.Proofs.Try.f161, hk, wkE, hkl, hpz, hle, hwr, eW, eQ, eI, eFs, ya3 hlt, Int.toNat_natCast, List.length_map, zad, zae, qac, yad, yab, qad, sst, zac, qaa, yaa, zag, ybk, List.replicate_succ, List.drop_zero, yai hkl, qaf hkl, zax hkl, qai hkl]
    | refine Sp2.f ?_ ?_
    | refine Spl.f ?_ ?_ <;> intro hb
    | refine yac rfl (fun b hb => ?_)
    | refine zaa (U := [[], [], [], [], [], [], [], [], []]) (H := []) yae (by kernel_rfl) (by decide +kernel) (by kernel_rfl) ?_
    | refine zaa (U := [[], [], [], [], [], [], [], [], [], [], [1, 3, 8], []]) (H := [⟨0, [], .hole⟩]) yae (by kernel_rfl) (by decide +kernel) (by kernel_rfl) ?_
    | refine zaa (U := [[], [], [], [], [], [], [], [], [], [], [], []]) (H := []) yae (by kernel_rfl) (by decide +kernel) (by kernel_rfl) ?_
    | refine zaa (U := [[], [], [], [], [], [], [], [], [], [], [4], [], [4, 9, 10], []]) (H := [⟨0, [], .hole⟩]) yae (by kernel_rfl) (by decide +kernel) (by kernel_rfl) ?_
    | refine zaa (U := [[], [], [], [], [], [], [], [], [], [], [], [], []]) (H := []) yae (by kernel_rfl) (by decide +kernel) (by kernel_rfl) ?_
    | refine zaa (U := [[], [], [], [], [], [], [], [5], [], [], [], [], []]) (H := [⟨0, [], .hole⟩, ⟨0, [], .hole⟩]) yae (by kernel_rfl) (by decide +kernel) (by kernel_rfl) ?_
    | refine yao (yar r.T hT) ?_)
          refine ⟨⟨ya9 b0 (by simp; have := kp1.len; omega), .inl hw.own, _, _, vo, by rw [zad (by simpa using hkl), yad hkl]; rfl, ?_, ((v2.set hk tW _).app _).up (fun j hj => hj.elim .inl fun a => .inr ⟨a.1, by have := a.2; simp; omega⟩), ((v3.set hk tR _).app _).up (fun j hj => hj.elim .inl fun a => .inr ⟨a.1, by have := a.2; simp; omega⟩)⟩, kp1.trans (Keeps.sets o _ _)⟩
          show View _ _ _ _ ((s1.Items ++ [qb4 s1 r]).map eI)
          rw [hlr, hit]
          exact View.win' [] (.inr ⟨by have := kp1.len; omega, by simp⟩) zac (by simp [eI, eFs]) (by simp)
      · have hle : decide (0 < r.Lease) = false := by simpa using hL0
        have hit : qb4 s1 r = ⟨r.Client, 0, r.T⟩ := by simp only [qb4, if_neg hL0]
        rcases hvw with rfl | ⟨kw, lo2, rfl⟩
        all_goals
          repeat' (first
    | simp (implicitDefEqProofs := false) only [push_cast, reduceIte, reduceCtorEq, Nat.reduceAdd, Nat.reduceSub, Nat.reduceEqDiff, Nat.reduceLT, Nat.reduceLeDiff, Nat.reduceBEq, Nat.reduceMul, Int.reduceLT, Int.reduceLE, Int.reduceEq, Int.reduceToNat, Int.reduceMul, Int.reduceNeg, Go.Proofs.Try.f161, hk, wkE, hkl, hpz, hle, eW, eQ, eI, eFs, ya3 hlt, Int.toNat_natCast, List.length_map, zad, zae, qac, yad, yab, qad, sst, zac, qaa, yaa, zag, ybk, List.replicate_succ, List.drop_zero, yai hkl, qaf hkl, zax hkl, qai hkl]
    | refine Sp2.f ?_ ?_
    | refine Spl.f ?_ ?_ <;> intro hb
    | refine yac rfl (fun b hb => ?_)
    | refine zaa (U := [[], [], [], [], [], [], [], [], []]) (H := []) yae (by kernel_rfl) (by decide +kernel) (by kernel_rfl) ?_
    | refine zaa (U := [[], [], [], [], [], [], [], [], [], [], [1, 3, 8], []]) (H := [⟨0, [], .hole⟩]) yae (by kernel_rfl) (by decide +kernel) (by kernel_rfl) ?_
    | refine zaa (U := [[], [], [], [], [], [], [], [], [], [], [], []]) (H := []) yae (by kernel_rfl) (by decide +kernel) (by kernel_rfl) ?_
    | refine zaa (U := [[], [], [], [], [], [], [], [], [], [], [4], [], [4, 9, 10], []]) (H := [⟨0, [], .hole⟩]) yae (by kernel_rfl) (by decide +kernel) (by kernel_rfl) ?_
    | refine zaa (U := [[], [], [], [], [], [], [], [], [], [], [], [], []]) (H := []) yae (by kernel_rfl) (by decide +kernel) (by kernel_rfl) ?_
    | refine zaa (U := [[], [], [], [], [], [], [], [5], [], [], [], [], []]) (H := [⟨0, [], .hole⟩, ⟨0, [], .hole⟩]) yae (by kernel_rfl) (by decide +kernel) (by kernel_rfl) ?_
    | refine yao (yar r.T hT) ?_)
          refine ⟨⟨ya9 b0 (by simp; have := kp1.len; omega), .inl hw.own, _, _, vo, by rw [zad (by simpa using hkl), yad hkl]; rfl, ?_, ((v2.set hk tW _).app _).up (fun j hj => hj.elim .inl fun a => .inr ⟨a.1, by have := a.2; simp; omega⟩), ((v3.set hk tR _).app _).up (fun j hj => hj.elim .inl fun a => .inr ⟨a.1, by have := a.2; simp; omega⟩)⟩, kp1.trans (Keeps.sets o _ _)⟩
          show View _ _ _ _ ((s1.Items ++ [qb4 s1 r]).map eI)
          rw [hlr, hit]
          exact View.win' [] (.inr ⟨by have := kp1.len; omega, by simp⟩) zac (by simp [eI, eFs]) (by simp)
    | @win ki lo _ z hxi hki =>
      have hkil := qab hki
      have hne : ki ≠ k := by rintro rfl; rw [hk] at hki; cases hki
      have htk : (l ++ z).take l.length = l := by simp
      have hle2 : l.length ≤ (l ++ z).length := by simp
      have hdr : (l ++ z).drop (l.length + 1) = z.drop 1 := by rw [List.drop_append]; simp
      by_cases hfit : l.length + 1 ≤ lo
      · have hfit := eq_true hfit
        by_cases hL0 : 0 < r.Lease
        · have hle : decide (0 < r.Lease) = true := by simpa using hL0
          have hwr : IntKind.wrap .i64 (s1.Now + r.Lease) = s1.Now + r.Lease := by rw [pi.now]; exact IntWalk.i64_in _ (by omega)
          have hit : qb4 s1 r = ⟨r.Client, s1.Now + r.Lease, r.T⟩ := by simp only [qb4, if_pos hL0]
          rcases hvw with rfl | ⟨kw, lo2, rfl⟩
          all_goals
            repeat' (first
    | simp (implicitDefEqProofs := false) only [push_cast, reduceIte, reduceCtorEq, Nat.reduceAdd, Nat.reduceSub, Nat.reduceEqDiff, Nat.reduceLT, Nat.reduceLeDiff, Nat.reduceBEq, Nat.reduceMul, Int.reduceLT, Int.reduceLE, Int.reduceEq, Int.reduceToNat, Int.reduceMul, Int.reduceNeg, Go.Proofs.Try.f161, hk, wkE, hkl, hpz, hle, hwr, eW, eQ, eI, eFs, ya3 hlt, Int.toNat_natCast, List.length_map, zad, zae, qac, yad, yab, qad, sst, zac, qaa, yaa, zag, ybk, List.replicate_succ, List.drop_zero, yai hkl, qaf hkl, zax hkl, qai hkl, hki, hkil, hne, Ne.symm hne, ne_f hne, ne_f (Ne.symm hne), htk, hle2, hdr, hfit, yai hkil, qaf hkil, zax hkil, qai hkil]
    | refine Sp2.f ?_ ?_
    | refine Spl.f ?_ ?_ <;> intro hb
    | refine yac rfl (fun b hb => ?_)
    | refine zaa (U := [[], [], [], [], [], [], [], [], []]) (H := []) yae (by kernel_rfl) (by decide +kernel) (by kernel_rfl) ?_
    | refine zaa (U := [[], [], [], [], [], [], [], [], [], [], [1, 3, 8], []]) (H := [⟨0, [], .hole⟩]) yae (by kernel_rfl) (by decide +kernel) (by kernel_rfl) ?_
    | refine zaa (U := [[], [], [], [], [], [], [], [], [], [], [], []]) (H := []) yae (by kernel_rfl) (by decide +kernel) (by kernel_rfl) ?_
    | refine zaa (U := [[], [], [], [], [], [], [], [], [], [], [4], [], [4, 9, 10], []]) (H := [⟨0, [], .hole⟩]) yae (by kernel_rfl) (by decide +kernel) (by kernel_rfl) ?_
    | refine zaa (U := [[], [], [], [], [], [], [], [], [], [], [], [], []]) (H := []) yae (by kernel_rfl) (by decide +kernel) (by kernel_rfl) ?_
    | refine zaa (U := [[], [], [], [], [], [], [], [5], [], [], [], [], []]) (H := [⟨0, [], .hole⟩, ⟨0, [], .hole⟩]) yae (by kernel_rfl) (by decide +kernel) (by kernel_rfl) ?_
    | refine yao (yar r.T hT) ?_)
            all_goals first
              | omega
              | skip
            refine ⟨⟨ya9 b0 (by simp; have := kp1.len; omega), .inl hw.own, _, _, vo, by rw [zad (by simpa using hkl), yad (by simpa using hkl)]; rfl, ?_, (((v2.set hki iW _).set ((qac hne).trans hk) tW _).app _).up (fun j hj => hj.elim .inl fun a => .inr ⟨a.1, by have := a.2; simp; omega⟩), (((v3.set hki iR _).set ((qac hne).trans hk) tR _).app _).up (fun j hj => hj.elim .inl fun a => .inr ⟨a.1, by have := a.2; simp; omega⟩)⟩, kp1.trans (Keeps.sets2 hxi o _ _ _)⟩
            show View _ _ _ _ ((s1.Items ++ [qb4 s1 r]).map eI)
            rw [hlr, hit]
            exact View.win' (z.drop 1) (hxi.elim .inl fun a => .inr ⟨a.1, by have := a.2; simp; omega⟩) (by rw [zad (by simpa using hkil), qac (Ne.symm hne), yad hkil]) (by simp [eI, eFs]) (by simp)
        · have hle : decide (0 < r.Lease) = false := by simpa using hL0
          have hit : qb4 s1 r = ⟨r.Client, 0, r.T⟩ := by simp only [qb4, if_neg hL0]
          rcases hvw with rfl | ⟨kw, lo2, rfl⟩
          all_goals
            repeat' (first
    | simp (implicitDefEqProofs := false) only [push_cast, reduceIte, reduceCtorEq, Nat.reduceAdd, Nat.reduceSub, Nat.reduceEqDiff, Nat.reduceLT, Nat.reduceLeDiff, Nat.reduceBEq, Nat.reduceMul, Int.reduceLT, Int.reduceLE, Int.reduceEq, Int.reduceToNat, Int.reduceMul, Int.reduceNeg, Go.Proofs.Try.f161, hk, wkE, hkl, hpz, hle, eW, eQ, eI, eFs, ya3 hlt, Int.toNat_natCast, List.length_map, zad, zae, qac, yad, yab, qad, sst, zac, qaa, yaa, zag, ybk, List.replicate_succ, List.drop_zero, yai hkl, qaf hkl, zax hkl, qai hkl, hki, hkil, hne, Ne.symm hne, ne_f hne, ne_f (Ne.symm hne), htk, hle2, hdr, hfit, yai hkil, qaf hkil, zax hkil, qai hkil]
    | refine Sp2.f ?_ ?_
    | refine Spl.f ?_ ?_ <;> intro hb
    | refine yac rfl (fun b hb => ?_)
    | refine zaa (U := [[], [], [], [], [], [], [], [], []]) (H := []) yae (by kernel_rfl) (by decide +kernel) (by kernel_rfl) ?_
    | refine zaa (U := [[], [], [], [], [], [], [], [], [], [], [1, 3, 8], []]) (H := [⟨0, [], .hole⟩]) yae (by kernel_rfl) (by decide +kernel) (by kernel_rfl) ?_
    | refine zaa (U := [[], [], [], [], [], [], [], [], [], [], [], []]) (H := []) yae (by kernel_rfl) (by decide +kernel) (by kernel_rfl) ?_
    | refine zaa (U := [[], [], [], [], [], [], [], [], [], [], [4], [], [4, 9, 10], []]) (H := [⟨0, [], .hole⟩]) yae (by kernel_rfl) (by decide +kernel) (by kernel_rfl) ?_
    | refine zaa (U := [[], [], [], [], [], [], [], [], [], [], [], [], []]) (H := []) yae (by kernel_rfl) (by decide +kernel) (by kernel_rfl) ?_
    | refine zaa (U := [[], [], [], [], [], [], [], [5], [], [], [], [], []]) (H := [⟨0, [], .hole⟩, ⟨0, [], .hole⟩]) yae (by kernel_rfl) (by decide +kernel) (by kernel_rfl) ?_
    | refine yao (yar r.T hT) ?_)
            all_goals first
              | omega
              | skip
            refine ⟨⟨ya9 b0 (by simp; have := kp1.len; omega), .inl hw.own, _, _, vo, by rw [zad (by simpa using hkl), yad (by simpa using hkl)]; rfl, ?_, (((v2.set hki iW _).set ((qac hne).trans hk) tW _).app _).up (fun j hj => hj.elim .inl fun a => .inr ⟨a.1, by have := a.2; simp; omega⟩), (((v3.set hki iR _).set ((qac hne).trans hk) tR _).app _).up (fun j hj => hj.elim .inl fun a => .inr ⟨a.1, by have := a.2; simp; omega⟩)⟩, kp1.trans (Keeps.sets2 hxi o _ _ _)⟩
            show View _ _ _ _ ((s1.Items ++ [qb4 s1 r]).map eI)
            rw [hlr, hit]
            exact View.win' (z.drop 1) (hxi.elim .inl fun a => .inr ⟨a.1, by have := a.2; simp; omega⟩) (by rw [zad (by simpa using hkil), qac (Ne.symm hne), yad hkil]) (by simp [eI, eFs]) (by simp)
      · have hfit := eq_false hfit
        by_cases hL0 : 0 < r.Lease
        · have hle : decide (0 < r.Lease) = true := by simpa using hL0
          have hwr : IntKind.wrap .i64 (s1.Now + r.Lease) = s1.Now + r.Lease := by rw [pi.now]; exact IntWalk.i64_in _ (by omega)
          have hit : qb4 s1 r = ⟨r.Client, s1.Now + r.Lease, r.T⟩ := by simp only [qb4, if_pos hL0]
          rcases hvw with rfl | ⟨kw, lo2, rfl⟩
          all_goals
            repeat' (first
    | simp (implicitDefEqProofs := false) only [push_cast, reduceIte, reduceCtorEq, Nat.reduceAdd, Nat.reduceSub, Nat.reduceEqDiff, Nat.reduceLT, Nat.reduceLeDiff, Nat.reduceBEq, Nat.reduceMul, Int.reduceLT, Int.reduceLE, Int.reduceEq, Int.reduceToNat, Int.reduceMul, Int.reduceNeg, Go.Proofs.Try.f161, hk, wkE, hkl, hpz, hle, hwr, eW, eQ, eI, eFs, ya3 hlt, Int.toNat_natCast, List.length_map, zad, zae, qac, yad, yab, qad, sst, zac, qaa, yaa, zag, ybk, List.replicate_succ, List.drop_zero, yai hkl, qaf hkl, zax hkl, qai hkl, hki, hkil, hne, Ne.symm hne, ne_f hne, ne_f (Ne.symm hne), htk, hle2, hdr, hfit, yai hkil, qaf hkil, zax hkil, qai hkil]
    | refine Sp2.f ?_ ?_
    | refine Spl.f ?_ ?_ <;> intro hb
    | refine yac rfl (fun b hb => ?_)
    | refine zaa (U := [[], [], [], [], [], [], [], [], []]) (H := []) yae (by kernel_rfl) (by decide +kernel) (by kernel_rfl) ?_
    | refine zaa (U := [[], [], [], [], [], [], [], [], [], [], [1, 3, 8], []]) (H := [⟨0, [], .hole⟩]) yae (by kernel_rfl) (by decide +kernel) (by kernel_rfl) ?_
    | refine zaa (U := [[], [], [], [], [], [], [], [], [], [], [], []]) (H := []) yae (by kernel_rfl) (by decide +kernel) (by kernel_rfl) ?_
    | refine zaa (U := [[], [], [], [], [], [], [], [], [], [], [4], [], [4, 9, 10], []]) (H := [⟨0, [], .hole⟩]) yae (by kernel_rfl) (by decide +kernel) (by kernel_rfl) ?_
    | refine zaa (U := [[], [], [], [], [], [], [], [], [], [], [], [], []]) (H := []) yae (by kernel_rfl) (by decide +kernel) (by kernel_rfl) ?_
    | refine zaa (U := [[], [], [], [], [], [], [], [5], [], [], [], [], []]) (H := [⟨0, [], .hole⟩, ⟨0, [], .hole⟩]) yae (by kernel_rfl) (by decide +kernel) (by kernel_rfl) ?_
    | refine yao (yar r.T hT) ?_)
            all_goals first
              | omega
              | skip
            refine ⟨⟨ya9 b0 (by simp; have := kp1.len; omega), .inl hw.own, _, _, vo, by rw [zad (by simpa using hkl), yad (by simpa using hkl)]; rfl, ?_, (((v2.set hki iW _).set ((qac hne).trans hk) tW _).app _).up (fun j hj => hj.elim .inl fun a => .inr ⟨a.1, by have := a.2; simp; omega⟩), (((v3.set hki iR _).set ((qac hne).trans hk) tR _).app _).up (fun j hj => hj.elim .inl fun a => .inr ⟨a.1, by have := a.2; simp; omega⟩)⟩, kp1.trans (Keeps.sets2 hxi o _ _ _)⟩
            show View _ _ _ _ ((s1.Items ++ [qb4 s1 r]).map eI)
            rw [hlr, hit]
            exact View.win' [] (.inr ⟨by have := kp1.len; omega, by simp⟩) yaa (by simp [eI, eFs]) (by simp)
        · have hle : decide (0 < r.Lease) = false := by simpa using hL0
          have hit : qb4 s1 r = ⟨r.Client, 0, r.T⟩ := by simp only [qb4, if_neg hL0]
          rcases hvw with rfl | ⟨kw, lo2, rfl⟩
          all_goals
            repeat' (first
    | simp (implicitDefEqProofs := false) only [push_cast, reduceIte, reduceCtorEq, Nat.reduceAdd, Nat.reduceSub, Nat.reduceEqDiff, Nat.reduceLT, Nat.reduceLeDiff, Nat.reduceBEq, Nat.reduceMul, Int.reduceLT, Int.reduceLE, Int.reduceEq, Int.reduceToNat, Int.reduceMul, Int.reduceNeg, Go.Proofs.Try.f161, hk, wkE, hkl, hpz, hle, eW, eQ, eI, eFs, ya3 hlt, Int.toNat_natCast, List.length_map, zad, zae, qac, yad, yab, qad, sst, zac, qaa, yaa, zag, ybk, List.replicate_succ, List.drop_zero, yai hkl, qaf hkl, zax hkl, qai hkl, hki, hkil, hne, Ne.symm hne, ne_f hne, ne_f (Ne.symm hne), htk, hle2, hdr, hfit, yai hkil, qaf hkil, zax hkil, qai hkil]
    | refine Sp2.f ?_ ?_
    | refine Spl.f ?_ ?_ <;> intro hb
    | refine yac rfl (fun b hb => ?_)
    | refine zaa (U := [[], [], [], [], [], [], [], [], []]) (H := []) yae (by kernel_rfl) (by decide +kernel) (by kernel_rfl) ?_
    | refine zaa (U := [[], [], [], [], [], [], [], [], [], [], [1, 3, 8], []]) (H := [⟨0, [], .hole⟩]) yae (by kernel_rfl) (by decide +kernel) (by kernel_rfl) ?_
    | refine zaa (U := [[], [], [], [], [], [], [], [], [], [], [], []]) (H := []) yae (by kernel_rfl) (by decide +kernel) (by kernel_rfl) ?_
    | refine zaa (U := [[], [], [], [], [], [], [], [], [], [], [4], [], [4, 9, 10], []]) (H := [⟨0, [], .hole⟩]) yae (by kernel_rfl) (by decide +kernel) (by kernel_rfl) ?_
    | refine zaa (U := [[], [], [], [], [], [], [], [], [], [], [], [], []]) (H := []) yae (by kernel_rfl) (by decide +kernel) (by kernel_rfl) ?_
    | refine zaa (U := [[], [], [], [], [], [], [], [5], [], [], [], [], []]) (H := [⟨0, [], .hole⟩, ⟨0, [], .hole⟩]) yae (by kernel_rfl) (by decide +kernel) (by kernel_rfl) ?_
    | refine yao (yar r.T hT) ?_)
            all_goals first
              | omega
              | skip
            refine ⟨⟨ya9 b0 (by simp; have := kp1.len; omega), .inl hw.own, _, _, vo, by rw [zad (by simpa using hkl), yad (by simpa using hkl)]; rfl, ?_, (((v2.set hki iW _).set ((qac hne).trans hk) tW _).app _).up (fun j hj => hj.elim .inl fun a => .inr ⟨a.1, by have := a.2; simp; omega⟩), (((v3.set hki iR _).set ((qac hne).trans hk) tR _).app _).up (fun j hj => hj.elim .inl fun a => .inr ⟨a.1, by have := a.2; simp; omega⟩)⟩, kp1.trans (Keeps.sets2 hxi o _ _ _)⟩
            show View _ _ _ _ ((s1.Items ++ [qb4 s1 r]).map eI)
            rw [hlr, hit]
            exact View.win' [] (.inr ⟨by have := kp1.len; omega, by simp⟩) yaa (by simp [eI, eFs]) (by simp)
  | cons x rest =>
    obtain ⟨hcl, hxP⟩ := pi.cl x (by simp)
    obtain ⟨c, hc, hc4⟩ := ych hcl
    have hct : x.Client.toNat = c := by rw [hc]; rfl
    have hwe : s1.Waiters.map eW = (pre.map eW) ++ eW x :: rest.map eW := by rw [pi.wt]; simp
    rw [hwe] at v2
    have hem := erase_mid (pre := pre) (rest := rest) (x := x)
    have hgx := fun z => get_mid (pre := pre) (rest := rest) (x := x) (z := z)
    generalize hl : pre.map eW ++ eW x :: rest.map eW = l at v2 hem hgx
    have hlen : l.length = pre.length + 1 + rest.length := by rw [← hl]; simp; omega
    have hwl := pi.wl
    simp only [List.length_cons] at hwl
    have hol := pi.ol
    simp only [List.length_cons] at hol
    have hp9 : pre.length < 9223372036854775807 := by omega
    have hlt : pre.length < l.length := by omega
    cases v2 with
    | nil => simp at hl
    | @win kw lo _ z hxw hkw =>
      have hkwl := qab hkw
      have hne : kw ≠ k := by rintro rfl; rw [hk] at hkw; cases hkw
      by_cases hm : zbu x.P r.T = true
      · have hgo : ya8 r pre (x :: rest) s1 out1 = if x.Take = true then ({ qbc x s1 r with Waiters := pre ++ rest }, out1 ++ [qds x r]) else ya8 r pre rest (qbc x s1 r) (out1 ++ [qds x r]) := by rw [ya8, if_pos hm]
        have hkw2 : (h1 ++ [⟨89, [eW x], .own⟩])[kw]? = some ⟨89, l ++ z, .own⟩ := (zad hkwl).trans hkw
        have hw3 : WS (ybh X h h1) k { s1 with Waiters := pre ++ rest } r out1 ((h1.set kw ⟨89, l.eraseIdx pre.length ++ (zai prog 89 :: z), .own⟩).set k (wkE { s1 with Waiters := pre ++ rest } r vi (.win kw [] 89 0 (l.length - 1) (max l.length lo)) vo) ++ [⟨89, [eW x], .own⟩, ⟨0, [], .hole⟩, ⟨26, [eR (qds x r)], .own⟩]) :=
          ⟨fun j hj => by have := b j hj; simp; omega, o, vi, _, vo, by rw [zad (by simpa using hkl), yad (by simpa using hkl)], ((v1.set hkw wI _).set ((qac hne).trans hk) tI _).app _, View.win' _ hxw (by rw [zad (by simpa using hkwl), qac (Ne.symm hne), yad hkwl]) (by rw [hem]) (by simp; omega), ((v3.set hkw wR _).set ((qac hne).trans hk) tR _).app _⟩
        have hkp3 : Keeps (ybh X h h1) h1 ((h1.set kw ⟨89, l.eraseIdx pre.length ++ (zai prog 89 :: z), .own⟩).set k (wkE { s1 with Waiters := pre ++ rest } r vi (.win kw [] 89 0 (l.length - 1) (max l.length lo)) vo) ++ [⟨89, [eW x], .own⟩, ⟨0, [], .hole⟩, ⟨26, [eR (qds x r)], .own⟩]) := Keeps.sets2 hxw o _ _ _
        have ht3 : ((h1.set kw ⟨89, l.eraseIdx pre.length ++ (zai prog 89 :: z), .own⟩).set k (wkE { s1 with Waiters := pre ++ rest } r vi (.win kw [] 89 0 (l.length - 1) (max l.length lo)) vo) ++ [⟨89, [eW x], .own⟩, ⟨0, [], .hole⟩, ⟨26, [eR (qds x r)], .own⟩])[h1.length]? = some ⟨89, [eW x], .own⟩ := by
          have := zao ((h1.set kw ⟨89, l.eraseIdx pre.length ++ (zai prog 89 :: z), .own⟩).set k (wkE { s1 with Waiters := pre ++ rest } r vi (.win kw [] 89 0 (l.length - 1) (max l.length lo)) vo)) [⟨89, [eW x], .own⟩, ⟨0, [], .hole⟩, ⟨26, [eR (qds x r)], .own⟩]
          simpa using this
        have hn3 : ¬ ybh X h h1 h1.length := fun hj => by have := b _ hj; omega
        have hcm : c < (s1.Last.map eR).length := by simp [pi.l4]; omega
        have hy : s1.Last[c]? = some (yau s1 c) := by
          have : c < s1.Last.length := by rw [pi.l4]; exact hc4
          simp [yau, List.getD_eq_getElem?_getD, List.getElem?_eq_getElem this]
        have hgy : (s1.Last.map eR)[c]? = some (eR (yau s1 c)) := by rw [List.getElem?_map, hy]; rfl
        have hr4 : (0 ≤ (c : Int) ∧ (c : Int) < ((4 : Nat) : Int)) = True := by simp; omega
        have hr5 : (0 ≤ (c : Int) ∧ (c : Int) < 4) = True := by simp; omega
        generalize hh3 : (h1.set kw ⟨89, l.eraseIdx pre.length ++ (zai prog 89 :: z), .own⟩).set k (wkE { s1 with Waiters := pre ++ rest } r vi (.win kw [] 89 0 (l.length - 1) (max l.length lo)) vo) ++ [⟨89, [eW x], .own⟩, ⟨0, [], .hole⟩, ⟨26, [eR (qds x r)], .own⟩] = h3 at hw3 hkp3 ht3
        have hcall : ∃ h4, WS (ybh (ybh X h h1) h3 h4) k { qbc x s1 r with Waiters := pre ++ rest } r (out1 ++ [qds x r]) h4 ∧ Keeps (ybh X h h1) h3 h4 ∧ ((yau s1 c).Seq = x.Seq → FSpec prog 159 [.ref k [0] 148, eR (qds x r)] h3 fun r' h'' => r' = .tup [] ∧ h'' = h4) ∧ ((yau s1 c).Seq ≠ x.Seq → FSpec prog 111 [.ref k [0] 148, eR (qds x r)] h3 fun r' h'' => r' = .tup [] ∧ h'' = h4) := by
          by_cases hq : (yau s1 c).Seq = x.Seq
          · obtain ⟨h4, q1, q2, q3⟩ := c_note (s := { s1 with Waiters := pre ++ rest }) (out := out1) (qds x r) c hc hc4 pi.l4 hT (by omega) hw3
            refine ⟨h4, ?_, q2, fun _ => q3, fun h => absurd hq h⟩
            simp only [qbc, hct, if_pos hq]; exact q1
          · obtain ⟨h4, q1, q2, q3⟩ := c_say (s := { s1 with Waiters := pre ++ rest }) (out := out1) (qds x r) hT (by omega) hw3
            refine ⟨h4, ?_, q2, fun h => absurd h hq, fun _ => q3⟩
            simp only [qbc, hct, if_neg hq]; exact q1
        obtain ⟨h4, q1, q2, q3, q4⟩ := hcall
        have ht4 := q2.get ht3 hn3
        have hX4 : WS (ybh X h h4) k { qbc x s1 r with Waiters := pre ++ rest } r (out1 ++ [qds x r]) h4 := q1.grown2 b0 kp1.len hkp3.len q2.len
        have hK4 : Keeps X h h4 := kp1.trans (hkp3.also q2)
        subst hh3
        have hl4 : (qbc x s1 r).Last.length = 4 := by unfold qbc; split <;> simp [pi.l4]
        have hn4 : (qbc x s1 r).Now = s1.Now := by unfold qbc; split <;> rfl
        have hi4 : (qbc x s1 r).Items = s1.Items := by unfold qbc; split <;> rfl
        obtain ⟨xc, xs, xt, xp⟩ := x
        simp only at hc hm hcl hxP
        subst hc
        by_cases hq : (yau s1 c).Seq = xs
        · have hqb : ((yau s1 c).Seq == xs) = true := by simp [hq]
          have hk3 := q3 hq
          cases xt with
          | true =>
            repeat' (first
    | simp (implicitDefEqProofs := false) only [push_cast, reduceIte, reduceCtorEq, Nat.reduceAdd, Nat.reduceSub, Nat.reduceEqDiff, Nat.reduceLT, Nat.reduceLeDiff, Nat.reduceBEq, Nat.reduceMul, Int.reduceLT, Int.reduceLE, Int.reduceEq, Int.reduceToNat, Int.reduceMul, Int.reduceNeg, Go.Proofs.Try.f161, hk, hkw, wkE, hkl, hkwl, eW, eQ, eR, eL, eFs, qds, ht4, hgy, hr4, hr5, ydm, hqb, hne, Ne.symm hne, yaz hlt, yas hlt, hgx, hm, Int.toNat_natCast, List.length_map, yag hp9, zad, zae, qac, yad, yab, qad, sst, zac, qaa, yaa, zag, ybk, List.replicate_succ, List.drop_zero, yai hkl, qaf hkl, zax hkl, qai hkl, yai hkwl, qaf hkwl, zax hkwl, qai hkwl]
    | refine Sp2.f ?_ ?_
    | refine Spl.f ?_ ?_ <;> intro hb
    | refine yac rfl (fun b hb => ?_)
    | refine zaa (U := [[], [], [], [], [], [], [], [], []]) (H := []) yae (by kernel_rfl) (by decide +kernel) (by kernel_rfl) ?_
    | refine zaa (U := [[], [], [], [], [], [], [], [], [], [], [1, 3, 8], []]) (H := [⟨0, [], .hole⟩]) yae (by kernel_rfl) (by decide +kernel) (by kernel_rfl) ?_
    | refine zaa (U := [[], [], [], [], [], [], [], [], [], [], [], []]) (H := []) yae (by kernel_rfl) (by decide +kernel) (by kernel_rfl) ?_
    | refine zaa (U := [[], [], [], [], [], [], [], [], [], [], [4], [], [4, 9, 10], []]) (H := [⟨0, [], .hole⟩]) yae (by kernel_rfl) (by decide +kernel) (by kernel_rfl) ?_
    | refine zaa (U := [[], [], [], [], [], [], [], [], [], [], [], [], []]) (H := []) yae (by kernel_rfl) (by decide +kernel) (by kernel_rfl) ?_
    | refine zaa (U := [[], [], [], [], [], [], [], [5], [], [], [], [], []]) (H := [⟨0, [], .hole⟩, ⟨0, [], .hole⟩]) yae (by kernel_rfl) (by decide +kernel) (by kernel_rfl) ?_
    | refine yao (zdv xp r.T hxP hT) ?_
    | refine qar (zbt hkw2 hlt (by omega)) ?_
    | refine qar hk3 ?_)
            rw [← pi.go, hgo, if_pos rfl]
            exact ⟨hX4, hK4⟩
          | false =>
            repeat' (first
    | simp (implicitDefEqProofs := false) only [push_cast, reduceIte, reduceCtorEq, Nat.reduceAdd, Nat.reduceSub, Nat.reduceEqDiff, Nat.reduceLT, Nat.reduceLeDiff, Nat.reduceBEq, Nat.reduceMul, Int.reduceLT, Int.reduceLE, Int.reduceEq, Int.reduceToNat, Int.reduceMul, Int.reduceNeg, Go.Proofs.Try.f161, hk, hkw, wkE, hkl, hkwl, eW, eQ, eR, eL, eFs, qds, ht4, hgy, hr4, hr5, ydm, hqb, hne, Ne.symm hne, yaz hlt, yas hlt, hgx, hm, Int.toNat_natCast, List.length_map, yag hp9, zad, zae, qac, yad, yab, qad, sst, zac, qaa, yaa, zag, ybk, List.replicate_succ, List.drop_zero, yai hkl, qaf hkl, zax hkl, qai hkl, yai hkwl, qaf hkwl, zax hkwl, qai hkwl]
    | refine Sp2.f ?_ ?_
    | refine Spl.f ?_ ?_ <;> intro hb
    | refine yac rfl (fun b hb => ?_)
    | refine zaa (U := [[], [], [], [], [], [], [], [], []]) (H := []) yae (by kernel_rfl) (by decide +kernel) (by kernel_rfl) ?_
    | refine zaa (U := [[], [], [], [], [], [], [], [], [], [], [1, 3, 8], []]) (H := [⟨0, [], .hole⟩]) yae (by kernel_rfl) (by decide +kernel) (by kernel_rfl) ?_
    | refine zaa (U := [[], [], [], [], [], [], [], [], [], [], [], []]) (H := []) yae (by kernel_rfl) (by decide +kernel) (by kernel_rfl) ?_
    | refine zaa (U := [[], [], [], [], [], [], [], [], [], [], [4], [], [4, 9, 10], []]) (H := [⟨0, [], .hole⟩]) yae (by kernel_rfl) (by decide +kernel) (by kernel_rfl) ?_
    | refine zaa (U := [[], [], [], [], [], [], [], [], [], [], [], [], []]) (H := []) yae (by kernel_rfl) (by decide +kernel) (by kernel_rfl) ?_
    | refine zaa (U := [[], [], [], [], [], [], [], [5], [], [], [], [], []]) (H := [⟨0, [], .hole⟩, ⟨0, [], .hole⟩]) yae (by kernel_rfl) (by decide +kernel) (by kernel_rfl) ?_
    | refine yao (zdv xp r.T hxP hT) ?_
    | refine qar (zbt hkw2 hlt (by omega)) ?_
    | refine qar hk3 ?_)
            exact piv_mk pre rest { qbc ⟨c, xs, false, xp⟩ s1 r with Waiters := pre ++ rest } (out1 ++ [qds ⟨c, xs, false, xp⟩ r]) ⟨by rw [zdh, ← pi.go, hgo, if_neg (by simp)], rfl, by rw [← pi.now, ← hn4], by rw [← pi.it, ← hi4], hl4, by simp; omega, by omega, fun y hy => pi.cl y (by simp [hy])⟩ hX4 hK4 (by simp at hj; omega) rfl
        · have hqb : ((yau s1 c).Seq == xs) = false := by simp [hq]
          have hk3 := q4 hq
          cases xt with
          | true =>
            repeat' (first
    | simp (implicitDefEqProofs := false) only [push_cast, reduceIte, reduceCtorEq, Nat.reduceAdd, Nat.reduceSub, Nat.reduceEqDiff, Nat.reduceLT, Nat.reduceLeDiff, Nat.reduceBEq, Nat.reduceMul, Int.reduceLT, Int.reduceLE, Int.reduceEq, Int.reduceToNat, Int.reduceMul, Int.reduceNeg, Go.Proofs.Try.f161, hk, hkw, wkE, hkl, hkwl, eW, eQ, eR, eL, eFs, qds, ht4, hgy, hr4, hr5, ydm, hqb, hne, Ne.symm hne, yaz hlt, yas hlt, hgx, hm, Int.toNat_natCast, List.length_map, yag hp9, zad, zae, qac, yad, yab, qad, sst, zac, qaa, yaa, zag, ybk, List.replicate_succ, List.drop_zero, yai hkl, qaf hkl, zax hkl, qai hkl, yai hkwl, qaf hkwl, zax hkwl, qai hkwl]
    | refine Sp2.f ?_ ?_
    | refine Spl.f ?_ ?_ <;> intro hb
    | refine yac rfl (fun b hb => ?_)
    | refine zaa (U := [[], [], [], [], [], [], [], [], []]) (H := []) yae (by kernel_rfl) (by decide +kernel) (by kernel_rfl) ?_
    | refine zaa (U := [[], [], [], [], [], [], [], [], [], [], [1, 3, 8], []]) (H := [⟨0, [], .hole⟩]) yae (by kernel_rfl) (by decide +kernel) (by kernel_rfl) ?_
    | refine zaa (U := [[], [], [], [], [], [], [], [], [], [], [], []]) (H := []) yae (by kernel_rfl) (by decide +kernel) (by kernel_rfl) ?_
    | refine zaa (U := [[], [], [], [], [], [], [], [], [], [], [4], [], [4, 9, 10], []]) (H := [⟨0, [], .hole⟩]) yae (by kernel_rfl) (by decide +kernel) (by kernel_rfl) ?_
    | refine zaa (U := [[], [], [], [], [], [], [], [], [], [], [], [], []]) (H := []) yae (by kernel_rfl) (by decide +kernel) (by kernel_rfl) ?_
    | refine zaa (U := [[], [], [], [], [], [], [], [5], [], [], [], [], []]) (H := [⟨0, [], .hole⟩, ⟨0, [], .hole⟩]) yae (by kernel_rfl) (by decide +kernel) (by kernel_rfl) ?_
    | refine yao (zdv xp r.T hxP hT) ?_
    | refine qar (zbt hkw2 hlt (by omega)) ?_
    | refine qar hk3 ?_)
            rw [← pi.go, hgo, if_pos rfl]
            exact ⟨hX4, hK4⟩
          | false =>
            repeat' (first
    | simp (implicitDefEqProofs := false) only [push_cast, reduceIte, reduceCtorEq, Nat.reduceAdd, Nat.reduceSub, Nat.reduceEqDiff, Nat.reduceLT, Nat.reduceLeDiff, Nat.reduceBEq, Nat.reduceMul, Int.reduceLT, Int.reduceLE, Int.reduceEq, Int.reduceToNat, Int.reduceMul, Int.reduceNeg, Go.Proofs.Try.f161, hk, hkw, wkE, hkl, hkwl, eW, eQ, eR, eL, eFs, qds, ht4, hgy, hr4, hr5, ydm, hqb, hne, Ne.symm hne, yaz hlt, yas hlt, hgx, hm, Int.toNat_natCast, List.length_map, yag hp9, zad, zae, qac, yad, yab, qad, sst, zac, qaa, yaa, zag, ybk, List.replicate_succ, List.drop_zero, yai hkl, qaf hkl, zax hkl, qai hkl, yai hkwl, qaf hkwl, zax hkwl, qai hkwl]
    | refine Sp2.f ?_ ?_
    | refine Spl.f ?_ ?_ <;> intro hb
    | refine yac rfl (fun b hb => ?_)
    | refine zaa (U := [[], [], [], [], [], [], [], [], []]) (H := []) yae (by kernel_rfl) (by decide +kernel) (by kernel_rfl) ?_
    | refine zaa (U := [[], [], [], [], [], [], [], [], [], [], [1, 3, 8], []]) (H := [⟨0, [], .hole⟩]) yae (by kernel_rfl) (by decide +kernel) (by kernel_rfl) ?_
    | refine zaa (U := [[], [], [], [], [], [], [], [], [], [], [], []]) (H := []) yae (by kernel_rfl) (by decide +kernel) (by kernel_rfl) ?_
    | refine zaa (U := [[], [], [], [], [], [], [], [], [], [], [4], [], [4, 9, 10], []]) (H := [⟨0, [], .hole⟩]) yae (by kernel_rfl) (by decide +kernel) (by kernel_rfl) ?_
    | refine zaa (U := [[], [], [], [], [], [], [], [], [], [], [], [], []]) (H := []) yae (by kernel_rfl) (by decide +kernel) (by kernel_rfl) ?_
    | refine zaa (U := [[], [], [], [], [], [], [], [5], [], [], [], [], []]) (H := [⟨0, [], .hole⟩, ⟨0, [], .hole⟩]) yae (by kernel_rfl) (by decide +kernel) (by kernel_rfl) ?_
    | refine yao (zdv xp r.T hxP hT) ?_
    | refine qar (zbt hkw2 hlt (by omega)) ?_
    | refine qar hk3 ?_)
            exact piv_mk pre rest { qbc ⟨c, xs, false, xp⟩ s1 r with Waiters := pre ++ rest } (out1 ++ [qds ⟨c, xs, false, xp⟩ r]) ⟨by rw [zdh, ← pi.go, hgo, if_neg (by simp)], rfl, by rw [← pi.now, ← hn4], by rw [← pi.it, ← hi4], hl4, by simp; omega, by omega, fun y hy => pi.cl y (by simp [hy])⟩ hX4 hK4 (by simp at hj; omega) rfl
      · have hgo : ya8 r pre (x :: rest) s1 out1 = ya8 r (pre ++ [x]) rest s1 out1 := by rw [ya8, if_neg hm]
        have hm : zbu x.P r.T = false := by simpa using hm
        repeat' (first
    | simp (implicitDefEqProofs := false) only [push_cast, reduceIte, reduceCtorEq, Nat.reduceAdd, Nat.reduceSub, Nat.reduceEqDiff, Nat.reduceLT, Nat.reduceLeDiff, Nat.reduceBEq, Nat.reduceMul, Int.reduceLT, Int.reduceLE, Int.reduceEq, Int.reduceToNat, Int.reduceMul, Int.reduceNeg, Go.Proofs.Try.f161, hk, hkw, wkE, hkl, hkwl, eW, eQ, eFs, yaz hlt, yas hlt, hgx, hm, Int.toNat_natCast, List.length_map, yag hp9, zad, zae, qac, yad, yab, qad, sst, zac, qaa, yaa, zag, ybk, List.replicate_succ, List.drop_zero, yai hkl, qaf hkl, zax hkl, qai hkl, yai hkwl, qaf hkwl, zax hkwl, qai hkwl]
    | refine Sp2.f ?_ ?_
    | refine Spl.f ?_ ?_ <;> intro hb
    | refine yac rfl (fun b hb => ?_)
    | refine zaa (U := [[], [], [], [], [], [], [], [], []]) (H := []) yae (by kernel_rfl) (by decide +kernel) (by kernel_rfl) ?_
    | refine zaa (U := [[], [], [], [], [], [], [], [], [], [], [1, 3, 8], []]) (H := [⟨0, [], .hole⟩]) yae (by kernel_rfl) (by decide +kernel) (by kernel_rfl) ?_
    | refine zaa (U := [[], [], [], [], [], [], [], [], [], [], [], []]) (H := []) yae (by kernel_rfl) (by decide +kernel) (by kernel_rfl) ?_
    | refine zaa (U := [[], [], [], [], [], [], [], [], [], [], [4], [], [4, 9, 10], []]) (H := [⟨0, [], .hole⟩]) yae (by kernel_rfl) (by decide +kernel) (by kernel_rfl) ?_
    | refine zaa (U := [[], [], [], [], [], [], [], [], [], [], [], [], []]) (H := []) yae (by kernel_rfl) (by decide +kernel) (by kernel_rfl) ?_
    | refine zaa (U := [[], [], [], [], [], [], [], [5], [], [], [], [], []]) (H := [⟨0, [], .hole⟩, ⟨0, [], .hole⟩]) yae (by kernel_rfl) (by decide +kernel) (by kernel_rfl) ?_
    | refine yao (zdv x.P r.T hxP hT) ?_)
        refine piv_mk (pre ++ [x]) rest s1 out1 ⟨by rw [← hgo]; exact pi.go, by rw [pi.wt]; simp, pi.now, pi.it, pi.l4, by omega, by simp; omega, fun y hy => pi.cl y (by simp [hy])⟩ ?_ ?_ (by simp at hj; omega) ?_
        · exact (w0.app _).grown b0 kp1.len (by simp)
        · exact kp1.trans (Keeps.app _ _ _)
        · simp only [List.length_append, List.length_cons, List.length_nil]; rfl
end Go.Abs
set_option linter.all false
set_option maxRecDepth 100000
set_option maxHeartbeats 0
namespace Go.Abs
open Go
open Go.Proofs.Try (prog)
theorem view_wkbw {X : Nat → Prop} {h : List Entry} {T U : TypeId} {v : AV} {l : List AV} (hv : View X h T v l) (hd : qcy l = true) (hU : zab prog U = .slice T) (n m : Nat) : bw h (n + 1) (wk prog (m + 1) U v) = .list T l := by
  cases hv with
  | nil => rw [qbe, hU, qan]; rfl
  | win hx hk =>
    rw [wk_win]
    rcases View.bw (View.win (lo := _) hx hk) hd n with h | ⟨h1, h2⟩
    · exact h
    · rw [bw_winE, hk, ycz] at h2 ⊢
      have : qam (l ++ ‹_›) [] 0 l.length = some l := by simp [qam]
      rw [this, qcm, ycm l n hd]
theorem bw_work {h : List Entry} {k : Nat} {s : Spc} {r : Req} {vi vw vo : AV} (hk : h[k]? = some (wkE s r vi vw vo)) : bw h 8 (.ref k [0] 148) =
    .eref 148 (.agg 148 [.agg 29 [.int .i64 s.Now, bw h 5 vi, bw h 5 vw, .int .i64 s.Read, .int .i64 s.Write, eL s.Last], eQ r, bw h 6 vo]) := by
  rw [bw_refE, hk, wkE, qcz]
  simp only [getE, List.getElem?_cons_zero, zb1, zca, bw_aggE, List.map_cons, List.map_nil, ycy _ _ (eL_dat _), ycy _ _ (eQ_dat _)]
  rfl
theorem bw_below {X : Nat → Prop} {h : List Entry} {T : TypeId} {v : AV} {l : List AV} (hv : View X h T v l) (hd : qcy l = true) (n : Nat) : zal 0 (bw h (n + 1) v) = true := by
  rcases hv.bw hd n with e | ⟨_, e⟩ <;> rw [e]
  · simp only [zal]; exact qat _ hd
  · rfl
theorem c_fullO {X : Nat → Prop} {k : Nat} {s : Spc} {r : Req} {out : List Rpl} {h : List Entry} (g : Int) (hI : s.Items.length ≤ 4294967296) (hw : WS X k s r out h) :
    FSpec prog 160 [.ref k [0] 148, .int .i64 g] h fun r' h'' => r' = .bool (zdt s r g) ∧ h'' = h := by
  obtain ⟨b, o, vi, vw, vo, hk, h1, h2, h3⟩ := hw
  have hvi : bw h 5 vi = eIs s.Items ∨ (s.Items = [] ∧ bw h 5 vi = .nils) := by
    rcases h1.bw (qal eI qco _) 4 with e | ⟨e, e'⟩
    · exact .inl e
    · exact .inr ⟨by simpa using e, e'⟩
  refine (FSpec.borrow wfp (args := [.ref k [0] 148, .int .i64 g]) (R := fun r' => r' = .bool (zdt s r g)) ?_ ?_ (by rintro r' rfl; rfl)).mono fun r' h' ⟨e1, e2⟩ => ⟨e2, e1⟩
  · simp only [List.map_cons, List.map_nil, bw_work hk]
    exact c_full s r g hI hvi
  · simp only [List.map_cons, List.map_nil, bw_work hk, List.all_cons, List.all_nil, Bool.and_true, zal, yam, bw_below h1 (qal eI qco _) 4, bw_below h2 (qal eW eW_dat _) 4, bw_below h3 (qal eR eR_dat _) 5, qak _ (eL_dat _), qak _ (eQ_dat _), Bool.and_self]
    rfl
theorem c_FindO {X : Nat → Prop} {k : Nat} {s : Spc} {r : Req} {out : List Rpl} {h : List Entry} {vi vw vo : AV} (hI : smallI s.Items) (hP : r.P.length ≤ 4294967296) (h1 : View X h 87 vi (s.Items.map eI)) (h2 : View X h 89 vw (s.Waiters.map eW)) :
    FSpec prog 146 [.agg 29 [.int .i64 s.Now, wk prog 5 22 vi, wk prog 5 23 vw, .int .i64 s.Read, .int .i64 s.Write, eL s.Last], eFs r.P] h fun r' h'' => r' = .int .i64 (qbl s r.P) ∧ h'' = h := by
  have e : [.agg 29 [.int .i64 s.Now, wk prog 5 22 vi, wk prog 5 23 vw, .int .i64 s.Read, .int .i64 s.Write, eL s.Last], eFs r.P].map (bw h 8) = [eS s, eFs r.P] := by
    simp only [List.map_cons, List.map_nil, bw_aggE, view_wkbw h1 (qal eI qco _) sh_22 6 4, view_wkbw h2 (qal eW eW_dat _) sh_23 6 4, ycy _ _ (eL_dat _), ycy _ _ (zc3 _), eS, eIs, eWs]
    rfl
  refine (FSpec.borrow wfp (R := fun r' => r' = .int .i64 (qbl s r.P)) ?_ ?_ (by rintro r' rfl; rfl)).mono fun r' h' ⟨e1, e2⟩ => ⟨e2, e1⟩
  · rw [e]; exact c_Find s r.P hI hP
  · rw [e]; simp only [List.all_cons, List.all_nil, Bool.and_true, qak (n := 0) _ (zc8 s), qak (n := 0) _ (zc3 r.P), Bool.and_self]
def rep (r : Req) (kd : Int) (t : List Fld) : Rpl := ⟨r.Client, r.Seq, kd, t, false⟩
def zbe (s : Spc) (r : Req) (kd : Int) (t : List Fld) : Spc := { s with Last := s.Last.set r.Client.toNat (rep r kd t) }
structure Rdy (s : Spc) (r : Req) (out : List Rpl) : Prop where
  l4 : s.Last.length = 4
  wl : s.Waiters.length ≤ 1000
  il : s.Items.length ≤ 1000
  ol : out.length ≤ 1000
  cl : ∀ x ∈ s.Waiters, zay x.Client = true ∧ x.P.length ≤ 4294967296
  it : ∀ x ∈ s.Items, x.T.length ≤ 4294967296
  now : 0 ≤ s.Now ∧ s.Now ≤ 1099511627776
  rc : zay r.Client = true
  rT : r.T.length ≤ 4294967296
  rP : r.P.length ≤ 4294967296
  ls : r.Lease ≤ 1099511627776
theorem Rdy.small {s : Spc} {r : Req} {out : List Rpl} (h : Rdy s r out) : smallI s.Items := ⟨by have := h.il; omega, h.it⟩
theorem Rdy.pi {s : Spc} {r : Req} {out : List Rpl} (h : Rdy s r out) : PI s r out [] s.Waiters s out := ⟨rfl, rfl, rfl, rfl, h.l4, by have := h.ol; have := h.wl; omega, by have := h.wl; simp; omega, h.cl⟩
theorem Rdy.tell {s : Spc} {r : Req} {out : List Rpl} (h : Rdy s r out) (kd : Int) (t : List Fld) (o : List Rpl) (ho : o.length ≤ 1000) : Rdy (zbe s r kd t) r o :=
  ⟨by simp [zbe, h.l4], h.wl, h.il, ho, h.cl, h.it, h.now, h.rc, h.rT, h.rP, h.ls⟩
theorem Rdy.take {s : Spc} {r : Req} {out : List Rpl} (h : Rdy s r out) (i : Nat) : Rdy { s with Items := s.Items.eraseIdx i } r out :=
  ⟨h.l4, h.wl, by have := h.il; have := List.length_eraseIdx_le s.Items i; show (s.Items.eraseIdx i).length ≤ 1000; omega, h.ol, h.cl, fun x hx => h.it x (List.mem_of_mem_eraseIdx hx), h.now, h.rc, h.rT, h.rP, h.ls⟩
def Mtn (f : FuncId) (args : List AV) (X : Nat → Prop) (k : Nat) (r : Req) (h : List Entry) (s' : Spc) (out' : List Rpl) : Prop :=
  FSpec prog f (.ref k [0] 148 :: args) h fun r' h' => r' = .tup [] ∧ WS (ybh X h h') k s' r out' h' ∧ Keeps X h h'
theorem Mth.n {f : FuncId} {args : List AV} {X : Nat → Prop} {k : Nat} {r : Req} {h : List Entry} {s' : Spc} {out' : List Rpl} (m : Mth f args X k r h s' out') : Mtn f args X k r h s' out' := by
  obtain ⟨h', w1, w2, w3⟩ := m
  exact w3.mono fun r' h'' ⟨e1, e2⟩ => by subst e2; exact ⟨e1, w1, w2⟩
theorem qb1 {X : Nat → Prop} {k : Nat} {s : Spc} {r : Req} {out : List Rpl} {h : List Entry} (kd : Int) (t : List Fld) (ht : t.length ≤ 4294967296) (hr : Rdy s r out) (hw : WS X k s r out h) :
    Mth 143 [.int .i64 kd, eFs t] X k r h (zbe s r kd t) (out ++ [rep r kd t]) := by
  obtain ⟨c, hc, hc4⟩ := ych hr.rc
  have := c_tell kd t c hc hc4 hr.l4 ht (by have := hr.ol; omega) hw
  have e : r.Client.toNat = c := by rw [hc]; rfl
  rw [zbe, e]
  exact this
theorem ycv {f : FuncId} {args : List AV} {X : Nat → Prop} {k : Nat} {r : Req} {h : List Entry} {s' : Spc} {out' : List Rpl} {raw : List AV} {d : Option Tmp} {st : List Ctl} {env : Env} {Q : zap} (m : Mtn f args X k r h s' out')
    (hk : ∀ h', WS (ybh X h h') k s' r out' h' → Keeps X h h' → Rn prog st .normal (zbd env d (.tup [])) h' Q) : Rk prog f (.ref k [0] 148 :: args) raw d st env h Q :=
  yav m fun r' h' ⟨e, w1, w2⟩ => by rw [e]; exact hk h' w1 w2
theorem WS.seq {X : Nat → Prop} {h h1 h2 : List Entry} {k : Nat} {s : Spc} {r : Req} {out : List Rpl} (w : WS (ybh (ybh X h h1) h1 h2) k s r out h2) (a : Keeps X h h1) (b : Keeps (ybh X h h1) h1 h2) : WS (ybh X h h2) k s r out h2 := by
  rw [grow_grow a.len b.len] at w; exact w
def zbz (s : Spc) (r : Req) (out : List Rpl) : Spc × List Rpl := if zdt s r (-1) = true then (zbe s r 5 [], out ++ [rep r 5 []]) else ya8 r [] s.Waiters (zbe s r 1 []) (out ++ [rep r 1 []])
theorem c_bring {X : Nat → Prop} {k : Nat} {s : Spc} {r : Req} {out : List Rpl} {h : List Entry} (ho : out.length < 1000) (hr : Rdy s r out) (hw : WS X k s r out h) :
    Mtn 144 [] X k r h (zbz s r out).1 (zbz s r out).2 := by
  have hf := c_fullO (-1) (by have := hr.il; omega) hw
  refine frun_144 rfl ?_
  by_cases hfu : zdt s r (-1) = true
  · have e : zbz s r out = (zbe s r 5 [], out ++ [rep r 5 []]) := by rw [zbz, if_pos hfu]
    rw [e]
    repeat' (first
    | simp (implicitDefEqProofs := false) only [push_cast, reduceIte, reduceCtorEq, Nat.reduceAdd, Nat.reduceSub, Nat.reduceEqDiff, Nat.reduceLT, Nat.reduceLeDiff, Nat.reduceBEq, Nat.reduceMul, Int.reduceLT, Int.reduceLE, Int.reduceEq, Int.reduceToNat, Int.reduceMul, Int.reduceNeg, Go.Proofs.Try.f144, hfu]
    | refine Sp2.f ?_ ?_
    | refine Spl.f ?_ ?_ <;> intro hb
    | refine yac rfl (fun b hb => ?_)
    | refine qar hf ?_
    | refine ycv (qb1 5 [] (by simp) hr hw).n fun h1 w1 p1 => ?_)
    exact ⟨w1, p1⟩
  · have e : zbz s r out = ya8 r [] s.Waiters (zbe s r 1 []) (out ++ [rep r 1 []]) := by rw [zbz, if_neg hfu]
    have hfu : zdt s r (-1) = false := by simpa using hfu
    rw [e]
    have hr1 := hr.tell 1 [] (out ++ [rep r 1 []]) (by simp; omega)
    repeat' (first
    | simp (implicitDefEqProofs := false) only [push_cast, reduceIte, reduceCtorEq, Nat.reduceAdd, Nat.reduceSub, Nat.reduceEqDiff, Nat.reduceLT, Nat.reduceLeDiff, Nat.reduceBEq, Nat.reduceMul, Int.reduceLT, Int.reduceLE, Int.reduceEq, Int.reduceToNat, Int.reduceMul, Int.reduceNeg, Go.Proofs.Try.f144, hfu]
    | refine Sp2.f ?_ ?_
    | refine Spl.f ?_ ?_ <;> intro hb
    | refine yac rfl (fun b hb => ?_)
    | refine qar hf ?_
    | refine ycv (qb1 1 [] (by simp) hr hw).n fun h1 w1 p1 => ?_
    | refine ycv (args := []) (c_put w1 hr1.pi hr1.rT (by have := hr1.il; omega) hr1.now hr1.ls) fun h2 w2 p2 => ?_)
    exact ⟨w2.seq p1 p2, p1.trans p2⟩
end Go.Abs
