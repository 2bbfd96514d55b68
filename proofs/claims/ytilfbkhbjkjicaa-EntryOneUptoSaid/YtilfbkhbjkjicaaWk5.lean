/- Wk5: a part of the proofs about the tuple space and its bytes. -/
import Derived.Test.YtilfbkhbjkjicaaWk4
set_option linter.all false
set_option maxRecDepth 100000
set_option maxHeartbeats 0
namespace Go.Abs
open Go
open Go.Proofs.Try (prog)
theorem qcq {α : Type} {p : α → Bool} {l : List α} (h : 0 ≤ fidx p l) : ∃ i x, fidx p l = (i : Nat) ∧ l[i]? = some x ∧ i < l.length ∧ p x = true := by
  unfold fidx at h ⊢
  cases hf : l.findIdx? p with
  | none => rw [hf] at h; simp at h
  | some j =>
    rw [List.findIdx?_eq_some_iff_getElem] at hf
    obtain ⟨hj, hp, _⟩ := hf
    exact ⟨j, l[j], rfl, List.getElem?_eq_getElem hj, hj, hp⟩
def qa8 (s : Spc) (r : Req) (out : List Rpl) (takes waits : Bool) : Spc × List Rpl :=
  if 0 ≤ za6 s r.P then
    (if takes = true then { ya1 s r 2 (s.Items.getD (za6 s r.P).toNat ⟨0, 0, []⟩).T with Items := s.Items.eraseIdx (za6 s r.P).toNat } else ya1 s r 2 (s.Items.getD (za6 s r.P).toNat ⟨0, 0, []⟩).T,
     out ++ [rep r 2 (s.Items.getD (za6 s r.P).toNat ⟨0, 0, []⟩).T])
  else if waits = false then (ya1 s r 3 [], out ++ [rep r 3 []])
  else if 16 ≤ s.Waiters.length then (ya1 s r 5 [], out ++ [rep r 5 []])
  else (ya1 { s with Waiters := s.Waiters ++ [⟨r.Client, r.Seq, takes, r.P⟩] } r 4 [], out ++ [rep r 4 []])
theorem getD_some {α : Type} {l : List α} {i : Nat} {x d : α} (h : l[i]? = some x) : l.getD i d = x := by rw [List.getD_eq_getElem?_getD, h]; rfl
theorem c_find {X : Nat → Prop} {k : Nat} {s : Spc} {r : Req} {out : List Rpl} {h : List Entry} (takes waits : Bool) (ho : out.length < 1000) (hw2 : s.Waiters.length < 1000) (hr : Rdy s r out) (hw : WS X k s r out h) :
    Mth 145 [.bool takes, .bool waits] X k r h (qa8 s r out takes waits).1 (qa8 s r out takes waits).2 := by
  have w0 := hw
  obtain ⟨b, o, vi, vw, vo, hk, h1, h2, h3⟩ := hw
  have hkl := yac hk
  have tI : 148 ≠ 87 := by decide
  have tW : 148 ≠ 89 := by decide
  have tR : 148 ≠ 26 := by decide
  have wI : 89 ≠ 87 := by decide
  have wR : 89 ≠ 26 := by decide
  have hfo := fun vo : AV => c_FindO (k := k) (out := out) (r := r) (vo := vo) hr.small hr.rP h1 h2
  have hfo := hfo .nils
  by_cases hat : 0 ≤ za6 s r.P
  · obtain ⟨i, x, hi, hx, hlt, _⟩ := qcq hat
    change za6 s r.P = i at hi
    have e : qa8 s r out takes waits = (if takes = true then { ya1 s r 2 x.T with Items := s.Items.eraseIdx i } else ya1 s r 2 x.T, out ++ [rep r 2 x.T]) := by
      rw [qa8, if_pos hat, hi, Int.toNat_natCast, getD_some hx]
    rw [e]
    rw [hi] at hfo
    have hge : decide ((0 : Int) ≤ (i : Int)) = true := by simp
    have hxT := hr.it x (List.mem_of_getElem? hx)
    obtain ⟨h1', w1, p1, sp1⟩ := zb6 2 x.T hxT hr w0
    have hgx : ∀ z, (s.Items.map eI ++ z)[i]? = some (eI x) := fun z => by rw [List.getElem?_append_left (by simpa using hlt), List.getElem?_map, hx]; rfl
    have hll : (s.Items.map eI).length = s.Items.length := by simp
    generalize s.Items.map eI = l at h1 hgx hll
    cases h1 with
    | nil => simp at hll; omega
    | @win ki lo _ z hxi hki =>
      have hlt' : i < l.length := by omega
      cases takes with
      | false =>
        refine ⟨h1', w1, p1, zcq rfl ?wk⟩
        case wk =>
          repeat' (first
    | simp (implicitDefEqProofs := false) only [push_cast, reduceIte, reduceCtorEq, Nat.reduceAdd, Nat.reduceSub, Nat.reduceEqDiff, Nat.reduceLT, Nat.reduceLeDiff, Nat.reduceBEq, Nat.reduceMul, Int.reduceLT, Int.reduceLE, Int.reduceEq, Int.reduceToNat, Int.reduceMul, Int.reduceNeg, Go.Proofs.Try.f145, hk, hki, wkE, hkl, hge, eQ, eI, eFs, yaq, hgx, qaj hlt', Int.toNat_natCast, zad, yae, qad, zae, zab, qae, sst, qab, qaa, yaa, zac, qaq, List.replicate_succ, List.drop_zero, zaf hkl, yad hkl, qak hkl, yaf hkl]
    | refine Sp2.f ?_ ?_
    | refine Spl.f ?_ ?_ <;> intro hb
    | refine qac rfl (fun b hb => ?_)
    | refine zaa (U := [[], [], [], [], [], [], [], [], [], [], []]) (H := []) zag (by kernel_rfl) (by decide +kernel) (by kernel_rfl) ?_
    | refine zaa (U := [[], [], [], [], [], [], [], [], [], [], [], [], [], [], [], [], [], [], [], [], [], [], [5, 10, 15], [], [5], [], [], [], [], []]) (H := [⟨0, [], .hole⟩, ⟨0, [], .hole⟩]) zag (by kernel_rfl) (by decide +kernel) (by kernel_rfl) ?_
    | refine yar hfo ?_
    | refine qa1 sp1 ?_)
      | true =>
        obtain ⟨h2', w2, p2, sp2⟩ := c_take (s := ya1 s r 2 x.T) i hlt (by have := hr.il; show s.Items.length ≤ _; omega) w1
        refine ⟨h2', w2.seq p1 p2, p1.trans p2, zcq rfl ?wk⟩
        case wk =>
          repeat' (first
    | simp (implicitDefEqProofs := false) only [push_cast, reduceIte, reduceCtorEq, Nat.reduceAdd, Nat.reduceSub, Nat.reduceEqDiff, Nat.reduceLT, Nat.reduceLeDiff, Nat.reduceBEq, Nat.reduceMul, Int.reduceLT, Int.reduceLE, Int.reduceEq, Int.reduceToNat, Int.reduceMul, Int.reduceNeg, Go.Proofs.Try.f145, hk, hki, wkE, hkl, hge, eQ, eI, eFs, yaq, hgx, qaj hlt', Int.toNat_natCast, zad, yae, qad, zae, zab, qae, sst, qab, qaa, yaa, zac, qaq, List.replicate_succ, List.drop_zero, zaf hkl, yad hkl, qak hkl, yaf hkl]
    | refine Sp2.f ?_ ?_
    | refine Spl.f ?_ ?_ <;> intro hb
    | refine qac rfl (fun b hb => ?_)
    | refine zaa (U := [[], [], [], [], [], [], [], [], [], [], []]) (H := []) zag (by kernel_rfl) (by decide +kernel) (by kernel_rfl) ?_
    | refine zaa (U := [[], [], [], [], [], [], [], [], [], [], [], [], [], [], [], [], [], [], [], [], [], [], [5, 10, 15], [], [5], [], [], [], [], []]) (H := [⟨0, [], .hole⟩, ⟨0, [], .hole⟩]) zag (by kernel_rfl) (by decide +kernel) (by kernel_rfl) ?_
    | refine yar hfo ?_
    | refine qa1 sp1 ?_
    | refine qa1 sp2 ?_)
  · have hge : decide ((0 : Int) ≤ za6 s r.P) = false := by simpa using hat
    by_cases hwt : waits = false
    · subst hwt
      have e : qa8 s r out takes false = (ya1 s r 3 [], out ++ [rep r 3 []]) := by rw [qa8, if_neg hat, if_pos rfl]
      rw [e]
      obtain ⟨h1', w1, p1, sp1⟩ := zb6 3 [] (by simp) hr w0
      refine ⟨h1', w1, p1, zcq rfl ?wk⟩
      case wk =>
        repeat' (first
    | simp (implicitDefEqProofs := false) only [push_cast, reduceIte, reduceCtorEq, Nat.reduceAdd, Nat.reduceSub, Nat.reduceEqDiff, Nat.reduceLT, Nat.reduceLeDiff, Nat.reduceBEq, Nat.reduceMul, Int.reduceLT, Int.reduceLE, Int.reduceEq, Int.reduceToNat, Int.reduceMul, Int.reduceNeg, Go.Proofs.Try.f145, hk, wkE, hkl, hge, eQ, eFs, yaq, zad, yae, qad, zae, zab, qae, sst, qab, qaa, yaa, zac, qaq, List.replicate_succ, List.drop_zero, zaf hkl, yad hkl, qak hkl, yaf hkl]
    | refine Sp2.f ?_ ?_
    | refine Spl.f ?_ ?_ <;> intro hb
    | refine qac rfl (fun b hb => ?_)
    | refine zaa (U := [[], [], [], [], [], [], [], [], [], [], []]) (H := []) zag (by kernel_rfl) (by decide +kernel) (by kernel_rfl) ?_
    | refine zaa (U := [[], [], [], [], [], [], [], [], [], [], [], [], [], [], [], [], [], [], [], [], [], [], [5, 10, 15], [], [5], [], [], [], [], []]) (H := [⟨0, [], .hole⟩, ⟨0, [], .hole⟩]) zag (by kernel_rfl) (by decide +kernel) (by kernel_rfl) ?_
    | refine yar hfo ?_
    | refine qa1 sp1 ?_)
    · have hwt : waits = true := by simpa using hwt
      subst hwt
      have hpz : decide ((16 : Int) ≤ 0) = false := rfl
      have hvw : (vw = .nils ∧ s.Waiters.length = 0) ∨ ∃ kw lo z, vw = .win kw [] 89 0 s.Waiters.length lo ∧ X kw ∧ h[kw]? = some ⟨89, s.Waiters.map eW ++ z, .own⟩ := by
        generalize hl : s.Waiters.map eW = l at h2
        have : l.length = s.Waiters.length := by rw [← hl]; simp
        cases h2 with
        | nil => exact .inl ⟨rfl, by simpa using this.symm⟩
        | win hx hkk => rw [this]; exact .inr ⟨_, _, _, rfl, hx, hkk⟩
      by_cases h16 : 16 ≤ s.Waiters.length
      · have e : qa8 s r out takes true = (ya1 s r 5 [], out ++ [rep r 5 []]) := by rw [qa8, if_neg hat, if_neg (by simp), if_pos h16]
        rw [e]
        obtain ⟨h1', w1, p1, sp1⟩ := zb6 5 [] (by simp) hr w0
        have hc16 : decide ((16 : Int) ≤ (s.Waiters.length : Int)) = true := by simp; omega
        refine ⟨h1', w1, p1, zcq rfl ?wk⟩
        case wk =>
          rcases hvw with ⟨rfl, hz⟩ | ⟨kw, lo, z, rfl, hxw, hkw⟩
          · omega
          · repeat' (first
    | simp (implicitDefEqProofs := false) only [push_cast, reduceIte, reduceCtorEq, Nat.reduceAdd, Nat.reduceSub, Nat.reduceEqDiff, Nat.reduceLT, Nat.reduceLeDiff, Nat.reduceBEq, Nat.reduceMul, Int.reduceLT, Int.reduceLE, Int.reduceEq, Int.reduceToNat, Int.reduceMul, Int.reduceNeg, Go.Proofs.Try.f145, hk, wkE, hkl, hge, hc16, eQ, eFs, yaq, zad, yae, qad, zae, zab, qae, sst, qab, qaa, yaa, zac, qaq, List.replicate_succ, List.drop_zero, zaf hkl, yad hkl, qak hkl, yaf hkl]
    | refine Sp2.f ?_ ?_
    | refine Spl.f ?_ ?_ <;> intro hb
    | refine qac rfl (fun b hb => ?_)
    | refine zaa (U := [[], [], [], [], [], [], [], [], [], [], []]) (H := []) zag (by kernel_rfl) (by decide +kernel) (by kernel_rfl) ?_
    | refine zaa (U := [[], [], [], [], [], [], [], [], [], [], [], [], [], [], [], [], [], [], [], [], [], [], [5, 10, 15], [], [5], [], [], [], [], []]) (H := [⟨0, [], .hole⟩, ⟨0, [], .hole⟩]) zag (by kernel_rfl) (by decide +kernel) (by kernel_rfl) ?_
    | refine yar hfo ?_
    | refine qa1 sp1 ?_)
      · have e : qa8 s r out takes true = (ya1 { s with Waiters := s.Waiters ++ [⟨r.Client, r.Seq, takes, r.P⟩] } r 4 [], out ++ [rep r 4 []]) := by rw [qa8, if_neg hat, if_neg (by simp), if_neg h16]
        rw [e]
        have hc16 : decide ((16 : Int) ≤ (s.Waiters.length : Int)) = false := by simp; omega
        have hlr : ∀ y, (s.Waiters ++ [y]).map eW = s.Waiters.map eW ++ [eW y] := by simp
        have step : ∃ H, WS (zbf X h H) k { s with Waiters := s.Waiters ++ [⟨r.Client, r.Seq, takes, r.P⟩] } r out H ∧ Keeps X h H ∧ ∀ h', (FSpec prog 143 [.ref k [0] 148, .int .i64 4, eFs []] H fun r' h'' => r' = .tup [] ∧ h'' = h') → FSpec prog 145 [.ref k [0] 148, .bool takes, .bool true] h fun r' h'' => r' = .tup [] ∧ h'' = h' := by
          rcases hvw with ⟨rfl, hz⟩ | ⟨kw, lo, z, rfl, hxw, hkw⟩
          · have hz' : s.Waiters.map eW = [] := by rw [List.eq_nil_of_length_eq_zero hz]; rfl
            apply Exists.intro
            refine ⟨?ws, ?kp, fun h' w3 => zcq rfl ?wk⟩
            case wk =>
              repeat' (first
    | simp (implicitDefEqProofs := false) only [push_cast, reduceIte, reduceCtorEq, Nat.reduceAdd, Nat.reduceSub, Nat.reduceEqDiff, Nat.reduceLT, Nat.reduceLeDiff, Nat.reduceBEq, Nat.reduceMul, Int.reduceLT, Int.reduceLE, Int.reduceEq, Int.reduceToNat, Int.reduceMul, Int.reduceNeg, Go.Proofs.Try.f145, hk, wkE, hkl, hge, hpz, eQ, eW, eFs, yaq, zad, yae, qad, zae, zab, qae, sst, qab, qaa, yaa, zac, qaq, List.replicate_succ, List.drop_zero, zaf hkl, yad hkl, qak hkl, yaf hkl]
    | refine Sp2.f ?_ ?_
    | refine Spl.f ?_ ?_ <;> intro hb
    | refine qac rfl (fun b hb => ?_)
    | refine zaa (U := [[], [], [], [], [], [], [], [], [], [], []]) (H := []) zag (by kernel_rfl) (by decide +kernel) (by kernel_rfl) ?_
    | refine zaa (U := [[], [], [], [], [], [], [], [], [], [], [], [], [], [], [], [], [], [], [], [], [], [], [5, 10, 15], [], [5], [], [], [], [], []]) (H := [⟨0, [], .hole⟩, ⟨0, [], .hole⟩]) zag (by kernel_rfl) (by decide +kernel) (by kernel_rfl) ?_
    | refine yar hfo ?_
    | refine zbe (zav r.P hr.rP) ?_
    | refine qa1 w3 ?_)
              all_goals first
                | omega
                | rfl
            case kp => exact Keeps.sets o _ _
            case ws =>
              refine ⟨ya2 b (by simp), .inl o, vi, _, vo, by rw [zad (by simpa using hkl), zae hkl]; rfl, ((h1.set hk tI _).app _).up za4, ?_, ((h3.set hk tR _).app _).up za4⟩
              show View _ _ _ _ ((s.Waiters ++ [(⟨r.Client, r.Seq, takes, r.P⟩ : Wtr)]).map eW)
              rw [hlr, hz']
              exact View.win' [] (.inr ⟨by omega, by simp⟩) qab (by simp [eW, eFs]) (by simp)
          · have hkwl := yac hkw
            have hne : kw ≠ k := by rintro rfl; rw [hk] at hkw; cases hkw
            have htk : (s.Waiters.map eW ++ z).take s.Waiters.length = s.Waiters.map eW := by rw [List.take_append_of_le_length (by simp), List.take_of_length_le (by simp)]
            have hle2 : s.Waiters.length ≤ (s.Waiters.map eW ++ z).length := by simp
            have hdr : (s.Waiters.map eW ++ z).drop (s.Waiters.length + 1) = z.drop 1 := by rw [List.drop_append]; simp
            by_cases hfit : s.Waiters.length + 1 ≤ lo
            · have hfit := eq_true hfit
              apply Exists.intro
              refine ⟨?ws, ?kp, fun h' w3 => zcq rfl ?wk⟩
              case wk =>
                repeat' (first
    | simp (implicitDefEqProofs := false) only [push_cast, reduceIte, reduceCtorEq, Nat.reduceAdd, Nat.reduceSub, Nat.reduceEqDiff, Nat.reduceLT, Nat.reduceLeDiff, Nat.reduceBEq, Nat.reduceMul, Int.reduceLT, Int.reduceLE, Int.reduceEq, Int.reduceToNat, Int.reduceMul, Int.reduceNeg, Go.Proofs.Try.f145, hk, wkE, hkl, hge, hc16, eQ, eW, eFs, yaq, zad, yae, qad, zae, zab, qae, sst, qab, qaa, yaa, zac, qaq, List.replicate_succ, List.drop_zero, zaf hkl, yad hkl, qak hkl, yaf hkl, hkw, hkwl, hne, Ne.symm hne, qds hne, qds (Ne.symm hne), htk, hle2, hdr, hfit, zaf hkwl, yad hkwl, qak hkwl, yaf hkwl]
    | refine Sp2.f ?_ ?_
    | refine Spl.f ?_ ?_ <;> intro hb
    | refine qac rfl (fun b hb => ?_)
    | refine zaa (U := [[], [], [], [], [], [], [], [], [], [], []]) (H := []) zag (by kernel_rfl) (by decide +kernel) (by kernel_rfl) ?_
    | refine zaa (U := [[], [], [], [], [], [], [], [], [], [], [], [], [], [], [], [], [], [], [], [], [], [], [5, 10, 15], [], [5], [], [], [], [], []]) (H := [⟨0, [], .hole⟩, ⟨0, [], .hole⟩]) zag (by kernel_rfl) (by decide +kernel) (by kernel_rfl) ?_
    | refine yar hfo ?_
    | refine zbe (zav r.P hr.rP) ?_
    | refine qa1 w3 ?_)
                all_goals first
                  | omega
                  | rfl
              case kp => exact Keeps.sets2 hxw o _ _ _
              case ws =>
                refine ⟨ya2 b (by simp), .inl o, vi, _, vo, by rw [zad (by simpa using hkl), zae (by simpa using hkl)]; rfl, (((h1.set hkw wI _).set ((qad hne).trans hk) tI _).app _).up za4, ?_, (((h3.set hkw wR _).set ((qad hne).trans hk) tR _).app _).up za4⟩
                show View _ _ _ _ ((s.Waiters ++ [(⟨r.Client, r.Seq, takes, r.P⟩ : Wtr)]).map eW)
                rw [hlr]
                exact View.win' (z.drop 1) (.inl hxw) (by rw [zad (by simpa using hkwl), qad (Ne.symm hne), zae hkwl]) (by simp [eW, eFs]) (by simp)
            · have hfit := eq_false hfit
              apply Exists.intro
              refine ⟨?ws, ?kp, fun h' w3 => zcq rfl ?wk⟩
              case wk =>
                repeat' (first
    | simp (implicitDefEqProofs := false) only [push_cast, reduceIte, reduceCtorEq, Nat.reduceAdd, Nat.reduceSub, Nat.reduceEqDiff, Nat.reduceLT, Nat.reduceLeDiff, Nat.reduceBEq, Nat.reduceMul, Int.reduceLT, Int.reduceLE, Int.reduceEq, Int.reduceToNat, Int.reduceMul, Int.reduceNeg, Go.Proofs.Try.f145, hk, wkE, hkl, hge, hc16, eQ, eW, eFs, yaq, zad, yae, qad, zae, zab, qae, sst, qab, qaa, yaa, zac, qaq, List.replicate_succ, List.drop_zero, zaf hkl, yad hkl, qak hkl, yaf hkl, hkw, hkwl, hne, Ne.symm hne, qds hne, qds (Ne.symm hne), htk, hle2, hdr, hfit, zaf hkwl, yad hkwl, qak hkwl, yaf hkwl]
    | refine Sp2.f ?_ ?_
    | refine Spl.f ?_ ?_ <;> intro hb
    | refine qac rfl (fun b hb => ?_)
    | refine zaa (U := [[], [], [], [], [], [], [], [], [], [], []]) (H := []) zag (by kernel_rfl) (by decide +kernel) (by kernel_rfl) ?_
    | refine zaa (U := [[], [], [], [], [], [], [], [], [], [], [], [], [], [], [], [], [], [], [], [], [], [], [5, 10, 15], [], [5], [], [], [], [], []]) (H := [⟨0, [], .hole⟩, ⟨0, [], .hole⟩]) zag (by kernel_rfl) (by decide +kernel) (by kernel_rfl) ?_
    | refine yar hfo ?_
    | refine zbe (zav r.P hr.rP) ?_
    | refine qa1 w3 ?_)
                all_goals first
                  | omega
                  | rfl
              case kp => exact Keeps.sets2 hxw o _ _ _
              case ws =>
                refine ⟨ya2 b (by simp), .inl o, vi, _, vo, by rw [zad (by simpa using hkl), zae (by simpa using hkl)]; rfl, (((h1.set hkw wI _).set ((qad hne).trans hk) tI _).app _).up za4, ?_, (((h3.set hkw wR _).set ((qad hne).trans hk) tR _).app _).up za4⟩
                show View _ _ _ _ ((s.Waiters ++ [(⟨r.Client, r.Seq, takes, r.P⟩ : Wtr)]).map eW)
                rw [hlr]
                exact View.win' [] (.inr ⟨by omega, by simp⟩) yaa (by simp [eW, eFs]) (by simp)
        obtain ⟨H, w1, p1, q1⟩ := step
        have hr2 : Rdy { s with Waiters := s.Waiters ++ [⟨r.Client, r.Seq, takes, r.P⟩] } r out := ⟨hr.l4, by simp; omega, hr.il, hr.ol, fun x hx => by
          rcases List.mem_append.1 hx with hx | hx
          · exact hr.cl x hx
          · simp only [List.mem_singleton] at hx; subst hx; exact ⟨hr.rc, hr.rP⟩, hr.it, hr.now, hr.rc, hr.rT, hr.rP, hr.ls⟩
        obtain ⟨h2', w2, p2, sp2⟩ := zb6 4 [] (by simp) hr2 w1
        exact ⟨h2', w2.seq p1 p2, p1.trans p2, q1 h2' sp2⟩
end Go.Abs
