/- Wk6: a part of the proofs about the tuple space and its bytes. -/
import Derived.Test.YtilfbkhbjkjicaaWk4
set_option linter.all false
set_option maxRecDepth 100000
set_option maxHeartbeats 0
namespace Go.Abs
open Go
open Go.Proofs.Try (prog)
theorem zdl {α : Type} {p : α → Bool} {l : List α} (h : 0 ≤ fidx p l) : ∃ i x, fidx p l = (i : Nat) ∧ l[i]? = some x ∧ i < l.length ∧ p x = true := by
  unfold fidx at h ⊢
  cases hf : l.findIdx? p with
  | none => rw [hf] at h; simp at h
  | some j =>
    rw [List.findIdx?_eq_some_iff_getElem] at hf
    obtain ⟨hj, hp, _⟩ := hf
    exact ⟨j, l[j], rfl, List.getElem?_eq_getElem hj, hj, hp⟩
def yb1 (s : Spc) (r : Req) (out : List Rpl) (takes waits : Bool) : Spc × List Rpl :=
  if 0 ≤ qbl s r.P then
    (if takes = true then { zbe s r 2 (s.Items.getD (qbl s r.P).toNat ⟨0, 0, []⟩).T with Items := s.Items.eraseIdx (qbl s r.P).toNat } else zbe s r 2 (s.Items.getD (qbl s r.P).toNat ⟨0, 0, []⟩).T,
     out ++ [rep r 2 (s.Items.getD (qbl s r.P).toNat ⟨0, 0, []⟩).T])
  else if waits = false then (zbe s r 3 [], out ++ [rep r 3 []])
  else if 16 ≤ s.Waiters.length then (zbe s r 5 [], out ++ [rep r 5 []])
  else (zbe { s with Waiters := s.Waiters ++ [⟨r.Client, r.Seq, takes, r.P⟩] } r 4 [], out ++ [rep r 4 []])
theorem getD_some {α : Type} {l : List α} {i : Nat} {x d : α} (h : l[i]? = some x) : l.getD i d = x := by rw [List.getD_eq_getElem?_getD, h]; rfl
theorem c_find {X : Nat → Prop} {k : Nat} {s : Spc} {r : Req} {out : List Rpl} {h : List Entry} (takes waits : Bool) (ho : out.length < 1000) (hw2 : s.Waiters.length < 1000) (hr : Rdy s r out) (hw : WS X k s r out h) :
    Mth 145 [.bool takes, .bool waits] X k r h (yb1 s r out takes waits).1 (yb1 s r out takes waits).2 := by
  have w0 := hw
  obtain ⟨b, o, vi, vw, vo, hk, h1, h2, h3⟩ := hw
  have hkl := qab hk
  have tI : 148 ≠ 87 := by decide
  have tW : 148 ≠ 89 := by decide
  have tR : 148 ≠ 26 := by decide
  have wI : 89 ≠ 87 := by decide
  have wR : 89 ≠ 26 := by decide
  have hfo := fun vo : AV => c_FindO (k := k) (out := out) (r := r) (vo := vo) hr.small hr.rP h1 h2
  have hfo := hfo .nils
  by_cases hat : 0 ≤ qbl s r.P
  · obtain ⟨i, x, hi, hx, hlt, _⟩ := zdl hat
    change qbl s r.P = i at hi
    have e : yb1 s r out takes waits = (if takes = true then { zbe s r 2 x.T with Items := s.Items.eraseIdx i } else zbe s r 2 x.T, out ++ [rep r 2 x.T]) := by
      rw [yb1, if_pos hat, hi, Int.toNat_natCast, getD_some hx]
    rw [e]
    rw [hi] at hfo
    have hge : decide ((0 : Int) ≤ (i : Int)) = true := by simp
    have hxT := hr.it x (List.mem_of_getElem? hx)
    obtain ⟨h1', w1, p1, sp1⟩ := qb1 2 x.T hxT hr w0
    have hgx : ∀ z, (s.Items.map eI ++ z)[i]? = some (eI x) := fun z => by rw [List.getElem?_append_left (by simpa using hlt), List.getElem?_map, hx]; rfl
    have hll : (s.Items.map eI).length = s.Items.length := by simp
    generalize s.Items.map eI = l at h1 hgx hll
    cases h1 with
    | nil => simp at hll; omega
    | @win ki lo _ z hxi hki =>
      have hlt' : i < l.length := by omega
      cases takes with
      | false =>
        refine ⟨h1', w1, p1, ycl rfl ?wk⟩
        case wk =>
          repeat' (first
    | simp (implicitDefEqProofs := false) only [push_cast, reduceIte, reduceCtorEq, Nat.reduceAdd, Nat.reduceSub, Nat.reduceEqDiff, Nat.reduceLT, Nat.reduceLeDiff, Nat.reduceBEq, Nat.reduceMul, Int.reduceLT, Int.reduceLE, Int.reduceEq, Int.reduceToNat, Int.reduceMul, Int.reduceNeg, Go.Proofs.Try.f145, hk, hki, wkE, hkl, hge, eQ, eI, eFs, qbt, hgx, yas hlt', Int.toNat_natCast, zad, zae, qac, yad, yab, qad, sst, zac, qaa, yaa, zag, ybk, List.replicate_succ, List.drop_zero, yai hkl, qaf hkl, zax hkl, qai hkl]
    | refine Sp2.f ?_ ?_
    | refine Spl.f ?_ ?_ <;> intro hb
    | refine yac rfl (fun b hb => ?_)
    | refine zaa (U := [[], [], [], [], [], [], [], [], [], [], []]) (H := []) yae (by kernel_rfl) (by decide +kernel) (by kernel_rfl) ?_
    | refine zaa (U := [[], [], [], [], [], [], [], [], [], [], [], [], [], [], [], [], [], [], [], [], [], [], [5, 10, 15], [], [5], [], [], [], [], []]) (H := [⟨0, [], .hole⟩, ⟨0, [], .hole⟩]) yae (by kernel_rfl) (by decide +kernel) (by kernel_rfl) ?_
    | refine qbh hfo ?_
    | refine qar sp1 ?_)
      | true =>
        obtain ⟨h2', w2, p2, sp2⟩ := c_take (s := zbe s r 2 x.T) i hlt (by have := hr.il; show s.Items.length ≤ _; omega) w1
        refine ⟨h2', w2.seq p1 p2, p1.trans p2, ycl rfl ?wk⟩
        case wk =>
          repeat' (first
    | simp (implicitDefEqProofs := false) only [push_cast, reduceIte, reduceCtorEq, Nat.reduceAdd, Nat.reduceSub, Nat.reduceEqDiff, Nat.reduceLT, Nat.reduceLeDiff, Nat.reduceBEq, Nat.reduceMul, Int.reduceLT, Int.reduceLE, Int.reduceEq, Int.reduceToNat, Int.reduceMul, Int.reduceNeg, Go.Proofs.Try.f145, hk, hki, wkE, hkl, hge, eQ, eI, eFs, qbt, hgx, yas hlt', Int.toNat_natCast, zad, zae, qac, yad, yab, qad, sst, zac, qaa, yaa, zag, ybk, List.replicate_succ, List.drop_zero, yai hkl, qaf hkl, zax hkl, qai hkl]
    | refine Sp2.f ?_ ?_
    | refine Spl.f ?_ ?_ <;> intro hb
    | refine yac rfl (fun b hb => ?_)
    | refine zaa (U := [[], [], [], [], [], [], [], [], [], [], []]) (H := []) yae (by kernel_rfl) (by decide +kernel) (by kernel_rfl) ?_
    | refine zaa (U := [[], [], [], [], [], [], [], [], [], [], [], [], [], [], [], [], [], [], [], [], [], [], [5, 10, 15], [], [5], [], [], [], [], []]) (H := [⟨0, [], .hole⟩, ⟨0, [], .hole⟩]) yae (by kernel_rfl) (by decide +kernel) (by kernel_rfl) ?_
    | refine qbh hfo ?_
    | refine qar sp1 ?_
    | refine qar sp2 ?_)
  · have hge : decide ((0 : Int) ≤ qbl s r.P) = false := by simpa using hat
    by_cases hwt : waits = false
    · subst hwt
      have e : yb1 s r out takes false = (zbe s r 3 [], out ++ [rep r 3 []]) := by rw [yb1, if_neg hat, if_pos rfl]
      rw [e]
      obtain ⟨h1', w1, p1, sp1⟩ := qb1 3 [] (by simp) hr w0
      refine ⟨h1', w1, p1, ycl rfl ?wk⟩
      case wk =>
        repeat' (first
    | simp (implicitDefEqProofs := false) only [push_cast, reduceIte, reduceCtorEq, Nat.reduceAdd, Nat.reduceSub, Nat.reduceEqDiff, Nat.reduceLT, Nat.reduceLeDiff, Nat.reduceBEq, Nat.reduceMul, Int.reduceLT, Int.reduceLE, Int.reduceEq, Int.reduceToNat, Int.reduceMul, Int.reduceNeg, Go.Proofs.Try.f145, hk, wkE, hkl, hge, eQ, eFs, qbt, zad, zae, qac, yad, yab, qad, sst, zac, qaa, yaa, zag, ybk, List.replicate_succ, List.drop_zero, yai hkl, qaf hkl, zax hkl, qai hkl]
    | refine Sp2.f ?_ ?_
    | refine Spl.f ?_ ?_ <;> intro hb
    | refine yac rfl (fun b hb => ?_)
    | refine zaa (U := [[], [], [], [], [], [], [], [], [], [], []]) (H := []) yae (by kernel_rfl) (by decide +kernel) (by kernel_rfl) ?_
    | refine zaa (U := [[], [], [], [], [], [], [], [], [], [], [], [], [], [], [], [], [], [], [], [], [], [], [5, 10, 15], [], [5], [], [], [], [], []]) (H := [⟨0, [], .hole⟩, ⟨0, [], .hole⟩]) yae (by kernel_rfl) (by decide +kernel) (by kernel_rfl) ?_
    | refine qbh hfo ?_
    | refine qar sp1 ?_)
    · have hwt : waits = true := by simpa using hwt
      subst hwt
      have hpz : decide ((16 : Int) ≤ 0) = false := rfl
      have hvw : (vw = .nils ∧ s.Waiters.length = 0) ∨ ∃ kw lo z, vw = .win kw [] 89 0 s.Waiters.length lo ∧ X kw ∧ h[kw]? = some ⟨89, s.Waiters.map eW ++ z, .own⟩ := by
        generalize hl : s.Waiters.map eW = l at h2
        have : l.length = s.Waiters.length := by rw [← hl]; simp
        cases h2 with
        | nil => exact .inl ⟨rfl, by simpa using this.symm⟩
        | win hx hkk => rw [this]; exact .inr ⟨_, _, _, rfl, hx, hkk⟩
      by_cases h16 : 16 ≤ s.Waiters.length
      · have e : yb1 s r out takes true = (zbe s r 5 [], out ++ [rep r 5 []]) := by rw [yb1, if_neg hat, if_neg (by simp), if_pos h16]
        rw [e]
        obtain ⟨h1', w1, p1, sp1⟩ := qb1 5 [] (by simp) hr w0
        have hc16 : decide ((16 : Int) ≤ (s.Waiters.length : Int)) = true := by simp; omega
        refine ⟨h1', w1, p1, ycl rfl ?wk⟩
        case wk =>
          rcases hvw with ⟨rfl, hz⟩ | ⟨kw, lo, z, rfl, hxw, hkw⟩
          · omega
          · repeat' (first
    | simp (implicitDefEqProofs := false) only [push_cast, reduceIte, reduceCtorEq, Nat.reduceAdd, Nat.reduceSub, Nat.reduceEqDiff, Nat.reduceLT, Nat.reduceLeDiff, Nat.reduceBEq, Nat.reduceMul, Int.reduceLT, Int.reduceLE, Int.reduceEq, Int.reduceToNat, Int.reduceMul, Int.reduceNeg, Go.Proofs.Try.f145, hk, wkE, hkl, hge, hc16, eQ, eFs, qbt, zad, zae, qac, yad, yab, qad, sst, zac, qaa, yaa, zag, ybk, List.replicate_succ, List.drop_zero, yai hkl, qaf hkl, zax hkl, qai hkl]
    | refine Sp2.f ?_ ?_
    | refine Spl.f ?_ ?_ <;> intro hb
    | refine yac rfl (fun b hb => ?_)
    | refine zaa (U := [[], [], [], [], [], [], [], [], [], [], []]) (H := []) yae (by kernel_rfl) (by decide +kernel) (by kernel_rfl) ?_
    | refine zaa (U := [[], [], [], [], [], [], [], [], [], [], [], [], [], [], [], [], [], [], [], [], [], [], [5, 10, 15], [], [5], [], [], [], [], []]) (H := [⟨0, [], .hole⟩, ⟨0, [], .hole⟩]) yae (by kernel_rfl) (by decide +kernel) (by kernel_rfl) ?_
    | refine qbh hfo ?_
    | refine qar sp1 ?_)
      · have e : yb1 s r out takes true = (zbe { s with Waiters := s.Waiters ++ [⟨r.Client, r.Seq, takes, r.P⟩] } r 4 [], out ++ [rep r 4 []]) := by rw [yb1, if_neg hat, if_neg (by simp), if_neg h16]
        rw [e]
        have hc16 : decide ((16 : Int) ≤ (s.Waiters.length : Int)) = false := by simp; omega
        have hlr : ∀ y, (s.Waiters ++ [y]).map eW = s.Waiters.map eW ++ [eW y] := by simp
        have step : ∃ H, WS (ybh X h H) k { s with Waiters := s.Waiters ++ [⟨r.Client, r.Seq, takes, r.P⟩] } r out H ∧ Keeps X h H ∧ ∀ h', (FSpec prog 143 [.ref k [0] 148, .int .i64 4, eFs []] H fun r' h'' => r' = .tup [] ∧ h'' = h') → FSpec prog 145 [.ref k [0] 148, .bool takes, .bool true] h fun r' h'' => r' = .tup [] ∧ h'' = h' := by
          rcases hvw with ⟨rfl, hz⟩ | ⟨kw, lo, z, rfl, hxw, hkw⟩
          · have hz' : s.Waiters.map eW = [] := by rw [List.eq_nil_of_length_eq_zero hz]; rfl
            apply Exists.intro
            refine ⟨?ws, ?kp, fun h' w3 => ycl rfl ?wk⟩
            case wk =>
              repeat' (first
    | simp (implicitDefEqProofs := false) only [push_cast, reduceIte, reduceCtorEq, Nat.reduceAdd, Nat.reduceSub, Nat.reduceEqDiff, Nat.reduceLT, Nat.reduceLeDiff, Nat.reduceBEq, Nat.reduceMul, Int.reduceLT, Int.reduceLE, Int.reduceEq, Int.reduceToNat, Int.reduceMul, Int.reduceNeg, Go.Proofs.Try.f145, hk, wkE, hkl, hge, hpz, eQ, eW, eFs, qbt, zad, zae, qac, yad, yab, qad, sst, zac, qaa, yaa, zag, ybk, List.replicate_succ, List.drop_zero, yai hkl, qaf hkl, zax hkl, qai hkl]
    | refine Sp2.f ?_ ?_
    | refine Spl.f ?_ ?_ <;> intro hb
    | refine yac rfl (fun b hb => ?_)
    | refine zaa (U := [[], [], [], [], [], [], [], [], [], [], []]) (H := []) yae (by kernel_rfl) (by decide +kernel) (by kernel_rfl) ?_
    | refine zaa (U := [[], [], [], [], [], [], [], [], [], [], [], [], [], [], [], [], [], [], [], [], [], [], [5, 10, 15], [], [5], [], [], [], [], []]) (H := [⟨0, [], .hole⟩, ⟨0, [], .hole⟩]) yae (by kernel_rfl) (by decide +kernel) (by kernel_rfl) ?_
    | refine qbh hfo ?_
    | refine yao (yar r.P hr.rP) ?_
    | refine qar w3 ?_)
              all_goals first
                | omega
                | rfl
            case kp => exact Keeps.sets o _ _
            case ws =>
              refine ⟨ya9 b (by simp), .inl o, vi, _, vo, by rw [zad (by simpa using hkl), yad hkl]; rfl, ((h1.set hk tI _).app _).up qbr, ?_, ((h3.set hk tR _).app _).up qbr⟩
              show View _ _ _ _ ((s.Waiters ++ [(⟨r.Client, r.Seq, takes, r.P⟩ : Wtr)]).map eW)
              rw [hlr, hz']
              exact View.win' [] (.inr ⟨by omega, by simp⟩) zac (by simp [eW, eFs]) (by simp)
          · have hkwl := qab hkw
            have hne : kw ≠ k := by rintro rfl; rw [hk] at hkw; cases hkw
            have htk : (s.Waiters.map eW ++ z).take s.Waiters.length = s.Waiters.map eW := by rw [List.take_append_of_le_length (by simp), List.take_of_length_le (by simp)]
            have hle2 : s.Waiters.length ≤ (s.Waiters.map eW ++ z).length := by simp
            have hdr : (s.Waiters.map eW ++ z).drop (s.Waiters.length + 1) = z.drop 1 := by rw [List.drop_append]; simp
            by_cases hfit : s.Waiters.length + 1 ≤ lo
            · have hfit := eq_true hfit
              apply Exists.intro
              refine ⟨?ws, ?kp, fun h' w3 => ycl rfl ?wk⟩
              case wk =>
                repeat' (first
    | simp (implicitDefEqProofs := false) only [push_cast, reduceIte, reduceCtorEq, Nat.reduceAdd, Nat.reduceSub, Nat.reduceEqDiff, Nat.reduceLT, Nat.reduceLeDiff, Nat.reduceBEq, Nat.reduceMul, Int.reduceLT, Int.reduceLE, Int.reduceEq, Int.reduceToNat, Int.reduceMul, Int.reduceNeg, Go.Proofs.Try.f145, hk, wkE, hkl, hge, hc16, eQ, eW, eFs, qbt, zad, zae, qac, yad, yab, qad, sst, zac, qaa, yaa, zag, ybk, List.replicate_succ, List.drop_zero, yai hkl, qaf hkl, zax hkl, qai hkl, hkw, hkwl, hne, Ne.symm hne, ne_f hne, ne_f (Ne.symm hne), htk, hle2, hdr, hfit, yai hkwl, qaf hkwl, zax hkwl, qai hkwl]
    | refine Sp2.f ?_ ?_
    | refine Spl.f ?_ ?_ <;> intro hb
    | refine yac rfl (fun b hb => ?_)
    | refine zaa (U := [[], [], [], [], [], [], [], [], [], [], []]) (H := []) yae (by kernel_rfl) (by decide +kernel) (by kernel_rfl) ?_
    | refine zaa (U := [[], [], [], [], [], [], [], [], [], [], [], [], [], [], [], [], [], [], [], [], [], [], [5, 10, 15], [], [5], [], [], [], [], []]) (H := [⟨0, [], .hole⟩, ⟨0, [], .hole⟩]) yae (by kernel_rfl) (by decide +kernel) (by kernel_rfl) ?_
    | refine qbh hfo ?_
    | refine yao (yar r.P hr.rP) ?_
    | refine qar w3 ?_)
                all_goals first
                  | omega
                  | rfl
              case kp => exact Keeps.sets2 hxw o _ _ _
              case ws =>
                refine ⟨ya9 b (by simp), .inl o, vi, _, vo, by rw [zad (by simpa using hkl), yad (by simpa using hkl)]; rfl, (((h1.set hkw wI _).set ((qac hne).trans hk) tI _).app _).up qbr, ?_, (((h3.set hkw wR _).set ((qac hne).trans hk) tR _).app _).up qbr⟩
                show View _ _ _ _ ((s.Waiters ++ [(⟨r.Client, r.Seq, takes, r.P⟩ : Wtr)]).map eW)
                rw [hlr]
                exact View.win' (z.drop 1) (.inl hxw) (by rw [zad (by simpa using hkwl), qac (Ne.symm hne), yad hkwl]) (by simp [eW, eFs]) (by simp)
            · have hfit := eq_false hfit
              apply Exists.intro
              refine ⟨?ws, ?kp, fun h' w3 => ycl rfl ?wk⟩
              case wk =>
                repeat' (first
    | simp (implicitDefEqProofs := false) only [push_cast, reduceIte, reduceCtorEq, Nat.reduceAdd, Nat.reduceSub, Nat.reduceEqDiff, Nat.reduceLT, Nat.reduceLeDiff, Nat.reduceBEq, Nat.reduceMul, Int.reduceLT, Int.reduceLE, Int.reduceEq, Int.reduceToNat, Int.reduceMul, Int.reduceNeg, Go.Proofs.Try.f145, hk, wkE, hkl, hge, hc16, eQ, eW, eFs, qbt, zad, zae, qac, yad, yab, qad, sst, zac, qaa, yaa, zag, ybk, List.replicate_succ, List.drop_zero, yai hkl, qaf hkl, zax hkl, qai hkl, hkw, hkwl, hne, Ne.symm hne, ne_f hne, ne_f (Ne.symm hne), htk, hle2, hdr, hfit, yai hkwl, qaf hkwl, zax hkwl, qai hkwl]
    | refine Sp2.f ?_ ?_
    | refine Spl.f ?_ ?_ <;> intro hb
    | refine yac rfl (fun b hb => ?_)
    | refine zaa (U := [[], [], [], [], [], [], [], [], [], [], []]) (H := []) yae (by kernel_rfl) (by decide +kernel) (by kernel_rfl) ?_
    | refine zaa (U := [[], [], [], [], [], [], [], [], [], [], [], [], [], [], [], [], [], [], [], [], [], [], [5, 10, 15], [], [5], [], [], [], [], []]) (H := [⟨0, [], .hole⟩, ⟨0, [], .hole⟩]) yae (by kernel_rfl) (by decide +kernel) (by kernel_rfl) ?_
    | refine qbh hfo ?_
    | refine yao (yar r.P hr.rP) ?_
    | refine qar w3 ?_)
                all_goals first
                  | omega
                  | rfl
              case kp => exact Keeps.sets2 hxw o _ _ _
              case ws =>
                refine ⟨ya9 b (by simp), .inl o, vi, _, vo, by rw [zad (by simpa using hkl), yad (by simpa using hkl)]; rfl, (((h1.set hkw wI _).set ((qac hne).trans hk) tI _).app _).up qbr, ?_, (((h3.set hkw wR _).set ((qac hne).trans hk) tR _).app _).up qbr⟩
                show View _ _ _ _ ((s.Waiters ++ [(⟨r.Client, r.Seq, takes, r.P⟩ : Wtr)]).map eW)
                rw [hlr]
                exact View.win' [] (.inr ⟨by omega, by simp⟩) yaa (by simp [eW, eFs]) (by simp)
        obtain ⟨H, w1, p1, q1⟩ := step
        have hr2 : Rdy { s with Waiters := s.Waiters ++ [⟨r.Client, r.Seq, takes, r.P⟩] } r out := ⟨hr.l4, by simp; omega, hr.il, hr.ol, fun x hx => by
          rcases List.mem_append.1 hx with hx | hx
          · exact hr.cl x hx
          · simp only [List.mem_singleton] at hx; subst hx; exact ⟨hr.rc, hr.rP⟩, hr.it, hr.now, hr.rc, hr.rT, hr.rP, hr.ls⟩
        obtain ⟨h2', w2, p2, sp2⟩ := qb1 4 [] (by simp) hr2 w1
        exact ⟨h2', w2.seq p1 p2, p1.trans p2, q1 h2' sp2⟩
end Go.Abs
set_option linter.all false
set_option maxRecDepth 100000
set_option maxHeartbeats 0
namespace Go.Abs
open Go
open Go.Proofs.Try (prog)
theorem r_mid {P : Program} {x : Code} {s : List Ctl} {env : Env} {h : List Entry} {Q : zap} (M : AEx → Env → List Entry → Prop) (h1 : Rn P [.code x] .normal env h M) (h2 : ∀ e env' h', M e env' h' → Rn P s e env' h' Q) : Rn P (.code x :: s) .normal env h Q :=
  ybx x env h (fun e env' h' hm => h2 e env' h' hm) h1
def zc5 (s : Spc) (r : Req) (out : List Rpl) : Spc × List Rpl :=
  if qbl s r.P < 0 then (zbe s r 3 [], out ++ [rep r 3 []])
  else if zdt s r (qbl s r.P) = true then (zbe s r 5 [], out ++ [rep r 5 []])
  else ya8 r [] s.Waiters { zbe s r 2 (s.Items.getD (qbl s r.P).toNat ⟨0, 0, []⟩).T with Items := s.Items.eraseIdx (qbl s r.P).toNat } (out ++ [rep r 2 (s.Items.getD (qbl s r.P).toNat ⟨0, 0, []⟩).T])
theorem c_turn {X : Nat → Prop} {k : Nat} {s : Spc} {r : Req} {out : List Rpl} {h : List Entry} (ho : out.length < 1000) (hr : Rdy s r out) (hw : WS X k s r out h) :
    Mtn 147 [] X k r h (zc5 s r out).1 (zc5 s r out).2 := by
  have w0 := hw
  obtain ⟨b, o, vi, vw, vo, hk, h1, h2, h3⟩ := hw
  have hkl := qab hk
  have hfo := c_FindO (k := k) (out := out) (r := r) (vo := vo) hr.small hr.rP h1 h2
  refine frun_147 rfl ?_
  by_cases hat : qbl s r.P < 0
  · have e : zc5 s r out = (zbe s r 3 [], out ++ [rep r 3 []]) := by rw [zc5, if_pos hat]
    rw [e]
    have hlt0 : decide (qbl s r.P < 0) = true := by simpa using hat
    repeat' (first
    | simp (implicitDefEqProofs := false) only [push_cast, reduceIte, reduceCtorEq, Nat.reduceAdd, Nat.reduceSub, Nat.reduceEqDiff, Nat.reduceLT, Nat.reduceLeDiff, Nat.reduceBEq, Nat.reduceMul, Int.reduceLT, Int.reduceLE, Int.reduceEq, Int.reduceToNat, Int.reduceMul, Int.reduceNeg, Go.Proofs.Try.f147, hk, wkE, hkl, hlt0, eQ, eFs, qbt, zad, zae, qac, yad, yab, qad, sst, zac, qaa, yaa, zag, ybk, List.replicate_succ, List.drop_zero, yai hkl, qaf hkl, zax hkl, qai hkl]
    | refine Sp2.f ?_ ?_
    | refine Spl.f ?_ ?_ <;> intro hb
    | refine yac rfl (fun b hb => ?_)
    | refine zaa (U := [[], [], [], [], [], [], [], [], [], [], []]) (H := []) yae (by kernel_rfl) (by decide +kernel) (by kernel_rfl) ?_
    | refine qbh hfo ?_
    | refine ycv (qb1 3 [] (by simp) hr w0).n fun h1 w1 p1 => ?_)
    exact ⟨w1, p1⟩
  · obtain ⟨i, x, hi, hx, hlt, _⟩ := zdl (p := fun x : Itm => zbu r.P x.T) (l := s.Items) (by unfold qbl at hat; omega)
    change qbl s r.P = i at hi
    rw [hi] at hfo
    have hfu := c_fullO (i : Int) (by have := hr.il; omega) w0
    have hlt0 : decide ((i : Int) < 0) = false := by simp
    by_cases hful : zdt s r (i : Int) = true
    · have e : zc5 s r out = (zbe s r 5 [], out ++ [rep r 5 []]) := by rw [zc5, if_neg hat, hi, if_pos hful]
      rw [e]
      repeat' (first
    | simp (implicitDefEqProofs := false) only [push_cast, reduceIte, reduceCtorEq, Nat.reduceAdd, Nat.reduceSub, Nat.reduceEqDiff, Nat.reduceLT, Nat.reduceLeDiff, Nat.reduceBEq, Nat.reduceMul, Int.reduceLT, Int.reduceLE, Int.reduceEq, Int.reduceToNat, Int.reduceMul, Int.reduceNeg, Go.Proofs.Try.f147, hk, wkE, hkl, hlt0, hful, eQ, eFs, qbt, zad, zae, qac, yad, yab, qad, sst, zac, qaa, yaa, zag, ybk, List.replicate_succ, List.drop_zero, yai hkl, qaf hkl, zax hkl, qai hkl]
    | refine Sp2.f ?_ ?_
    | refine Spl.f ?_ ?_ <;> intro hb
    | refine yac rfl (fun b hb => ?_)
    | refine zaa (U := [[], [], [], [], [], [], [], [], [], [], []]) (H := []) yae (by kernel_rfl) (by decide +kernel) (by kernel_rfl) ?_
    | refine qbh hfo ?_
    | refine qar hfu ?_
    | refine ycv (qb1 5 [] (by simp) hr w0).n fun h1 w1 p1 => ?_)
      exact ⟨w1, p1⟩
    · have e : zc5 s r out = ya8 r [] s.Waiters { zbe s r 2 x.T with Items := s.Items.eraseIdx i } (out ++ [rep r 2 x.T]) := by
        rw [zc5, if_neg hat, hi, if_neg hful, Int.toNat_natCast, getD_some hx]
      have hful : zdt s r (i : Int) = false := by simpa using hful
      rw [e]
      have hxT := hr.it x (List.mem_of_getElem? hx)
      have hr1 := hr.tell 2 x.T (out ++ [rep r 2 x.T]) (by simp; omega)
      have hr2 := hr1.take i
      have hgx : ∀ z, (s.Items.map eI ++ z)[i]? = some (eI x) := fun z => by rw [List.getElem?_append_left (by simpa using hlt), List.getElem?_map, hx]; rfl
      have hll : (s.Items.map eI).length = s.Items.length := by simp
      generalize s.Items.map eI = l at h1 hgx hll
      cases h1 with
      | nil => simp at hll; omega
      | @win ki lo _ z hxi hki =>
        have hlt' : i < l.length := by omega
        repeat' (first
    | simp (implicitDefEqProofs := false) only [push_cast, reduceIte, reduceCtorEq, Nat.reduceAdd, Nat.reduceSub, Nat.reduceEqDiff, Nat.reduceLT, Nat.reduceLeDiff, Nat.reduceBEq, Nat.reduceMul, Int.reduceLT, Int.reduceLE, Int.reduceEq, Int.reduceToNat, Int.reduceMul, Int.reduceNeg, Go.Proofs.Try.f147, hk, hki, wkE, hkl, hlt0, hful, eQ, eI, eFs, qbt, hgx, yas hlt', Int.toNat_natCast, zad, zae, qac, yad, yab, qad, sst, zac, qaa, yaa, zag, ybk, List.replicate_succ, List.drop_zero, yai hkl, qaf hkl, zax hkl, qai hkl]
    | refine Sp2.f ?_ ?_
    | refine Spl.f ?_ ?_ <;> intro hb
    | refine yac rfl (fun b hb => ?_)
    | refine zaa (U := [[], [], [], [], [], [], [], [], [], [], []]) (H := []) yae (by kernel_rfl) (by decide +kernel) (by kernel_rfl) ?_
    | refine qbh hfo ?_
    | refine qar hfu ?_
    | refine ycv (qb1 2 x.T hxT hr w0).n fun h1 w1 p1 => ?_
    | refine ycv (c_take (s := zbe s r 2 x.T) i hlt (by have := hr.il; show s.Items.length ≤ _; omega) w1).n fun h2 w2 p2 => ?_
    | refine ycv (args := []) (c_put w2 hr2.pi hr2.rT (by have := hr2.il; omega) hr2.now hr2.ls) fun h3 w3 p3 => ?_)
        exact ⟨(w3.seq p2 p3).seq p1 (p2.trans p3), p1.trans (p2.trans p3)⟩
def bitOf (v c : Int) : Bool := bits .and .i64 (v.fdiv (2 ^ (min (IntKind.wrap .u64 c).toNat IntKind.i64.bits))) 1 == 0
def denyS (s : Spc) (r : Req) : Bool := (readsK r.Kind && bitOf s.Read r.Client) || (writesK r.Kind && bitOf s.Write r.Client)
def doW (s : Spc) (r : Req) (out : List Rpl) : Spc × List Rpl :=
  if denyS s r = true then (zbe s r 6 [], out ++ [rep r 6 []])
  else if r.Kind = 1 then zbz s r out
  else if r.Kind = 2 then yb1 s r out false false
  else if r.Kind = 3 then yb1 s r out true false
  else if r.Kind = 4 then yb1 s r out false true
  else if r.Kind = 5 then yb1 s r out true true
  else if r.Kind = 6 then (if 0 ≤ qbl s r.P then (zbe s r 3 [], out ++ [rep r 3 []]) else zbz s r out)
  else if r.Kind = 7 then zc5 s r out
  else (zbe s r 1 [], out ++ [rep r 1 []])
theorem c_do {X : Nat → Prop} {k : Nat} {s : Spc} {r : Req} {out : List Rpl} {h : List Entry} (ho : out.length < 1000) (hw2 : s.Waiters.length < 1000) (hr : Rdy s r out) (hw : WS X k s r out h) :
    Mtn 112 [] X k r h (doW s r out).1 (doW s r out).2 := by
  have w0 := hw
  obtain ⟨b, o, vi, vw, vo, hk, h1, h2, h3⟩ := hw
  have hkl := qab hk
  have hfo := c_FindO (k := k) (out := out) (r := r) (vo := vo) hr.small hr.rP h1 h2
  have hu : ¬ IntKind.wrap .u64 r.Client < 0 := by
    have := hr.rc
    simp only [zay, Bool.and_eq_true, decide_eq_true_eq] at this
    rw [IntWalk.u64_in _ (by omega)]
    omega
  refine frun_112 rfl ?_
  simp (implicitDefEqProofs := false) only [yah, Option.getD_some, Go.Proofs.Try.f112, r_seq]
  refine r_mid (fun e env' h' => e = .normal ∧ h' = h ∧ env' = [(0, .ref k [0] 148), (2, .int .u64 (IntKind.wrap .u64 r.Client)), (44, .junk), (51, .junk), (54, .junk), (58, .junk), (93, .junk), (105, .junk), (110, .junk)]) ?_ ?_
  · repeat' (first
    | simp (implicitDefEqProofs := false) only [push_cast, reduceIte, reduceCtorEq, Nat.reduceAdd, Nat.reduceSub, Nat.reduceEqDiff, Nat.reduceLT, Nat.reduceLeDiff, Nat.reduceBEq, Nat.reduceMul, Int.reduceLT, Int.reduceLE, Int.reduceEq, Int.reduceToNat, Int.reduceMul, Int.reduceNeg, Go.Proofs.Try.f112, hk, wkE, hkl, eQ, eFs, qbt, zad, zae, qac, yad, yab, qad, sst, zac, qaa, yaa, zag, ybk, List.replicate_succ, List.drop_zero, yai hkl, qaf hkl, zax hkl, qai hkl]
    | refine Sp2.f ?_ ?_
    | refine Spl.f ?_ ?_ <;> intro hb
    | refine yac rfl (fun b hb => ?_)
    | refine zaa (U := [[], [], [], [], [], [], [], [], [], [], [], [], [], [], [], [], [], [], [], [], [], [], [], [], [], [], [], [], [], []]) (H := []) yae (by kernel_rfl) (by decide +kernel) (by kernel_rfl) ?_
    | refine zaa (U := [[], [], [], [], [], [], [], [], [], [], []]) (H := []) yae (by kernel_rfl) (by decide +kernel) (by kernel_rfl) ?_)
  rintro _ _ _ ⟨he, hh, henv⟩
  subst he
  rw [hh, henv]
  clear hh henv
  simp (implicitDefEqProofs := false) only [r_seq]
  refine r_mid (fun e env' h' => e = .normal ∧ h' = h ∧ env' = [(0, .ref k [0] 148), (2, .int .u64 (IntKind.wrap .u64 r.Client)), (44, .bool (denyS s r)), (51, .junk), (54, .junk), (58, .junk), (93, .junk), (105, .junk), (110, .junk)]) ?_ ?_
  · repeat' (first
    | simp (implicitDefEqProofs := false) only [push_cast, reduceIte, reduceCtorEq, Nat.reduceAdd, Nat.reduceSub, Nat.reduceEqDiff, Nat.reduceLT, Nat.reduceLeDiff, Nat.reduceBEq, Nat.reduceMul, Int.reduceLT, Int.reduceLE, Int.reduceEq, Int.reduceToNat, Int.reduceMul, Int.reduceNeg, Go.Proofs.Try.f112, hk, wkE, hkl, eQ, eFs, qbt, zad, zae, qac, yad, yab, qad, sst, zac, qaa, yaa, zag, ybk, List.replicate_succ, List.drop_zero, yai hkl, qaf hkl, zax hkl, qai hkl]
    | refine Sp2.f ?_ ?_
    | refine Spl.f ?_ ?_ <;> intro hb
    | refine yac rfl (fun b hb => ?_)
    | refine zaa (U := [[], [], [], [], [], [], [], [], [], [], [], [], [], [], [], [], [], [], [], [], [], [], [], [], [], [], [], [], [], []]) (H := []) yae (by kernel_rfl) (by decide +kernel) (by kernel_rfl) ?_
    | refine zaa (U := [[], [], [], [], [], [], [], [], [], [], []]) (H := []) yae (by kernel_rfl) (by decide +kernel) (by kernel_rfl) ?_
    | refine qaz (c_Reads _) ?_
    | refine qaz (c_Writes _) ?_
    | refine rs_no hu ?_)
    all_goals first
      | exact hu
      | (simp only [denyS, bitOf, *, Bool.true_and, Bool.false_and, Bool.true_or, Bool.false_or, Bool.or_false, Bool.or_true]; done)
  rintro _ _ _ ⟨he, hh, henv⟩
  subst he
  rw [hh, henv]
  clear hh henv
  by_cases hd : denyS s r = true
  · have e : doW s r out = (zbe s r 6 [], out ++ [rep r 6 []]) := by rw [doW, if_pos hd]
    rw [e]
    repeat' (first
    | simp (implicitDefEqProofs := false) only [push_cast, reduceIte, reduceCtorEq, Nat.reduceAdd, Nat.reduceSub, Nat.reduceEqDiff, Nat.reduceLT, Nat.reduceLeDiff, Nat.reduceBEq, Nat.reduceMul, Int.reduceLT, Int.reduceLE, Int.reduceEq, Int.reduceToNat, Int.reduceMul, Int.reduceNeg, Go.Proofs.Try.f112, hd]
    | refine Sp2.f ?_ ?_
    | refine Spl.f ?_ ?_ <;> intro hb
    | refine yac rfl (fun b hb => ?_)
    | refine zaa (U := [[], [], [], [], [], [], [], [], [], [], [], [], [], [], [], [], [], [], [], [], [], [], [], [], [], [], [], [], [], []]) (H := []) yae (by kernel_rfl) (by decide +kernel) (by kernel_rfl) ?_
    | refine zaa (U := [[], [], [], [], [], [], [], [], [], [], []]) (H := []) yae (by kernel_rfl) (by decide +kernel) (by kernel_rfl) ?_
    | refine ycv (qb1 6 [] (by simp) hr w0).n fun h1 w1 p1 => ?_)
    exact ⟨w1, p1⟩
  have e0 : doW s r out = if r.Kind = 1 then zbz s r out
    else if r.Kind = 2 then yb1 s r out false false
    else if r.Kind = 3 then yb1 s r out true false
    else if r.Kind = 4 then yb1 s r out false true
    else if r.Kind = 5 then yb1 s r out true true
    else if r.Kind = 6 then (if 0 ≤ qbl s r.P then (zbe s r 3 [], out ++ [rep r 3 []]) else zbz s r out)
    else if r.Kind = 7 then zc5 s r out
    else (zbe s r 1 [], out ++ [rep r 1 []]) := by rw [doW, if_neg hd]
  have hd : denyS s r = false := by simpa using hd
  rw [e0]
  clear e0
  by_cases k1 : r.Kind = 1
  · simp only [k1, Int.reduceEq, reduceIte]
    repeat' (first
    | simp (implicitDefEqProofs := false) only [push_cast, reduceIte, reduceCtorEq, Nat.reduceAdd, Nat.reduceSub, Nat.reduceEqDiff, Nat.reduceLT, Nat.reduceLeDiff, Nat.reduceBEq, Nat.reduceMul, Int.reduceLT, Int.reduceLE, Int.reduceEq, Int.reduceToNat, Int.reduceMul, Int.reduceNeg, Go.Proofs.Try.f112, hd, hk, wkE, hkl, eQ, eFs, qbt, Int.reduceBEq, k1, zad, zae, qac, yad, yab, qad, sst, zac, qaa, yaa, zag, ybk, List.replicate_succ, List.drop_zero, yai hkl, qaf hkl, zax hkl, qai hkl]
    | refine Sp2.f ?_ ?_
    | refine Spl.f ?_ ?_ <;> intro hb
    | refine yac rfl (fun b hb => ?_)
    | refine zaa (U := [[], [], [], [], [], [], [], [], [], [], [], [], [], [], [], [], [], [], [], [], [], [], [], [], [], [], [], [], [], []]) (H := []) yae (by kernel_rfl) (by decide +kernel) (by kernel_rfl) ?_
    | refine zaa (U := [[], [], [], [], [], [], [], [], [], [], []]) (H := []) yae (by kernel_rfl) (by decide +kernel) (by kernel_rfl) ?_
    | refine ycv (args := []) (c_bring ho hr w0) fun h1 w1 p1 => ?_)
    exact ⟨w1, p1⟩
  by_cases k2 : r.Kind = 2
  · simp only [k2, Int.reduceEq, reduceIte]
    obtain ⟨h', w1, p1, sp1⟩ := c_find false false ho hw2 hr w0
    repeat' (first
    | simp (implicitDefEqProofs := false) only [push_cast, reduceIte, reduceCtorEq, Nat.reduceAdd, Nat.reduceSub, Nat.reduceEqDiff, Nat.reduceLT, Nat.reduceLeDiff, Nat.reduceBEq, Nat.reduceMul, Int.reduceLT, Int.reduceLE, Int.reduceEq, Int.reduceToNat, Int.reduceMul, Int.reduceNeg, Go.Proofs.Try.f112, hd, hk, wkE, hkl, eQ, eFs, qbt, Int.reduceBEq, k2, zad, zae, qac, yad, yab, qad, sst, zac, qaa, yaa, zag, ybk, List.replicate_succ, List.drop_zero, yai hkl, qaf hkl, zax hkl, qai hkl]
    | refine Sp2.f ?_ ?_
    | refine Spl.f ?_ ?_ <;> intro hb
    | refine yac rfl (fun b hb => ?_)
    | refine zaa (U := [[], [], [], [], [], [], [], [], [], [], [], [], [], [], [], [], [], [], [], [], [], [], [], [], [], [], [], [], [], []]) (H := []) yae (by kernel_rfl) (by decide +kernel) (by kernel_rfl) ?_
    | refine zaa (U := [[], [], [], [], [], [], [], [], [], [], []]) (H := []) yae (by kernel_rfl) (by decide +kernel) (by kernel_rfl) ?_
    | refine qbh sp1 ?_)
    exact ⟨w1, p1⟩
  by_cases k3 : r.Kind = 3
  · simp only [k3, Int.reduceEq, reduceIte]
    obtain ⟨h', w1, p1, sp1⟩ := c_find true false ho hw2 hr w0
    repeat' (first
    | simp (implicitDefEqProofs := false) only [push_cast, reduceIte, reduceCtorEq, Nat.reduceAdd, Nat.reduceSub, Nat.reduceEqDiff, Nat.reduceLT, Nat.reduceLeDiff, Nat.reduceBEq, Nat.reduceMul, Int.reduceLT, Int.reduceLE, Int.reduceEq, Int.reduceToNat, Int.reduceMul, Int.reduceNeg, Go.Proofs.Try.f112, hd, hk, wkE, hkl, eQ, eFs, qbt, Int.reduceBEq, k3, zad, zae, qac, yad, yab, qad, sst, zac, qaa, yaa, zag, ybk, List.replicate_succ, List.drop_zero, yai hkl, qaf hkl, zax hkl, qai hkl]
    | refine Sp2.f ?_ ?_
    | refine Spl.f ?_ ?_ <;> intro hb
    | refine yac rfl (fun b hb => ?_)
    | refine zaa (U := [[], [], [], [], [], [], [], [], [], [], [], [], [], [], [], [], [], [], [], [], [], [], [], [], [], [], [], [], [], []]) (H := []) yae (by kernel_rfl) (by decide +kernel) (by kernel_rfl) ?_
    | refine zaa (U := [[], [], [], [], [], [], [], [], [], [], []]) (H := []) yae (by kernel_rfl) (by decide +kernel) (by kernel_rfl) ?_
    | refine qbh sp1 ?_)
    exact ⟨w1, p1⟩
  by_cases k4 : r.Kind = 4
  · simp only [k4, Int.reduceEq, reduceIte]
    obtain ⟨h', w1, p1, sp1⟩ := c_find false true ho hw2 hr w0
    repeat' (first
    | simp (implicitDefEqProofs := false) only [push_cast, reduceIte, reduceCtorEq, Nat.reduceAdd, Nat.reduceSub, Nat.reduceEqDiff, Nat.reduceLT, Nat.reduceLeDiff, Nat.reduceBEq, Nat.reduceMul, Int.reduceLT, Int.reduceLE, Int.reduceEq, Int.reduceToNat, Int.reduceMul, Int.reduceNeg, Go.Proofs.Try.f112, hd, hk, wkE, hkl, eQ, eFs, qbt, Int.reduceBEq, k4, zad, zae, qac, yad, yab, qad, sst, zac, qaa, yaa, zag, ybk, List.replicate_succ, List.drop_zero, yai hkl, qaf hkl, zax hkl, qai hkl]
    | refine Sp2.f ?_ ?_
    | refine Spl.f ?_ ?_ <;> intro hb
    | refine yac rfl (fun b hb => ?_)
    | refine zaa (U := [[], [], [], [], [], [], [], [], [], [], [], [], [], [], [], [], [], [], [], [], [], [], [], [], [], [], [], [], [], []]) (H := []) yae (by kernel_rfl) (by decide +kernel) (by kernel_rfl) ?_
    | refine zaa (U := [[], [], [], [], [], [], [], [], [], [], []]) (H := []) yae (by kernel_rfl) (by decide +kernel) (by kernel_rfl) ?_
    | refine qbh sp1 ?_)
    exact ⟨w1, p1⟩
  by_cases k5 : r.Kind = 5
  · simp only [k5, Int.reduceEq, reduceIte]
    obtain ⟨h', w1, p1, sp1⟩ := c_find true true ho hw2 hr w0
    repeat' (first
    | simp (implicitDefEqProofs := false) only [push_cast, reduceIte, reduceCtorEq, Nat.reduceAdd, Nat.reduceSub, Nat.reduceEqDiff, Nat.reduceLT, Nat.reduceLeDiff, Nat.reduceBEq, Nat.reduceMul, Int.reduceLT, Int.reduceLE, Int.reduceEq, Int.reduceToNat, Int.reduceMul, Int.reduceNeg, Go.Proofs.Try.f112, hd, hk, wkE, hkl, eQ, eFs, qbt, Int.reduceBEq, k5, zad, zae, qac, yad, yab, qad, sst, zac, qaa, yaa, zag, ybk, List.replicate_succ, List.drop_zero, yai hkl, qaf hkl, zax hkl, qai hkl]
    | refine Sp2.f ?_ ?_
    | refine Spl.f ?_ ?_ <;> intro hb
    | refine yac rfl (fun b hb => ?_)
    | refine zaa (U := [[], [], [], [], [], [], [], [], [], [], [], [], [], [], [], [], [], [], [], [], [], [], [], [], [], [], [], [], [], []]) (H := []) yae (by kernel_rfl) (by decide +kernel) (by kernel_rfl) ?_
    | refine zaa (U := [[], [], [], [], [], [], [], [], [], [], []]) (H := []) yae (by kernel_rfl) (by decide +kernel) (by kernel_rfl) ?_
    | refine qbh sp1 ?_)
    exact ⟨w1, p1⟩
  by_cases k6 : r.Kind = 6
  · simp only [k6, Int.reduceEq, reduceIte]
    by_cases hat : 0 ≤ qbl s r.P
    · have hge : decide ((0 : Int) ≤ qbl s r.P) = true := by simpa using hat
      simp only [if_pos hat]
      repeat' (first
    | simp (implicitDefEqProofs := false) only [push_cast, reduceIte, reduceCtorEq, Nat.reduceAdd, Nat.reduceSub, Nat.reduceEqDiff, Nat.reduceLT, Nat.reduceLeDiff, Nat.reduceBEq, Nat.reduceMul, Int.reduceLT, Int.reduceLE, Int.reduceEq, Int.reduceToNat, Int.reduceMul, Int.reduceNeg, Go.Proofs.Try.f112, hd, hge, hk, wkE, hkl, eQ, eFs, qbt, Int.reduceBEq, k6, zad, zae, qac, yad, yab, qad, sst, zac, qaa, yaa, zag, ybk, List.replicate_succ, List.drop_zero, yai hkl, qaf hkl, zax hkl, qai hkl]
    | refine Sp2.f ?_ ?_
    | refine Spl.f ?_ ?_ <;> intro hb
    | refine yac rfl (fun b hb => ?_)
    | refine zaa (U := [[], [], [], [], [], [], [], [], [], [], [], [], [], [], [], [], [], [], [], [], [], [], [], [], [], [], [], [], [], []]) (H := []) yae (by kernel_rfl) (by decide +kernel) (by kernel_rfl) ?_
    | refine zaa (U := [[], [], [], [], [], [], [], [], [], [], []]) (H := []) yae (by kernel_rfl) (by decide +kernel) (by kernel_rfl) ?_
    | refine qbh hfo ?_
    | refine ycv (qb1 3 [] (by simp) hr w0).n fun h1 w1 p1 => ?_)
      exact ⟨w1, p1⟩
    · have hge : decide ((0 : Int) ≤ qbl s r.P) = false := by simpa using hat
      simp only [if_neg hat]
      repeat' (first
    | simp (implicitDefEqProofs := false) only [push_cast, reduceIte, reduceCtorEq, Nat.reduceAdd, Nat.reduceSub, Nat.reduceEqDiff, Nat.reduceLT, Nat.reduceLeDiff, Nat.reduceBEq, Nat.reduceMul, Int.reduceLT, Int.reduceLE, Int.reduceEq, Int.reduceToNat, Int.reduceMul, Int.reduceNeg, Go.Proofs.Try.f112, hd, hge, hk, wkE, hkl, eQ, eFs, qbt, Int.reduceBEq, k6, zad, zae, qac, yad, yab, qad, sst, zac, qaa, yaa, zag, ybk, List.replicate_succ, List.drop_zero, yai hkl, qaf hkl, zax hkl, qai hkl]
    | refine Sp2.f ?_ ?_
    | refine Spl.f ?_ ?_ <;> intro hb
    | refine yac rfl (fun b hb => ?_)
    | refine zaa (U := [[], [], [], [], [], [], [], [], [], [], [], [], [], [], [], [], [], [], [], [], [], [], [], [], [], [], [], [], [], []]) (H := []) yae (by kernel_rfl) (by decide +kernel) (by kernel_rfl) ?_
    | refine zaa (U := [[], [], [], [], [], [], [], [], [], [], []]) (H := []) yae (by kernel_rfl) (by decide +kernel) (by kernel_rfl) ?_
    | refine qbh hfo ?_
    | refine ycv (args := []) (c_bring ho hr w0) fun h1 w1 p1 => ?_)
      exact ⟨w1, p1⟩
  by_cases k7 : r.Kind = 7
  · simp only [k7, Int.reduceEq, reduceIte]
    repeat' (first
    | simp (implicitDefEqProofs := false) only [push_cast, reduceIte, reduceCtorEq, Nat.reduceAdd, Nat.reduceSub, Nat.reduceEqDiff, Nat.reduceLT, Nat.reduceLeDiff, Nat.reduceBEq, Nat.reduceMul, Int.reduceLT, Int.reduceLE, Int.reduceEq, Int.reduceToNat, Int.reduceMul, Int.reduceNeg, Go.Proofs.Try.f112, hd, hk, wkE, hkl, eQ, eFs, qbt, Int.reduceBEq, k7, zad, zae, qac, yad, yab, qad, sst, zac, qaa, yaa, zag, ybk, List.replicate_succ, List.drop_zero, yai hkl, qaf hkl, zax hkl, qai hkl]
    | refine Sp2.f ?_ ?_
    | refine Spl.f ?_ ?_ <;> intro hb
    | refine yac rfl (fun b hb => ?_)
    | refine zaa (U := [[], [], [], [], [], [], [], [], [], [], [], [], [], [], [], [], [], [], [], [], [], [], [], [], [], [], [], [], [], []]) (H := []) yae (by kernel_rfl) (by decide +kernel) (by kernel_rfl) ?_
    | refine zaa (U := [[], [], [], [], [], [], [], [], [], [], []]) (H := []) yae (by kernel_rfl) (by decide +kernel) (by kernel_rfl) ?_
    | refine ycv (args := []) (c_turn ho hr w0) fun h1 w1 p1 => ?_)
    exact ⟨w1, p1⟩
  · simp only [k1, k2, k3, k4, k5, k6, k7, if_false]
    have f1 : (r.Kind == 1) = false := by simpa using k1
    have f2 : (r.Kind == 2) = false := by simpa using k2
    have f3 : (r.Kind == 3) = false := by simpa using k3
    have f4 : (r.Kind == 4) = false := by simpa using k4
    have f5 : (r.Kind == 5) = false := by simpa using k5
    have f6 : (r.Kind == 6) = false := by simpa using k6
    have f7 : (r.Kind == 7) = false := by simpa using k7
    repeat' (first
    | simp (implicitDefEqProofs := false) only [push_cast, reduceIte, reduceCtorEq, Nat.reduceAdd, Nat.reduceSub, Nat.reduceEqDiff, Nat.reduceLT, Nat.reduceLeDiff, Nat.reduceBEq, Nat.reduceMul, Int.reduceLT, Int.reduceLE, Int.reduceEq, Int.reduceToNat, Int.reduceMul, Int.reduceNeg, Go.Proofs.Try.f112, hd, hk, wkE, hkl, eQ, eFs, qbt, f1, f2, f3, f4, f5, f6, f7, zad, zae, qac, yad, yab, qad, sst, zac, qaa, yaa, zag, ybk, List.replicate_succ, List.drop_zero, yai hkl, qaf hkl, zax hkl, qai hkl]
    | refine Sp2.f ?_ ?_
    | refine Spl.f ?_ ?_ <;> intro hb
    | refine yac rfl (fun b hb => ?_)
    | refine zaa (U := [[], [], [], [], [], [], [], [], [], [], [], [], [], [], [], [], [], [], [], [], [], [], [], [], [], [], [], [], [], []]) (H := []) yae (by kernel_rfl) (by decide +kernel) (by kernel_rfl) ?_
    | refine zaa (U := [[], [], [], [], [], [], [], [], [], [], []]) (H := []) yae (by kernel_rfl) (by decide +kernel) (by kernel_rfl) ?_
    | refine ycv (qb1 1 [] (by simp) hr w0).n fun h1 w1 p1 => ?_)
    exact ⟨w1, p1⟩
end Go.Abs
