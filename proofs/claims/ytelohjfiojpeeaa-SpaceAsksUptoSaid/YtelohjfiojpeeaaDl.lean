/- Dl: a part of the proofs about the tuple space (layer 8). -/
import Derived.Test.YtelohjfiojpeeaaWk6
set_option linter.all false
set_option maxRecDepth 100000
set_option maxHeartbeats 0
namespace Go.Abs
open Go
open Go.Proofs.Try (prog)
/-! ### slices.DeleteFunc -/
def expd (now : Int) (x : Itm) : Bool := x.Until != 0 && decide (x.Until ≤ now)
theorem c_Do1 (x : Itm) (now : Int) : Fn prog 39 [eI x, .eref 3 (.int .i64 now)] (.bool (expd now x)) := by
  refine run_39 rfl fun h => ?_
  repeat' (first
    | simp (implicitDefEqProofs := false) only [push_cast, reduceIte, reduceCtorEq, Nat.reduceAdd, Nat.reduceSub, Nat.reduceEqDiff, Nat.reduceLT, Nat.reduceLeDiff, Nat.reduceBEq, Nat.reduceMul, Int.reduceLT, Int.reduceLE, Int.reduceEq, Int.reduceToNat, Int.reduceMul, Int.reduceNeg, Go.Proofs.Try.f39, eI]
    | refine Sp2.f ?_ ?_
    | refine Spl.f ?_ ?_ <;> intro hb
    | refine rq_mk rfl (fun b hb => ?_))
  all_goals grind [expd]
def live (now : Int) (l : List Itm) : List Itm := l.filter fun x => !expd now x
theorem live_step {now : Int} {l : List Itm} {i : Nat} {x : Itm} (hx : l[i]? = some x) : live now (l.take (i + 1)) = live now (l.take i) ++ if expd now x = true then [] else [x] := by
  rw [live, List.take_add_one, hx, Option.toList_some, List.filter_append]
  cases h : expd now x <;> simp [live, h]
theorem fidx_none' {α : Type} {p : α → Bool} {l : List α} (h : fidx p l = -1) : ∀ x ∈ l, p x = false := by
  unfold fidx at h
  cases hf : l.findIdx? p with
  | none => rw [List.findIdx?_eq_none_iff] at hf; intro x hx; simpa using hf x hx
  | some j => rw [hf] at h; simp at h
theorem fidx_at {α : Type} {p : α → Bool} {l : List α} {i : Nat} (h : fidx p l = (i : Int)) : ∃ x, l[i]? = some x ∧ p x = true ∧ ∀ y ∈ l.take i, p y = false := by
  unfold fidx at h
  cases hf : l.findIdx? p with
  | none => rw [hf] at h; simp at h
  | some j =>
    rw [hf] at h
    have hij : j = i := by simp at h; omega
    subst hij
    rw [List.findIdx?_eq_some_iff_getElem] at hf
    obtain ⟨hj, hp, hb⟩ := hf
    refine ⟨l[j], List.getElem?_eq_getElem hj, hp, fun y hy => ?_⟩
    obtain ⟨k, hk, rfl⟩ := List.getElem_of_mem hy
    simp only [List.length_take] at hk
    simp only [List.getElem_take]
    simpa using hb k (by omega)
theorem fidx_cases {α : Type} (p : α → Bool) (l : List α) : fidx p l = -1 ∨ ∃ i : Nat, fidx p l = i ∧ i < l.length := by
  by_cases h : 0 ≤ fidx p l
  · obtain ⟨i, x, hi, _, hl, _⟩ := fidx_get h
    exact .inr ⟨i, hi, hl⟩
  · left
    unfold fidx at h ⊢
    cases hf : l.findIdx? p with
    | none => rfl
    | some j => rw [hf] at h; simp at h
theorem set_same {h : List Entry} {k : Nat} {e : Entry} (hk : h[k]? = some e) : h.set k e = h := by
  apply List.ext_getElem?
  intro j
  by_cases hj : k = j
  · subst hj; rw [List.getElem?_set_self (lt_some hk), hk]
  · rw [List.getElem?_set_ne hj]
theorem bw_cap {h : List Entry} {kn : Nat} {now : Int} (hn : h[kn]? = some ⟨3, [.int .i64 now], .own⟩) (n : Nat) : bw h (n + 3) (.fn 39 [.ref kn [0] 3]) = .fn 39 [.eref 3 (.int .i64 now)] := by
  simp only [bw_fnE, List.map_cons, List.map_nil, bw_refE, hn, bwRef_own, getE, List.getElem?_cons_zero, getP, bwRefO_some]; rfl
theorem bw_cap1 {h : List Entry} {kn : Nat} {now : Int} (hn : h[kn]? = some ⟨3, [.int .i64 now], .own⟩) (n : Nat) : bw h (n + 2) (.ref kn [0] 3) = .eref 3 (.int .i64 now) := by
  simp only [bw_refE, hn, bwRef_own, getE, List.getElem?_cons_zero, getP, bwRefO_some]; rfl
theorem bw_row {h : List Entry} {ki lo : Nat} {l z : List AV} (hk : h[ki]? = some ⟨74, l ++ z, .own⟩) (hd : datL l = true) (n : Nat) : bw h (n + 1) (.win ki [] 74 0 l.length lo) = .list 74 l := by
  rw [bw_winE, hk, bwWin_own]
  have : winGet (l ++ z) [] 0 l.length = some l := by simp [winGet]
  rw [this, bwWinO_some, datL_bw l n hd]
/-- a round of the deleting loop -/
def DI (h : List Entry) (ki : Nat) (now : Int) (l : List Itm) (z : List AV) (E : Nat → Nat → (Nat → AV) → Env) (j0 j : Nat) (env : Env) (hh : List Entry) : Prop :=
  ∃ b B g, hh = h.set ki ⟨74, (live now (l.take (j0 + j))).map eI ++ (b :: (B ++ ((l.drop (j0 + j)).map eI ++ z))), .own⟩ ++ g ∧ (live now (l.take (j0 + j))).length + (B.length + 1) = j0 + j ∧ j0 + j ≤ l.length ∧ env = E (live now (l.take (j0 + j))).length (j0 + j) (lk env)
theorem di_mk {h : List Entry} {ki : Nat} {now : Int} {l : List Itm} {z : List AV} {E : Nat → Nat → (Nat → AV) → Env} {j0 j : Nat} {env : Env} {hh : List Entry} (b : AV) (B : List AV) (g : List Entry)
    (h1 : hh = h.set ki ⟨74, (live now (l.take (j0 + j))).map eI ++ (b :: (B ++ ((l.drop (j0 + j)).map eI ++ z))), .own⟩ ++ g) (h2 : (live now (l.take (j0 + j))).length + (B.length + 1) = j0 + j) (h3 : j0 + j ≤ l.length)
    (h4 : env = E (live now (l.take (j0 + j))).length (j0 + j) (lk env)) : DI h ki now l z E j0 j env hh := ⟨b, B, g, h1, h2, h3, h4⟩
theorem c_DeleteFunc {X : Nat → Prop} {h : List Entry} {v : AV} {l : List Itm} {kn : Nat} {now : Int} (hl : l.length ≤ 4294967296) (hv : View X h 74 v (l.map eI)) (hb : ∀ j, X j → j < h.length) (hn : h[kn]? = some ⟨3, [.int .i64 now], .own⟩) (hx : ¬ X kn) :
    FSpec prog 37 [v, .fn 39 [.ref kn [0] 3]] h fun r h' => Keeps X h h' ∧ View (grow X h h') h' 74 r ((live now l).map eI) := by
  have hif := c_IndexFunc_Item eI l (g := 39) (caps := [.eref 3 (.int .i64 now)]) (expd now) hl eI_ty eI_pl eI_wk fun x _ => c_Do1 x now
  refine frun_37 rfl ?_
  have hnl := lt_some hn
  rcases fidx_cases (expd now) l with hm1 | ⟨i, hi, hil⟩
  · have hall := fidx_none' hm1
    have hlive : live now l = l := by rw [live, List.filter_eq_self]; intro x hx; simp [hall x hx]
    have hq : ((-1 : Int) == -1) = true := rfl
    rw [hm1] at hif
    rw [hlive]
    have hdl := datL_map eI eI_dat l
    have hbel : belowL 0 (l.map eI) = true := datL_below _ hdl
    generalize hlm : l.map eI = lm at hv hif hdl hbel
    cases hv with
    | nil =>
      repeat' (first
    | simp (implicitDefEqProofs := false) only [push_cast, reduceIte, reduceCtorEq, Nat.reduceAdd, Nat.reduceSub, Nat.reduceEqDiff, Nat.reduceLT, Nat.reduceLeDiff, Nat.reduceBEq, Nat.reduceMul, Int.reduceLT, Int.reduceLE, Int.reduceEq, Int.reduceToNat, Int.reduceMul, Int.reduceNeg, Go.Proofs.Try.f37, hq]
    | refine Sp2.f ?_ ?_
    | refine Spl.f ?_ ?_ <;> intro hb
    | refine rq_mk rfl (fun b hb => ?_)
    | refine k_borrow wfp (args' := [.list 74 [], .fn 39 [.eref 3 (.int .i64 now)]]) ?_ hif ?_ rfl ?_)
      · simp only [bw_cap hn 5]; rfl
      · rfl
      · exact ⟨.refl _ _, .nil⟩
    | @win ki lo _ z hxi hki =>
      repeat' (first
    | simp (implicitDefEqProofs := false) only [push_cast, reduceIte, reduceCtorEq, Nat.reduceAdd, Nat.reduceSub, Nat.reduceEqDiff, Nat.reduceLT, Nat.reduceLeDiff, Nat.reduceBEq, Nat.reduceMul, Int.reduceLT, Int.reduceLE, Int.reduceEq, Int.reduceToNat, Int.reduceMul, Int.reduceNeg, Go.Proofs.Try.f37, hq]
    | refine Sp2.f ?_ ?_
    | refine Spl.f ?_ ?_ <;> intro hb
    | refine rq_mk rfl (fun b hb => ?_)
    | refine k_borrow wfp (args' := [.list 74 lm, .fn 39 [.eref 3 (.int .i64 now)]]) ?_ hif ?_ rfl ?_)
      · simp only [bw_cap hn 5, bw_row hki hdl 7]
      · simp [below, belowL, hbel]
      · exact ⟨.refl _ _, by rw [grow_self]; exact .win hxi hki⟩
  · obtain ⟨x0, hx0, hp0, hbef⟩ := fidx_at hi
    have hdl := datL_map eI eI_dat l
    have hbel : belowL 0 (l.map eI) = true := datL_below _ hdl
    have hll : (l.map eI).length = l.length := by simp
    have hq : ((i : Int) == -1) = false := by simp
    have hi9 : i < 9223372036854775807 := by omega
    rw [hi] at hif
    have hlv : live now (l.take (i + 1)) = l.take i := by
      rw [live_step hx0, if_pos hp0, List.append_nil, live, List.filter_eq_self]
      intro y hy; simp [hbef y hy]
    have hsplit : ∀ z, l.map eI ++ z = (live now (l.take (i + 1))).map eI ++ (eI x0 :: ([] ++ ((l.drop (i + 1)).map eI ++ z))) := by
      intro z
      rw [hlv]
      conv => lhs; rw [← List.take_append_drop i l, List.drop_eq_getElem_cons hil]
      have : l[i] = x0 := by rw [List.getElem?_eq_getElem hil] at hx0; exact Option.some.inj hx0
      simp [this]
    generalize hlm : l.map eI = lm at hv hif hdl hbel hll hsplit
    cases hv with
    | nil => simp at hll; omega
    | @win ki lo _ z hxi hki =>
      have hkil := lt_some hki
      have hne : ki ≠ kn := by rintro rfl; exact hx hxi
      have hes := hsplit z
      repeat' (first
    | simp (implicitDefEqProofs := false) only [push_cast, reduceIte, reduceCtorEq, Nat.reduceAdd, Nat.reduceSub, Nat.reduceEqDiff, Nat.reduceLT, Nat.reduceLeDiff, Nat.reduceBEq, Nat.reduceMul, Int.reduceLT, Int.reduceLE, Int.reduceEq, Int.reduceToNat, Int.reduceMul, Int.reduceNeg, Go.Proofs.Try.f37, hq, wrap_succ hi9]
    | refine Sp2.f ?_ ?_
    | refine Spl.f ?_ ?_ <;> intro hb
    | refine rq_mk rfl (fun b hb => ?_)
    | refine k_borrow wfp (args' := [.list 74 lm, .fn 39 [.eref 3 (.int .i64 now)]]) ?_ hif ?_ rfl ?_)
      · simp only [bw_cap hn 5, bw_row hki hdl 7]
      · simp [below, belowL, hbel]
      refine rl_gen (DI h ki now l z (fun n m a => [(0, .win ki [] 74 0 lm.length lo), (1, .fn 39 [.ref kn [0] 3]), (4, .nils), (5, .int .i64 n), (6, .int .i64 m), (7, a 7), (12, a 12), (19, a 19), (29, a 29)]) (i + 1)) (l.length - (i + 1)) (di_mk (eI x0) [] [] (by rw [Nat.add_zero, ← hes, List.append_nil, set_same hki]) (by rw [Nat.add_zero, hlv]; simp; omega) (by omega) (by rw [Nat.add_zero, hlv]; simp only [List.length_take]; rw [Nat.min_eq_left (by omega)]; rfl)) ?_
      rintro j env hh ⟨b, B, g, rfl, hlen, hjl, henv⟩
      refine ⟨by omega, ?_⟩
      rw [henv]
      generalize lk env = a
      clear henv env
      generalize hm : i + 1 + j = m at hlen hjl ⊢
      generalize hA : (live now (l.take (m))).map eI = A
      have hAl : A.length = (live now (l.take (m))).length := by rw [← hA]; simp
      rw [← hAl] at hlen ⊢
      by_cases hlt : m < l.length
      · obtain ⟨x, hx⟩ : ∃ x, l[m]? = some x := ⟨_, List.getElem?_eq_getElem hlt⟩
        have hdr : l.drop (m) = x :: l.drop (m + 1) := by
          rw [List.drop_eq_getElem_cons hlt]
          rw [List.getElem?_eq_getElem hlt] at hx
          rw [Option.some.inj hx]
        simp only [hdr, List.map_cons, List.cons_append]
        have hgx : (A ++ (b :: (B ++ (eI x :: ((l.drop (m + 1)).map eI ++ z)))))[m]? = some (eI x) := by
          rw [← hlen, List.getElem?_append_right (by omega), show A.length + (B.length + 1) - A.length = B.length + 1 by omega, List.getElem?_cons_succ, List.getElem?_append_right (Nat.le_refl _), Nat.sub_self]; rfl
        have hcl : decide (((m : Nat) : Int) < (lm.length : Int)) = true := cast_lt (by omega)
        have hir : (0 ≤ ((m : Nat) : Int) ∧ ((m : Nat) : Int) < (lm.length : Int)) = True := in_row (by omega)
        have hia : (0 ≤ ((A.length : Nat) : Int) ∧ ((A.length : Nat) : Int) < (lm.length : Int)) = True := in_row (by omega)
        have hj9 : m < 9223372036854775807 := by omega
        have hA9 : A.length < 9223372036854775807 := by omega
        have hnn : ∀ E g, (h.set ki E ++ g)[kn]? = some ⟨3, [.int .i64 now], .own⟩ := fun E g => by rw [ap_lo (by simpa using hnl), st_ne hne, hn]
        generalize hD : (l.drop (m + 1)).map eI ++ z = D at hgx
        have hga : (A ++ (b :: (B ++ (eI x :: D))))[A.length]? = some b := by rw [List.getElem?_append_right (Nat.le_refl _), Nat.sub_self]; rfl
        have hsa : (A ++ (b :: (B ++ (eI x :: D)))).set A.length (eI x) = A ++ (eI x :: (B ++ (eI x :: D))) := by rw [List.set_append_right _ _ (Nat.le_refl _), Nat.sub_self]; rfl
        have hst := live_step (now := now) hx
        by_cases hp : expd now x = true
        · rw [if_pos hp, List.append_nil] at hst
          repeat' (first
    | simp (implicitDefEqProofs := false) only [push_cast, reduceIte, reduceCtorEq, Nat.reduceAdd, Nat.reduceSub, Nat.reduceEqDiff, Nat.reduceLT, Nat.reduceLeDiff, Nat.reduceBEq, Nat.reduceMul, Int.reduceLT, Int.reduceLE, Int.reduceEq, Int.reduceToNat, Int.reduceMul, Int.reduceNeg, Go.Proofs.Try.f37, eI_ty, eI_wk, eI_pl, hgx, hcl, hir, hp, hkil, wrap_succ hj9, Int.toNat_natCast, ap_lo, st_lo, st_ne, st_eq, len_st, st_st, sst, at_set, at_set0, at_set2, at_set20, sst2, List.replicate_succ, List.drop_zero, ne_hi hkil, ne_hi' hkil, ne_h hkil, ne_h' hkil]
    | refine Sp2.f ?_ ?_
    | refine Spl.f ?_ ?_ <;> intro hb
    | refine rq_mk rfl (fun b hb => ?_)
    | refine k_borrow wfp (args' := [eI x, .eref 3 (.int .i64 now)]) ?_ (c_Do1 x now) ?_ rfl ?_)
          · exact congr (congrArg List.cons (dat_bw (eI x) 8 (eI_dat x))) (congr (congrArg List.cons (bw_cap1 (hnn _ _) 6)) rfl)
          · simp only [dat_below (n := 0) _ (eI_dat x)]; rfl
          refine di_mk b (B ++ [eI x]) _ (by rw [show i + 1 + (j + 1) = m + 1 by omega, hst, hA, hD, List.append_assoc]; rfl) (by rw [show i + 1 + (j + 1) = m + 1 by omega, hst, ← hAl]; simp; omega) (by omega) (by rw [show i + 1 + (j + 1) = m + 1 by omega, hst, ← hAl]; rfl)
        · rw [if_neg hp] at hst
          have hp : expd now x = false := by simpa using hp
          have hA2 : (live now (l.take (m + 1))).map eI = A ++ [eI x] := by rw [hst, List.map_append, hA]; rfl
          have hAl2 : (live now (l.take (m + 1))).length = A.length + 1 := by rw [hst, List.length_append, ← hAl]; rfl
          repeat' (first
    | simp (implicitDefEqProofs := false) only [push_cast, reduceIte, reduceCtorEq, Nat.reduceAdd, Nat.reduceSub, Nat.reduceEqDiff, Nat.reduceLT, Nat.reduceLeDiff, Nat.reduceBEq, Nat.reduceMul, Int.reduceLT, Int.reduceLE, Int.reduceEq, Int.reduceToNat, Int.reduceMul, Int.reduceNeg, Go.Proofs.Try.f37, eI_ty, eI_wk, eI_pl, hgx, hcl, hir, hia, hga, hsa, hp, hkil, wrap_succ hj9, wrap_succ hA9, Int.toNat_natCast, ap_lo, st_lo, st_ne, st_eq, len_st, st_st, sst, at_set, at_set0, at_set2, at_set20, sst2, List.replicate_succ, List.drop_zero, ne_hi hkil, ne_hi' hkil, ne_h hkil, ne_h' hkil]
    | refine Sp2.f ?_ ?_
    | refine Spl.f ?_ ?_ <;> intro hb
    | refine rq_mk rfl (fun b hb => ?_)
    | refine k_borrow wfp (args' := [eI x, .eref 3 (.int .i64 now)]) ?_ (c_Do1 x now) ?_ rfl ?_)
          · exact congr (congrArg List.cons (dat_bw (eI x) 8 (eI_dat x))) (congr (congrArg List.cons (bw_cap1 (hnn _ _) 6)) rfl)
          · simp only [dat_below (n := 0) _ (eI_dat x)]; rfl
          have hBB : ∃ b' B', B ++ (eI x :: D) = b' :: (B' ++ D) ∧ B'.length = B.length := by
            cases B with
            | nil => exact ⟨eI x, [], rfl, rfl⟩
            | cons b1 B1 => exact ⟨b1, B1 ++ [eI x], by simp, by simp⟩
          obtain ⟨b', B', hB1, hB2⟩ := hBB
          refine di_mk b' B' _ (by rw [show i + 1 + (j + 1) = m + 1 by omega, hA2, hD, ← hB1, List.append_assoc]; rfl) (by rw [show i + 1 + (j + 1) = m + 1 by omega, hAl2]; omega) (by omega) (by rw [show i + 1 + (j + 1) = m + 1 by omega, hAl2]; rfl)
      · have hjn : m = l.length := by omega
        have hcl : decide (((m : Nat) : Int) < (lm.length : Int)) = false := cast_ge (by omega)
        have hdr : l.drop (m) = [] := List.drop_eq_nil_of_le (by omega)
        have htl : l.take (m) = l := List.take_of_length_le (by omega)
        rw [htl] at hA
        simp only [hdr, List.map_nil, List.nil_append]
        have htk : (A ++ (b :: (B ++ z))).take A.length = A := by simp
        have hdz : (A ++ (b :: (B ++ z))).drop (A.length + (lm.length - A.length)) = z := by
          rw [show A.length + (lm.length - A.length) = A.length + (B.length + 1) by omega, List.drop_append, List.drop_eq_nil_of_le (by omega), List.nil_append, show A.length + (B.length + 1) - A.length = B.length + 1 by omega, List.drop_succ_cons, List.drop_append]
          simp
        repeat' (first
    | simp (implicitDefEqProofs := false) only [push_cast, reduceIte, reduceCtorEq, Nat.reduceAdd, Nat.reduceSub, Nat.reduceEqDiff, Nat.reduceLT, Nat.reduceLeDiff, Nat.reduceBEq, Nat.reduceMul, Int.reduceLT, Int.reduceLE, Int.reduceEq, Int.reduceToNat, Int.reduceMul, Int.reduceNeg, Go.Proofs.Try.f37, hcl, htk, hdz, hkil, Int.toNat_natCast, Nat.sub_zero, ap_lo, st_lo, st_ne, st_eq, len_st, st_st, sst, at_set, at_set0, at_set2, at_set20, sst2, List.replicate_succ, List.drop_zero, ne_hi hkil, ne_hi' hkil, ne_h hkil, ne_h' hkil]
    | refine Sp2.f ?_ ?_
    | refine Spl.f ?_ ?_ <;> intro hb
    | refine rq_mk rfl (fun b hb => ?_))
        all_goals first
          | omega
          | (simp; omega)
          | skip
        refine ⟨Keeps.sets hxi _ _, ?_⟩
        rw [hA]
        exact View.win' _ (.inl hxi) (by rw [ap_lo (by simpa using hkil), st_eq hkil]) rfl rfl

end Go.Abs
