/- Gc: a part of the proofs about the tuple space and its bytes. -/
import Derived.Test.YtilfbkhbjkjicaaGs
import Derived.Test.YtilfbkhbjkjicaaGd
set_option linter.all false
set_option maxRecDepth 100000
set_option maxHeartbeats 0
namespace Go.Abs
open Go
open Go.Proofs.Try (prog)
/-! ### slices.Grow, slices.Concat -/
theorem c0N9 : ((0 : Nat) : Int) = 0 := rfl
/-- a row that is nil grows: nothing is in it, but there is room -/
theorem c_Grow0 (n : Nat) (hn : n ≤ 1000000000) (h : List Entry) : FSpec prog 155 [.nils, .int .i64 n] h fun r' h' => h'.take h.length = h ∧ View (fun j => h.length ≤ j) h' 5 r' [] := by
  have c0 : decide ((n : Int) < 0) = false := by simp
  have s0 : (0 : Int) - 0 = 0 := rfl
  have w0 : IntKind.wrap .i64 0 = 0 := rfl
  have w1 : IntKind.wrap .i64 ((n : Int) - 0) = n := by rw [Int.sub_zero]; exact i64_small (by omega) (by omega)
  have i00 : IntKind.i64.wrap (0 - IntKind.i64.wrap (0 - 0)) = 0 := rfl
  have d00 : decide ((0 : Int) < 0) = false := rfl
  have hso : isSliceOK prog 30 = true := by simp only [isSliceOK, sh_30, ok_5]
  refine frun_155 rfl ?_
  by_cases h0 : n = 0
  · subst h0
    repeat' (first
    | simp (implicitDefEqProofs := false) only [push_cast, reduceIte, reduceCtorEq, Nat.reduceAdd, Nat.reduceSub, Nat.reduceEqDiff, Nat.reduceLT, Nat.reduceLeDiff, Nat.reduceBEq, Nat.reduceMul, Int.reduceLT, Int.reduceLE, Int.reduceEq, Int.reduceToNat, Int.reduceMul, Int.reduceNeg, Go.Proofs.Try.f155, i00, d00, hso, c0N9, ap_lo, st_lo, st_ne, st_eq, len_st, st_st, sst, at_set, at_set0, at_set2, List.replicate_succ, List.drop_zero]
    | refine Sp2.f ?_ ?_
    | refine Spl.f ?_ ?_ <;> intro hb
    | refine rq_mk rfl (fun b hb => ?_))
    exact .nil
  · have c1 : decide ((0 : Int) < (n : Int)) = true := by simp; omega
    have e7 : decide (n ≤ 4294967296) = true := by simp; omega
    repeat' (first
    | simp (implicitDefEqProofs := false) only [push_cast, reduceIte, reduceCtorEq, Nat.reduceAdd, Nat.reduceSub, Nat.reduceEqDiff, Nat.reduceLT, Nat.reduceLeDiff, Nat.reduceBEq, Nat.reduceMul, Int.reduceLT, Int.reduceLE, Int.reduceEq, Int.reduceToNat, Int.reduceMul, Int.reduceNeg, Go.Proofs.Try.f155, c0, s0, w0, w1, c1, e7, hso, Int.toNat_natCast, ap_lo, st_lo, st_ne, st_eq, len_st, st_st, sst, at_set, at_set0, at_set2, List.replicate_succ, List.drop_zero]
    | refine Sp2.f ?_ ?_
    | refine Spl.f ?_ ?_ <;> intro hb
    | refine rq_mk rfl (fun b hb => ?_))
    all_goals first
      | omega
      | skip
    exact View.mk' (l := []) (List.replicate n (.int .u8 0)) (Nat.le_refl _) (get_at0 ..) rfl rfl
theorem tk_of9 {h H H6 : List Entry} {T : TypeId} (hT : H.take h.length = h) (hl : h.length ≤ H.length) (hk : ∀ j e, H[j]? = some e → (¬ h.length ≤ j ∨ e.T ≠ T) → H6[j]? = some e) : H6.take h.length = h := by
  refine tk_of (l := []) hT hl (T := T) fun j e he hc => ?_
  rw [List.append_nil] at he
  exact hk j e he hc
theorem c_Concat (ls : List (List UInt8)) (hn : ls.length ≤ 1000) (hl : ls.flatten.length ≤ 100000000) : Fn prog 134 [eKs ls] (eBs ls.flatten) := by
  refine pure_wk (R := fun r => r = eBs ls.flatten ∨ (ls.flatten = [] ∧ r = .nils)) 30 ?_ (fun r hr => ?_)
  rotate_left
  · rcases hr with rfl | ⟨e, rfl⟩
    · exact ⟨eBs_ty _, eBs_wk _⟩
    · exact ⟨by rw [ty_nils, sh_30]; rfl, by rw [wk_nils, sh_30, wkNil_slice, e]; rfl⟩
  refine run_134 rfl fun h => ?_
  have htl : ∀ i, ((ls.take i).flatten).length ≤ ls.flatten.length := fun i => by
    have : ls.flatten = (ls.take i).flatten ++ (ls.drop i).flatten := by rw [← List.flatten_append, List.take_append_drop]
    rw [this, List.length_append]; omega
  repeat' (first
    | simp (implicitDefEqProofs := false) only [push_cast, reduceIte, reduceCtorEq, Nat.reduceAdd, Nat.reduceSub, Nat.reduceEqDiff, Nat.reduceLT, Nat.reduceLeDiff, Nat.reduceBEq, Nat.reduceMul, Int.reduceLT, Int.reduceLE, Int.reduceEq, Int.reduceToNat, Int.reduceMul, Int.reduceNeg, Go.Proofs.Try.f134, eKs, List.length_map, ap_lo, st_lo, st_ne, st_eq, len_st, st_st, sst, at_set, at_set0, at_set2, List.replicate_succ, List.drop_zero]
    | refine Sp2.f ?_ ?_
    | refine Spl.f ?_ ?_ <;> intro hb
    | refine rq_mk rfl (fun b hb => ?_))
  refine rl_count (fun i a => [(0, .list 30 (ls.map eBs)), (2, .nils), (3, .int .i64 ((ls.take i).flatten.length)), (5, a 5), (6, a 6), (8, a 8), (9, .list 30 (ls.map eBs)), (10, .int .i64 ls.length), (11, .int .i64 i), (12, a 12), (20, a 20), (25, a 25), (26, a 26), (27, a 27), (28, a 28)]) (fun _ g => h ++ g) (fun i => i ≤ ls.length) ls.length (li_mk rfl ⟨[], (List.append_nil h).symm⟩ (Nat.zero_le _)) ?_
  rintro i a g hi
  refine ⟨hi, ?_⟩
  have hi1 := htl (i + 1)
  by_cases hlt : i < ls.length
  · obtain ⟨x, hx⟩ : ∃ x, ls[i]? = some x := ⟨_, List.getElem?_eq_getElem hlt⟩
    have hsn := congrArg List.length (flatten_snoc ls hx)
    rw [List.length_append] at hsn
    have hw : IntKind.wrap .i64 (((ls.take i).flatten.length : Int) + (x.length : Int)) = ((ls.take (i + 1)).flatten.length : Int) := by rw [i64_small (by omega) (by omega)]; omega
    have c0 : decide (((ls.take (i + 1)).flatten.length : Int) < 0) = false := by simp
    have gx := getD_map eBs hx
    have hL : stLen prog 30 (eBs x) = .ret (.int .i64 x.length) [] := by rw [eBs, stLen_list, List.length_map]; rfl
    repeat' (first
    | simp (implicitDefEqProofs := false) only [push_cast, reduceIte, reduceCtorEq, Nat.reduceAdd, Nat.reduceSub, Nat.reduceEqDiff, Nat.reduceLT, Nat.reduceLeDiff, Nat.reduceBEq, Nat.reduceMul, Int.reduceLT, Int.reduceLE, Int.reduceEq, Int.reduceToNat, Int.reduceMul, Int.reduceNeg, Go.Proofs.Try.f134, hw, c0, gx, hL, cast_lt hlt, in_row hlt, List.length_map, Int.toNat_natCast, wrap_succ (show i < 9223372036854775807 by omega), ap_lo, st_lo, st_ne, st_eq, len_st, st_st, sst, at_set, at_set0, at_set2, List.replicate_succ, List.drop_zero]
    | refine Sp2.f ?_ ?_
    | refine Spl.f ?_ ?_ <;> intro hb
    | refine rq_mk rfl (fun b hb => ?_)
    | refine li_mk ?_ ⟨_, rfl⟩ ?_)
    all_goals first
      | rfl
      | exact hlt
  · have hie : i = ls.length := by omega
    subst hie
    rw [List.take_length]
    have hg := c_Grow0 ls.flatten.length (by omega) (h ++ g)
    repeat' (first
    | simp (implicitDefEqProofs := false) only [push_cast, reduceIte, reduceCtorEq, Nat.reduceAdd, Nat.reduceSub, Nat.reduceEqDiff, Nat.reduceLT, Nat.reduceLeDiff, Nat.reduceBEq, Nat.reduceMul, Int.reduceLT, Int.reduceLE, Int.reduceEq, Int.reduceToNat, Int.reduceMul, Int.reduceNeg, Go.Proofs.Try.f134, cast_ge hlt, List.length_map, ap_lo, st_lo, st_ne, st_eq, len_st, st_st, sst, at_set, at_set0, at_set2, List.replicate_succ, List.drop_zero]
    | refine Sp2.f ?_ ?_
    | refine Spl.f ?_ ?_ <;> intro hb
    | refine rq_mk rfl (fun b hb => ?_))
    refine Or.inr (hg.mono fun v H hP => ?_)
    obtain ⟨hT0, hv0⟩ := hP
    have hT : H.take h.length = h := by
      have := congrArg (List.take h.length) hT0
      rw [List.take_take, Nat.min_eq_left (by simp)] at this
      simpa using this
    have hv := hv0.up (Y := fun j => h.length ≤ j) fun j hj => by simp at hj; omega
    repeat' (first
    | simp (implicitDefEqProofs := false) only [push_cast, reduceIte, reduceCtorEq, Nat.reduceAdd, Nat.reduceSub, Nat.reduceEqDiff, Nat.reduceLT, Nat.reduceLeDiff, Nat.reduceBEq, Nat.reduceMul, Int.reduceLT, Int.reduceLE, Int.reduceEq, Int.reduceToNat, Int.reduceMul, Int.reduceNeg, Go.Proofs.Try.f134, List.length_map, hv.ty sh_30, hv.pl, ap_lo, st_lo, st_ne, st_eq, len_st, st_st, sst, at_set, at_set0, at_set2, List.replicate_succ, List.drop_zero]
    | refine Sp2.f ?_ ?_
    | refine Spl.f ?_ ?_ <;> intro hb
    | refine rq_mk rfl (fun b hb => ?_))
    refine rl_gen (fun i env' H => i ≤ ls.length ∧ H.take h.length = h ∧ ∃ v, View (fun j => h.length ≤ j) H 5 v ((ls.take i).flatten.map eB) ∧ env' = (fun a : Nat → AV => [(0, a 0), (2, .nils), (3, a 3), (5, a 5), (6, v), (8, a 8), (9, a 9), (10, a 10), (11, a 11), (12, a 12), (20, a 20), (25, .list 30 (ls.map eBs)), (26, .int .i64 ls.length), (27, .int .i64 (i : Int)), (28, a 28)]) (lk env')) ls.length ⟨Nat.zero_le _, hT, v, hv, rfl⟩ ?_
    clear hT hv hg hi1 hi hlt hT0 hv0
    clear H v a g
    rintro i env H ⟨hi, hT, v, hv, henv⟩
    refine ⟨hi, ?_⟩
    rw [henv]
    generalize lk env = a
    clear henv env
    have hHl : h.length ≤ H.length := by have := congrArg List.length hT; simp at this; omega
    have hi1 := htl (i + 1)
    have hla := hv.lenAV
    rw [List.length_map] at hla
    by_cases hlt : i < ls.length
    · obtain ⟨x, hx⟩ : ∃ x, ls[i]? = some x := ⟨_, List.getElem?_eq_getElem hlt⟩
      have hsn := flatten_snoc ls hx
      have hsl := congrArg List.length hsn
      rw [List.length_append] at hsl
      have gx : (ls.map eBs).getD i .junk = .list 5 (x.map eB) := getD_map eBs hx
      have c7 : decide ((ls.take i).flatten.length + x.length ≤ 4294967296) = true := decide_eq_true (by omega)
      obtain ⟨v6, H6, hv6, hl6, hk6, hgo⟩ := rh_apps (x.map eB) hv
      repeat' (first
    | simp (implicitDefEqProofs := false) only [push_cast, reduceIte, reduceCtorEq, Nat.reduceAdd, Nat.reduceSub, Nat.reduceEqDiff, Nat.reduceLT, Nat.reduceLeDiff, Nat.reduceBEq, Nat.reduceMul, Int.reduceLT, Int.reduceLE, Int.reduceEq, Int.reduceToNat, Int.reduceMul, Int.reduceNeg, Go.Proofs.Try.f134, gx, hla, c7, cast_lt hlt, in_row hlt, List.length_map, Int.toNat_natCast, wrap_succ (show i < 9223372036854775807 by omega), ap_lo, st_lo, st_ne, st_eq, len_st, st_st, sst, at_set, at_set0, at_set2, List.replicate_succ, List.drop_zero]
    | refine Sp2.f ?_ ?_
    | refine Spl.f ?_ ?_ <;> intro hb
    | refine rq_mk rfl (fun b hb => ?_)
    | refine hgo _ _ _ _ ?_)
      all_goals first
        | omega
        | skip
      refine ⟨hlt, tk_of9 hT hHl hk6, v6, ?_, rfl⟩
      rw [hsn, List.map_append]
      exact hv6.up fun j hj => hj.elim id fun a => by have := a.1; omega
    · have hie : i = ls.length := by omega
      subst hie
      rw [List.take_length] at hv
      have hz := hv.rz (n := h.length) (fun j hj => hj) (datL_map eB eB_dat _)
      repeat' (first
    | simp (implicitDefEqProofs := false) only [push_cast, reduceIte, reduceCtorEq, Nat.reduceAdd, Nat.reduceSub, Nat.reduceEqDiff, Nat.reduceLT, Nat.reduceLeDiff, Nat.reduceBEq, Nat.reduceMul, Int.reduceLT, Int.reduceLE, Int.reduceEq, Int.reduceToNat, Int.reduceMul, Int.reduceNeg, Go.Proofs.Try.f134, cast_ge hlt, hv.ty sh_30, hv.pl, hT, ap_lo, st_lo, st_ne, st_eq, len_st, st_st, sst, at_set, at_set0, at_set2, List.replicate_succ, List.drop_zero]
    | refine Sp2.f ?_ ?_
    | refine Spl.f ?_ ?_ <;> intro hb
    | refine rq_mk rfl (fun b hb => ?_))
      rcases hz with e | ⟨e0, e⟩
      · exact res_full hv.pl (by rw [e]; exact dat_below _ (eBs_dat ls.flatten)) (.inl e)
      · exact res_full hv.pl (by rw [e]; rfl) (.inr ⟨List.map_eq_nil_iff.1 e0, e⟩)

end Go.Abs
