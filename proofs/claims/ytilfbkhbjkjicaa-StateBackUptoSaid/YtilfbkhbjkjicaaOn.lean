/- On: a part of the proofs about the tuple space and its bytes. -/
import Derived.Test.YtilfbkhbjkjicaaSy
import Derived.Test.YtilfbkhbjkjicaaF8
import Derived.Test.YtilfbkhbjkjicaaPz
set_option linter.all false
set_option maxRecDepth 100000
set_option maxHeartbeats 0
namespace Go.Abs
open Go
open Go.Proofs.Try (prog)
/-! ### StateOne -/
theorem ba_data (a b : ByteArray) : (a == b) = (a.data == b.data) := rfl
theorem ba_eq {a b : ByteArray} (h : (a == b) = true) : a = b := by
  rw [ba_data, beq_iff_eq] at h
  cases a; cases b; simp_all
theorem fld_same {x y : Fld} (h : x.same y = true) : x = y := by
  simp only [Fld.same, Bool.and_eq_true] at h
  obtain ⟨h1, h2, h3⟩ := h
  have h1 := eq_of_beq h1
  have h2 := eq_of_beq h2
  have h3 := ba_eq h3
  cases x; cases y; simp_all
theorem all2_eq {α : Type} {p : α → α → Bool} (hp : ∀ x y, p x y = true → x = y) : ∀ {l m : List α}, all2 p l m = true → l = m
  | [], [], _ => rfl
  | [], _ :: _, h => by simp [all2] at h
  | _ :: _, [], h => by simp [all2] at h
  | x :: l, y :: m, h => by
    simp only [all2, Bool.and_eq_true] at h
    rw [hp x y h.1, all2_eq hp h.2]
theorem sameT_eq {l m : List Fld} (h : sameT l m = true) : l = m := all2_eq (fun _ _ => fld_same) h
theorem sameS_eq {s t : Spc} (h : sameS s t = true) : s = t := by
  simp only [sameS, Bool.and_eq_true, beq_iff_eq] at h
  obtain ⟨h1, h2, h3, h4, h5, h6⟩ := h
  have i : s.Items = t.Items := all2_eq (fun x y h => by
    simp only [smI, Bool.and_eq_true, beq_iff_eq] at h
    obtain ⟨a, b, c⟩ := h
    have c := sameT_eq c
    cases x; cases y; simp_all) h4
  have w : s.Waiters = t.Waiters := all2_eq (fun x y h => by
    simp only [smW, Bool.and_eq_true, beq_iff_eq] at h
    obtain ⟨a, b, c, d⟩ := h
    have d := sameT_eq d
    cases x; cases y; simp_all) h5
  have l : s.Last = t.Last := all2_eq (fun x y h => by
    simp only [smR, Bool.and_eq_true, beq_iff_eq] at h
    obtain ⟨a, b, c, d, e⟩ := h
    have e := sameT_eq e
    cases x; cases y; simp_all) h6
  cases s; cases t; simp_all
theorem put_same {s t : Spc} (hs : mayS s = true) (ht : mayS t = true) (is : s.In) (it : t.In) : (putS s == putS t) = sameS s t := by
  cases h : sameS s t with
  | true => rw [sameS_eq h]; simp
  | false =>
    rw [beq_eq_false_iff_ne]
    intro e
    have a := getS_put hs is
    rw [e, getS_put ht it] at a
    cases a
    rw [sameS_rfl] at h
    cases h
theorem strA_eB' : ∀ l : List UInt8, l.map (fun x => u8A (eB x)) = l
  | [] => rfl
  | x :: l => by
    rw [List.map_cons, strA_eB' l]
    simp [u8A, eB]
theorem strA_map (l : List UInt8) : strA (l.map eB) = ⟨l.toArray⟩ := by
  have := strA_eB' l
  rw [strA, List.map_map]
  exact congrArg (fun x => (⟨x.toArray⟩ : ByteArray)) this
theorem str_same (a b : List UInt8) : (strA (a.map eB) == strA (b.map eB)) = (a == b) := by
  rw [strA_map, strA_map, ba_data]
  by_cases h : a = b
  · subst h; simp
  · have e1 : (a == b) = false := by simpa using h
    rw [e1, beq_eq_false_iff_ne]
    intro e
    apply h
    simpa using e
theorem conv_str (a : List UInt8) : stConv prog 30 9 (eBs a) = .ret (.str (strA (a.map eB))) [] := by
  rw [eBs, stConv_list, if_pos ⟨sh_30, sh_5, sh_9⟩]
theorem c_StateOne (s t : Spc) (hs : s.Small) (ht : t.Small) (is : s.In) (it : t.In) : Fn prog 4 [eS s, eS t] (.bool true) := by
  refine run_4 rfl fun h => ?_
  have b00 : ((0 : Int) != 0) = false := rfl
  have e00 : ((0 : Int) == 0) = true := rfl
  have f1 := c_Few8 s hs
  have f2 := c_Few8 t ht
  have m1 := c_MaySpace6 s hs
  have m2 := c_MaySpace6 t ht
  rw [mayM6_eq] at m1 m2
  cases hf1 : fewS s with
  | false =>
    rw [hf1] at f1
    repeat' (first
    | simp (implicitDefEqProofs := false) only [push_cast, reduceIte, reduceCtorEq, Nat.reduceAdd, Nat.reduceSub, Nat.reduceEqDiff, Nat.reduceLT, Nat.reduceLeDiff, Nat.reduceBEq, Nat.reduceMul, Int.reduceLT, Int.reduceLE, Int.reduceEq, Int.reduceToNat, Int.reduceMul, Int.reduceNeg, Go.Proofs.Try.f4, eS_ty, eS_pl, eS_wk, ap_lo, st_lo, st_ne, st_eq, len_st, st_st, sst, at_set, at_set0, at_set2, at_set20, sst2, List.replicate_succ, List.drop_zero]
    | refine Sp2.f ?_ ?_
    | refine Spl.f ?_ ?_ <;> intro hb
    | refine rq_mk rfl (fun b hb => ?_)
    | refine r_draw (U := [[], [], [], [], [], [], [], [], [6], [], [], [], [], [], [], [], [], [], [], [13, 15], [], [], []]) (H := []) hmix (by kernel_rfl) (by decide +kernel) (by kernel_rfl) ?_
    | refine k_fn f1 ?_
    | refine k_fn c_told9 ?_)
  | true =>
  rw [hf1] at f1
  cases hf2 : fewS t with
  | false =>
    rw [hf2] at f2
    repeat' (first
    | simp (implicitDefEqProofs := false) only [push_cast, reduceIte, reduceCtorEq, Nat.reduceAdd, Nat.reduceSub, Nat.reduceEqDiff, Nat.reduceLT, Nat.reduceLeDiff, Nat.reduceBEq, Nat.reduceMul, Int.reduceLT, Int.reduceLE, Int.reduceEq, Int.reduceToNat, Int.reduceMul, Int.reduceNeg, Go.Proofs.Try.f4, eS_ty, eS_pl, eS_wk, ap_lo, st_lo, st_ne, st_eq, len_st, st_st, sst, at_set, at_set0, at_set2, at_set20, sst2, List.replicate_succ, List.drop_zero]
    | refine Sp2.f ?_ ?_
    | refine Spl.f ?_ ?_ <;> intro hb
    | refine rq_mk rfl (fun b hb => ?_)
    | refine r_draw (U := [[], [], [], [], [], [], [], [], [6], [], [], [], [], [], [], [], [], [], [], [13, 15], [], [], []]) (H := []) hmix (by kernel_rfl) (by decide +kernel) (by kernel_rfl) ?_
    | refine k_fn f1 ?_
    | refine k_fn f2 ?_
    | refine k_fn c_told9 ?_)
  | true =>
  rw [hf2] at f2
  cases hm1 : mayS s with
  | false =>
    rw [hm1] at m1
    repeat' (first
    | simp (implicitDefEqProofs := false) only [push_cast, reduceIte, reduceCtorEq, Nat.reduceAdd, Nat.reduceSub, Nat.reduceEqDiff, Nat.reduceLT, Nat.reduceLeDiff, Nat.reduceBEq, Nat.reduceMul, Int.reduceLT, Int.reduceLE, Int.reduceEq, Int.reduceToNat, Int.reduceMul, Int.reduceNeg, Go.Proofs.Try.f4, eS_ty, eS_pl, eS_wk, ap_lo, st_lo, st_ne, st_eq, len_st, st_st, sst, at_set, at_set0, at_set2, at_set20, sst2, List.replicate_succ, List.drop_zero]
    | refine Sp2.f ?_ ?_
    | refine Spl.f ?_ ?_ <;> intro hb
    | refine rq_mk rfl (fun b hb => ?_)
    | refine r_draw (U := [[], [], [], [], [], [], [], [], [6], [], [], [], [], [], [], [], [], [], [], [13, 15], [], [], []]) (H := []) hmix (by kernel_rfl) (by decide +kernel) (by kernel_rfl) ?_
    | refine k_fn f1 ?_
    | refine k_fn f2 ?_
    | refine k_fn m1 ?_
    | refine k_fn c_told9 ?_)
  | true =>
  rw [hm1] at m1
  cases hm2 : mayS t with
  | false =>
    rw [hm2] at m2
    repeat' (first
    | simp (implicitDefEqProofs := false) only [push_cast, reduceIte, reduceCtorEq, Nat.reduceAdd, Nat.reduceSub, Nat.reduceEqDiff, Nat.reduceLT, Nat.reduceLeDiff, Nat.reduceBEq, Nat.reduceMul, Int.reduceLT, Int.reduceLE, Int.reduceEq, Int.reduceToNat, Int.reduceMul, Int.reduceNeg, Go.Proofs.Try.f4, eS_ty, eS_pl, eS_wk, ap_lo, st_lo, st_ne, st_eq, len_st, st_st, sst, at_set, at_set0, at_set2, at_set20, sst2, List.replicate_succ, List.drop_zero]
    | refine Sp2.f ?_ ?_
    | refine Spl.f ?_ ?_ <;> intro hb
    | refine rq_mk rfl (fun b hb => ?_)
    | refine r_draw (U := [[], [], [], [], [], [], [], [], [6], [], [], [], [], [], [], [], [], [], [], [13, 15], [], [], []]) (H := []) hmix (by kernel_rfl) (by decide +kernel) (by kernel_rfl) ?_
    | refine k_fn f1 ?_
    | refine k_fn f2 ?_
    | refine k_fn m1 ?_
    | refine k_fn m2 ?_
    | refine k_fn c_told9 ?_)
  | true =>
  rw [hm2] at m2
  have p1 := c_sPut s hs
  have p2 := c_sPut t ht
  have d1 := c_Digest s hs
  have hd : digS s = shaS (statB ++ putS s) := by rw [digS, if_pos hm1]
  have o1 := c_OfBytes (putS s) (by have := putS_len hm1; omega)
  have hq := eqH_self (shaS (statB ++ putS s))
  have hsm := c_sSame s t hs ht
  have hst := str_same (putS s) (putS t)
  rw [put_same hm1 hm2 is it] at hst
  rw [hm1] at p1 d1
  rw [hm2] at p2
  rw [hd] at d1
  generalize sameS s t = b at hsm hst
  generalize shaS (statB ++ putS s) = D at d1 o1 hq
  generalize putS s = A at p1 o1 hst
  generalize putS t = B at p2 hst
  have cA := conv_str A
  have cB := conv_str B
  repeat' (first
    | simp (implicitDefEqProofs := false) only [push_cast, reduceIte, reduceCtorEq, Nat.reduceAdd, Nat.reduceSub, Nat.reduceEqDiff, Nat.reduceLT, Nat.reduceLeDiff, Nat.reduceBEq, Nat.reduceMul, Int.reduceLT, Int.reduceLE, Int.reduceEq, Int.reduceToNat, Int.reduceMul, Int.reduceNeg, Go.Proofs.Try.f4, eS_ty, eS_pl, eS_wk, eBs_ty, eBs_pl, eBs_wk, eH_ty, eH_pl, eH, b00, e00, hq, hst, cA, cB, isc_tmp, beq_self_eq_true, ap_lo, st_lo, st_ne, st_eq, len_st, st_st, sst, at_set, at_set0, at_set2, at_set20, sst2, List.replicate_succ, List.drop_zero]
    | refine Sp2.f ?_ ?_
    | refine Spl.f ?_ ?_ <;> intro hb
    | refine rq_mk rfl (fun b hb => ?_)
    | refine r_draw (U := [[], [], [], [], [], [], [], [], [6], [], [], [], [], [], [], [], [], [], [], [13, 15], [], [], []]) (H := []) hmix (by kernel_rfl) (by decide +kernel) (by kernel_rfl) ?_
    | refine k_fn f1 ?_
    | refine k_fn f2 ?_
    | refine k_fn m1 ?_
    | refine k_fn m2 ?_
    | refine k_fn p1 ?_
    | refine k_fn p2 ?_
    | refine k_fn d1 ?_
    | refine dk_pure c_told9 ?_
    | refine dk_pure o1 ?_
    | refine dk_pure hsm ?_)

end Go.Abs
