/- Gt: a part of the proofs about the tuple space and its bytes. -/
import Derived.Test.YtilfbkhbjkjicaaGr
set_option linter.all false
set_option maxRecDepth 100000
set_option maxHeartbeats 0
namespace Go.Abs
open Go
open Go.Proofs.Try (prog)
/-! ### chirographlaw10.told -/
theorem t10a : mayG (fakeG 0 15 15) = true := by kernel_rfl
theorem t10b : (putG (fakeG 0 15 15)).length = 63 := by kernel_rfl
theorem t10d : mayG zGen = false := by kernel_rfl
theorem t10e : (firstG (fakeG 0 15 15)).Write = 15 := by kernel_rfl
theorem fakeK_len (i : Nat) : (fakeK i).length = 56 := by simp [fakeK]
theorem fakeG_small (f : Nat) (r w : Int) : (fakeG f r w).Small := by
  refine ⟨by simp [fakeG]; omega, fun x hx => ?_, by simp [fakeG]⟩
  simp only [fakeG, List.mem_map] at hx
  obtain ⟨i, _, rfl⟩ := hx
  rw [fakeK_len]; omega
theorem zGen_small : zGen.Small := ⟨by simp [zGen], fun x hx => by simp [zGen] at hx, by simp [zGen]⟩
theorem c_told10 : Fn prog 37 [] (.bool true) := by
  refine run_37 rfl fun h => ?_
  repeat' (first
    | simp (implicitDefEqProofs := false) only [push_cast, reduceIte, reduceCtorEq, Nat.reduceAdd, Nat.reduceSub, Nat.reduceEqDiff, Nat.reduceLT, Nat.reduceLeDiff, Nat.reduceBEq, Nat.reduceMul, Int.reduceLT, Int.reduceLE, Int.reduceEq, Int.reduceToNat, Int.reduceMul, Int.reduceNeg, Go.Proofs.Try.f37, ap_lo, st_lo, st_ne, st_eq, len_st, st_st, sst, at_set, at_set0, at_set2, List.replicate_succ, List.drop_zero]
    | refine Sp2.f ?_ ?_
    | refine Spl.f ?_ ?_ <;> intro hb
    | refine rq_mk rfl (fun b hb => ?_))
  refine k_spec (c_Fake 0 15 15 (by omega) _) fun v H hP => ?_
  obtain ⟨hT, v, rfl, ho⟩ := hP
  have hne : (fakeG 0 15 15).Keys ≠ [] := by simp [fakeG]
  have hty := ho.ty
  have hpl := ho.pl
  have hwk := ho.wk hne
  have hHl : h.length ≤ H.length := by rw [← hT]; simp; omega
  have c0N : ((0 : Nat) : Int) = 0 := rfl
  repeat' (first
    | simp (implicitDefEqProofs := false) only [push_cast, reduceIte, reduceCtorEq, Nat.reduceAdd, Nat.reduceSub, Nat.reduceEqDiff, Nat.reduceLT, Nat.reduceLeDiff, Nat.reduceBEq, Nat.reduceMul, Int.reduceLT, Int.reduceLE, Int.reduceEq, Int.reduceToNat, Int.reduceMul, Int.reduceNeg, Go.Proofs.Try.f37, c0N, hty, hpl, hwk, ap_lo, st_lo, st_ne, st_eq, len_st, st_st, sst, at_set, at_set0, at_set2, List.replicate_succ, List.drop_zero]
    | refine Sp2.f ?_ ?_
    | refine Spl.f ?_ ?_ <;> intro hb
    | refine rq_mk rfl (fun b hb => ?_))
  refine k_frzL (List.range' h.length (H.length - h.length)) ?_
  have hX : ∀ j, (h.length ≤ j ∧ j < H.length) → j ∈ List.range' h.length (H.length - h.length) := fun j hj => by rw [List.mem_range'_1]; omega
  have ho2 : OwnRows (fun j => h.length ≤ j ∧ j < H.length) (H ++ [(⟨72, [.agg 72 [.int .i64 0, .int .i64 15, .int .i64 15, v, .nils]], .own⟩ : Entry)]) v (fakeG 0 15 15).Keys := ho.inn _
  have hF := FzIn.mk (H := H ++ [(⟨72, [.agg 72 [.int .i64 0, .int .i64 15, .int .i64 15, v, .nils]], .own⟩ : Entry)]) hX
  have hc : (frzL (List.range' h.length (H.length - h.length)) (H ++ [(⟨72, [.agg 72 [.int .i64 0, .int .i64 15, .int .i64 15, v, .nils]], .own⟩ : Entry)]))[H.length]? = some (⟨72, [.agg 72 [.int .i64 0, .int .i64 15, .int .i64 15, v, .nils]], .own⟩ : Entry) := by
    rw [frzL_get, if_neg (by rw [List.mem_range'_1]; omega)]; exact get_at0 ..
  have hTk : (frzL (List.range' h.length (H.length - h.length)) (H ++ [(⟨72, [.agg 72 [.int .i64 0, .int .i64 15, .int .i64 15, v, .nils]], .own⟩ : Entry)])).take h.length = h := by
    rw [frzL_take _ _ fun k hk => by rw [List.mem_range'_1] at hk; exact hk.1, List.take_append_of_le_length hHl]; exact hT
  have hLn : (frzL (List.range' h.length (H.length - h.length)) (H ++ [(⟨72, [.agg 72 [.int .i64 0, .int .i64 15, .int .i64 15, v, .nils]], .own⟩ : Entry)])).length = H.length + 1 := by rw [frzL_len]; simp
  generalize hH0 : H ++ [(⟨72, [.agg 72 [.int .i64 0, .int .i64 15, .int .i64 15, v, .nils]], .own⟩ : Entry)] = H0 at *
  generalize frzL (List.range' h.length (H.length - h.length)) H0 = H1 at *
  have hbz : ∀ l : List Entry, Go.Abs.bzd (H1 ++ l) 3 v = eKs (fakeG 0 15 15).Keys := fun l => ho2.bzd hne (hF.keep fun j e hj he => by rw [List.getElem?_append_left (lt_some he)]; exact he) 1
  have hown : ∀ l : List Entry, [ownG (fakeG 0 15 15) v].map (Go.Abs.bzd (H1 ++ l) 4) = [eG (fakeG 0 15 15)] := fun l => ownG_bzd rfl (hbz l)
  have p1 := c_gPut (fakeG 0 15 15) (fakeG_small 0 15 15)
  rw [t10a] at p1
  have q1 := FSpec.readd wfp 4 (hown []) p1
  rw [List.append_nil] at q1
  have hcl := lt_some hc
  refine k_det q1 ?_
  have e00 : ((0 : Int) == 0) = true := rfl
  have hgB : (putG (fakeG 0 15 15)).length ≤ 900000 := by rw [t10b]; omega
  have g1 := c_gGet (putG (fakeG 0 15 15)) hgB
  rw [getG_put t10a] at g1
  have p2 := c_gPut zGen zGen_small
  rw [t10d] at p2
  have hL : stLen prog 30 (eBs (putG (fakeG 0 15 15))) = .ret (.int .i64 63) [] := by rw [eBs, stLen_list, List.length_map, t10b]; rfl
  have e63 : ((63 : Int) == 63) = true := rfl
  have e11 : ((1 : Int) == 1) = true := rfl
  have s1 := c_gSame (fakeG 0 15 15) (fakeG 0 15 15) (fakeG_small 0 15 15) (fakeG_small 0 15 15)
  rw [sameG_rfl] at s1
  have q2 : FSpec prog 41 [eG (fakeG 0 15 15), ownG (fakeG 0 15 15) v] (H1 ++ [(⟨72, [eG (fakeG 0 15 15)], .own⟩ : Entry)]) _ := FSpec.readd wfp 4 (by rw [List.map_cons, hown, bzd_dat 4 _ (eG_dat _)]) s1
  have m1 := c_gMay (fakeG 0 15 15) (fakeG_small 0 15 15)
  rw [t10a] at m1
  have q3 : FSpec prog 38 [ownG (fakeG 0 15 15) v] (H1 ++ [(⟨72, [eG (fakeG 0 15 15)], .own⟩ : Entry)]) _ := FSpec.readd wfp 4 (hown _) m1
  have f1 := c_First (fakeG 0 15 15) (fakeG_small 0 15 15)
  have q4 : FSpec prog 99 [ownG (fakeG 0 15 15) v] (H1 ++ [(⟨72, [eG (fakeG 0 15 15)], .own⟩ : Entry)]) _ := FSpec.readd wfp 4 (hown _) f1
  have hW := t10e
  generalize firstG (fakeG 0 15 15) = F at q4 hW
  have e15 : ((15 : Int) == 15) = true := rfl
  have a1 := c_Anchor zGen zGen_small
  have a2 : anchorG zGen = List.replicate 32 0 := by rw [anchorG, if_neg (by rw [t10d]; simp)]
  have b1 := c_gLink zGen zGen_small
  have b2 : linkG zGen = List.replicate 32 0 := by rw [linkG, if_neg (by rw [t10d]; simp)]
  have hq : eqA prog 5 (.agg 36 ((List.replicate 32 (0 : UInt8)).map eB)) (.agg 36 [.int .u8 0, .int .u8 0, .int .u8 0, .int .u8 0, .int .u8 0, .int .u8 0, .int .u8 0, .int .u8 0, .int .u8 0, .int .u8 0, .int .u8 0, .int .u8 0, .int .u8 0, .int .u8 0, .int .u8 0, .int .u8 0, .int .u8 0, .int .u8 0, .int .u8 0, .int .u8 0, .int .u8 0, .int .u8 0, .int .u8 0, .int .u8 0, .int .u8 0, .int .u8 0, .int .u8 0, .int .u8 0, .int .u8 0, .int .u8 0, .int .u8 0, .int .u8 0]) = some true := eqH_self (List.replicate 32 0)
  rw [a2] at a1
  rw [b2] at b1
  generalize List.replicate 32 (0 : UInt8) = Z at a1 b1 hq
  repeat' (first
    | simp (implicitDefEqProofs := false) only [push_cast, reduceIte, reduceCtorEq, Nat.reduceAdd, Nat.reduceSub, Nat.reduceEqDiff, Nat.reduceLT, Nat.reduceLeDiff, Nat.reduceBEq, Nat.reduceMul, Int.reduceLT, Int.reduceLE, Int.reduceEq, Int.reduceToNat, Int.reduceMul, Int.reduceNeg, Go.Proofs.Try.f37, hc, hcl, hwk, hty, hpl, hq, eH, eS, hW, e15, hL, e63, e00, e11, eBs_ty, eBs_pl, eBs_wk, eG_ty, eG_pl, eG_wk, ap_lo, st_lo, st_ne, st_eq, len_st, st_st, sst, at_set, at_set0, at_set2, List.replicate_succ, List.drop_zero]
    | refine Sp2.f ?_ ?_
    | refine Spl.f ?_ ?_ <;> intro hb
    | refine rq_mk rfl (fun b hb => ?_)
    | refine k_fn g1 ?_
    | refine k_fn p2 ?_
    | refine k_det q2 ?_
    | refine k_det q3 ?_
    | refine k_det q4 ?_
    | refine k_fn a1 ?_
    | refine k_fn b1 ?_)
  all_goals (rw [List.take_append_of_le_length (by omega)]; exact hTk)

end Go.Abs
