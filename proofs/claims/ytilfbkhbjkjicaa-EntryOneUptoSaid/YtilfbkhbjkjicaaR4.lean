/- R4: a part of the proofs about the tuple space and its bytes. -/
import Derived.Test.YtilfbkhbjkjicaaR3
import Derived.Test.YtilfbkhbjkjicaaSm
set_option linter.all false
set_option maxRecDepth 100000
set_option maxHeartbeats 0
namespace Go.Abs
open Go
open Go.Proofs.Try (prog)
theorem matchT_len {l m : List Fld} (h : l.length ≠ m.length) : ya6 l m = false := by
  unfold ya6; rw [ybt h, Bool.and_false]
theorem zdx {l m : List Fld} {i : Nat} {x y : Fld} (hx : l[i]? = some x) (hy : m[i]? = some y) (hs : Fld.fits x y = false) : ya6 l m = false := by
  unfold ya6; rw [qbe hx hy hs, Bool.and_false]
theorem c_Match6 (l m : List Fld) (hl : l.length ≤ 4294967296) (hm : m.length ≤ 4294967296) : Fn prog 132 [eFs l, eFs m] (.bool (ya6 l m)) := by
  have hp := yb1 l hl
  have ht := yce m hm
  rw [may6_5] at hp
  rw [may6_2] at ht
  refine run_132 rfl fun h => ?_
  cases h1 : zdt l with
  | false =>
    have e : ya6 l m = false := by unfold ya6; rw [h1]; rfl
    rw [e]
    rw [h1] at hp
    repeat' (first
    | simp (implicitDefEqProofs := false) only [push_cast, reduceIte, reduceCtorEq, Nat.reduceAdd, Nat.reduceSub, Nat.reduceEqDiff, Nat.reduceLT, Nat.reduceLeDiff, Nat.reduceBEq, Nat.reduceMul, Int.reduceLT, Int.reduceLE, Int.reduceEq, Int.reduceToNat, Int.reduceMul, Int.reduceNeg, Go.Proofs.Try.f132, yak, qal, zak]
    | refine Sp2.f ?_ ?_
    | refine Spl.f ?_ ?_ <;> intro hb
    | refine qac rfl (fun b hb => ?_)
    | refine zaa (U := [[], [], [], [], [], [], [], [], [], []]) (H := []) zag (by kernel_rfl) (by decide +kernel) (by kernel_rfl) ?_
    | refine zat hp ?_)
  | true =>
  rw [h1] at hp
  cases h2 : mayT m with
  | false =>
    have e : ya6 l m = false := by unfold ya6; rw [h1, h2]; rfl
    rw [e]
    rw [h2] at ht
    repeat' (first
    | simp (implicitDefEqProofs := false) only [push_cast, reduceIte, reduceCtorEq, Nat.reduceAdd, Nat.reduceSub, Nat.reduceEqDiff, Nat.reduceLT, Nat.reduceLeDiff, Nat.reduceBEq, Nat.reduceMul, Int.reduceLT, Int.reduceLE, Int.reduceEq, Int.reduceToNat, Int.reduceMul, Int.reduceNeg, Go.Proofs.Try.f132, yak, qal, zak]
    | refine Sp2.f ?_ ?_
    | refine Spl.f ?_ ?_ <;> intro hb
    | refine qac rfl (fun b hb => ?_)
    | refine zaa (U := [[], [], [], [], [], [], [], [], [], []]) (H := []) zag (by kernel_rfl) (by decide +kernel) (by kernel_rfl) ?_
    | refine zat hp ?_
    | refine zat ht ?_)
  | true =>
  rw [h2] at ht
  by_cases hlen : l.length = m.length
  · repeat' (first
    | simp (implicitDefEqProofs := false) only [push_cast, reduceIte, reduceCtorEq, Nat.reduceAdd, Nat.reduceSub, Nat.reduceEqDiff, Nat.reduceLT, Nat.reduceLeDiff, Nat.reduceBEq, Nat.reduceMul, Int.reduceLT, Int.reduceLE, Int.reduceEq, Int.reduceToNat, Int.reduceMul, Int.reduceNeg, Go.Proofs.Try.f132, yak, qal, zak, eFs, List.length_map, eq_len hlen]
    | refine Sp2.f ?_ ?_
    | refine Spl.f ?_ ?_ <;> intro hb
    | refine qac rfl (fun b hb => ?_)
    | refine zaa (U := [[], [], [], [], [], [], [], [], [], []]) (H := []) zag (by kernel_rfl) (by decide +kernel) (by kernel_rfl) ?_
    | refine zat hp ?_
    | refine zat ht ?_)
    refine ya9 (fun i a => [(0, eFs l), (1, eFs m), (4, .bool false), (5, .int .i64 i), (6, a 6), (21, a 21), (25, a 25), (32, a 32), (42, a 42), (50, a 50), (58, a 58), (61, a 61)]) (fun _ g => h ++ g) (fun i => i ≤ l.length ∧ ∀ j x y, j < i → l[j]? = some x → m[j]? = some y → Fld.fits x y = true) l.length (qa5 rfl ⟨[], (List.append_nil h).symm⟩ ⟨Nat.zero_le _, fun j x y hj => by omega⟩) ?_
    rintro i a g' ⟨hi, hinv⟩
    refine ⟨hi, ?_⟩
    by_cases hlt : i < l.length
    · have hlt' : i < m.length := by omega
      have hx : l[i]? = some l[i] := List.getElem?_eq_getElem hlt
      have hy : m[i]? = some m[i] := List.getElem?_eq_getElem hlt'
      have hi9 : i < 9223372036854775807 := by omega
      have hfit : ∀ b, Fld.fits l[i] m[i] = b → Fld.fits l[i] m[i] = b := fun _ h => h
      generalize l[i] = x at hx hfit
      generalize m[i] = y at hy hfit
      cases hb : Fld.fits x y with
      | true =>
        have hb2 := hb
        unfold Fld.fits at hb2
        by_cases k3 : x.K = 3
        · have f3 : (x.K == 3) = true := by simpa using k3
          rw [if_pos k3] at hb2
          repeat' (first
    | simp (implicitDefEqProofs := false) only [push_cast, reduceIte, reduceCtorEq, Nat.reduceAdd, Nat.reduceSub, Nat.reduceEqDiff, Nat.reduceLT, Nat.reduceLeDiff, Nat.reduceBEq, Nat.reduceMul, Int.reduceLT, Int.reduceLE, Int.reduceEq, Int.reduceToNat, Int.reduceMul, Int.reduceNeg, Go.Proofs.Try.f132, eFs, List.length_map, yaj hlt, qaj hlt, qaj hlt', zai eF hx, zai eF hy, eF, f3, hb2, Int.toNat_natCast, qaf hi9]
    | refine Sp2.f ?_ ?_
    | refine Spl.f ?_ ?_ <;> intro hb
    | refine qac rfl (fun b hb => ?_)
    | refine zaa (U := [[], [], [], [], [], [], [], [], [], []]) (H := []) zag (by kernel_rfl) (by decide +kernel) (by kernel_rfl) ?_
    | refine qa5 ?_ ⟨_, rfl⟩ ?_)
          exact ⟨hlt, yay hx hy hb hinv⟩
        have f3 : (x.K == 3) = false := by simpa using k3
        rw [if_neg k3] at hb2
        by_cases k4 : x.K = 4
        · have f4 : (x.K == 4) = true := by simpa using k4
          rw [if_pos k4] at hb2
          repeat' (first
    | simp (implicitDefEqProofs := false) only [push_cast, reduceIte, reduceCtorEq, Nat.reduceAdd, Nat.reduceSub, Nat.reduceEqDiff, Nat.reduceLT, Nat.reduceLeDiff, Nat.reduceBEq, Nat.reduceMul, Int.reduceLT, Int.reduceLE, Int.reduceEq, Int.reduceToNat, Int.reduceMul, Int.reduceNeg, Go.Proofs.Try.f132, eFs, List.length_map, yaj hlt, qaj hlt, qaj hlt', zai eF hx, zai eF hy, eF, f3, f4, hb2, Int.toNat_natCast, qaf hi9]
    | refine Sp2.f ?_ ?_
    | refine Spl.f ?_ ?_ <;> intro hb
    | refine qac rfl (fun b hb => ?_)
    | refine zaa (U := [[], [], [], [], [], [], [], [], [], []]) (H := []) zag (by kernel_rfl) (by decide +kernel) (by kernel_rfl) ?_
    | refine qa5 ?_ ⟨_, rfl⟩ ?_)
          exact ⟨hlt, yay hx hy hb hinv⟩
        have f4 : (x.K == 4) = false := by simpa using k4
        rw [if_neg k4] at hb2
        by_cases k5 : x.K = 5
        · have f5 : (x.K == 5) = true := by simpa using k5
          repeat' (first
    | simp (implicitDefEqProofs := false) only [push_cast, reduceIte, reduceCtorEq, Nat.reduceAdd, Nat.reduceSub, Nat.reduceEqDiff, Nat.reduceLT, Nat.reduceLeDiff, Nat.reduceBEq, Nat.reduceMul, Int.reduceLT, Int.reduceLE, Int.reduceEq, Int.reduceToNat, Int.reduceMul, Int.reduceNeg, Go.Proofs.Try.f132, eFs, List.length_map, yaj hlt, qaj hlt, qaj hlt', zai eF hx, zai eF hy, eF, f3, f4, f5, Int.toNat_natCast, qaf hi9]
    | refine Sp2.f ?_ ?_
    | refine Spl.f ?_ ?_ <;> intro hb
    | refine qac rfl (fun b hb => ?_)
    | refine zaa (U := [[], [], [], [], [], [], [], [], [], []]) (H := []) zag (by kernel_rfl) (by decide +kernel) (by kernel_rfl) ?_
    | refine qa5 ?_ ⟨_, rfl⟩ ?_)
          exact ⟨hlt, yay hx hy hb hinv⟩
        have f5 : (x.K == 5) = false := by simpa using k5
        rw [if_neg k5] at hb2
        simp only [Fld.same] at hb2
        repeat' (first
    | simp (implicitDefEqProofs := false) only [push_cast, reduceIte, reduceCtorEq, Nat.reduceAdd, Nat.reduceSub, Nat.reduceEqDiff, Nat.reduceLT, Nat.reduceLeDiff, Nat.reduceBEq, Nat.reduceMul, Int.reduceLT, Int.reduceLE, Int.reduceEq, Int.reduceToNat, Int.reduceMul, Int.reduceNeg, Go.Proofs.Try.f132, eFs, List.length_map, yaj hlt, qaj hlt, qaj hlt', zai eF hx, zai eF hy, eF, eqA, zdp, f3, f4, f5, hb2, List.zip_cons_cons, List.zip_nil_left, List.foldr_cons, List.foldr_nil, Int.toNat_natCast, qaf hi9]
    | refine Sp2.f ?_ ?_
    | refine Spl.f ?_ ?_ <;> intro hb
    | refine qac rfl (fun b hb => ?_)
    | refine zaa (U := [[], [], [], [], [], [], [], [], [], []]) (H := []) zag (by kernel_rfl) (by decide +kernel) (by kernel_rfl) ?_
    | refine qa5 ?_ ⟨_, rfl⟩ ?_)
        exact ⟨hlt, yay hx hy hb hinv⟩
      | false =>
        have hb2 := hb
        unfold Fld.fits at hb2
        by_cases k3 : x.K = 3
        · have f3 : (x.K == 3) = true := by simpa using k3
          rw [if_pos k3] at hb2
          repeat' (first
    | simp (implicitDefEqProofs := false) only [push_cast, reduceIte, reduceCtorEq, Nat.reduceAdd, Nat.reduceSub, Nat.reduceEqDiff, Nat.reduceLT, Nat.reduceLeDiff, Nat.reduceBEq, Nat.reduceMul, Int.reduceLT, Int.reduceLE, Int.reduceEq, Int.reduceToNat, Int.reduceMul, Int.reduceNeg, Go.Proofs.Try.f132, eFs, List.length_map, yaj hlt, qaj hlt, qaj hlt', zai eF hx, zai eF hy, eF, f3, hb2, Int.toNat_natCast, qaf hi9]
    | refine Sp2.f ?_ ?_
    | refine Spl.f ?_ ?_ <;> intro hb
    | refine qac rfl (fun b hb => ?_)
    | refine zaa (U := [[], [], [], [], [], [], [], [], [], []]) (H := []) zag (by kernel_rfl) (by decide +kernel) (by kernel_rfl) ?_
    | refine qa5 ?_ ⟨_, rfl⟩ ?_)
          rw [zdx hx hy hb]
        have f3 : (x.K == 3) = false := by simpa using k3
        rw [if_neg k3] at hb2
        by_cases k4 : x.K = 4
        · have f4 : (x.K == 4) = true := by simpa using k4
          rw [if_pos k4] at hb2
          repeat' (first
    | simp (implicitDefEqProofs := false) only [push_cast, reduceIte, reduceCtorEq, Nat.reduceAdd, Nat.reduceSub, Nat.reduceEqDiff, Nat.reduceLT, Nat.reduceLeDiff, Nat.reduceBEq, Nat.reduceMul, Int.reduceLT, Int.reduceLE, Int.reduceEq, Int.reduceToNat, Int.reduceMul, Int.reduceNeg, Go.Proofs.Try.f132, eFs, List.length_map, yaj hlt, qaj hlt, qaj hlt', zai eF hx, zai eF hy, eF, f3, f4, hb2, Int.toNat_natCast, qaf hi9]
    | refine Sp2.f ?_ ?_
    | refine Spl.f ?_ ?_ <;> intro hb
    | refine qac rfl (fun b hb => ?_)
    | refine zaa (U := [[], [], [], [], [], [], [], [], [], []]) (H := []) zag (by kernel_rfl) (by decide +kernel) (by kernel_rfl) ?_
    | refine qa5 ?_ ⟨_, rfl⟩ ?_)
          rw [zdx hx hy hb]
        have f4 : (x.K == 4) = false := by simpa using k4
        rw [if_neg k4] at hb2
        by_cases k5 : x.K = 5
        · rw [if_pos k5] at hb2; cases hb2
        have f5 : (x.K == 5) = false := by simpa using k5
        rw [if_neg k5] at hb2
        simp only [Fld.same] at hb2
        repeat' (first
    | simp (implicitDefEqProofs := false) only [push_cast, reduceIte, reduceCtorEq, Nat.reduceAdd, Nat.reduceSub, Nat.reduceEqDiff, Nat.reduceLT, Nat.reduceLeDiff, Nat.reduceBEq, Nat.reduceMul, Int.reduceLT, Int.reduceLE, Int.reduceEq, Int.reduceToNat, Int.reduceMul, Int.reduceNeg, Go.Proofs.Try.f132, eFs, List.length_map, yaj hlt, qaj hlt, qaj hlt', zai eF hx, zai eF hy, eF, eqA, zdp, f3, f4, f5, hb2, List.zip_cons_cons, List.zip_nil_left, List.foldr_cons, List.foldr_nil, Int.toNat_natCast, qaf hi9]
    | refine Sp2.f ?_ ?_
    | refine Spl.f ?_ ?_ <;> intro hb
    | refine qac rfl (fun b hb => ?_)
    | refine zaa (U := [[], [], [], [], [], [], [], [], [], []]) (H := []) zag (by kernel_rfl) (by decide +kernel) (by kernel_rfl) ?_
    | refine qa5 ?_ ⟨_, rfl⟩ ?_)
        rw [zdx hx hy hb]
    · repeat' (first
    | simp (implicitDefEqProofs := false) only [push_cast, reduceIte, reduceCtorEq, Nat.reduceAdd, Nat.reduceSub, Nat.reduceEqDiff, Nat.reduceLT, Nat.reduceLeDiff, Nat.reduceBEq, Nat.reduceMul, Int.reduceLT, Int.reduceLE, Int.reduceEq, Int.reduceToNat, Int.reduceMul, Int.reduceNeg, Go.Proofs.Try.f132, eFs, List.length_map, yal hlt]
    | refine Sp2.f ?_ ?_
    | refine Spl.f ?_ ?_ <;> intro hb
    | refine qac rfl (fun b hb => ?_)
    | refine zaa (U := [[], [], [], [], [], [], [], [], [], []]) (H := []) zag (by kernel_rfl) (by decide +kernel) (by kernel_rfl) ?_)
      unfold ya6
      rw [h1, h2, qbm hlen fun j x y hj => hinv j x y (by omega)]
      rfl
  · repeat' (first
    | simp (implicitDefEqProofs := false) only [push_cast, reduceIte, reduceCtorEq, Nat.reduceAdd, Nat.reduceSub, Nat.reduceEqDiff, Nat.reduceLT, Nat.reduceLeDiff, Nat.reduceBEq, Nat.reduceMul, Int.reduceLT, Int.reduceLE, Int.reduceEq, Int.reduceToNat, Int.reduceMul, Int.reduceNeg, Go.Proofs.Try.f132, yak, qal, zak, eFs, List.length_map, neq_len hlen]
    | refine Sp2.f ?_ ?_
    | refine Spl.f ?_ ?_ <;> intro hb
    | refine qac rfl (fun b hb => ?_)
    | refine zaa (U := [[], [], [], [], [], [], [], [], [], []]) (H := []) zag (by kernel_rfl) (by decide +kernel) (by kernel_rfl) ?_
    | refine zat hp ?_
    | refine zat ht ?_)
    rw [matchT_len hlen]
theorem c_Find6 (s : Spc) (p : List Fld) (hs : smallI s.Items) (hp : p.length ≤ 4294967296) : Fn prog 94 [eS s, eFs p] (.int .i64 (za6 s p)) := by
  refine run_94 rfl fun h => ?_
  repeat' (first
    | simp (implicitDefEqProofs := false) only [push_cast, reduceIte, reduceCtorEq, Nat.reduceAdd, Nat.reduceSub, Nat.reduceEqDiff, Nat.reduceLT, Nat.reduceLeDiff, Nat.reduceBEq, Nat.reduceMul, Int.reduceLT, Int.reduceLE, Int.reduceEq, Int.reduceToNat, Int.reduceMul, Int.reduceNeg, Go.Proofs.Try.f94, eS, eIs, eWs, eL, List.length_map]
    | refine Sp2.f ?_ ?_
    | refine Spl.f ?_ ?_ <;> intro hb
    | refine qac rfl (fun b hb => ?_))
  refine ya9 (fun i a => [(0, eS s), (1, eFs p), (2, .ref h.length [0] 29), (4, .int .i64 0), (5, .int .i64 i), (10, a 10), (20, a 20)]) (fun i g => h ++ (⟨29, [eS s], .own⟩ :: g)) (fun i => i ≤ s.Items.length ∧ ∀ j x, j < i → s.Items[j]? = some x → ya6 p x.T = false) s.Items.length (qa5 rfl ⟨[], rfl⟩ ⟨Nat.zero_le _, fun j x hj => absurd hj (Nat.not_lt_zero _)⟩) ?_
  rintro i a g' ⟨hi, hinv⟩
  refine ⟨hi, ?_⟩
  by_cases hlt : i < s.Items.length
  · obtain ⟨x, hx⟩ : ∃ x, s.Items[i]? = some x := ⟨_, List.getElem?_eq_getElem hlt⟩
    have hxT := hs.2 x (List.mem_of_getElem? hx)
    have hm := c_Match6 p x.T hp hxT
    have hi9 : i < 9223372036854775807 := by have := hs.1; omega
    cases hb : ya6 p x.T with
    | true =>
      rw [hb] at hm
      repeat' (first
    | simp (implicitDefEqProofs := false) only [push_cast, reduceIte, reduceCtorEq, Nat.reduceAdd, Nat.reduceSub, Nat.reduceEqDiff, Nat.reduceLT, Nat.reduceLeDiff, Nat.reduceBEq, Nat.reduceMul, Int.reduceLT, Int.reduceLE, Int.reduceEq, Int.reduceToNat, Int.reduceMul, Int.reduceNeg, Go.Proofs.Try.f94, eS, eI, eIs, eWs, eL, List.length_map, yaj hlt, qaj hlt, zai eI hx, Int.toNat_natCast, yak, qal, zak, ybg]
    | refine Sp2.f ?_ ?_
    | refine Spl.f ?_ ?_ <;> intro hb
    | refine qac rfl (fun b hb => ?_)
    | refine zat hm ?_)
      have e : za6 s p = (i : Int) := ydo hx hb hinv
      rw [e]
    | false =>
      rw [hb] at hm
      repeat' (first
    | simp (implicitDefEqProofs := false) only [push_cast, reduceIte, reduceCtorEq, Nat.reduceAdd, Nat.reduceSub, Nat.reduceEqDiff, Nat.reduceLT, Nat.reduceLeDiff, Nat.reduceBEq, Nat.reduceMul, Int.reduceLT, Int.reduceLE, Int.reduceEq, Int.reduceToNat, Int.reduceMul, Int.reduceNeg, Go.Proofs.Try.f94, eS, eI, eIs, eWs, eL, List.length_map, yaj hlt, qaj hlt, zai eI hx, Int.toNat_natCast, yak, qal, zak, qaf hi9, ybg]
    | refine Sp2.f ?_ ?_
    | refine Spl.f ?_ ?_ <;> intro hb
    | refine qac rfl (fun b hb => ?_)
    | refine zat hm ?_
    | refine qa5 ?_ ⟨_, rfl⟩ ?_)
      exact ⟨hlt, yco hx hb hinv⟩
  · repeat' (first
    | simp (implicitDefEqProofs := false) only [push_cast, reduceIte, reduceCtorEq, Nat.reduceAdd, Nat.reduceSub, Nat.reduceEqDiff, Nat.reduceLT, Nat.reduceLeDiff, Nat.reduceBEq, Nat.reduceMul, Int.reduceLT, Int.reduceLE, Int.reduceEq, Int.reduceToNat, Int.reduceMul, Int.reduceNeg, Go.Proofs.Try.f94, eS, eIs, eWs, eL, List.length_map, yal hlt]
    | refine Sp2.f ?_ ?_
    | refine Spl.f ?_ ?_ <;> intro hb
    | refine qac rfl (fun b hb => ?_))
    have e : za6 s p = -1 := qdo fun j x hj hx => hinv j x (by omega) hx
    rw [e]
theorem c_SameReplies6 (l m : List Rpl) (hl : smallR l) (hm : smallR m) : Fn prog 35 [eRs l, eRs m] (.bool (qb8 sm6 l m)) := by
  refine run_35 rfl fun h => ?_
  by_cases hlen : l.length = m.length
  · repeat' (first
    | simp (implicitDefEqProofs := false) only [push_cast, reduceIte, reduceCtorEq, Nat.reduceAdd, Nat.reduceSub, Nat.reduceEqDiff, Nat.reduceLT, Nat.reduceLeDiff, Nat.reduceBEq, Nat.reduceMul, Int.reduceLT, Int.reduceLE, Int.reduceEq, Int.reduceToNat, Int.reduceMul, Int.reduceNeg, Go.Proofs.Try.f35, eRs, List.length_map, eq_len hlen]
    | refine Sp2.f ?_ ?_
    | refine Spl.f ?_ ?_ <;> intro hb
    | refine qac rfl (fun b hb => ?_)
    | refine zaa (U := [[], [], [], [], [], [], [], [], [], []]) (H := []) zag (by kernel_rfl) (by decide +kernel) (by kernel_rfl) ?_)
    refine ya9 (fun i a => [(0, eRs l), (1, eRs m), (4, .bool false), (5, .int .i64 i), (10, a 10), (14, a 14), (26, a 26)]) (fun _ g => h ++ g) (fun i => i ≤ l.length ∧ ∀ j x y, j < i → l[j]? = some x → m[j]? = some y → sm6 x y = true) l.length (qa5 rfl ⟨[], (List.append_nil h).symm⟩ ⟨Nat.zero_le _, fun j x y hj => by omega⟩) ?_
    rintro i a g' ⟨hi, hinv⟩
    refine ⟨hi, ?_⟩
    by_cases hlt : i < l.length
    · have hlt' : i < m.length := by omega
      have hx : l[i]? = some l[i] := List.getElem?_eq_getElem hlt
      have hy : m[i]? = some m[i] := List.getElem?_eq_getElem hlt'
      have hi9 : i < 9223372036854775807 := by have := hl.1; omega
      have hs := c_SameReply6 l[i] m[i] (hl.2 _ (List.mem_of_getElem? hx)) (hm.2 _ (List.mem_of_getElem? hy))
      cases hb : sm6 l[i] m[i] with
      | true =>
        rw [hb] at hs
        repeat' (first
    | simp (implicitDefEqProofs := false) only [push_cast, reduceIte, reduceCtorEq, Nat.reduceAdd, Nat.reduceSub, Nat.reduceEqDiff, Nat.reduceLT, Nat.reduceLeDiff, Nat.reduceBEq, Nat.reduceMul, Int.reduceLT, Int.reduceLE, Int.reduceEq, Int.reduceToNat, Int.reduceMul, Int.reduceNeg, Go.Proofs.Try.f35, eRs, zcm, ycm, qb7, List.length_map, yaj hlt, qaj hlt, qaj hlt', zai eR hx, zai eR hy, Int.toNat_natCast, qaf hi9]
    | refine Sp2.f ?_ ?_
    | refine Spl.f ?_ ?_ <;> intro hb
    | refine qac rfl (fun b hb => ?_)
    | refine zaa (U := [[], [], [], [], [], [], [], [], [], []]) (H := []) zag (by kernel_rfl) (by decide +kernel) (by kernel_rfl) ?_
    | refine zbe hs ?_
    | refine qa5 ?_ ⟨_, rfl⟩ ?_)
        exact ⟨hlt, yay hx hy hb hinv⟩
      | false =>
        rw [hb] at hs
        repeat' (first
    | simp (implicitDefEqProofs := false) only [push_cast, reduceIte, reduceCtorEq, Nat.reduceAdd, Nat.reduceSub, Nat.reduceEqDiff, Nat.reduceLT, Nat.reduceLeDiff, Nat.reduceBEq, Nat.reduceMul, Int.reduceLT, Int.reduceLE, Int.reduceEq, Int.reduceToNat, Int.reduceMul, Int.reduceNeg, Go.Proofs.Try.f35, eRs, zcm, ycm, qb7, List.length_map, yaj hlt, qaj hlt, qaj hlt', zai eR hx, zai eR hy, Int.toNat_natCast, qaf hi9]
    | refine Sp2.f ?_ ?_
    | refine Spl.f ?_ ?_ <;> intro hb
    | refine qac rfl (fun b hb => ?_)
    | refine zaa (U := [[], [], [], [], [], [], [], [], [], []]) (H := []) zag (by kernel_rfl) (by decide +kernel) (by kernel_rfl) ?_
    | refine zbe hs ?_
    | refine qa5 ?_ ⟨_, rfl⟩ ?_)
        rw [qbe hx hy hb]
    · repeat' (first
    | simp (implicitDefEqProofs := false) only [push_cast, reduceIte, reduceCtorEq, Nat.reduceAdd, Nat.reduceSub, Nat.reduceEqDiff, Nat.reduceLT, Nat.reduceLeDiff, Nat.reduceBEq, Nat.reduceMul, Int.reduceLT, Int.reduceLE, Int.reduceEq, Int.reduceToNat, Int.reduceMul, Int.reduceNeg, Go.Proofs.Try.f35, eRs, List.length_map, yal hlt]
    | refine Sp2.f ?_ ?_
    | refine Spl.f ?_ ?_ <;> intro hb
    | refine qac rfl (fun b hb => ?_)
    | refine zaa (U := [[], [], [], [], [], [], [], [], [], []]) (H := []) zag (by kernel_rfl) (by decide +kernel) (by kernel_rfl) ?_)
      rw [qbm hlen fun j x y hj => hinv j x y (by omega)]
  · repeat' (first
    | simp (implicitDefEqProofs := false) only [push_cast, reduceIte, reduceCtorEq, Nat.reduceAdd, Nat.reduceSub, Nat.reduceEqDiff, Nat.reduceLT, Nat.reduceLeDiff, Nat.reduceBEq, Nat.reduceMul, Int.reduceLT, Int.reduceLE, Int.reduceEq, Int.reduceToNat, Int.reduceMul, Int.reduceNeg, Go.Proofs.Try.f35, eRs, List.length_map, neq_len hlen]
    | refine Sp2.f ?_ ?_
    | refine Spl.f ?_ ?_ <;> intro hb
    | refine qac rfl (fun b hb => ?_)
    | refine zaa (U := [[], [], [], [], [], [], [], [], [], []]) (H := []) zag (by kernel_rfl) (by decide +kernel) (by kernel_rfl) ?_)
    rw [ybt hlen]
end Go.Abs
