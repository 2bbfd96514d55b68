/- Xi: a part of the proofs about the tuple space and its bytes. -/
import Derived.Test.YtilfbkhbjkjicaaXh
import Derived.Test.YtilfbkhbjkjicaaXf
import Derived.Test.YtilfbkhbjkjicaaSy
import Derived.Test.YtilfbkhbjkjicaaBx
import Derived.Test.YtilfbkhbjkjicaaF8
import Derived.Test.YtilfbkhbjkjicaaR5
import Derived.Test.YtilfbkhbjkjicaaPz
set_option linter.all false
set_option maxRecDepth 100000
set_option maxHeartbeats 0
namespace Go.Abs
open Go
open Go.Proofs.Try (prog)
theorem mayT_lenA {l : List Fld} (h : mayT l = true) : l.length ≤ 6 := by
  simp only [mayT, Bool.and_eq_true, decide_eq_true_eq] at h; exact h.1.2
theorem mayP_lenA {l : List Fld} (h : qcf l = true) : l.length ≤ 6 := by
  simp only [qcf, Bool.and_eq_true, decide_eq_true_eq] at h; exact h.1.2
theorem qdk {x : Rpl} {c : Int} (h : zc7 x c = true) : x.T.length ≤ 6 := by
  simp only [zc7, Bool.and_eq_true] at h
  have h2 := h.2
  split at h2
  · simp only [Bool.and_eq_true, decide_eq_true_eq] at h2; rw [h2.1.2]; simp
  · split at h2
    · exact mayT_lenA h2
    · simp only [Bool.and_eq_true, decide_eq_true_eq] at h2; rw [h2.1.2]; simp
theorem mayS_smallA {s : Spc} (h : zbw s = true) : s.Small := by
  simp only [zbw, mayH, Bool.and_eq_true, decide_eq_true_eq, List.all_eq_true] at h
  obtain ⟨⟨⟨⟨h1, h7⟩, h8⟩, h9⟩, h10⟩ := h
  obtain ⟨a, b, c, d, hl, ha, hb, hc, hd⟩ := four_of h10
  have la := qdk ha
  have lb := qdk hb
  have lc := qdk hc
  have ld := qdk hd
  refine ⟨⟨by omega, fun x hx => ?_⟩, ⟨by omega, fun x hx => ?_⟩, ⟨by rw [hl]; simp, fun x hx => ?_⟩, by rw [hl]; rfl⟩
  · have := h7 x hx
    simp only [qdo, Bool.and_eq_true] at this
    have := mayT_lenA this.2; omega
  · have := h9 x hx
    simp only [ydt, Bool.and_eq_true] at this
    have := mayP_lenA this.2; omega
  · rw [hl] at hx
    simp only [List.mem_cons, List.not_mem_nil, or_false] at hx
    rcases hx with rfl | rfl | rfl | rfl <;> omega
theorem getS_smallA (b : List UInt8) : ((ydm b).getD zSp).Small := by
  have hz : zSp.Small := ⟨⟨by decide, by simp [zSp]⟩, ⟨by decide, by simp [zSp]⟩, ⟨by decide, by simp [zSp, zRp]⟩, rfl⟩
  cases h : ydm b with
  | none => exact hz
  | some s => exact mayS_smallA (getS_some h).1
theorem c_OfBytes6 (bs : List UInt8) (hl : bs.length ≤ 90000) : Fn prog 24 [eBs bs] (eH (qdx (statB ++ bs))) := by
  have hs := c_Sum1 (statB ++ bs) (by simp [statB]; omega)
  have hc := c_Cat [statB, bs] (by simp) (by simp [statB]; omega)
  rw [show [statB, bs].flatten = statB ++ bs by simp] at hc
  refine run_24 rfl fun h => ?_
  repeat' (first
    | simp (implicitDefEqProofs := false) only [push_cast, reduceIte, reduceCtorEq, Nat.reduceAdd, Nat.reduceSub, Nat.reduceEqDiff, Nat.reduceLT, Nat.reduceLeDiff, Nat.reduceBEq, Nat.reduceMul, Int.reduceLT, Int.reduceLE, Int.reduceEq, Int.reduceToNat, Int.reduceMul, Int.reduceNeg, Go.Proofs.Try.f24, zas, qat, yat, eH_ty, ydv, hE0, yad, zae, qac, zad, yab, qad, sst, qab, yaa, qaa, List.replicate_succ, List.drop_zero]
    | refine Sp2.f ?_ ?_
    | refine Spl.f ?_ ?_ <;> intro hb
    | refine yac rfl (fun b hb => ?_))
  refine k_frz12 (k := h.length + 1) (T := 5) (es := statB.map eB) (qa9 h _ 1) (by simp [statB]) ?_
  refine k_frz12 (k := h.length + 2) (T := 30) (es := [.win (h.length + 1) [] 5 0 4 4, eBs bs]) ?_ (by simp) ?_
  · rw [List.getElem?_set_ne (by omega)]; exact qa9 h _ 2
  generalize hHH : List.set (List.set _ (h.length + 1) _) (h.length + 2) _ = H
  have hl3 : (h ++ [hE0, (⟨5, statB.map eB, .own⟩ : Entry), ⟨30, [.win (h.length + 1) [] 5 0 4 4, eBs bs], .own⟩]).length = h.length + 3 := by simp
  have k0 : H[h.length]? = some hE0 := by rw [← hHH, List.getElem?_set_ne (by omega), List.getElem?_set_ne (by omega)]; exact zar ..
  have k1 : H[h.length + 1]? = some ⟨5, statB.map eB, .fz⟩ := by rw [← hHH, List.getElem?_set_ne (by omega)]; exact List.getElem?_set_self (by simp)
  have k2 : H[h.length + 2]? = some ⟨30, [.win (h.length + 1) [] 5 0 4 4, eBs bs], .fz⟩ := by rw [← hHH]; exact List.getElem?_set_self (by simp)
  have hT : H.take h.length = h := by rw [← hHH, List.take_set_of_le (by omega), List.take_set_of_le (by omega)]; simp
  clear hHH
  have hw : qaq (statB.map eB) [] 0 4 = some (statB.map eB) := by simp [qaq, statB]
  have q1 : FSpec prog 58 [.win (h.length + 2) [] 30 0 2 2] H _ := FSpec.readd wfp 3 (by
    rw [List.map_cons, List.map_nil, bzd_winS k2 (ys := [.win (h.length + 1) [] 5 0 4 4, eBs bs]) rfl, List.map_cons, List.map_cons, List.map_nil, bzd_winS k1 hw, bzd_datw _ _ (zbd bs)]
    rfl) hc
  refine yal q1 ?_
  have lh := zac k0
  have hd : qc8 ((qdx (statB ++ bs)).map eB) = true := yaw eB yc8 _
  have hE : eH (qdx (statB ++ bs)) = .agg 36 ((qdx (statB ++ bs)).map eB) := rfl
  generalize qdx (statB ++ bs) = S at hs hd hE ⊢
  repeat' (first
    | simp (implicitDefEqProofs := false) only [push_cast, reduceIte, reduceCtorEq, Nat.reduceAdd, Nat.reduceSub, Nat.reduceEqDiff, Nat.reduceLT, Nat.reduceLeDiff, Nat.reduceBEq, Nat.reduceMul, Int.reduceLT, Int.reduceLE, Int.reduceEq, Int.reduceToNat, Int.reduceMul, Int.reduceNeg, Go.Proofs.Try.f24, k0, lh, zas, qat, yat, eH_ty, ydv, hE0, yad, zae, qac, zad, yab, qad, sst, qab, yaa, qaa, List.replicate_succ, List.drop_zero]
    | refine Sp2.f ?_ ?_
    | refine Spl.f ?_ ?_ <;> intro hb
    | refine yac rfl (fun b hb => ?_)
    | refine zay hs ?_)
  exact ⟨by rw [List.take_set_of_le (Nat.le_refl _)]; exact hT, res_mk (by rw [hE, qbt]; exact hd) rfl⟩
theorem c_Digest6 (s : Spc) (hm : zbw s = true) : Fn prog 19 [eS s] (eH (qdx (statB ++ qby s))) := by
  have hp := c_PutSpace6 s hm
  have ho := c_OfBytes6 (qby s) (by have := putS_len hm; omega)
  refine run_19 rfl fun h => ?_
  have hd : qc8 ((qdx (statB ++ qby s)).map eB) = true := yaw eB yc8 _
  have hE : eH (qdx (statB ++ qby s)) = .agg 36 ((qdx (statB ++ qby s)).map eB) := rfl
  generalize qby s = B at hp ho hd hE ⊢
  generalize qdx (statB ++ B) = S at ho hd hE ⊢
  repeat' (first
    | simp (implicitDefEqProofs := false) only [push_cast, reduceIte, reduceCtorEq, Nat.reduceAdd, Nat.reduceSub, Nat.reduceEqDiff, Nat.reduceLT, Nat.reduceLeDiff, Nat.reduceBEq, Nat.reduceMul, Int.reduceLT, Int.reduceLE, Int.reduceEq, Int.reduceToNat, Int.reduceMul, Int.reduceNeg, Go.Proofs.Try.f19, qcp, zcq, ycp, zas, qat, yat, eH_ty, ydv, hE0, yad, zae, qac, zad, yab, qad, sst, qab, yaa, qaa, List.replicate_succ, List.drop_zero]
    | refine Sp2.f ?_ ?_
    | refine Spl.f ?_ ?_ <;> intro hb
    | refine yac rfl (fun b hb => ?_)
    | refine zay hp ?_
    | refine zay ho ?_)
  exact res_mk (by rw [hE, qbt]; exact hd) rfl
theorem zero_eqA : eqA prog 5 (.agg 36 [eB 0, eB 0, eB 0, eB 0, eB 0, eB 0, eB 0, eB 0, eB 0, eB 0, eB 0, eB 0, eB 0, eB 0, eB 0, eB 0, eB 0, eB 0, eB 0, eB 0, eB 0, eB 0, eB 0, eB 0, eB 0, eB 0, eB 0, eB 0, eB 0, eB 0, eB 0, eB 0]) (.agg 36 [.int .u8 0, .int .u8 0, .int .u8 0, .int .u8 0, .int .u8 0, .int .u8 0, .int .u8 0, .int .u8 0, .int .u8 0, .int .u8 0, .int .u8 0, .int .u8 0, .int .u8 0, .int .u8 0, .int .u8 0, .int .u8 0, .int .u8 0, .int .u8 0, .int .u8 0, .int .u8 0, .int .u8 0, .int .u8 0, .int .u8 0, .int .u8 0, .int .u8 0, .int .u8 0, .int .u8 0, .int .u8 0, .int .u8 0, .int .u8 0, .int .u8 0, .int .u8 0]) = some true := eqH_self (List.replicate 32 0)
theorem c_StateAsks (s : Spc) (b : List UInt8) (hs : s.Small) (hb : b.length ≤ 4294967296) : Fn prog 3 [eS s, eBs b] (.bool true) := by
  have w1 := c_Few8 s hs
  have hL : zcp prog 30 (eBs b) = .ret (.int .i64 b.length) [] := by rw [eBs, ybt, List.length_map]; rfl
  cases hf : fewS s with
  | false =>
    rw [hf] at w1
    refine run_3 rfl fun h => ?_
    repeat' (first
    | simp (implicitDefEqProofs := false) only [push_cast, reduceIte, reduceCtorEq, Nat.reduceAdd, Nat.reduceSub, Nat.reduceEqDiff, Nat.reduceLT, Nat.reduceLeDiff, Nat.reduceBEq, Nat.reduceMul, Int.reduceLT, Int.reduceLE, Int.reduceEq, Int.reduceToNat, Int.reduceMul, Int.reduceNeg, Go.Proofs.Try.f3, qcp, zcq, ycp, zas, qat, yat, yad, zae, qac, zad, yab, qad, sst, qab, yaa, qaa, List.replicate_succ, List.drop_zero]
    | refine Sp2.f ?_ ?_
    | refine Spl.f ?_ ?_ <;> intro hb
    | refine yac rfl (fun b hb => ?_)
    | refine zaa (U := [[], [], [], [], [], [], [], [], [], [], [], [], [], [], [], [], [], [], [], [], [], [], [], [], [], [], [], [], [], [], [], [], [], [], [], [], [], [], [36], [], [], [], []]) (H := []) zaf (by kernel_rfl) (by decide +kernel) (by kernel_rfl) ?_
    | refine zay w1 ?_
    | refine zay c_told9 ?_)
  | true =>
  rw [hf] at w1
  by_cases h6 : (600 : Int) < (b.length : Int)
  · have c6 : decide ((600 : Int) < (b.length : Int)) = true := by simpa using h6
    refine run_3 rfl fun h => ?_
    repeat' (first
    | simp (implicitDefEqProofs := false) only [push_cast, reduceIte, reduceCtorEq, Nat.reduceAdd, Nat.reduceSub, Nat.reduceEqDiff, Nat.reduceLT, Nat.reduceLeDiff, Nat.reduceBEq, Nat.reduceMul, Int.reduceLT, Int.reduceLE, Int.reduceEq, Int.reduceToNat, Int.reduceMul, Int.reduceNeg, Go.Proofs.Try.f3, c6, hL, qcp, zcq, ycp, zas, qat, yat, yad, zae, qac, zad, yab, qad, sst, qab, yaa, qaa, List.replicate_succ, List.drop_zero]
    | refine Sp2.f ?_ ?_
    | refine Spl.f ?_ ?_ <;> intro hb
    | refine yac rfl (fun b hb => ?_)
    | refine zaa (U := [[], [], [], [], [], [], [], [], [], [], [], [], [], [], [], [], [], [], [], [], [], [], [], [], [], [], [], [], [], [], [], [], [], [], [], [], [], [], [36], [], [], [], []]) (H := []) zaf (by kernel_rfl) (by decide +kernel) (by kernel_rfl) ?_
    | refine zay w1 ?_
    | refine zay c_told9 ?_)
  have c6 : decide ((600 : Int) < (b.length : Int)) = false := by simpa using h6
  have m1 : Fn prog 14 [eS s] (.bool (zbw s)) := by rw [← mayM6_eq]; exact c_MaySpace6 s hs
  have p1 := c_sPut s hs
  have d1 := c_Digest s hs
  have g1 := c_sGet b (by omega)
  have g2 := c_GetSpace6 b (by omega)
  have ss := c_SameSpace6 ((ydm b).getD zSp) ((ydm b).getD zSp) (getS_smallA b) (getS_smallA b)
  rw [sameS_rfl] at ss
  have o1 := c_OfBytes b (by omega)
  have o2 := c_OfBytes6 b (by omega)
  have ho := eqH_self (qdx (statB ++ b))
  generalize qdx (statB ++ b) = O at o1 o2 ho
  generalize (ydm b).getD zSp = Z at g1 g2 ss
  generalize (if (ydm b).isSome = true then (0 : Int) else 2) = gf at g1 g2
  have egg : (gf == gf) = true := by simp
  have b10 : ((1 : Int) != 0) = true := rfl
  have e10 : ((1 : Int) == 0) = false := rfl
  have e00 : ((0 : Int) == 0) = true := rfl
  have b11 : ((1 : Int) != 1) = false := rfl
  have b00 : ((0 : Int) != 0) = false := rfl
  refine run_3 rfl fun h => ?_
  cases hm : zbw s with
  | false =>
    rw [hm] at m1 p1 d1
    have p1 : Fn prog 15 [eS s] (.tup [eBs [], .int .i64 1]) := p1
    have d1 : Fn prog 16 [eS s] (.tup [eH (List.replicate 32 0), .int .i64 1]) := by rw [digS, if_neg (by rw [hm]; simp)] at d1; exact d1
    have hz := zero_eqA
    have hB0 : eBs [] = .list 5 [] := rfl
    repeat' (first
    | simp (implicitDefEqProofs := false) only [push_cast, reduceIte, reduceCtorEq, Nat.reduceAdd, Nat.reduceSub, Nat.reduceEqDiff, Nat.reduceLT, Nat.reduceLeDiff, Nat.reduceBEq, Nat.reduceMul, Int.reduceLT, Int.reduceLE, Int.reduceEq, Int.reduceToNat, Int.reduceMul, Int.reduceNeg, Go.Proofs.Try.f3, c6, hL, b10, e10, e00, b11, b00, hB0, hz, qcp, zcq, ycp, zas, qat, yat, eH_ty, ydv, qbq, ho, egg, eH, yad, zae, qac, zad, yab, qad, sst, qab, yaa, qaa, List.replicate_succ, List.drop_zero]
    | refine Sp2.f ?_ ?_
    | refine Spl.f ?_ ?_ <;> intro hb
    | refine yac rfl (fun b hb => ?_)
    | refine zaa (U := [[], [], [], [], [], [], [], [], [], [], [], [], [], [], [], [], [], [], [], [], [], [], [], [], [], [], [], [], [], [], [], [], [], [], [], [], [], [], [36], [], [], [], []]) (H := []) zaf (by kernel_rfl) (by decide +kernel) (by kernel_rfl) ?_
    | refine zay w1 ?_
    | refine zay m1 ?_
    | refine zay p1 ?_
    | refine zay d1 ?_
    | refine zay g1 ?_
    | refine zay g2 ?_
    | refine zay c_told9 ?_
    | refine zay ss ?_
    | refine zay o1 ?_
    | refine zay o2 ?_)
  | true =>
    rw [hm] at m1 p1 d1
    have p1 : Fn prog 15 [eS s] (.tup [eBs (qby s), .int .i64 0]) := p1
    have d1 : Fn prog 16 [eS s] (.tup [eH (qdx (statB ++ qby s)), .int .i64 0]) := by rw [digS, if_pos hm] at d1; exact d1
    have ps := c_PutSpace6 s hm
    have sm := c_Same1 (qby s) (qby s)
    rw [show (qby s == qby s) = true by simp] at sm
    have dg := c_Digest6 s hm
    have hq := eqH_self (qdx (statB ++ qby s))
    generalize qby s = B at p1 ps sm d1 dg hq
    generalize qdx (statB ++ B) = D at d1 dg hq
    repeat' (first
    | simp (implicitDefEqProofs := false) only [push_cast, reduceIte, reduceCtorEq, Nat.reduceAdd, Nat.reduceSub, Nat.reduceEqDiff, Nat.reduceLT, Nat.reduceLeDiff, Nat.reduceBEq, Nat.reduceMul, Int.reduceLT, Int.reduceLE, Int.reduceEq, Int.reduceToNat, Int.reduceMul, Int.reduceNeg, Go.Proofs.Try.f3, c6, hL, b10, e10, e00, b11, b00, hq, qcp, zcq, ycp, zas, qat, yat, eH_ty, ydv, qbq, ho, egg, eH, yad, zae, qac, zad, yab, qad, sst, qab, yaa, qaa, List.replicate_succ, List.drop_zero]
    | refine Sp2.f ?_ ?_
    | refine Spl.f ?_ ?_ <;> intro hb
    | refine yac rfl (fun b hb => ?_)
    | refine zaa (U := [[], [], [], [], [], [], [], [], [], [], [], [], [], [], [], [], [], [], [], [], [], [], [], [], [], [], [], [], [], [], [], [], [], [], [], [], [], [], [36], [], [], [], []]) (H := []) zaf (by kernel_rfl) (by decide +kernel) (by kernel_rfl) ?_
    | refine zay w1 ?_
    | refine zay m1 ?_
    | refine zay p1 ?_
    | refine zay d1 ?_
    | refine zaq ps ?_
    | refine zaq sm ?_
    | refine zaq dg ?_
    | refine zay g1 ?_
    | refine zay g2 ?_
    | refine zay c_told9 ?_
    | refine zay ss ?_
    | refine zay o1 ?_
    | refine zay o2 ?_)
end Go.Abs
