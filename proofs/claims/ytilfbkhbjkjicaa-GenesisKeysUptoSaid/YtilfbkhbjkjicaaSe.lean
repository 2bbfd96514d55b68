/- Se: a part of the proofs about the tuple space and its bytes. -/
import Derived.Test.YtilfbkhbjkjicaaSc
import Derived.Test.YtilfbkhbjkjicaaSd
import Derived.Test.YtilfbkhbjkjicaaGv
set_option linter.all false
set_option maxRecDepth 100000
set_option maxHeartbeats 0
namespace Go.Abs
open Go
open Go.Proofs.Try (prog)
/-! ### Digest.Write, Copy, New -/
theorem blks_take (v : V8) (bs : List UInt8) (q : Nat) (hq : 64 * q ≤ bs.length) : blks v (bs.take (64 * q)) q = blks v bs q := by
  have h := blks_app v (bs.take (64 * q)) (bs.drop (64 * q)) q 0 (by simp; omega)
  rw [List.take_append_drop] at h
  exact h.symm
theorem c_Write0 (v : V8) (bs rs : List UInt8) (c : Int) {h : List Entry} {kd : Nat} (hk : h[kd]? = some (dgL v.l rs c)) (hl : bs.length ≤ 1000000000) (hr : rs.length = 64) (hc : c.tmod 64 = 0) :
    FSpec prog 125 [.ref kd [0] 184, eBs bs] h fun r h' => r = .tup [] ∧ h' = h.set kd (dgL (blks v bs (bs.length / 64)).l (bs.drop (64 * (bs.length / 64)) ++ rs.drop (bs.length % 64)) (IntKind.u64.wrap (c + IntKind.u64.wrap bs.length))) := by
  refine det_setU wfp (dgL_below ..) (frun_125 rfl ?_)
  have hkd := lt_some hk
  obtain ⟨q, hq⟩ : ∃ q, q = bs.length / 64 := ⟨_, rfl⟩
  have e1 : IntKind.wrap .i64 ((bs.length : Int).tdiv 64) = (q : Int) := by
    refine i64_nat q ?_ (by omega)
    rw [Int.tdiv_eq_ediv_of_nonneg (by omega)]; omega
  obtain ⟨p, hp⟩ : ∃ p, p = 64 * q := ⟨_, rfl⟩
  have e2 : IntKind.wrap .i64 ((q : Int) * 64) = (p : Int) := i64_nat p (by omega) (by omega)
  have e3 : (0 ≤ (p : Int) ∧ (p : Int) ≤ (bs.length : Int)) = True := by simp; omega
  have e4 : ((p : Int) ≤ (bs.length : Int)) = True := by simp; omega
  have et : (bs.map eB).take p = (bs.take p).map eB := (List.map_take ..).symm
  have ed : (bs.map eB).drop p = (bs.drop p).map eB := (List.map_drop ..).symm
  have ek : (bs.map eB).take bs.length = bs.map eB := List.take_of_length_le (by simp)
  have hbl := c_blockL v (bs.take p) rs (IntKind.u64.wrap (c + IntKind.u64.wrap bs.length)) (h := h.set kd (dgL v.l rs (IntKind.u64.wrap (c + IntKind.u64.wrap bs.length)))) (kd := kd) (List.getElem?_set_self hkd) (by simp; omega)
  rw [show (bs.take p).length / 64 = q by simp; omega, hp, blks_take v bs q (by omega), ← hp, List.set_set] at hbl
  have h0 : IntKind.wrap .i64 0 = 0 := rfl
  have e5 : ((bs.drop p).map eB).take 64 = (bs.drop p).map eB := List.take_of_length_le (by simp; omega)
  have e6 : (0 + (bs.drop p).length ≤ (rs.map eB).length) = True := by simp; omega
  have e7 : (bs.drop p).map eB ++ (rs.map eB).drop (bs.drop p).length = (bs.drop (64 * (bs.length / 64)) ++ rs.drop (bs.length % 64)).map eB := by
    rw [List.map_append, ← List.map_drop, hp, hq, List.length_drop]
    congr 3; omega
  have e8 : ((bs.drop p).length ≤ rs.length) = True := by simp; omega
  have e9 : min (bs.drop p).length 64 = (bs.drop p).length := by simp; omega
  simp only [eBs] at hbl
  repeat' (first
    | simp (implicitDefEqProofs := false) only [push_cast, reduceIte, reduceCtorEq, Nat.reduceAdd, Nat.reduceSub, Nat.reduceEqDiff, Nat.reduceLT, Nat.reduceLeDiff, Nat.reduceBEq, Nat.reduceMul, Int.reduceLT, Int.reduceLE, Int.reduceEq, Int.reduceToNat, Int.reduceMul, Int.reduceNeg, Go.Proofs.Try.f125, hk, hc, h0, e1, e2, e3, e4, et, ed, ek, e5, e6, e8, e9, hkd, dgL, eBs, List.length_map, Int.toNat_natCast, cast64, ne_hi hkd, ne_hi' hkd, ne_h hkd, ne_h' hkd, ap_lo, st_lo, st_ne, st_eq, len_st, st_st, sst, at_set, at_set0, at_set2, List.replicate_succ, List.drop_zero]
    | refine Sp2.f ?_ ?_
    | refine Spl.f ?_ ?_ <;> intro hb
    | refine rq_mk rfl (fun b hb => ?_)
    | refine r_draw (U := [[], [], [], [], [], [], [], [], [], [3], []]) (H := []) hmix (by kernel_rfl) (by decide +kernel) (by kernel_rfl) ?_
    | refine k_det hbl ?_)
  · omega
  · omega
  · refine ⟨?_, rfl⟩
    rw [List.take_of_length_le (by simp), e7, hq]
theorem c_WriteF (v : V8) (bs rs : List UInt8) (c : Int) (t m : Nat) {h : List Entry} {kd : Nat} (hk : h[kd]? = some (dgL v.l rs c)) (hl : bs.length ≤ 1000000000) (hr : rs.length = 64) (hc : c.tmod 64 = t) (ht : 0 < t ∧ t < 64) (hm : t + bs.length = 64 * m) (hm1 : 1 ≤ m) :
    ∃ rs', FSpec prog 125 [.ref kd [0] 184, eBs bs] h fun r h' => r = .tup [] ∧ h' = h.set kd (dgL (blks v (rs.take t ++ bs) m).l rs' (IntKind.u64.wrap (c + IntKind.u64.wrap bs.length))) := by
  have hkd := lt_some hk
  obtain ⟨g, hg⟩ : ∃ g, g = 64 - t := ⟨_, rfl⟩
  obtain ⟨c2, hc2⟩ : ∃ c2, c2 = IntKind.u64.wrap (c + IntKind.u64.wrap bs.length) := ⟨_, rfl⟩
  have hrs1 : (rs.take t ++ bs.take g).length = 64 := by simp; omega
  have hb1 := c_blockW v (rs.take t ++ bs.take g) c2 (h := h.set kd (dgL v.l (rs.take t ++ bs.take g) c2)) (kd := kd) (List.getElem?_set_self hkd) hrs1
  have hb2 := c_blockL (blks v (rs.take t ++ bs.take g) 1) (bs.drop g) (rs.take t ++ bs.take g) c2 (h := h.set kd (dgL (blks v (rs.take t ++ bs.take g) 1).l (rs.take t ++ bs.take g) c2)) (kd := kd) (List.getElem?_set_self hkd) (by simp; omega)
  rw [List.set_set] at hb1 hb2
  have hq : (bs.drop g).length / 64 = m - 1 := by simp; omega
  have hall : blks (blks v (rs.take t ++ bs.take g) 1) (bs.drop g) (m - 1) = blks v (rs.take t ++ bs) m := by
    have := blks_app v (rs.take t ++ bs.take g) (bs.drop g) 1 (m - 1) (by rw [hrs1])
    rw [List.append_assoc, List.take_append_drop, show 1 + (m - 1) = m by omega] at this
    exact this.symm
  rw [hq, hall] at hb2
  refine ⟨rs.take t ++ bs.take g, det_setU wfp (dgL_below ..) (frun_125 rfl ?_)⟩
  rw [← hc2]
  have h0 : IntKind.wrap .i64 (t : Int) = (t : Int) := i64_nat t rfl (by omega)
  have f0 : decide ((0 : Int) < (t : Int)) = true := by simp; omega
  have f1 : (0 ≤ (t : Int) ∧ (t : Int) ≤ 64) = True := by simp; omega
  have f2 : ((t : Int) ≤ 64) = True := by simp; omega
  have f3 : (bs.map eB).take (64 - t) = (bs.take g).map eB := by rw [← List.map_take, hg]
  have f4 : (t + (bs.take g).length ≤ rs.length) = True := by simp; omega
  have f5 : (rs.map eB).take t ++ ((bs.take g).map eB ++ (rs.map eB).drop (t + (bs.take g).length)) = (rs.take t ++ bs.take g).map eB := by
    rw [← List.map_take, ← List.map_drop, List.drop_of_length_le (by simp; omega)]; simp
  have f6 : min bs.length (64 - t) = g := by omega
  have f7 : (0 ≤ (g : Int) ∧ (g : Int) ≤ (bs.length : Int)) = True := by simp; omega
  have f8 : ((g : Int) ≤ (bs.length : Int)) = True := by simp; omega
  have ek : (bs.map eB).take bs.length = bs.map eB := List.take_of_length_le (by simp)
  have ed : (bs.map eB).drop g = (bs.drop g).map eB := (List.map_drop ..).symm
  have w1 : IntKind.wrap .i64 ((t : Int) + (g : Int)) = ((64 : Nat) : Int) := i64_nat 64 (by omega) (by omega)
  have w2 : decide ((64 : Int) < 64) = false := rfl
  generalize hbd : bs.drop g = bd at ed hb2
  have hbdl : bd.length = 64 * (m - 1) := by rw [← hbd]; simp; omega
  obtain ⟨p, hp⟩ : ∃ p, p = bd.length := ⟨_, rfl⟩
  have e1 : IntKind.wrap .i64 ((bd.length : Int).tdiv 64) = ((m - 1 : Nat) : Int) := by
    refine i64_nat (m - 1) ?_ (by omega)
    rw [Int.tdiv_eq_ediv_of_nonneg (by omega)]; omega
  obtain ⟨q, hqq⟩ : ∃ q, q = m - 1 := ⟨_, rfl⟩
  rw [← hqq] at e1
  have e2 : IntKind.wrap .i64 ((q : Int) * 64) = (bd.length : Int) := i64_nat bd.length (by omega) (by omega)
  have e3 : (0 ≤ (bd.length : Int) ∧ (bd.length : Int) ≤ (bd.length : Int)) = True := by simp
  have e4 : ((bd.length : Int) ≤ (bd.length : Int)) = True := by simp
  have e5 : (bd.map eB).take bd.length = bd.map eB := List.take_of_length_le (by simp)
  have e6 : (bd.map eB).drop bd.length = [] := List.drop_of_length_le (by simp)
  have n1 : ((0 : Int) ≤ (t : Int)) = True := by simp
  have n2 : ((0 : Int) ≤ (g : Int)) = True := by simp
  have n3 : ((0 : Int) ≤ (bd.length : Int)) = True := by simp
  have n4 : ((bs.length : Int) ≤ (bs.length : Int)) = True := by simp
  simp only [eBs, dgL] at hb1 hb2
  repeat' (first
    | simp (implicitDefEqProofs := false) only [push_cast, reduceIte, reduceCtorEq, Nat.reduceAdd, Nat.reduceSub, Nat.reduceEqDiff, Nat.reduceLT, Nat.reduceLeDiff, Nat.reduceBEq, Nat.reduceMul, Int.reduceLT, Int.reduceLE, Int.reduceEq, Int.reduceToNat, Int.reduceMul, Int.reduceNeg, Go.Proofs.Try.f125, hk, hc, h0, f0, f1, f2, f3, f4, f5, f6, f7, f8, ek, ed, w1, w2, e1, e2, e3, e4, e5, e6, hkd, ← hc2, n1, n2, n3, n4, dgL, eBs, List.take_nil, Nat.zero_le, Nat.zero_min, List.length_map, Int.toNat_natCast, cast64, ne_hi hkd, ne_hi' hkd, ne_h hkd, ne_h' hkd, ap_lo, st_lo, st_ne, st_eq, len_st, st_st, sst, at_set, at_set0, at_set2, List.replicate_succ, List.drop_zero]
    | refine Sp2.f ?_ ?_
    | refine Spl.f ?_ ?_ <;> intro hb
    | refine rq_mk rfl (fun b hb => ?_)
    | refine r_draw (U := [[], [], [], [], [], [], [], [], [], [3], []]) (H := []) hmix (by kernel_rfl) (by decide +kernel) (by kernel_rfl) ?_
    | refine k_det hb1 ?_
    | refine k_det hb2 ?_)
  all_goals first
    | omega
    | (refine ⟨?_, rfl⟩
       rw [List.take_of_length_le (by simp)])
theorem c_DNew (h : List Entry) : FSpec prog 124 [] h fun r h' => r = .ref h.length [0] 184 ∧ h' = h ++ [dgL v8.l (List.replicate 64 0) 0] := by
  refine frun_124 rfl ?_
  repeat' (first
    | simp (implicitDefEqProofs := false) only [push_cast, reduceIte, reduceCtorEq, Nat.reduceAdd, Nat.reduceSub, Nat.reduceEqDiff, Nat.reduceLT, Nat.reduceLeDiff, Nat.reduceBEq, Nat.reduceMul, Int.reduceLT, Int.reduceLE, Int.reduceEq, Int.reduceToNat, Int.reduceMul, Int.reduceNeg, Go.Proofs.Try.f124]
    | refine Sp2.f ?_ ?_
    | refine Spl.f ?_ ?_ <;> intro hb
    | refine rq_mk rfl (fun b hb => ?_)
    | refine k_fn c_first ?_)
  rfl
theorem c_DCopy (l : List Int) (rs : List UInt8) (c : Int) {h : List Entry} {kd : Nat} (hk : h[kd]? = some (dgL l rs c)) : FSpec prog 152 [.ref kd [0] 184] h fun r h' => r = .ref h.length [0] 184 ∧ h' = h ++ [dgL l rs c] := by
  have hkd := lt_some hk
  refine frun_152 rfl ?_
  repeat' (first
    | simp (implicitDefEqProofs := false) only [push_cast, reduceIte, reduceCtorEq, Nat.reduceAdd, Nat.reduceSub, Nat.reduceEqDiff, Nat.reduceLT, Nat.reduceLeDiff, Nat.reduceBEq, Nat.reduceMul, Int.reduceLT, Int.reduceLE, Int.reduceEq, Int.reduceToNat, Int.reduceMul, Int.reduceNeg, Go.Proofs.Try.f152, hk, hkd, dgL, ne_hi hkd, ne_hi' hkd, ne_h hkd, ne_h' hkd, ap_lo, st_lo, st_ne, st_eq, len_st, st_st, sst, at_set, at_set0, at_set2, List.replicate_succ, List.drop_zero]
    | refine Sp2.f ?_ ?_
    | refine Spl.f ?_ ?_ <;> intro hb
    | refine rq_mk rfl (fun b hb => ?_))

end Go.Abs
