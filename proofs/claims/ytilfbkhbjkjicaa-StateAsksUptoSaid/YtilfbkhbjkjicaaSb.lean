/- Sb: a part of the proofs about the tuple space and its bytes. -/
import Derived.Test.YtilfbkhbjkjicaaSp2
import Derived.Test.YtilfbkhbjkjicaaGv
set_option linter.all false
set_option maxRecDepth 100000
set_option maxHeartbeats 0
namespace Go.Abs
open Go
open Go.Proofs.Try (prog)
def eB (b : UInt8) : AV := .int .u8 b.toNat
def eN (x : Int) : AV := .int .u32 x
def eBs (l : List UInt8) : AV := .list 5 (l.map eB)
theorem yat (l : List UInt8) : wk prog 6 30 (eBs l) = eBs l := qcb ..
theorem zas (l : List UInt8) : tyB prog (eBs l) 30 = true := by simp [eBs, tyB, zbl]
theorem qat (l : List UInt8) : zah (eBs l) = true := rfl
theorem yc8 (x : UInt8) : dat (eB x) = true := rfl
theorem zbd (l : List UInt8) : dat (eBs l) = true := by rw [eBs, dat_list]; exact yaw eB yc8 l
theorem eN_dat (x : Int) : dat (eN x) = true := rfl
theorem c_rot (x k : Int) (n : Nat) (hn : bits .and .u64 (IntKind.u64.wrap k) 31 = n) (h32 : n ≤ 32) : Fn prog 168 [.int .u32 x, .int .i64 k] (.int .u32 (ybh x n)) := by
  refine run_168 rfl fun h => ?_
  have h1 : ((n : Int) < 0) = False := by simp
  have h2 : IntKind.u64.wrap (32 - (n : Int)) = ((32 - n : Nat) : Int) := by rw [zak]; omega
  have h3 : (((32 - n : Nat) : Int) < 0) = False := by simp
  generalize hm : 32 - n = m at h2 h3
  repeat' (first
    | simp (implicitDefEqProofs := false) only [push_cast, reduceIte, reduceCtorEq, Nat.reduceAdd, Nat.reduceSub, Nat.reduceEqDiff, Nat.reduceLT, Nat.reduceLeDiff, Nat.reduceBEq, Nat.reduceMul, Int.reduceLT, Int.reduceLE, Int.reduceEq, Int.reduceToNat, Int.reduceMul, Int.reduceNeg, Go.Proofs.Try.f168, hn, h1, h2, h3, Int.toNat_natCast]
    | refine Sp2.f ?_ ?_
    | refine Spl.f ?_ ?_ <;> intro hb
    | refine yac rfl (fun b hb => ?_))
  simp only [ybh, hm, or32, shl32, qc4]
theorem c_first : Fn prog 150 [] (.agg 167 (v8.l.map eN)) := by
  refine run_150 rfl fun h => ?_
  repeat' (first
    | simp (implicitDefEqProofs := false) only [push_cast, reduceIte, reduceCtorEq, Nat.reduceAdd, Nat.reduceSub, Nat.reduceEqDiff, Nat.reduceLT, Nat.reduceLeDiff, Nat.reduceBEq, Nat.reduceMul, Int.reduceLT, Int.reduceLE, Int.reduceEq, Int.reduceToNat, Int.reduceMul, Int.reduceNeg, Go.Proofs.Try.f150]
    | refine Sp2.f ?_ ?_
    | refine Spl.f ?_ ?_ <;> intro hb
    | refine yac rfl (fun b hb => ?_))
  exact ⟨rfl, rfl, rfl⟩
theorem c_rounds : Fn prog 167 [] (.agg 185 (kTab.map eN)) := by
  refine run_167 rfl fun h => ⟨?_⟩
  repeat' (first
    | simp (implicitDefEqProofs := false) only [push_cast, reduceIte, reduceCtorEq, Nat.reduceAdd, Nat.reduceSub, Nat.reduceEqDiff, Nat.reduceLT, Nat.reduceLeDiff, Nat.reduceBEq, Nat.reduceMul, Int.reduceLT, Int.reduceLE, Int.reduceEq, Int.reduceToNat, Int.reduceMul, Int.reduceNeg, Go.Proofs.Try.f167]
    | refine Sp2.f ?_ ?_
    | refine Spl.f ?_ ?_ <;> intro hb
    | refine yac rfl (fun b hb => ?_))
  exact ⟨rfl, rfl, rfl⟩
end Go.Abs
set_option linter.all false
set_option maxRecDepth 100000
set_option maxHeartbeats 0
namespace Go.Abs
open Go
open Go.Proofs.Try (prog)
def dgL (l : List Int) (rs : List UInt8) (c : Int) : Entry := ⟨184, [.agg 184 [.agg 167 (l.map eN), .agg 182 (rs.map eB), .int .u64 c]], .own⟩
def wE (l : List Int) : Entry := ⟨185, [.agg 185 (l.map eN)], .own⟩
def vE (v : V8) : Entry := ⟨167, [.agg 167 (v.l.map eN)], .own⟩
theorem qdn (l : List Int) (rs : List UInt8) (c : Int) (n : Nat) : yas n (dgL l rs c).es = true := by
  have h1 := zbj (n := n) _ (yaw eN eN_dat l)
  have h2 := zbj (n := n) _ (yaw eB yc8 rs)
  simp only [dgL, yas, zan, h1, h2, Bool.and_self]
theorem ycg : ((64 : Nat) : Int) = 64 := rfl
theorem cast8 : ((8 : Nat) : Int) = 8 := rfl
theorem rot7 (x : Int) : Fn prog 168 [.int .u32 x, .int .i64 (-7)] (.int .u32 (ybh x 25)) := c_rot x (-7) 25 (by decide +kernel) (by omega)
theorem rot18 (x : Int) : Fn prog 168 [.int .u32 x, .int .i64 (-18)] (.int .u32 (ybh x 14)) := c_rot x (-18) 14 (by decide +kernel) (by omega)
theorem rot17 (x : Int) : Fn prog 168 [.int .u32 x, .int .i64 (-17)] (.int .u32 (ybh x 15)) := c_rot x (-17) 15 (by decide +kernel) (by omega)
theorem rot19 (x : Int) : Fn prog 168 [.int .u32 x, .int .i64 (-19)] (.int .u32 (ybh x 13)) := c_rot x (-19) 13 (by decide +kernel) (by omega)
theorem rot6 (x : Int) : Fn prog 168 [.int .u32 x, .int .i64 (-6)] (.int .u32 (ybh x 26)) := c_rot x (-6) 26 (by decide +kernel) (by omega)
theorem rot11 (x : Int) : Fn prog 168 [.int .u32 x, .int .i64 (-11)] (.int .u32 (ybh x 21)) := c_rot x (-11) 21 (by decide +kernel) (by omega)
theorem rot25 (x : Int) : Fn prog 168 [.int .u32 x, .int .i64 (-25)] (.int .u32 (ybh x 7)) := c_rot x (-25) 7 (by decide +kernel) (by omega)
theorem rot2 (x : Int) : Fn prog 168 [.int .u32 x, .int .i64 (-2)] (.int .u32 (ybh x 30)) := c_rot x (-2) 30 (by decide +kernel) (by omega)
theorem rot13 (x : Int) : Fn prog 168 [.int .u32 x, .int .i64 (-13)] (.int .u32 (ybh x 19)) := c_rot x (-13) 19 (by decide +kernel) (by omega)
theorem rot22 (x : Int) : Fn prog 168 [.int .u32 x, .int .i64 (-22)] (.int .u32 (ybh x 10)) := c_rot x (-22) 10 (by decide +kernel) (by omega)
theorem qap {n : Int} (m : Nat) (h : n = m) (hm : m < 9223372036854775808) : IntKind.i64.wrap n = (m : Int) := by
  rw [h, IntWalk.i64_in _ (by omega)]
def wAt (s : List UInt8) (old : List Int) (j : Nat) : List Int := ybk s j ++ old.drop j
theorem yc9 (s : List UInt8) (old : List Int) (j : Nat) (hl : old.length = 64) (hj : j ≤ 64) : (wAt s old j).length = 64 := by simp [wAt, ybp]; omega
theorem ybx (s : List UInt8) (old : List Int) {i j : Nat} (h : i < j) : ((wAt s old j).map eN)[i]? = some (eN ((ybk s j).getD i 0)) := by
  rw [List.getElem?_map, wAt, List.getElem?_append_left (by rw [ybp]; exact h), List.getElem?_eq_getElem (by rw [ybp]; exact h), List.getD_eq_getElem?_getD, List.getElem?_eq_getElem (by rw [ybp]; exact h)]
  rfl
theorem qdp (s : List UInt8) (old : List Int) {j : Nat} (hl : old.length = 64) (h : j < 64) : ((wAt s old j).map eN).set j (eN (ydf s j (ybk s j))) = (wAt s old (j + 1)).map eN := by
  rw [← List.map_set, wAt, wAt, ybk]
  congr 1
  have e : old.drop j = old[j]'(by omega) :: old.drop (j + 1) := List.drop_eq_getElem_cons (by omega)
  rw [List.set_append_right _ _ (by rw [ybp]; exact Nat.le_refl _), ybp, Nat.sub_self, e, List.set_cons_zero, List.append_assoc]
  rfl
theorem wAt_64 (s : List UInt8) (old : List Int) (hl : old.length = 64) : wAt s old 64 = ybk s 64 := by
  rw [wAt, List.drop_of_length_le (by omega), List.append_nil]
theorem zdz {l : List UInt8} {i : Nat} (h : i < l.length) : (l.map eB).getD i .junk = eB (l.getD i 0) := by
  rw [List.getD_eq_getElem?_getD, List.getElem?_map, List.getElem?_eq_getElem h, List.getD_eq_getElem?_getD, List.getElem?_eq_getElem h]; rfl
theorem ybi {l : List Int} {i : Nat} (h : i < l.length) : (l.map eN)[i]? = some (eN (l.getD i 0)) := by
  rw [List.getElem?_map, List.getElem?_eq_getElem h, List.getD_eq_getElem?_getD, List.getElem?_eq_getElem h]; rfl
def mix (a b : List Int) (j : Nat) : List Int := (List.zipWith zbe a b).take j ++ a.drop j
theorem mix_len {a b : List Int} {j : Nat} (hl : a.length = b.length) (hj : j ≤ a.length) : (mix a b j).length = a.length := by
  simp only [mix, List.length_append, List.length_take, List.length_zipWith, List.length_drop]; omega
theorem mix_set {a b : List Int} {j : Nat} (hl : a.length = b.length) (hj : j < a.length) : ((mix a b j).map eN).set j (eN (zbe ((mix a b j).getD j 0) (b.getD j 0))) = (mix a b (j + 1)).map eN := by
  have hz : (List.zipWith zbe a b).length = a.length := by rw [List.length_zipWith]; omega
  have h0 : ((List.zipWith zbe a b).take j).length = j := by rw [List.length_take]; omega
  have hg : (mix a b j).getD j 0 = a[j] := by
    rw [List.getD_eq_getElem?_getD, mix, List.getElem?_append_right (by omega), h0, Nat.sub_self, List.getElem?_drop, Nat.add_zero, List.getElem?_eq_getElem hj]; rfl
  have hb : b.getD j 0 = b[j]'(by omega) := by rw [List.getD_eq_getElem?_getD, List.getElem?_eq_getElem (by omega)]; rfl
  rw [hg, hb, ← List.map_set]
  congr 1
  have e : a.drop j = a[j] :: a.drop (j + 1) := List.drop_eq_getElem_cons hj
  rw [mix, mix, List.set_append_right _ _ (by omega), h0, Nat.sub_self, e, List.set_cons_zero, List.take_add_one, List.getElem?_zipWith, List.getElem?_eq_getElem hj, List.getElem?_eq_getElem (show j < b.length by omega)]
  simp
theorem get_mapB {l : List UInt8} {i : Nat} (h : i < l.length) : (l.map eB)[i]? = some (eB (l.getD i 0)) := by
  rw [List.getElem?_map, List.getElem?_eq_getElem h, List.getD_eq_getElem?_getD, List.getElem?_eq_getElem h]; rfl
theorem eB_eq (b : UInt8) : eB b = .int .u8 b.toNat := rfl
theorem max64 : max 64 64 = 64 := rfl
end Go.Abs
