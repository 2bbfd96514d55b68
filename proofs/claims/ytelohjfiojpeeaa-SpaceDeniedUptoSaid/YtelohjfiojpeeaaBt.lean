/- Bt: a part of the proofs about the tuple space (layer 8). -/
import Derived.Test.YtelohjfiojpeeaaAbs26
namespace Go.Abs
open Go
theorem bv_back (X : BitVec 64) : BitVec.ofInt 64 (IntKind.wrap .i64 (X.toNat : Int)) = X := by
  apply BitVec.eq_of_toNat_eq
  have hX := X.isLt
  rw [BitVec.toNat_ofInt]
  simp only [IntKind.wrap, IntKind.bits, IntKind.signed, Bool.true_and, ge_iff_le, decide_eq_true_eq]
  split <;> omega
theorem bits_mask (a : Int) {m k : Int} (h : BitVec.ofInt 64 m &&& BitVec.ofInt 64 k = BitVec.ofInt 64 k) : bits .and .i64 (bits .and .i64 a m) k = bits .and .i64 a k := by
  show IntKind.wrap .i64 ((BitVec.ofInt 64 (IntKind.wrap .i64 ((BitVec.ofInt 64 a &&& BitVec.ofInt 64 m).toNat : Int)) &&& BitVec.ofInt 64 k).toNat : Int) = IntKind.wrap .i64 ((BitVec.ofInt 64 a &&& BitVec.ofInt 64 k).toNat : Int)
  rw [bv_back, BitVec.and_assoc, h]
theorem bits15 (a : Int) : 0 ≤ bits .and .i64 a 15 ∧ bits .and .i64 a 15 < 16 := by
  have e : (BitVec.ofInt 64 a &&& BitVec.ofInt 64 15).toNat ≤ 15 := by
    rw [BitVec.toNat_and]; exact Nat.and_le_right
  show 0 ≤ IntKind.wrap .i64 ((BitVec.ofInt 64 a &&& BitVec.ofInt 64 15).toNat : Int) ∧ IntKind.wrap .i64 ((BitVec.ofInt 64 a &&& BitVec.ofInt 64 15).toNat : Int) < 16
  rw [IntWalk.i64_in _ (by omega)]
  omega
theorem bit_same (n : _root_.Fin 16) (c : _root_.Fin 4) : (bits .and .i64 (Int.fdiv (n.val : Int) (2 ^ (min (IntKind.wrap .u64 (c.val : Int)).toNat IntKind.i64.bits))) 1 == 0) = (bits .and .i64 (n.val : Int) (IntKind.wrap .i64 (1 * 2 ^ (min (IntKind.wrap .u64 (c.val : Int)).toNat IntKind.i64.bits))) == 0) := by
  revert n c; decide +kernel
theorem bit_of (a : Int) (c : Nat) (hc : c < 4) : (bits .and .i64 (Int.fdiv (bits .and .i64 a 15) (2 ^ (min (IntKind.wrap .u64 (c : Int)).toNat IntKind.i64.bits))) 1 == 0) = (bits .and .i64 a (IntKind.wrap .i64 (1 * 2 ^ (min (IntKind.wrap .u64 (c : Int)).toNat IntKind.i64.bits))) == 0) := by
  obtain ⟨h0, h1⟩ := bits15 a
  have hm : BitVec.ofInt 64 15 &&& BitVec.ofInt 64 (IntKind.wrap .i64 (1 * 2 ^ (min (IntKind.wrap .u64 (c : Int)).toNat IntKind.i64.bits))) = BitVec.ofInt 64 (IntKind.wrap .i64 (1 * 2 ^ (min (IntKind.wrap .u64 (c : Int)).toNat IntKind.i64.bits))) := by
    rcases (by omega : c = 0 ∨ c = 1 ∨ c = 2 ∨ c = 3) with rfl | rfl | rfl | rfl <;> decide +kernel
  rw [← bits_mask a hm]
  generalize hb : bits .and .i64 a 15 = b at h0 h1
  obtain ⟨n, rfl⟩ : ∃ n : Nat, b = n := ⟨b.toNat, by omega⟩
  exact bit_same ⟨n, by omega⟩ ⟨c, hc⟩
theorem mask16 (a : Int) : (bits .and .i64 a 15).fdiv 16 = 0 := by
  obtain ⟨h0, h1⟩ := bits15 a
  rw [Int.fdiv_eq_ediv_of_nonneg _ (by omega)]
  omega
end Go.Abs
