/- To: a part of the proofs about the tuple space and its bytes. -/
import Derived.Test.YtilfbkhbjkjicaaRf1
import Derived.Test.YtilfbkhbjkjicaaGv
set_option linter.all false
set_option maxRecDepth 100000
set_option maxHeartbeats 0
namespace Go.Abs
open Go
open Go.Proofs.Try (prog)
/-! ### told -/
theorem bzWin_fz (T U : TypeId) (fr m : Nat) (a : AV) (es : List AV) : bzWin T [] fr m a (some ⟨U, es, .fz⟩) = if fr + m ≤ es.length then .list T ((es.drop fr).take m) else a := by
  simp only [bzWin, if_true, winGet]
  by_cases hc : fr + m ≤ es.length
  · simp only [if_pos hc]
  · simp only [if_neg hc]
def pAny : List Fld := [⟨5, 0, ByteArray.empty⟩]
def tFour : List Fld := [⟨1, 4, ByteArray.empty⟩]
def S1 : Spc := ⟨1, [], [⟨0, 1, true, pAny⟩], 15, 15, [⟨0, 1, 4, [], false⟩, ⟨1, 0, 0, [], false⟩, ⟨2, 0, 0, [], false⟩, ⟨3, 0, 0, [], false⟩]⟩
def S2 : Spc := ⟨2, [], [], 15, 15, [⟨0, 1, 2, tFour, true⟩, ⟨1, 1, 1, [], false⟩, ⟨2, 0, 0, [], false⟩, ⟨3, 0, 0, [], false⟩]⟩
def S3 : Spc := ⟨3, [], [], 15, 15, [⟨0, 1, 2, tFour, true⟩, ⟨1, 1, 1, [], false⟩, ⟨2, 0, 0, [], false⟩, ⟨3, 0, 0, [], false⟩]⟩
theorem told1D : doS (newS 15 15) 1 ⟨0, 1, 5, pAny, [], 0⟩ = (S1, [⟨0, 1, 4, [], false⟩]) := by kernel_rfl
theorem told2D : doS S1 2 ⟨1, 1, 1, [], tFour, 9⟩ = (S2, [⟨1, 1, 1, [], false⟩, ⟨0, 1, 2, tFour, true⟩]) := by kernel_rfl
theorem told3D : doS S2 3 ⟨0, 1, 5, pAny, [], 0⟩ = (S3, [⟨0, 1, 2, tFour, true⟩]) := by kernel_rfl
theorem told4D : mayS (newS 15 15) = true := by kernel_rfl
theorem told5D : findS S2 pAny = -1 := by kernel_rfl
theorem newS_small (r w : Int) : (newS r w).Small := ⟨⟨by simp [newS], by simp [newS]⟩, ⟨by simp [newS], by simp [newS]⟩, ⟨by simp [newS], by simp [newS]⟩, rfl⟩
theorem S1_small : S1.Small := ⟨⟨by simp [S1], by simp [S1]⟩, ⟨by simp [S1], by simp [S1, pAny]⟩, ⟨by simp [S1], by simp [S1]⟩, rfl⟩
theorem S2_small : S2.Small := ⟨⟨by simp [S2], by simp [S2]⟩, ⟨by simp [S2], by simp [S2]⟩, ⟨by simp [S2], by simp [S2, tFour]⟩, rfl⟩
theorem cast1 : ((1 : Nat) : Int) = 1 := rfl
theorem cast2 : ((2 : Nat) : Int) = 2 := rfl
theorem cast0 : ((0 : Nat) : Int) = 0 := rfl
theorem gS21 : getP (eS S2) [1] = some (.list 87 []) := rfl
theorem gS22 : getP (eS S2) [2] = some (.list 89 []) := rfl
theorem gS30 : getP (eS S3) [0] = some (.int .i64 3) := rfl

end Go.Abs
