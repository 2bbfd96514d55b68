/- Ev: a part of the proofs about the tuple space and its bytes. -/
import Derived.Test.YtilfbkhbjkjicaaCt
import Derived.Test.YtilfbkhbjkjicaaGv
import Derived.Test.YtilfbkhbjkjicaaEb
import Derived.Test.YtilfbkhbjkjicaaEt
set_option linter.all false
set_option maxRecDepth 100000
set_option maxHeartbeats 0
namespace Go.Abs
open Go
open Go.Proofs.Try (prog)
theorem u64_range9 (n : Int) : 0 ≤ IntKind.wrap .u64 n ∧ IntKind.wrap .u64 n ≤ 18446744073709551615 := by
  rw [yaq]; omega
theorem mod_small9 (n m : Int) (hm : 1 ≤ m ∧ m ≤ 1000000) : ∃ k, IntKind.wrap .i64 ((IntKind.wrap .u64 n).tmod m) = k ∧ 0 ≤ k ∧ k < m := by
  have h := u64_range9 n
  rw [IntWalk.rem_in _ _ h.1]
  have h1 := Int.emod_nonneg (IntKind.wrap .u64 n) (show m ≠ 0 by omega)
  have h2 := Int.emod_lt_of_pos (IntKind.wrap .u64 n) (show 0 < m by omega)
  exact ⟨_, IntWalk.i64_in _ (by omega), h1, h2⟩
end Go.Abs
set_option linter.all false
set_option maxRecDepth 100000
set_option maxHeartbeats 0
namespace Go.Abs
open Go
open Go.Proofs.Try (prog)
theorem putE_len {e : Ent} (h : zc2 e = true) : 1 ≤ (putE e).length ∧ (putE e).length ≤ 5000 := by
  have hf := fm_len (fun x => zbb (yc7 x)) 604 textQ_len e.List
  simp only [zc2, headE, Bool.and_eq_true, decide_eq_true_eq] at h
  simp only [putE, nb, List.length_append, qax]
  omega
end Go.Abs
