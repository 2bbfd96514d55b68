/- Dn: a part of the proofs about the tuple space and its bytes. -/
import Derived.Test.YtilfbkhbjkjicaaSp2
import Derived.Test.YtilfbkhbjkjicaaBi
set_option linter.all false
set_option maxRecDepth 100000
set_option maxHeartbeats 0
namespace Go.Abs
open Go
open Go.Proofs.Try (prog)
section
variable {P : Program} {H : Type}
theorem ofD_int {t : TypeId} {k : IntKind} (hs : zab P t = .int k) (n : Nat) (k' : IntKind) (m : Int) : ofD P (n + 1) t (.lit (.int k' m) : DataW H) = .int k m := by unfold ofD; rw [hs]
end
theorem d_int {H : Type} {d : DataW H} (n : Nat) (h : okD prog (n + 1) 3 d) : ∃ m, ofD prog (n + 1) 3 d = .int .i64 m := by
  unfold okD at h
  rw [sh_3] at h
  cases d <;> first | exact h.elim | skip
  rename_i l
  cases l <;> first | exact h.elim | skip
  exact ⟨_, ofD_int sh_3 _ _ _⟩
def rowLen {H : Type} : DataW H → Nat
  | .slice es _ => es.length
  | _ => 0
theorem laidP : laidOutB prog = true := by kernel_rfl
end Go.Abs
