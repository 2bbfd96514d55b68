/- Dx: a part of the proofs about the tuple space and its bytes. -/
import Derived.Test.YtilfbkhbjkjicaaDs
import Derived.Test.YtilfbkhbjkjicaaBi
import Derived.Test.YtilfbkhbjkjicaaSb
set_option linter.all false
set_option maxRecDepth 100000
set_option maxHeartbeats 0
namespace Go.Abs
open Go
open Go.Proofs.Try (prog)
theorem d_byteA {H : Type} {d : DataW H} (n : Nat) (h : okD prog (n + 1) 5 d) : ∃ c : UInt8, ofD prog (n + 1) 5 d = .int .u8 c.toNat := by
  have hi := in_ofD _ _ _ h
  unfold okD at h
  rw [sh_5] at h
  cases d <;> first | exact h.elim | skip
  rename_i l
  cases l <;> first | exact h.elim | skip
  rename_i k m
  have e : ofD prog (n + 1) 5 (.lit (.int k m) : DataW H) = .int .u8 m := by simp only [ofD, sh_5]
  rw [e] at hi ⊢
  simp only [inA, Bool.and_eq_true, decide_eq_true_eq] at hi
  have h0 : (0 : Int) ≤ m := hi.1
  have h1 : m ≤ 255 := hi.2
  refine ⟨UInt8.ofNat m.toNat, ?_⟩
  rw [UInt8.toNat_ofNat']
  congr 1
  omega
theorem d_bytes {H : Type} {d : DataW H} (n : Nat) (h : okD prog (n + 2) 30 d) : ∃ l : List UInt8, ofD prog (n + 2) 30 d = eBs l ∧ l.length = rowLen d := by
  unfold okD at h
  rw [zbl] at h
  cases d <;> simp only at h
  · exact ⟨[], ofD_nil zbl _, rfl⟩
  · rename_i es sp
    obtain ⟨l, h1, h2⟩ := map_of (e := eB) fun d hd => by
      obtain ⟨c, hc⟩ := d_byteA n (h d hd)
      exact ⟨c, hc⟩
    exact ⟨l, by rw [zdk zbl, h1]; rfl, h2⟩
end Go.Abs
