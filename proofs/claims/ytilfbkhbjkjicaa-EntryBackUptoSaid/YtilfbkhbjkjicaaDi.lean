/- Di: a part of the proofs about the tuple space and its bytes. -/
import Derived.Test.YtilfbkhbjkjicaaBi
import Derived.Test.YtilfbkhbjkjicaaP2
import Derived.Test.YtilfbkhbjkjicaaCt
set_option linter.all false
set_option maxRecDepth 100000
set_option maxHeartbeats 0
namespace Go.Abs
open Go
open Go.Proofs.Try (prog)
/-! ### the numbers of what is handed in are of their kinds -/
theorem inF {f : Fld} (h : inA (eF f) = true) : f.In := by
  simp only [eF, inA, inL, Bool.and_eq_true, decide_eq_true_eq] at h
  exact ⟨h.2.1.1, h.2.1.2⟩
theorem inFs {l : List Fld} (h : inA (eFs l) = true) : ∀ f ∈ l, f.In := by
  intro f hf
  rw [eFs, inA, inL_all] at h
  exact inF (h _ (List.mem_map.2 ⟨f, hf, rfl⟩))
theorem inQ {r : Req} (h : inA (eQ r) = true) : (∀ f ∈ r.T, f.In) ∧ ∀ f ∈ r.P, f.In := by
  simp only [eQ, inA, inL, Bool.and_eq_true] at h
  exact ⟨inFs h.2.2.2.2.1, inFs h.2.2.2.1⟩
theorem inAsks {l : List Asked} (h : inA (.list 62 (l.map eA)) = true) : ∀ x ∈ l, (∀ f ∈ x.R.T, f.In) ∧ ∀ f ∈ x.R.P, f.In := by
  intro x hx
  rw [inA, inL_all] at h
  have := h _ (List.mem_map.2 ⟨x, hx, rfl⟩)
  simp only [eA, inA, inL, Bool.and_eq_true] at this
  exact inQ this.1
theorem inS {s : Spc} (h : inA (eS s) = true) : s.In := by
  simp only [eS, inA, inL, Bool.and_eq_true] at h
  obtain ⟨_, hi, hw, _, _, hl, _⟩ := h
  rw [eIs, inA, inL_all] at hi
  rw [eWs, inA, inL_all] at hw
  rw [eL, inA, inL_all] at hl
  refine ⟨fun x hx => ?_, fun x hx => ?_, fun x hx => ?_⟩
  · have := hi _ (List.mem_map.2 ⟨x, hx, rfl⟩)
    simp only [eI, inA, inL, Bool.and_eq_true] at this
    exact inFs this.2.2.1
  · have := hw _ (List.mem_map.2 ⟨x, hx, rfl⟩)
    simp only [eW, inA, inL, Bool.and_eq_true] at this
    exact inFs this.2.2.2.1
  · have := hl _ (List.mem_map.2 ⟨x, hx, rfl⟩)
    simp only [eR, inA, inL, Bool.and_eq_true] at this
    exact inFs this.2.2.2.1
theorem d_byte {H : Type} {d : DataW H} (n : Nat) (h : okD prog (n + 1) 5 d) : ∃ c : UInt8, ofD prog (n + 1) 5 d = .int .u8 c.toNat := by
  have hi := in_ofD _ _ _ h
  unfold okD at h
  rw [sh_5] at h
  cases d <;> first | exact h.elim | skip
  rename_i l
  cases l <;> first | exact h.elim | skip
  rename_i k m
  have e : ofD prog (n + 1) 5 (.lit (.int k m) : DataW H) = .int .u8 m := by simp only [ofD, sh_5]
  rw [e] at hi ⊢
  simp only [inA, Bool.and_eq_true, decide_eq_true_eq] at hi
  have h0 : (0 : Int) ≤ m := hi.1
  have h1 : m ≤ 255 := hi.2
  refine ⟨UInt8.ofNat m.toNat, ?_⟩
  rw [UInt8.toNat_ofNat']
  congr 1
  omega

end Go.Abs
