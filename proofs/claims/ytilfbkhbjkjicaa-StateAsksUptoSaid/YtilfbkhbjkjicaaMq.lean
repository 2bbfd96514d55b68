/- Mq: a part of the proofs about the tuple space and its bytes. -/
import Derived.Test.YtilfbkhbjkjicaaR2
import Derived.Test.YtilfbkhbjkjicaaGv
set_option linter.all false
set_option maxRecDepth 100000
set_option maxHeartbeats 0
namespace Go.Abs
open Go
open Go.Proofs.Try (prog)
theorem bs_nil {s : ByteArray} (h : (s == (⟨#[]⟩ : ByteArray)) = true) : s.size = 0 := by
  obtain ⟨d⟩ := s
  have h2 : (d == #[]) = true := h
  have := eq_of_beq h2
  subst this
  rfl
theorem ok6_2 (x : Fld) : ok6 2 x = x.plain := by
  have e : (⟨#[]⟩ : ByteArray).size = 0 := rfl
  unfold ok6 Fld.plain
  by_cases h1 : x.K = 1
  · rw [if_pos h1, h1]
    cases hs : (x.S == (⟨#[]⟩ : ByteArray)) with
    | true => simp [bs_nil hs]
    | false => simp
  · rw [if_neg h1]
    by_cases h2 : x.K = 2
    · rw [if_pos h2, h2]
      by_cases hn : x.N = 0
      · simp [hn]
      · simp [hn]
    · rw [if_neg h2]
      have : (decide (1 ≤ x.K) && decide (x.K ≤ 2)) = false := by
        by_cases h3 : 1 ≤ x.K
        · rw [decide_eq_false (p := x.K ≤ 2) (by omega)]; simp
        · rw [decide_eq_false h3]; rfl
      rw [this]; rfl
theorem ok6_5 (x : Fld) : ok6 5 x = x.asked := by
  have e : (⟨#[]⟩ : ByteArray).size = 0 := rfl
  by_cases h : x.K = 3 ∨ x.K = 4 ∨ x.K = 5
  · unfold ok6 Fld.asked
    rw [if_pos h]
    have h1 : decide (1 ≤ x.K) = true := decide_eq_true (by omega)
    have h2 : decide (x.K ≤ 5) = true := decide_eq_true (by omega)
    have h3 : (x.K == 1) = false := beq_eq_false_iff_ne.2 (by omega)
    have h4 : (x.K == 2) = false := beq_eq_false_iff_ne.2 (by omega)
    rw [h1, h2, h3, h4]
    cases hs : (x.S == (⟨#[]⟩ : ByteArray)) with
    | true =>
      by_cases hn : x.N = 0
      · simp [hn, bs_nil hs]
      · simp [hn]
    | false => simp
  · have e1 : x.asked = x.plain := by unfold Fld.asked; rw [if_neg h]
    rw [e1, ← ok6_2]
    unfold ok6
    by_cases h3 : x.K ≤ 2
    · rw [decide_eq_true h3, decide_eq_true (p := x.K ≤ 5) (by omega)]
    · rw [decide_eq_false h3, decide_eq_false (p := x.K ≤ 5) (by omega)]
theorem may6_2 (l : List Fld) : may6 l 2 = mayT l := by
  unfold may6 mayT
  congr 1
  exact congrArg l.all (funext ok6_2)
theorem may6_5 (l : List Fld) : may6 l 5 = qcf l := by
  unfold may6 qcf
  congr 1
  exact congrArg l.all (funext ok6_5)
end Go.Abs
