/- Gw: a part of the proofs about the tuple space and its bytes. -/
import Derived.Test.YtilfbkhbjkjicaaGd
set_option linter.all false
namespace Go.Abs
open Go
section
variable {P : Program}
theorem bzd_datw {h : List Entry} : ∀ (n : Nat) (a : AV), dat a = true → bzd h n a = a
  | 0, a, _ => rfl
  | n + 1, a, hd => by
    cases a <;> simp only [Go.Abs.bzd] <;> try rfl
    case agg T vs =>
      rw [qbt] at hd
      congr 1
      have : ∀ l : List AV, qc8 l = true → l.map (Go.Abs.bzd h n) = l := by
        intro l
        induction l with
        | nil => intro _; rfl
        | cons a l ih =>
          intro hl
          rw [yb7, Bool.and_eq_true] at hl
          rw [List.map_cons, bzd_datw n a hl.1, ih hl.2]
      exact this vs hd
    case win => simp [dat] at hd
end
end Go.Abs
