/- De: a part of the proofs about the tuple space and its bytes. -/
import Derived.Test.YtilfbkhbjkjicaaDr
import Derived.Test.YtilfbkhbjkjicaaDi
import Derived.Test.YtilfbkhbjkjicaaEt
set_option linter.all false
set_option maxRecDepth 100000
set_option maxHeartbeats 0
namespace Go.Abs
open Go
open Go.Proofs.Try (prog)
open Go.Proofs.Ytilfbkhbjkjicaa.Rows (uptoBulk uptoBulkAll uptoSmall)
theorem d_requests {H : Type} {d : DataW H} (n : Nat) (h : okD prog (n + 5) 47 d) : ∃ l, ofD prog (n + 5) 47 d = eQs l ∧ l.length ≤ uptoBulk d ∧ ∀ x ∈ l, x.P.length ≤ uptoBulk d ∧ x.T.length ≤ uptoBulk d := by
  have hb := b_row d
  unfold okD at h
  rw [sh_47] at h
  cases d <;> simp only at h
  · exact ⟨[], ofD_nil sh_47 _, Nat.zero_le _, fun x hx => by simp at hx⟩
  · rename_i es sp
    obtain ⟨l, h1, h2, h3⟩ := map_of2 (e := eQ) (Q := fun x => x.P.length ≤ uptoBulk (.slice es sp) ∧ x.T.length ≤ uptoBulk (.slice es sp)) fun d hd => by
      obtain ⟨x, hx, p1, p2⟩ := d_request n (h d hd)
      have := b_mem hd
      refine ⟨x, hx, ?_⟩; simp only [uptoBulk]; omega
    exact ⟨l, by rw [ofD_slice sh_47, h1]; rfl, by rw [h2]; exact hb, h3⟩
theorem d_entry {H : Type} {d : DataW H} (n : Nat) (h : okD prog (n + 6) 49 d) : ∃ e, ofD prog (n + 6) 49 d = eE e ∧ (uptoBulk d ≤ 4294967296 → e.Small) := by
  unfold okD at h
  rw [sh_49] at h
  cases d <;> simp only at h
  rename_i ps
  obtain ⟨hl, hall⟩ := h
  rw [fl_49] at hl hall
  match ps, hl with
  | [a, b], _ =>
    obtain ⟨x1, h1⟩ := d_int (n + 4) (hall 0 _ a rfl rfl)
    obtain ⟨x2, h2, m2, q2⟩ := d_requests n (hall 1 _ b rfl rfl)
    refine ⟨⟨x1, x2⟩, ?_, fun hb => ?_⟩
    · rw [yc7 sh_49, fl_49]
      simp only [List.zipWith_cons_cons, List.zipWith_nil_left, h1, h2, eE]
    · simp only [uptoBulk, uptoBulkAll] at hb
      refine ⟨?_, fun x hx => ?_⟩
      · show x2.length ≤ _; omega
      · have := q2 x hx; exact ⟨by omega, by omega⟩
end Go.Abs
