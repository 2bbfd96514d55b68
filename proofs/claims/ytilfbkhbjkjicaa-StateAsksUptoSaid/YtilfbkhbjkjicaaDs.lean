/- Ds: a part of the proofs about the tuple space and its bytes. -/
import Derived.Test.YtilfbkhbjkjicaaDr
set_option linter.all false
set_option maxRecDepth 100000
set_option maxHeartbeats 0
namespace Go.Abs
open Go
open Go.Proofs.Try (prog)
open Go.Proofs.Ytilfbkhbjkjicaa.Rows (uptoBulk uptoBulkAll uptoSmall)
section
variable {P : Program} {H : Type}
theorem ofD_arr {t e : TypeId} {k : Nat} (hs : zab P t = .arr k e) (n : Nat) (ps : List (DataW H)) : ofD P (n + 1) t (.agg ps) = .agg t (ps.map (ofD P n e)) := by simp only [ofD, hs]
end
theorem d_item {H : Type} {d : DataW H} (n : Nat) (h : okD prog (n + 4) 87 d) : ∃ x, ofD prog (n + 4) 87 d = eI x ∧ x.T.length ≤ uptoBulk d := by
  unfold okD at h
  rw [sh_87] at h
  cases d <;> simp only at h
  rename_i ps
  obtain ⟨hl, hall⟩ := h
  rw [fl_87] at hl hall
  match ps, hl with
  | [a, b, c], _ =>
    obtain ⟨x1, h1⟩ := d_int (n + 2) (hall 0 _ a rfl rfl)
    obtain ⟨x2, h2⟩ := d_int (n + 2) (hall 1 _ b rfl rfl)
    obtain ⟨x3, h3, l3⟩ := d_fields n (hall 2 _ c rfl rfl)
    have b3 := b_row c
    refine ⟨⟨x1, x2, x3⟩, ?_, ?_⟩
    · rw [zcf sh_87, fl_87]
      simp only [List.zipWith_cons_cons, List.zipWith_nil_left, h1, h2, h3, eI]
    · simp only [uptoBulk, uptoBulkAll]; show x3.length ≤ _; omega
theorem d_waiter {H : Type} {d : DataW H} (n : Nat) (h : okD prog (n + 4) 89 d) : ∃ x, ofD prog (n + 4) 89 d = eW x ∧ x.P.length ≤ uptoBulk d := by
  unfold okD at h
  rw [sh_89] at h
  cases d <;> simp only at h
  rename_i ps
  obtain ⟨hl, hall⟩ := h
  rw [fl_89] at hl hall
  match ps, hl with
  | [a, b, c, k], _ =>
    obtain ⟨x1, h1⟩ := d_int (n + 2) (hall 0 _ a rfl rfl)
    obtain ⟨x2, h2⟩ := d_int (n + 2) (hall 1 _ b rfl rfl)
    obtain ⟨x3, h3⟩ := d_bool (n + 2) (hall 2 _ c rfl rfl)
    obtain ⟨x4, h4, l4⟩ := d_fields n (hall 3 _ k rfl rfl)
    have b4 := b_row k
    refine ⟨⟨x1, x2, x3, x4⟩, ?_, ?_⟩
    · rw [zcf sh_89, fl_89]
      simp only [List.zipWith_cons_cons, List.zipWith_nil_left, h1, h2, h3, h4, eW]
    · simp only [uptoBulk, uptoBulkAll]; show x4.length ≤ _; omega
theorem d_reply {H : Type} {d : DataW H} (n : Nat) (h : okD prog (n + 4) 26 d) : ∃ x, ofD prog (n + 4) 26 d = eR x ∧ x.T.length ≤ uptoBulk d := by
  unfold okD at h
  rw [sh_26] at h
  cases d <;> simp only at h
  rename_i ps
  obtain ⟨hl, hall⟩ := h
  rw [fl_26] at hl hall
  match ps, hl with
  | [a, b, c, k, e], _ =>
    obtain ⟨x1, h1⟩ := d_int (n + 2) (hall 0 _ a rfl rfl)
    obtain ⟨x2, h2⟩ := d_int (n + 2) (hall 1 _ b rfl rfl)
    obtain ⟨x3, h3⟩ := d_int (n + 2) (hall 2 _ c rfl rfl)
    obtain ⟨x4, h4, l4⟩ := d_fields n (hall 3 _ k rfl rfl)
    obtain ⟨x5, h5⟩ := d_bool (n + 2) (hall 4 _ e rfl rfl)
    have b4 := b_row k
    refine ⟨⟨x1, x2, x3, x4, x5⟩, ?_, ?_⟩
    · rw [zcf sh_26, fl_26]
      simp only [List.zipWith_cons_cons, List.zipWith_nil_left, h1, h2, h3, h4, h5, eR]
    · simp only [uptoBulk, uptoBulkAll]; show x4.length ≤ _; omega
theorem d_items {H : Type} {d : DataW H} (n : Nat) (h : okD prog (n + 5) 22 d) : ∃ l, ofD prog (n + 5) 22 d = eIs l ∧ l.length ≤ uptoBulk d ∧ ∀ x ∈ l, x.T.length ≤ uptoBulk d := by
  have hb := b_row d
  unfold okD at h
  rw [sh_22] at h
  cases d <;> simp only at h
  · exact ⟨[], ofD_nil sh_22 _, Nat.zero_le _, fun x hx => by simp at hx⟩
  · rename_i es sp
    obtain ⟨l, h1, h2, h3⟩ := map_of2 (e := eI) (Q := fun x => x.T.length ≤ uptoBulk (.slice es sp)) fun d hd => by
      obtain ⟨x, hx, p1⟩ := d_item n (h d hd)
      have := b_mem hd
      refine ⟨x, hx, ?_⟩; simp only [uptoBulk]; omega
    exact ⟨l, by rw [zdk sh_22, h1]; rfl, by rw [h2]; exact hb, h3⟩
theorem d_waiters {H : Type} {d : DataW H} (n : Nat) (h : okD prog (n + 5) 23 d) : ∃ l, ofD prog (n + 5) 23 d = eWs l ∧ l.length ≤ uptoBulk d ∧ ∀ x ∈ l, x.P.length ≤ uptoBulk d := by
  have hb := b_row d
  unfold okD at h
  rw [sh_23] at h
  cases d <;> simp only at h
  · exact ⟨[], ofD_nil sh_23 _, Nat.zero_le _, fun x hx => by simp at hx⟩
  · rename_i es sp
    obtain ⟨l, h1, h2, h3⟩ := map_of2 (e := eW) (Q := fun x => x.P.length ≤ uptoBulk (.slice es sp)) fun d hd => by
      obtain ⟨x, hx, p1⟩ := d_waiter n (h d hd)
      have := b_mem hd
      refine ⟨x, hx, ?_⟩; simp only [uptoBulk]; omega
    exact ⟨l, by rw [zdk sh_23, h1]; rfl, by rw [h2]; exact hb, h3⟩
theorem d_four {H : Type} {d : DataW H} (n : Nat) (h : okD prog (n + 5) 27 d) : ∃ l, ofD prog (n + 5) 27 d = eL l ∧ l.length = 4 ∧ ∀ x ∈ l, x.T.length ≤ uptoBulk d := by
  unfold okD at h
  rw [sh_27] at h
  cases d <;> simp only at h
  rename_i ps
  obtain ⟨hl, hall⟩ := h
  obtain ⟨l, h1, h2, h3⟩ := map_of2 (e := eR) (Q := fun x => x.T.length ≤ uptoBulk (.agg ps)) fun d hd => by
    obtain ⟨x, hx, p1⟩ := d_reply n (hall d hd)
    have := b_mem hd
    refine ⟨x, hx, ?_⟩; simp only [uptoBulk]; omega
  exact ⟨l, by rw [ofD_arr sh_27, h1]; rfl, by rw [h2]; exact hl, h3⟩
theorem d_space {H : Type} {d : DataW H} (n : Nat) (h : okD prog (n + 6) 29 d) : ∃ s, ofD prog (n + 6) 29 d = eS s ∧ (uptoBulk d ≤ 4294967296 → s.Small) := by
  unfold okD at h
  rw [sh_29] at h
  cases d <;> simp only at h
  rename_i ps
  obtain ⟨hl, hall⟩ := h
  rw [fl_29] at hl hall
  match ps, hl with
  | [a, b, c, k, e, f], _ =>
    obtain ⟨x1, h1⟩ := d_int (n + 4) (hall 0 _ a rfl rfl)
    obtain ⟨x2, h2, m2, q2⟩ := d_items n (hall 1 _ b rfl rfl)
    obtain ⟨x3, h3, m3, q3⟩ := d_waiters n (hall 2 _ c rfl rfl)
    obtain ⟨x4, h4⟩ := d_int (n + 4) (hall 3 _ k rfl rfl)
    obtain ⟨x5, h5⟩ := d_int (n + 4) (hall 4 _ e rfl rfl)
    obtain ⟨x6, h6, m6, q6⟩ := d_four n (hall 5 _ f rfl rfl)
    refine ⟨⟨x1, x2, x3, x4, x5, x6⟩, ?_, fun hb => ?_⟩
    · rw [zcf sh_29, fl_29]
      simp only [List.zipWith_cons_cons, List.zipWith_nil_left, h1, h2, h3, h4, h5, h6, eS]
    · simp only [uptoBulk, uptoBulkAll] at hb
      refine ⟨⟨?_, fun x hx => ?_⟩, ⟨?_, fun x hx => ?_⟩, ⟨?_, fun x hx => ?_⟩, m6⟩
      · show x2.length ≤ _; omega
      · have := q2 x hx; omega
      · show x3.length ≤ _; omega
      · have := q3 x hx; omega
      · show x6.length ≤ _; omega
      · have := q6 x hx; omega
end Go.Abs
