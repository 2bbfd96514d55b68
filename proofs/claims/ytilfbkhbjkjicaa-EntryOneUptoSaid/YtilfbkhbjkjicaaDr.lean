/- Dr: a part of the proofs about the tuple space and its bytes. -/
import Derived.Test.YtilfbkhbjkjicaaTo
import Derived.Test.YtilfbkhbjkjicaaBi
import Derived.Test.YtilfbkhbjkjicaaP2
import Derived.Test.YtilfbkhbjkjicaaRows
set_option linter.all false
set_option maxRecDepth 100000
set_option maxHeartbeats 0
namespace Go.Abs
open Go
open Go.Proofs.Try (prog)
section
variable {P : Program} {H : Type}
theorem ofD_int {t : TypeId} {k : IntKind} (hs : yab P t = .int k) (n : Nat) (k' : IntKind) (m : Int) : ofD P (n + 1) t (.lit (.int k' m) : DataW H) = .int k m := by unfold ofD; rw [hs]
theorem ofD_str {t : TypeId} (hs : yab P t = .str) (n : Nat) (b : List UInt8) : ofD P (n + 1) t (.lit (.string b) : DataW H) = .str ⟨b.toArray⟩ := by unfold ofD; rw [hs]
theorem ofD_nil {t e : TypeId} (hs : yab P t = .slice e) (n : Nat) : ofD P (n + 1) t (.nil : DataW H) = .list e [] := by unfold ofD; rw [hs]
theorem ofD_slice {t e : TypeId} (hs : yab P t = .slice e) (n : Nat) (es sp : List (DataW H)) : ofD P (n + 1) t (.slice es sp) = .list e (es.map (ofD P n e)) := by simp only [ofD, hs]
theorem yc7 {t : TypeId} (hs : yab P t = .struct) (n : Nat) (ps : List (DataW H)) : ofD P (n + 1) t (.agg ps) = .agg t (List.zipWith (fun (f : TypeId × Nat) d => ofD P n f.1 d) (zan P t) ps) := by simp only [ofD, hs]
end
theorem d_int {H : Type} {d : DataW H} (n : Nat) (h : okD prog (n + 1) 3 d) : ∃ m, ofD prog (n + 1) 3 d = .int .i64 m := by
  unfold okD at h
  rw [sh_3] at h
  cases d <;> first | exact h.elim | skip
  rename_i l
  cases l <;> first | exact h.elim | skip
  exact ⟨_, ofD_int sh_3 _ _ _⟩
theorem d_int64 {H : Type} {d : DataW H} (n : Nat) (h : okD prog (n + 1) 2 d) : ∃ m, ofD prog (n + 1) 2 d = .int .i64 m := by
  unfold okD at h
  rw [sh_2] at h
  cases d <;> first | exact h.elim | skip
  rename_i l
  cases l <;> first | exact h.elim | skip
  exact ⟨_, ofD_int sh_2 _ _ _⟩
theorem d_str {H : Type} {d : DataW H} (n : Nat) (h : okD prog (n + 1) 9 d) : ∃ m, ofD prog (n + 1) 9 d = .str m := by
  unfold okD at h
  rw [sh_9] at h
  cases d <;> first | exact h.elim | skip
  rename_i l
  cases l <;> first | exact h.elim | skip
  exact ⟨_, ofD_str sh_9 _ _⟩
theorem d_field {H : Type} {d : DataW H} (n : Nat) (h : okD prog (n + 2) 160 d) : ∃ x, ofD prog (n + 2) 160 d = eF x := by
  unfold okD at h
  rw [sh_160] at h
  cases d <;> simp only at h
  rename_i ps
  obtain ⟨hl, hall⟩ := h
  rw [fl_160] at hl hall
  match ps, hl with
  | [a, b, c], _ =>
    obtain ⟨x, hx⟩ := d_int n (hall 0 _ a rfl rfl)
    obtain ⟨y, hy⟩ := d_int64 n (hall 1 _ b rfl rfl)
    obtain ⟨z, hz⟩ := d_str n (hall 2 _ c rfl rfl)
    refine ⟨⟨x, y, z⟩, ?_⟩
    rw [yc7 sh_160, fl_160]
    simp only [List.zipWith_cons_cons, List.zipWith_nil_left, hx, hy, hz, eF]
theorem map_of {H α : Type} {e : α → AV} {f : DataW H → AV} : ∀ {es : List (DataW H)}, (∀ d ∈ es, ∃ x, f d = e x) → ∃ l : List α, es.map f = l.map e ∧ l.length = es.length
  | [], _ => ⟨[], rfl, rfl⟩
  | d :: es, h => by
    obtain ⟨x, hx⟩ := h d (by simp)
    obtain ⟨l, hl, hn⟩ := map_of (es := es) fun y hy => h y (by simp [hy])
    exact ⟨x :: l, by simp [hx, hl], by simp [hn]⟩
def rowLen {H : Type} : DataW H → Nat
  | .slice es _ => es.length
  | _ => 0
theorem d_fields {H : Type} {d : DataW H} (n : Nat) (h : okD prog (n + 3) 24 d) : ∃ l, ofD prog (n + 3) 24 d = eFs l ∧ l.length = rowLen d := by
  unfold okD at h
  rw [ydd] at h
  cases d <;> simp only at h
  · exact ⟨[], ofD_nil ydd _, rfl⟩
  · rename_i es sp
    obtain ⟨l, h1, h2⟩ := map_of (e := eF) fun d hd => d_field n (h d hd)
    exact ⟨l, by rw [ofD_slice ydd, h1]; rfl, h2⟩
theorem laidP : laidOutB prog = true := by kernel_rfl
end Go.Abs
set_option linter.all false
set_option maxRecDepth 100000
set_option maxHeartbeats 0
namespace Go.Abs
open Go
open Go.Proofs.Try (prog)
open Go.Proofs.Ytilfbkhbjkjicaa.Rows (uptoBulk uptoBulkAll uptoSmall)
theorem b_pos {H : Type} (d : DataW H) : 1 ≤ uptoBulk d := by
  cases d with
  | lit l => cases l <;> simp [uptoBulk]
  | _ => simp [uptoBulk]
theorem b_len {H : Type} : ∀ (ds : List (DataW H)), ds.length ≤ uptoBulkAll ds
  | [] => Nat.zero_le _
  | d :: ds => by
    have h1 := b_pos d
    have h2 := b_len ds
    simp only [uptoBulkAll, List.length_cons]
    omega
theorem b_mem {H : Type} {d : DataW H} : ∀ {ds : List (DataW H)}, d ∈ ds → uptoBulk d ≤ uptoBulkAll ds
  | [], h => by simp at h
  | x :: ds, h => by
    simp only [uptoBulkAll]
    rcases List.mem_cons.1 h with rfl | h
    · omega
    · have := b_mem h; omega
theorem b_row {H : Type} (d : DataW H) : rowLen d ≤ uptoBulk d := by
  cases d with
  | slice es sp => have := b_len es; simp only [rowLen, uptoBulk]; omega
  | _ => exact Nat.zero_le _
theorem b_small {H : Type} {d : DataW H} {ds gs : List (DataW H)} (hm : d ∈ ds) (hk : uptoSmall H (ds ++ gs) = true) : uptoBulk d ≤ 1048576 := by
  have h2 := b_mem (ds := ds ++ gs) (List.mem_append.2 (.inl hm))
  have h3 : uptoBulkAll (ds ++ gs) ≤ 1048576 := of_decide_eq_true hk
  omega
theorem map_of2 {H α : Type} {e : α → AV} {f : DataW H → AV} {Q : α → Prop} : ∀ {es : List (DataW H)}, (∀ d ∈ es, ∃ x, f d = e x ∧ Q x) → ∃ l : List α, es.map f = l.map e ∧ l.length = es.length ∧ ∀ x ∈ l, Q x
  | [], _ => ⟨[], rfl, rfl, fun x hx => by simp at hx⟩
  | d :: es, h => by
    obtain ⟨x, hx, hq⟩ := h d (by simp)
    obtain ⟨l, hl, hn, hq2⟩ := map_of2 (es := es) fun y hy => h y (by simp [hy])
    refine ⟨x :: l, by simp [hx, hl], by simp [hn], fun y hy => ?_⟩
    rcases List.mem_cons.1 hy with rfl | hy
    · exact hq
    · exact hq2 y hy
theorem d_request {H : Type} {d : DataW H} (n : Nat) (h : okD prog (n + 4) 60 d) : ∃ r, ofD prog (n + 4) 60 d = eQ r ∧ r.P.length ≤ uptoBulk d ∧ r.T.length ≤ uptoBulk d := by
  unfold okD at h
  rw [sh_60] at h
  cases d <;> simp only at h
  rename_i ps
  obtain ⟨hl, hall⟩ := h
  rw [fl_60] at hl hall
  match ps, hl with
  | [a, b, c, p, q, k], _ =>
    obtain ⟨x1, h1⟩ := d_int (n + 2) (hall 0 _ a rfl rfl)
    obtain ⟨x2, h2⟩ := d_int (n + 2) (hall 1 _ b rfl rfl)
    obtain ⟨x3, h3⟩ := d_int (n + 2) (hall 2 _ c rfl rfl)
    obtain ⟨x4, h4, l4⟩ := d_fields n (hall 3 _ p rfl rfl)
    obtain ⟨x5, h5, l5⟩ := d_fields n (hall 4 _ q rfl rfl)
    obtain ⟨x6, h6⟩ := d_int (n + 2) (hall 5 _ k rfl rfl)
    have b4 := b_row p
    have b5 := b_row q
    refine ⟨⟨x1, x2, x3, x4, x5, x6⟩, ?_, ?_, ?_⟩
    · rw [yc7 sh_60, fl_60]
      simp only [List.zipWith_cons_cons, List.zipWith_nil_left, h1, h2, h3, h4, h5, h6, eQ]
    · simp only [uptoBulk, uptoBulkAll]; show x4.length ≤ _; omega
    · simp only [uptoBulk, uptoBulkAll]; show x5.length ≤ _; omega
theorem d_ask {H : Type} {d : DataW H} (n : Nat) (h : okD prog (n + 5) 62 d) : ∃ x, ofD prog (n + 5) 62 d = eA x ∧ x.R.P.length ≤ uptoBulk d ∧ x.R.T.length ≤ uptoBulk d := by
  unfold okD at h
  rw [sh_62] at h
  cases d <;> simp only at h
  rename_i ps
  obtain ⟨hl, hall⟩ := h
  rw [fl_62] at hl hall
  match ps, hl with
  | [a, b], _ =>
    obtain ⟨x1, h1, p1, q1⟩ := d_request n (hall 0 _ a rfl rfl)
    obtain ⟨x2, h2⟩ := d_int (n + 3) (hall 1 _ b rfl rfl)
    refine ⟨⟨x1, x2⟩, ?_, ?_, ?_⟩
    · rw [yc7 sh_62, fl_62]
      simp only [List.zipWith_cons_cons, List.zipWith_nil_left, h1, h2, eA]
    · simp only [uptoBulk, uptoBulkAll]; show x1.P.length ≤ _; omega
    · simp only [uptoBulk, uptoBulkAll]; show x1.T.length ≤ _; omega
theorem d_asks {H : Type} {d : DataW H} (n : Nat) (h : okD prog (n + 6) 57 d) : ∃ l : List Asked, ofD prog (n + 6) 57 d = .list 62 (l.map eA) ∧ l.length ≤ uptoBulk d ∧ ∀ x ∈ l, x.R.P.length ≤ uptoBulk d ∧ x.R.T.length ≤ uptoBulk d := by
  have hb := b_row d
  unfold okD at h
  rw [sh_57] at h
  cases d <;> simp only at h
  · exact ⟨[], ofD_nil sh_57 _, Nat.zero_le _, fun x hx => by simp at hx⟩
  · rename_i es sp
    obtain ⟨l, h1, h2, h3⟩ := map_of2 (e := eA) (Q := fun x => x.R.P.length ≤ uptoBulk (.slice es sp) ∧ x.R.T.length ≤ uptoBulk (.slice es sp)) fun d hd => by
      obtain ⟨x, hx, p1, p2⟩ := d_ask n (h d hd)
      have := b_mem hd
      refine ⟨x, hx, ?_, ?_⟩ <;> simp only [uptoBulk] <;> omega
    exact ⟨l, by rw [ofD_slice sh_57, h1], by rw [h2]; exact hb, h3⟩
end Go.Abs
