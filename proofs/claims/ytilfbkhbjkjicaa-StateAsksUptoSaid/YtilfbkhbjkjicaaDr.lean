/- Dr: a part of the proofs about the tuple space and its bytes. -/
import Derived.Test.YtilfbkhbjkjicaaTo
import Derived.Test.YtilfbkhbjkjicaaBi
import Derived.Test.YtilfbkhbjkjicaaP2
import Derived.Test.YtilfbkhbjkjicaaRows
set_option linter.all false
set_option maxRecDepth 100000
set_option maxHeartbeats 0
namespace Go.Abs
open Go
open Go.Proofs.Try (prog)
section
variable {P : Program} {H : Type}
theorem ofD_int {t : TypeId} {k : IntKind} (hs : zab P t = .int k) (n : Nat) (k' : IntKind) (m : Int) : ofD P (n + 1) t (.lit (.int k' m) : DataW H) = .int k m := by unfold ofD; rw [hs]
theorem ofD_bool {t : TypeId} (hs : zab P t = .bool) (n : Nat) (b : Bool) : ofD P (n + 1) t (.lit (.bool b) : DataW H) = .bool b := by unfold ofD; rw [hs]
theorem ofD_str {t : TypeId} (hs : zab P t = .str) (n : Nat) (b : List UInt8) : ofD P (n + 1) t (.lit (.string b) : DataW H) = .str ⟨b.toArray⟩ := by unfold ofD; rw [hs]
theorem ofD_nil {t e : TypeId} (hs : zab P t = .slice e) (n : Nat) : ofD P (n + 1) t (.nil : DataW H) = .list e [] := by unfold ofD; rw [hs]
theorem zdk {t e : TypeId} (hs : zab P t = .slice e) (n : Nat) (es sp : List (DataW H)) : ofD P (n + 1) t (.slice es sp) = .list e (es.map (ofD P n e)) := by simp only [ofD, hs]
theorem zcf {t : TypeId} (hs : zab P t = .struct) (n : Nat) (ps : List (DataW H)) : ofD P (n + 1) t (.agg ps) = .agg t (List.zipWith (fun (f : TypeId × Nat) d => ofD P n f.1 d) (qaj P t) ps) := by simp only [ofD, hs]
end
theorem d_int {H : Type} {d : DataW H} (n : Nat) (h : okD prog (n + 1) 3 d) : ∃ m, ofD prog (n + 1) 3 d = .int .i64 m := by
  unfold okD at h
  rw [sh_3] at h
  cases d <;> first | exact h.elim | skip
  rename_i l
  cases l <;> first | exact h.elim | skip
  exact ⟨_, ofD_int sh_3 _ _ _⟩
theorem d_int64 {H : Type} {d : DataW H} (n : Nat) (h : okD prog (n + 1) 2 d) : ∃ m, ofD prog (n + 1) 2 d = .int .i64 m := by
  unfold okD at h
  rw [sh_2] at h
  cases d <;> first | exact h.elim | skip
  rename_i l
  cases l <;> first | exact h.elim | skip
  exact ⟨_, ofD_int sh_2 _ _ _⟩
theorem d_str {H : Type} {d : DataW H} (n : Nat) (h : okD prog (n + 1) 9 d) : ∃ m, ofD prog (n + 1) 9 d = .str m := by
  unfold okD at h
  rw [sh_9] at h
  cases d <;> first | exact h.elim | skip
  rename_i l
  cases l <;> first | exact h.elim | skip
  exact ⟨_, ofD_str sh_9 _ _⟩
theorem d_bool {H : Type} {d : DataW H} (n : Nat) (h : okD prog (n + 1) 4 d) : ∃ m, ofD prog (n + 1) 4 d = .bool m := by
  unfold okD at h
  rw [sh_4] at h
  cases d <;> first | exact h.elim | skip
  rename_i l
  cases l <;> first | exact h.elim | skip
  exact ⟨_, ofD_bool sh_4 _ _⟩
theorem d_field {H : Type} {d : DataW H} (n : Nat) (h : okD prog (n + 2) 160 d) : ∃ x, ofD prog (n + 2) 160 d = eF x := by
  unfold okD at h
  rw [sh_160] at h
  cases d <;> simp only at h
  rename_i ps
  obtain ⟨hl, hall⟩ := h
  rw [fl_160] at hl hall
  match ps, hl with
  | [a, b, c], _ =>
    obtain ⟨x, hx⟩ := d_int n (hall 0 _ a rfl rfl)
    obtain ⟨y, hy⟩ := d_int64 n (hall 1 _ b rfl rfl)
    obtain ⟨z, hz⟩ := d_str n (hall 2 _ c rfl rfl)
    refine ⟨⟨x, y, z⟩, ?_⟩
    rw [zcf sh_160, fl_160]
    simp only [List.zipWith_cons_cons, List.zipWith_nil_left, hx, hy, hz, eF]
theorem map_of {H α : Type} {e : α → AV} {f : DataW H → AV} : ∀ {es : List (DataW H)}, (∀ d ∈ es, ∃ x, f d = e x) → ∃ l : List α, es.map f = l.map e ∧ l.length = es.length
  | [], _ => ⟨[], rfl, rfl⟩
  | d :: es, h => by
    obtain ⟨x, hx⟩ := h d (by simp)
    obtain ⟨l, hl, hn⟩ := map_of (es := es) fun y hy => h y (by simp [hy])
    exact ⟨x :: l, by simp [hx, hl], by simp [hn]⟩
def rowLen {H : Type} : DataW H → Nat
  | .slice es _ => es.length
  | _ => 0
theorem d_fields {H : Type} {d : DataW H} (n : Nat) (h : okD prog (n + 3) 24 d) : ∃ l, ofD prog (n + 3) 24 d = eFs l ∧ l.length = rowLen d := by
  unfold okD at h
  rw [zc5] at h
  cases d <;> simp only at h
  · exact ⟨[], ofD_nil zc5 _, rfl⟩
  · rename_i es sp
    obtain ⟨l, h1, h2⟩ := map_of (e := eF) fun d hd => d_field n (h d hd)
    exact ⟨l, by rw [zdk zc5, h1]; rfl, h2⟩
theorem laidP : laidOutB prog = true := by kernel_rfl
end Go.Abs
set_option linter.all false
set_option maxRecDepth 100000
set_option maxHeartbeats 0
namespace Go.Abs
open Go
open Go.Proofs.Try (prog)
open Go.Proofs.Ytilfbkhbjkjicaa.Rows (uptoBulk uptoBulkAll uptoSmall)
theorem b_pos {H : Type} (d : DataW H) : 1 ≤ uptoBulk d := by
  cases d with
  | lit l => cases l <;> simp [uptoBulk]
  | _ => simp [uptoBulk]
theorem b_len {H : Type} : ∀ (ds : List (DataW H)), ds.length ≤ uptoBulkAll ds
  | [] => Nat.zero_le _
  | d :: ds => by
    have h1 := b_pos d
    have h2 := b_len ds
    simp only [uptoBulkAll, List.length_cons]
    omega
theorem b_mem {H : Type} {d : DataW H} : ∀ {ds : List (DataW H)}, d ∈ ds → uptoBulk d ≤ uptoBulkAll ds
  | [], h => by simp at h
  | x :: ds, h => by
    simp only [uptoBulkAll]
    rcases List.mem_cons.1 h with rfl | h
    · omega
    · have := b_mem h; omega
theorem b_row {H : Type} (d : DataW H) : rowLen d ≤ uptoBulk d := by
  cases d with
  | slice es sp => have := b_len es; simp only [rowLen, uptoBulk]; omega
  | _ => exact Nat.zero_le _
theorem b_small {H : Type} {d : DataW H} {ds gs : List (DataW H)} (hm : d ∈ ds) (hk : uptoSmall H (ds ++ gs) = true) : uptoBulk d ≤ 1048576 := by
  have h2 := b_mem (ds := ds ++ gs) (List.mem_append.2 (.inl hm))
  have h3 : uptoBulkAll (ds ++ gs) ≤ 1048576 := of_decide_eq_true hk
  omega
theorem map_of2 {H α : Type} {e : α → AV} {f : DataW H → AV} {Q : α → Prop} : ∀ {es : List (DataW H)}, (∀ d ∈ es, ∃ x, f d = e x ∧ Q x) → ∃ l : List α, es.map f = l.map e ∧ l.length = es.length ∧ ∀ x ∈ l, Q x
  | [], _ => ⟨[], rfl, rfl, fun x hx => by simp at hx⟩
  | d :: es, h => by
    obtain ⟨x, hx, hq⟩ := h d (by simp)
    obtain ⟨l, hl, hn, hq2⟩ := map_of2 (es := es) fun y hy => h y (by simp [hy])
    refine ⟨x :: l, by simp [hx, hl], by simp [hn], fun y hy => ?_⟩
    rcases List.mem_cons.1 hy with rfl | hy
    · exact hq
    · exact hq2 y hy
end Go.Abs
