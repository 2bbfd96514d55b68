/- Dc: a part of the proofs about the tuple space and its bytes. -/
import Derived.Test.YtilfbkhbjkjicaaTo
import Derived.Test.YtilfbkhbjkjicaaBi
set_option linter.all false
set_option maxRecDepth 100000
set_option maxHeartbeats 0
namespace Go.Abs
open Go
open Go.Proofs.Try (prog)
/-! ### what an argument reads, as a tuple, as a number -/
section
variable {P : Program} {H : Type}
theorem ofD_int {t : TypeId} {k : IntKind} (hs : shapeT P t = .int k) (n : Nat) (k' : IntKind) (m : Int) : ofD P (n + 1) t (.lit (.int k' m) : DataW H) = .int k m := by unfold ofD; rw [hs]
theorem ofD_bool {t : TypeId} (hs : shapeT P t = .bool) (n : Nat) (b : Bool) : ofD P (n + 1) t (.lit (.bool b) : DataW H) = .bool b := by unfold ofD; rw [hs]
theorem ofD_str {t : TypeId} (hs : shapeT P t = .str) (n : Nat) (b : List UInt8) : ofD P (n + 1) t (.lit (.string b) : DataW H) = .str ⟨b.toArray⟩ := by unfold ofD; rw [hs]
theorem ofD_nil {t e : TypeId} (hs : shapeT P t = .slice e) (n : Nat) : ofD P (n + 1) t (.nil : DataW H) = .list e [] := by unfold ofD; rw [hs]
theorem ofD_slice {t e : TypeId} (hs : shapeT P t = .slice e) (n : Nat) (es sp : List (DataW H)) : ofD P (n + 1) t (.slice es sp) = .list e (es.map (ofD P n e)) := by simp only [ofD, hs]
theorem ofD_struct {t : TypeId} (hs : shapeT P t = .struct) (n : Nat) (ps : List (DataW H)) : ofD P (n + 1) t (.agg ps) = .agg t (List.zipWith (fun (f : TypeId × Nat) d => ofD P n f.1 d) (fieldsT P t) ps) := by simp only [ofD, hs]
end
theorem d_int {H : Type} {d : DataW H} (n : Nat) (h : okD prog (n + 1) 3 d) : ∃ m, ofD prog (n + 1) 3 d = .int .i64 m := by
  unfold okD at h
  rw [sh_3] at h
  cases d <;> first | exact h.elim | skip
  rename_i l
  cases l <;> first | exact h.elim | skip
  exact ⟨_, ofD_int sh_3 _ _ _⟩
theorem d_int64 {H : Type} {d : DataW H} (n : Nat) (h : okD prog (n + 1) 2 d) : ∃ m, ofD prog (n + 1) 2 d = .int .i64 m := by
  unfold okD at h
  rw [sh_2] at h
  cases d <;> first | exact h.elim | skip
  rename_i l
  cases l <;> first | exact h.elim | skip
  exact ⟨_, ofD_int sh_2 _ _ _⟩
theorem d_str {H : Type} {d : DataW H} (n : Nat) (h : okD prog (n + 1) 9 d) : ∃ m, ofD prog (n + 1) 9 d = .str m := by
  unfold okD at h
  rw [sh_9] at h
  cases d <;> first | exact h.elim | skip
  rename_i l
  cases l <;> first | exact h.elim | skip
  exact ⟨_, ofD_str sh_9 _ _⟩
theorem d_bool {H : Type} {d : DataW H} (n : Nat) (h : okD prog (n + 1) 4 d) : ∃ m, ofD prog (n + 1) 4 d = .bool m := by
  unfold okD at h
  rw [sh_4] at h
  cases d <;> first | exact h.elim | skip
  rename_i l
  cases l <;> first | exact h.elim | skip
  exact ⟨_, ofD_bool sh_4 _ _⟩
theorem d_field {H : Type} {d : DataW H} (n : Nat) (h : okD prog (n + 2) 160 d) : ∃ x, ofD prog (n + 2) 160 d = eF x := by
  unfold okD at h
  rw [sh_160] at h
  cases d <;> simp only at h
  rename_i ps
  obtain ⟨hl, hall⟩ := h
  rw [fl_160] at hl hall
  match ps, hl with
  | [a, b, c], _ =>
    obtain ⟨x, hx⟩ := d_int n (hall 0 _ a rfl rfl)
    obtain ⟨y, hy⟩ := d_int64 n (hall 1 _ b rfl rfl)
    obtain ⟨z, hz⟩ := d_str n (hall 2 _ c rfl rfl)
    refine ⟨⟨x, y, z⟩, ?_⟩
    rw [ofD_struct sh_160, fl_160]
    simp only [List.zipWith_cons_cons, List.zipWith_nil_left, hx, hy, hz, eF]
theorem map_of {H α : Type} {e : α → AV} {f : DataW H → AV} : ∀ {es : List (DataW H)}, (∀ d ∈ es, ∃ x, f d = e x) → ∃ l : List α, es.map f = l.map e ∧ l.length = es.length
  | [], _ => ⟨[], rfl, rfl⟩
  | d :: es, h => by
    obtain ⟨x, hx⟩ := h d (by simp)
    obtain ⟨l, hl, hn⟩ := map_of (es := es) fun y hy => h y (by simp [hy])
    exact ⟨x :: l, by simp [hx, hl], by simp [hn]⟩
def rowLen {H : Type} : DataW H → Nat
  | .slice es _ => es.length
  | _ => 0
theorem d_fields {H : Type} {d : DataW H} (n : Nat) (h : okD prog (n + 3) 24 d) : ∃ l, ofD prog (n + 3) 24 d = eFs l ∧ l.length = rowLen d := by
  unfold okD at h
  rw [sh_24] at h
  cases d <;> simp only at h
  · exact ⟨[], ofD_nil sh_24 _, rfl⟩
  · rename_i es sp
    obtain ⟨l, h1, h2⟩ := map_of (e := eF) fun d hd => d_field n (h d hd)
    exact ⟨l, by rw [ofD_slice sh_24, h1]; rfl, h2⟩
theorem laidP : laidOutB prog = true := by kernel_rfl

end Go.Abs
