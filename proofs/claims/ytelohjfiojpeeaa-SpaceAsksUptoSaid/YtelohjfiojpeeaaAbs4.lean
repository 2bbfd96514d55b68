/- Abs4: a part of the proofs about the tuple space (layer 8). -/
import Derived.Test.YtelohjfiojpeeaaAbs3
set_option linter.all false
namespace Go.Abs
open Go
section
variable {P : Program}

def ER (P : Program) (c : Cx) (env : List (Nat × AV)) (tmps : Array Value) : Prop := ∀ t, VV P c (lk env t) (tmps.getD t undef)

/-- What is owed behind a step that gives r and writes wr: the value v, the world w'. -/
def Done (P : Program) (c : Cx) (r : AV) (wr : List (Nat × Entry)) (v : Value) (w' : World) : Prop :=
  ∃ κ' : Nat → Option Nat, HR P ⟨κ', wrAll c.h wr, w'⟩ ∧ Ext c ⟨κ', wrAll c.h wr, w'⟩ ∧ VV P ⟨κ', wrAll c.h wr, w'⟩ r v

def ROK (P : Program) (c : Cx) (r : AV) (wr : List (Nat × Entry)) : Result Next → Prop
  | .ok (.value v) w' => Done P c r wr v w'
  | .ok .skip w' => Done P c r wr undef w'
  | _ => False

theorem done_pure {c : Cx} (hr : HR P c) {r : AV} {v : Value} (h : VV P c r v) : Done P c r [] v c.w := ⟨c.κ, hr, Ext.refl c, h⟩

theorem rok_value {c : Cx} {r : AV} {wr : List (Nat × Entry)} {s : Sem Value} {v : Value} {w' : World} (hs : s.run P c.w = .ok v w') (h : Done P c r wr v w') :
    ROK P c r wr ((do pure (Next.value (← s)) : Sem Next).run P c.w) := by
  simp only [Sem.run_bind, hs, Result.andThen_ok, Sem.run_pure, ROK]
  exact h

theorem rok_unit {c : Cx} {r : AV} {wr : List (Nat × Entry)} {s : Sem Unit} {w' : World} (hs : s.run P c.w = .ok () w') (h : Done P c r wr undef w') :
    ROK P c r wr ((do s; pure Next.skip : Sem Next).run P c.w) := by
  simp only [Sem.run_bind, hs, Result.andThen_ok, Sem.run_pure, ROK]
  exact h

theorem const_vv {c : Cx} (v : Value) : VV P c (constAV v) v := by
  cases v with
  | pointer a => cases a <;> simp [constAV, VV, Rep, isAgg, Value.isAgg, Value.cells]
  | slice a l c =>
    cases a with
    | none =>
      by_cases h : l = 0 ∧ c = 0
      · obtain ⟨rfl, rfl⟩ := h
        simp [constAV, VV, Rep, isAgg, Value.isAgg, Value.cells]
      · simp only [constAV, if_neg h, VV]
    | some _ => simp [constAV, VV]
  | tuple vs =>
    by_cases h : vs = #[]
    · subst h
      simp only [constAV, if_true, VV]
      exact ⟨[], rfl, by simp only [RepV]⟩
    · simp only [constAV, if_neg h, VV]
  | _ => simp [constAV, VV, Rep, isAgg, Value.isAgg, Value.cells]

theorem ev_vv {c : Cx} {env : List (Nat × AV)} {a : Act} (he : ER P c env a.tmps) (x : Operand) : VV P c (ev env x) (a.eval x) := by
  cases x with
  | tmp t => exact he t
  | const v => exact const_vv v
  | func f => simp [ev, Act.eval, VV, Rep, isAgg, Value.isAgg, Value.cells, RepV]
  | global g => simp [ev, VV]

/-! ### Shapes of the values -/
theorem vv_int {c : Cx} {k : IntKind} {n : Int} {v : Value} (h : VV P c (.int k n) v) : v = .int k n := by
  simp only [VV, Rep, isAgg] at h
  obtain ⟨h1, h2⟩ := h
  cases v <;> simp_all [Value.isAgg, Value.cells]
theorem vv_bool {c : Cx} {b : Bool} {v : Value} (h : VV P c (.bool b) v) : v = .bool b := by
  simp only [VV, Rep, isAgg] at h
  obtain ⟨h1, h2⟩ := h
  cases v <;> simp_all [Value.isAgg, Value.cells]
theorem vv_str {c : Cx} {b : ByteArray} {v : Value} (h : VV P c (.str b) v) : v = .string b := by
  simp only [VV, Rep, isAgg] at h
  obtain ⟨h1, h2⟩ := h
  cases v <;> simp_all [Value.isAgg, Value.cells]
theorem vv_nils {c : Cx} {v : Value} (h : VV P c .nils v) : v = .slice none 0 0 := by
  simp only [VV, Rep, isAgg] at h
  obtain ⟨h1, h2⟩ := h
  cases v <;> simp_all [Value.isAgg, Value.cells]
theorem vv_agg {c : Cx} {T : TypeId} {vs : List AV} {v : Value} (h : VV P c (.agg T vs) v) : ∃ cs, v = .agg cs ∧ Rep P c (.agg T vs) cs.toList := by
  simp only [VV, isAgg] at h
  obtain ⟨h1, h2⟩ := h
  cases v <;> simp_all [Value.isAgg, Value.cells]
theorem vv_agg_mk {c : Cx} {T : TypeId} {vs : List AV} {cs : Array Value} (h : Rep P c (.agg T vs) cs.toList) : VV P c (.agg T vs) (.agg cs) := by
  simp only [VV, isAgg, Value.isAgg, Value.cells]
  exact ⟨trivial, h⟩
/-- A value of one cell. -/
theorem vv_cell {c : Cx} {a : AV} {v : Value} (ha : isAgg a = false) (ht : ∀ vs, a ≠ .tup vs) (hj : a ≠ .junk) : VV P c a v ↔ Value.isAgg v = false ∧ Rep P c a [v] := by
  have : ∀ v : Value, Value.isAgg v = false → v.cells.toList = [v] := by
    intro v hv
    cases v <;> simp_all [Value.isAgg, Value.cells]
  constructor
  · intro h
    have h' : isAgg a = Value.isAgg v ∧ Rep P c a v.cells.toList := by
      cases a <;> first | exact h | exact absurd rfl (ht _) | exact absurd rfl hj
    rw [ha] at h'
    exact ⟨h'.1.symm, by rw [← this v h'.1.symm]; exact h'.2⟩
  · intro h
    have h' : isAgg a = Value.isAgg v ∧ Rep P c a v.cells.toList := ⟨by rw [ha, h.1], by rw [this v h.1]; exact h.2⟩
    cases a <;> first | exact h' | exact absurd rfl (ht _) | exact absurd rfl hj

theorem vv_ref {c : Cx} {k : Nat} {p : List Nat} {T : TypeId} {v : Value} (h : VV P c (.ref k p T) v) :
    ∃ e b off, c.h[k]? = some e ∧ e.st ≠ .hole ∧ c.κ k = some b ∧ refOff P e.T p = some (T, off) ∧ v = .pointer (some ⟨b, off, none⟩) := by
  obtain ⟨_, h⟩ := (vv_cell rfl (by simp) (by simp)).1 h
  simp only [Rep] at h
  obtain ⟨e, b, off, h1, h2, h3, h4, h5⟩ := h
  exact ⟨e, b, off, h1, h2, h3, h4, by simpa using h5⟩
theorem vv_ref_mk {c : Cx} {k : Nat} {p : List Nat} {T : TypeId} {e : Entry} {b off : Nat} (h1 : c.h[k]? = some e) (h2 : e.st ≠ .hole) (h3 : c.κ k = some b)
    (h4 : refOff P e.T p = some (T, off)) : VV P c (.ref k p T) (.pointer (some ⟨b, off, none⟩)) :=
  (vv_cell rfl (by simp) (by simp)).2 ⟨rfl, by simp only [Rep]; exact ⟨e, b, off, h1, h2, h3, h4, rfl⟩⟩
theorem vv_eref {c : Cx} {T : TypeId} {u : AV} {v : Value} (h : VV P c (.eref T u) v) :
    ∃ b off C Te m, v = .pointer (some ⟨b, off, none⟩) ∧ c.w.heap[b]? = some (.cells C Te m) ∧ ¬ c.O b ∧ tyOK P u T ∧ Rep P c u ((C.toList.drop off).take (P.cellsOf T)) := by
  obtain ⟨_, h⟩ := (vv_cell rfl (by simp) (by simp)).1 h
  simp only [Rep] at h
  obtain ⟨b, off, C, Te, m, h5, h⟩ := h
  exact ⟨b, off, C, Te, m, by simpa using h5, h⟩
theorem vv_eref_mk {c : Cx} {T : TypeId} {u : AV} {b off : Nat} {C : Array Value} {Te : TypeId} {m : Nat × Nat} (h1 : c.w.heap[b]? = some (.cells C Te m)) (h2 : ¬ c.O b)
    (h3 : tyOK P u T) (h4 : Rep P c u ((C.toList.drop off).take (P.cellsOf T))) : VV P c (.eref T u) (.pointer (some ⟨b, off, none⟩)) :=
  (vv_cell rfl (by simp) (by simp)).2 ⟨rfl, by simp only [Rep]; exact ⟨b, off, C, Te, m, rfl, h1, h2, h3, h4⟩⟩
theorem vv_list {c : Cx} {T : TypeId} {es : List AV} {v : Value} (h : VV P c (.list T es) v) : ∃ a cap, v = .slice a es.length cap ∧ es.length ≤ cap ∧
      (es ≠ [] → ∃ b off C Te m, a = some ⟨b, off, none⟩ ∧ c.w.heap[b]? = some (.cells C Te m) ∧ ¬ c.O b ∧ RepE P c es T (C.toList.drop off)) := by
  obtain ⟨_, h⟩ := (vv_cell rfl (by simp) (by simp)).1 h
  simp only [Rep] at h
  obtain ⟨a, cap, h5, h⟩ := h
  exact ⟨a, cap, by simpa using h5, h⟩
theorem vv_list_mk {c : Cx} {T : TypeId} {es : List AV} {a : Option Addr} {n cap : Nat} (hn : n = es.length) (h1 : es.length ≤ cap)
    (h2 : es ≠ [] → ∃ b off C Te m, a = some ⟨b, off, none⟩ ∧ c.w.heap[b]? = some (.cells C Te m) ∧ ¬ c.O b ∧ RepE P c es T (C.toList.drop off)) : VV P c (.list T es) (.slice a n cap) :=
  (vv_cell rfl (by simp) (by simp)).2 ⟨rfl, by simp only [Rep]; exact ⟨a, cap, by rw [hn], h1, h2⟩⟩
theorem vv_win {c : Cx} {k : Nat} {p : List Nat} {T : TypeId} {fr n lo : Nat} {v : Value} (h : VV P c (.win k p T fr n lo) v) :
    ∃ e cap a, c.h[k]? = some e ∧ e.st ≠ .hole ∧ v = .slice a n cap ∧ lo ≤ cap ∧ n ≤ cap ∧ (p = [] → e.T = T) ∧
      (cap ≠ 0 → ∃ b off C m, c.κ k = some b ∧ winOff P e.T p = some (T, off) ∧ c.w.heap[b]? = some (.cells C e.T m) ∧ (e.st = .own → m = (0, 0)) ∧
        a = some ⟨b, off + fr * P.cellsOf T, none⟩ ∧ off + (fr + cap) * P.cellsOf T ≤ C.size ∧ ∀ l, winLim P e.T p = some l → fr + cap ≤ l) := by
  obtain ⟨_, h⟩ := (vv_cell rfl (by simp) (by simp)).1 h
  simp only [Rep] at h
  obtain ⟨e, cap, a, h1, h2, h5, h⟩ := h
  exact ⟨e, cap, a, h1, h2, by simpa using h5, h⟩
theorem vv_win_mk {c : Cx} {k : Nat} {p : List Nat} {T : TypeId} {fr n lo cap : Nat} {a : Option Addr} {e : Entry} (h1 : c.h[k]? = some e) (h2 : e.st ≠ .hole) (h3 : lo ≤ cap) (h4 : n ≤ cap)
    (h5 : p = [] → e.T = T) (h6 : cap ≠ 0 → ∃ b off C m, c.κ k = some b ∧ winOff P e.T p = some (T, off) ∧ c.w.heap[b]? = some (.cells C e.T m) ∧ (e.st = .own → m = (0, 0)) ∧
        a = some ⟨b, off + fr * P.cellsOf T, none⟩ ∧ off + (fr + cap) * P.cellsOf T ≤ C.size ∧ ∀ l, winLim P e.T p = some l → fr + cap ≤ l) : VV P c (.win k p T fr n lo) (.slice a n cap) :=
  (vv_cell rfl (by simp) (by simp)).2 ⟨rfl, by simp only [Rep]; exact ⟨e, cap, a, h1, h2, rfl, h3, h4, h5, h6⟩⟩

/-- A typed value made of its cells. -/
def mkV (P : Program) (T : TypeId) (cs : List Value) : Value :=
  match shapeT P T with
  | .struct => .agg cs.toArray
  | .arr _ _ => .agg cs.toArray
  | _ => cs.getD 0 undef

theorem vv_of_rep (hP : WF P) {c : Cx} {a : AV} {T : TypeId} {cs : List Value} (ht : tyOK P a T) (h : Rep P c a cs) : VV P c a (mkV P T cs) := by
  have hl := rep_length hP ht h
  by_cases ha : isAgg a = true
  · cases a <;> simp [isAgg] at ha
    rename_i T' vs
    simp only [tyOK] at ht
    subst ht
    have h' := h
    simp only [Rep] at h'
    have : mkV P T' cs = .agg cs.toArray := by
      unfold mkV
      cases hs : shapeT P T' <;> simp_all
    rw [this]
    exact vv_agg_mk (by simpa using h)
  · have hsc : isScalar (shapeT P T) = true := by
      cases a <;> simp only [tyOK] at ht <;> simp_all [isAgg, isScalar]
      all_goals (obtain ⟨e, ht⟩ := ht; rw [ht])
    have h1 := hP.scalar hsc
    rw [h1] at hl
    match cs, hl with
    | [x], _ =>
      have hm : mkV P T [x] = x := by
        unfold mkV
        cases hs : shapeT P T <;> simp_all [isScalar]
      rw [hm]
      have hone := rep_one hP c a T [x] ht h x (by simp)
      refine (vv_cell (by simpa using ha) (by rintro vs rfl; simp [tyOK] at ht) (by rintro rfl; simp [tyOK] at ht)).2 ⟨?_, h⟩
      cases x <;> simp_all [Value.isAgg, Value.oneCell']

/-- The cells of a typed value. -/
theorem rep_of_vv {c : Cx} {a : AV} {T : TypeId} {v : Value} (ht : tyOK P a T) (h : VV P c a v) : Rep P c a v.cells.toList := by
  cases a <;> first | exact h.2 | (simp [tyOK] at ht)

/-! ### Reading and writing memory -/
theorem addr_add (b o n : Nat) : (⟨b, o, none⟩ : Addr).add n = ⟨b, o + n, none⟩ := Addr.add_lit b o n

theorem run_loadCells_at {w : World} {b off n : Nat} {C : Array Value} {T : TypeId} {m : Nat × Nat} (hb : w.heap[b]? = some (.cells C T m)) (hn : off + n ≤ C.size) :
    (loadCells ⟨b, off, none⟩ n).run P w = .ok ((C.toList.drop off).take n).toArray w := by
  have hl : ((C.toList.drop off).take n).length = n := by simp; omega
  have := run_loadCells_list (P := P) w ⟨b, off, none⟩ ((C.toList.drop off).take n) (fun j v hv => by
    rw [addr_add, cell_of_row w b (off + j) C T m hb]
    rw [List.getElem?_take] at hv
    split at hv
    · rw [List.getElem?_drop] at hv
      simpa using hv
    · cases hv)
  rwa [hl] at this

theorem run_isAgg {T : TypeId} (h : shapeT P T ≠ .other) (w : World) : (Go.isAgg T).run P w = .ok (match shapeT P T with | .struct => true | .arr _ _ => true | _ => false) w := by
  unfold Go.isAgg
  have hu := shape_spec (P := P) (T := T) rfl h
  cases hd : P.underlying T with
  | none => rw [hd] at hu; simp [shapeD] at hu; exact absurd hu.symm h
  | some d =>
    rw [hd] at hu
    rw [Sem.run_bind, run_underlying hd w]
    cases d <;> simp_all [shapeD]
    all_goals first | (rw [← hu]) | skip
    all_goals first | rfl | (exact absurd hu.symm h)

theorem run_sizeT {T : TypeId} (h : shapeT P T ≠ .other) (w : World) : (sizeOf T).run P w = .ok (P.cellsOf T) w := by
  obtain ⟨i, hi⟩ := info_of_shape h
  exact run_sizeOf (w := w) hi

theorem shape_of_ty {a : AV} {T : TypeId} (ht : tyOK P a T) (ha : isAgg a = false) : isScalar (shapeT P T) = true := by
  cases a <;> simp only [tyOK] at ht <;> simp_all [isAgg, isScalar]
  all_goals (obtain ⟨e, ht⟩ := ht; rw [ht])

theorem shape_ne {c : Cx} {a : AV} {T : TypeId} {cs : List Value} (ht : tyOK P a T) (h : Rep P c a cs) : shapeT P T ≠ .other := by
  by_cases ha : isAgg a = true
  · cases a <;> simp [isAgg] at ha
    simp only [tyOK] at ht
    subst ht
    simp only [Rep] at h
    intro hs
    rw [hs] at h
    exact h.2
  · have := shape_of_ty ht (by simpa using ha)
    intro hs
    rw [hs] at this
    simp [isScalar] at this

theorem run_loadVar (hP : WF P) {c : Cx} {b off : Nat} {C : Array Value} {Te T : TypeId} {m : Nat × Nat} {a : AV} (hb : c.w.heap[b]? = some (.cells C Te m)) (hn : off + P.cellsOf T ≤ C.size)
    (ht : tyOK P a T) (h : Rep P c a ((C.toList.drop off).take (P.cellsOf T))) : (loadVar T ⟨b, off, none⟩).run P c.w = .ok (mkV P T ((C.toList.drop off).take (P.cellsOf T))) c.w := by
  have hs := shape_ne ht h
  unfold loadVar
  rw [Sem.run_bind, run_isAgg hs]
  simp only [Result.andThen_ok]
  cases hsh : shapeT P T with
  | struct =>
    simp only [if_true, Sem.run_bind, run_sizeT hs, Result.andThen_ok, run_loadCells_at hb hn, Sem.run_pure, mkV, hsh]
  | arr n e =>
    simp only [if_true, Sem.run_bind, run_sizeT hs, Result.andThen_ok, run_loadCells_at hb hn, Sem.run_pure, mkV, hsh]
  | other => exact absurd hsh hs
  | _ =>
    have h1 := hP.scalar (T := T) (by rw [hsh]; rfl)
    have hlt : off < C.size := by omega
    simp only [Bool.false_eq_true, if_false, run_load, cell_of_row c.w b off C Te m hb, mkV, hsh, h1]
    simp [List.take_one, List.head?_drop, hlt]

/-- One cell after the other. -/
theorem run_storeCells_at {T : TypeId} {b off : Nat} : ∀ (vs : List Value) (i : Nat) (w : World) (C : Array Value), w.heap[b]? = some (.cells C T (0, 0)) → (∀ v ∈ vs, v.oneCell' = true) →
    off + i + vs.length ≤ C.size → (storeCells ⟨b, off, none⟩ vs i).run P w = .ok () (putBlk w b (.cells (splice C.toList (off + i) vs).toArray T))
  | [], i, w, C, hb, _, _ => by
    simp only [storeCells, Sem.run_pure]
    congr 1
    have : (splice C.toList (off + i) []).toArray = C := by
      apply Array.ext'
      simp [splice]
    rw [this]
    unfold putBlk
    have hlt := lt_of_heap hb
    have : w.heap.setIfInBounds b (.cells C T) = w.heap := by
      apply Array.ext_getElem?
      intro j
      rw [Array.getElem?_setIfInBounds]
      split
      · rename_i h
        subst h
        rw [hb]
      · rfl
    rw [this]
  | v :: vs, i, w, C, hb, hone, hn => by
    have hlt : off + i < C.size := by simp at hn; omega
    have hv := hone v (by simp)
    have hcell : w.cell? ⟨b, off + i, none⟩ = some C[off + i] := by
      rw [cell_of_row w b _ C T _ hb]
      simp [hlt]
    simp only [storeCells, Sem.run_bind, addr_add, run_store P w _ v _ hv, hcell]
    rw [show w.frozen? ⟨b, off + i, none⟩ = false by simp [World.frozen?, hb]]
    simp only [Bool.false_eq_true, if_false, Result.andThen_ok]
    have hset : w.setCell ⟨b, off + i, none⟩ v = putBlk w b (.cells (C.setIfInBounds (off + i) v) T) := by
      unfold World.setCell putBlk
      congr 1
      apply Array.ext_getElem?
      intro j
      rw [Array.getElem?_modify, Array.getElem?_setIfInBounds]
      simp only
      split
      · rename_i h
        subst h
        rw [hb, if_pos (lt_of_heap hb)]
        rfl
      · rfl
    rw [hset]
    have hb' : (putBlk w b (.cells (C.setIfInBounds (off + i) v) T)).heap[b]? = some (.cells (C.setIfInBounds (off + i) v) T (0, 0)) := putBlk_same (lt_of_heap hb)
    rw [run_storeCells_at vs (i + 1) _ _ hb' (fun x hx => hone x (by simp [hx])) (by simp at hn ⊢; omega)]
    congr 1
    unfold putBlk
    simp only [Array.setIfInBounds_setIfInBounds]
    congr 3
    apply Array.ext'
    simp only [Array.toList_setIfInBounds]
    apply List.ext_getElem?
    intro j
    have h1 : off + (i + 1) + vs.length ≤ (C.toList.set (off + i) v).length := by simp at hn ⊢; omega
    have h2 : off + i + (v :: vs).length ≤ C.toList.length := by simpa using hn
    rw [splice_getElem? h1, splice_getElem? h2]
    simp only [List.length_cons]
    by_cases e1 : j < off + i
    · rw [if_pos (by omega), if_pos e1, List.getElem?_set_ne (by omega)]
    · by_cases e2 : j = off + i
      · subst e2
        rw [if_pos (by omega), if_neg (by omega), if_pos (by omega), List.getElem?_set_self (by simpa using hlt)]
        simp
      · by_cases e3 : j < off + (i + 1) + vs.length
        · rw [if_neg (by omega), if_pos e3, if_neg e1, if_pos (by omega)]
          rw [show j - (off + i) = (j - (off + (i + 1))) + 1 by omega]
          simp
        · rw [if_neg (by omega), if_neg e3, if_neg e1, if_neg (by omega), List.getElem?_set_ne (by omega)]

theorem cells_of_ty (hP : WF P) {c : Cx} {a : AV} {T : TypeId} {v : Value} (ht : tyOK P a T) (h : VV P c a v) : v.cells.toList.length = P.cellsOf T ∧ ∀ x ∈ v.cells.toList, x.oneCell' = true :=
  ⟨rep_length hP ht (rep_of_vv ht h), rep_one hP c a T _ ht (rep_of_vv ht h)⟩

theorem run_storeVar (hP : WF P) {c : Cx} {b off : Nat} {C : Array Value} {Te T : TypeId} {a : AV} {v : Value} (hb : c.w.heap[b]? = some (.cells C Te (0, 0))) (hn : off + P.cellsOf T ≤ C.size)
    (ht : tyOK P a T) (h : VV P c a v) : (storeVar T ⟨b, off, none⟩ v).run P c.w = .ok () (putBlk c.w b (.cells (splice C.toList off v.cells.toList).toArray Te)) := by
  obtain ⟨hl, hone⟩ := cells_of_ty hP ht h
  have hs := shape_ne ht (rep_of_vv ht h)
  unfold storeVar
  simp only [Sem.run_bind, run_sizeT hs, Result.andThen_ok]
  have hsz : v.cells.size = P.cellsOf T := by simpa using hl
  simp only [hsz, ne_eq, not_true_eq_false, if_false]
  have := run_storeCells_at (P := P) (T := Te) (b := b) (off := off) v.cells.toList 0 c.w C hb hone (by omega)
  simpa using this
end
end Go.Abs
