/- Abs1: a part of the proofs about the tuple space (layer 8). -/
import Derived.Orders
import Derived.Tactics
import Derived.Laws.World
import Derived.Laws.Entries
import Derived.Laws.Rows
import Derived.Below
set_option linter.all false
namespace Go.Abs
open Go

/-- Abstract values: what the walk computes with. -/
inductive AV where
  | int (k : IntKind) (n : Int)
  | bool (b : Bool)
  | str (s : ByteArray)
  | agg (T : TypeId) (vs : List AV)
  | list (T : TypeId) (es : List AV)
  | win (k : Nat) (p : List Nat) (T : TypeId) (fr n lo : Nat)
  | ref (k : Nat) (p : List Nat) (T : TypeId)
  | eref (T : TypeId) (v : AV)
  | nilptr
  | fn (f : FuncId) (caps : List AV)
  | nilfn
  | nils
  | tup (vs : List AV)
  | junk
  deriving Inhabited

inductive Status where
  | own | fz | dead | hole
  deriving DecidableEq, Inhabited

structure Entry where
  T : TypeId
  es : List AV
  st : Status
  deriving Inhabited

structure Cx where
  κ : Nat → Option Nat
  h : List Entry
  w : World

/-- Block b is one that may be written. -/
def Cx.O (c : Cx) (b : Nat) : Prop := ∃ k e, c.h[k]? = some e ∧ e.st = .own ∧ c.κ k = some b

inductive Shape where
  | int (k : IntKind) | bool | str | slice (e : TypeId) | ptr (e : TypeId) | func | arr (n : Nat) (e : TypeId) | struct | other
  deriving DecidableEq, Inhabited

def shapeD : Option TypeDesc → Shape
  | some (.int k) => .int k
  | some .bool => .bool
  | some .string => .str
  | some (.slice e) => .slice e
  | some (.pointer e) => .ptr e
  | some (.func ..) => .func
  | some (.array n e) => .arr n e
  | some (.struct _) => .struct
  | _ => .other

/-- The shape of a type of the program's own table. -/
def shapeT (P : Program) (T : TypeId) : Shape := if T < P.types.size then shapeD (P.underlying T) else .other

def fieldsT (P : Program) (T : TypeId) : List (TypeId × Nat) :=
  match P.underlying T with
  | some (.struct fs) => fs.toList.map fun f => (f.type, f.offset)
  | _ => []

def tyOK (P : Program) (av : AV) (T : TypeId) : Prop :=
  match av with
  | .int k _ => shapeT P T = .int k
  | .bool _ => shapeT P T = .bool
  | .str _ => shapeT P T = .str
  | .agg T' _ => T' = T
  | .list T' _ => shapeT P T = .slice T'
  | .win _ _ T' _ _ _ => shapeT P T = .slice T'
  | .ref _ _ T' => shapeT P T = .ptr T'
  | .eref T' _ => shapeT P T = .ptr T'
  | .nilptr => ∃ e, shapeT P T = .ptr e
  | .fn _ _ => shapeT P T = .func
  | .nilfn => shapeT P T = .func
  | .nils => ∃ e, shapeT P T = .slice e
  | .tup _ => False
  | .junk => False

/-- A path inside a value of type T: the type and the offset it leads to. -/
def pathT (P : Program) : TypeId → List Nat → Option (TypeId × Nat)
  | T, [] => some (T, 0)
  | T, i :: r =>
    match shapeT P T with
    | .struct => match (fieldsT P T)[i]? with
      | some (F, o) => (pathT P F r).map fun x => (x.1, o + x.2)
      | none => none
    | .arr n e => if i < n then (pathT P e r).map fun x => (x.1, i * P.cellsOf e + x.2) else none
    | _ => none

def refOff (P : Program) (T : TypeId) : List Nat → Option (TypeId × Nat)
  | [] => none
  | i :: r => (pathT P T r).map fun x => (x.1, i * P.cellsOf T + x.2)

def winOff (P : Program) (T : TypeId) : List Nat → Option (TypeId × Nat)
  | [] => some (T, 0)
  | i :: r => match pathT P T r with
    | some (A, o) => match shapeT P A with
      | .arr _ e => some (e, i * P.cellsOf T + o)
      | _ => none
    | none => none

/-- How many elements an array has into which a window looks (none: a row of an entry's own). -/
def winLim (P : Program) (T : TypeId) : List Nat → Option Nat
  | [] => none
  | i :: r => match pathT P T r with
    | some (A, o) => match shapeT P A with
      | .arr n _ => some n
      | _ => none
    | none => none

def isAgg : AV → Bool
  | .agg .. => true
  | _ => false

def Value.isAgg : Value → Bool
  | .agg _ => true
  | _ => false

mutual
def Rep (P : Program) (c : Cx) : AV → List Value → Prop
  | .int k n, cs => cs = [.int k n]
  | .bool b, cs => cs = [.bool b]
  | .str s, cs => cs = [.string s]
  | .agg T vs, cs => cs.length = P.cellsOf T ∧ match shapeT P T with
      | .struct => RepF P c vs (fieldsT P T) cs
      | .arr n e => vs.length = n ∧ RepE P c vs e cs
      | _ => False
  | .list T es, cs => ∃ a cap, cs = [.slice a es.length cap] ∧ es.length ≤ cap ∧
      (es ≠ [] → ∃ b off C Te m, a = some ⟨b, off, none⟩ ∧ c.w.heap[b]? = some (.cells C Te m) ∧ ¬ c.O b ∧ RepE P c es T (C.toList.drop off))
  | .win k p T fr n lo, cs => ∃ e cap a, c.h[k]? = some e ∧ e.st ≠ .hole ∧ cs = [.slice a n cap] ∧ lo ≤ cap ∧ n ≤ cap ∧ (p = [] → e.T = T) ∧
      (cap ≠ 0 → ∃ b off C m, c.κ k = some b ∧ winOff P e.T p = some (T, off) ∧ c.w.heap[b]? = some (.cells C e.T m) ∧ (e.st = .own → m = (0, 0)) ∧
        a = some ⟨b, off + fr * P.cellsOf T, none⟩ ∧ off + (fr + cap) * P.cellsOf T ≤ C.size ∧ ∀ l, winLim P e.T p = some l → fr + cap ≤ l)
  | .ref k p T, cs => ∃ e b off, c.h[k]? = some e ∧ e.st ≠ .hole ∧ c.κ k = some b ∧ refOff P e.T p = some (T, off) ∧ cs = [.pointer (some ⟨b, off, none⟩)]
  | .eref T v, cs => ∃ b off C Te m, cs = [.pointer (some ⟨b, off, none⟩)] ∧ c.w.heap[b]? = some (.cells C Te m) ∧ ¬ c.O b ∧ tyOK P v T ∧
      Rep P c v ((C.toList.drop off).take (P.cellsOf T))
  | .nilptr, cs => cs = [.pointer none]
  | .fn f caps, cs => ∃ vs : List Value, cs = [.func (.func f) #[] vs.toArray] ∧ RepV P c caps vs
  | .nilfn, cs => cs = [.nilFunc]
  | .nils, cs => cs = [.slice none 0 0]
  | .tup _, _ => False
  | .junk, _ => False
def RepF (P : Program) (c : Cx) : List AV → List (TypeId × Nat) → List Value → Prop
  | [], fs, _ => fs = []
  | v :: vs, fs, cs => ∃ f r, fs = f :: r ∧ tyOK P v f.1 ∧ Rep P c v ((cs.drop f.2).take (P.cellsOf f.1)) ∧ RepF P c vs r cs
def RepE (P : Program) (c : Cx) : List AV → TypeId → List Value → Prop
  | [], _, _ => True
  | v :: vs, T, cs => tyOK P v T ∧ Rep P c v (cs.take (P.cellsOf T)) ∧ RepE P c vs T (cs.drop (P.cellsOf T))
def RepV (P : Program) (c : Cx) : List AV → List Value → Prop
  | [], vs => vs = []
  | a :: as, vs => ∃ v r, vs = v :: r ∧ isAgg a = Value.isAgg v ∧ Rep P c a v.cells.toList ∧ RepV P c as r
end

def VV (P : Program) (c : Cx) (a : AV) (v : Value) : Prop :=
  match a with
  | .junk => True
  | .tup vs => ∃ l : List Value, v = .tuple l.toArray ∧ RepV P c vs l
  | a => isAgg a = Value.isAgg v ∧ Rep P c a v.cells.toList

/-! ### What the type table owes -/
def isScalar : Shape → Bool
  | .int _ | .bool | .str | .slice _ | .ptr _ | .func => true
  | _ => false

def wfFs (P : Program) (lim : Nat) : List (TypeId × Nat) → Nat → Bool
  | [], lo => lo == lim
  | f :: r, lo => lo == f.2 && wfFs P lim r (f.2 + P.cellsOf f.1)

def wfT (P : Program) (T : TypeId) : Bool :=
  match shapeT P T with
  | .struct => wfFs P (P.cellsOf T) (fieldsT P T) 0
  | .arr n e => P.cellsOf T == n * P.cellsOf e
  | .other => true
  | _ => P.cellsOf T == 1

def WF (P : Program) : Prop := ∀ T, wfT P T = true

theorem wf_of_table {P : Program} (h : (List.range P.types.size).all (wfT P) = true) : WF P := by
  intro T
  by_cases hT : T < P.types.size
  · exact List.all_eq_true.1 h T (by simpa using hT)
  · unfold wfT shapeT
    rw [if_neg hT]

section
variable {P : Program}

theorem shape_spec {T : TypeId} {s : Shape} (h : shapeT P T = s) (hs : s ≠ .other) : shapeD (P.underlying T) = s := by
  unfold shapeT at h
  split at h
  · exact h
  · exact absurd h.symm hs

theorem und_int {T : TypeId} {k : IntKind} (h : shapeT P T = .int k) : P.underlying T = some (.int k) := by
  have := shape_spec h (by simp)
  unfold shapeD at this
  split at this <;> simp_all
theorem und_bool {T : TypeId} (h : shapeT P T = .bool) : P.underlying T = some .bool := by
  have := shape_spec h (by simp)
  unfold shapeD at this
  split at this <;> simp_all
theorem und_str {T : TypeId} (h : shapeT P T = .str) : P.underlying T = some .string := by
  have := shape_spec h (by simp)
  unfold shapeD at this
  split at this <;> simp_all
theorem und_slice {T e : TypeId} (h : shapeT P T = .slice e) : P.underlying T = some (.slice e) := by
  have := shape_spec h (by simp)
  unfold shapeD at this
  split at this <;> simp_all
theorem und_ptr {T e : TypeId} (h : shapeT P T = .ptr e) : P.underlying T = some (.pointer e) := by
  have := shape_spec h (by simp)
  unfold shapeD at this
  split at this <;> simp_all
theorem und_arr {T e : TypeId} {n : Nat} (h : shapeT P T = .arr n e) : P.underlying T = some (.array n e) := by
  have := shape_spec h (by simp)
  unfold shapeD at this
  split at this <;> simp_all
theorem und_func {T : TypeId} (h : shapeT P T = .func) : ∃ ps rs v, P.underlying T = some (.func ps rs v) := by
  have := shape_spec h (by simp)
  unfold shapeD at this
  split at this <;> simp_all
theorem und_struct {T : TypeId} (h : shapeT P T = .struct) : ∃ fs, P.underlying T = some (.struct fs) := by
  have := shape_spec h (by simp)
  unfold shapeD at this
  split at this <;> simp_all
/-- A type that a shape is known of has its row. -/
theorem info_of_shape {T : TypeId} (h : shapeT P T ≠ .other) : ∃ i, P.info? T = some i := by
  unfold shapeT at h
  split at h
  · cases hi : P.info? T with
    | some i => exact ⟨i, rfl⟩
    | none => simp [Program.underlying, hi, shapeD] at h
  · exact absurd rfl h

theorem WF.scalar (hP : WF P) {T : TypeId} (h : isScalar (shapeT P T) = true) : P.cellsOf T = 1 := by
  have := hP T
  unfold wfT at this
  cases hs : shapeT P T <;> simp_all [isScalar]

theorem wfFs_bounds {lim : Nat} : ∀ {fs : List (TypeId × Nat)} {lo : Nat}, wfFs P lim fs lo = true →
    ∀ {i : Nat} {F : TypeId} {o : Nat}, fs[i]? = some (F, o) → lo ≤ o ∧ o + P.cellsOf F ≤ lim ∧
      ∀ {j : Nat} {G : TypeId} {q : Nat}, i < j → fs[j]? = some (G, q) → o + P.cellsOf F ≤ q
  | [], _, _, i, F, o, hi => by simp at hi
  | f :: r, lo, h, 0, F, o, hi => by
    simp only [wfFs, Bool.and_eq_true, beq_iff_eq] at h
    simp only [List.getElem?_cons_zero, Option.some.injEq] at hi
    subst hi
    refine ⟨Nat.le_of_eq h.1, ?_, ?_⟩
    · cases r with
      | nil => exact Nat.le_of_eq (by simpa [wfFs] using h.2)
      | cons g r =>
        have := (wfFs_bounds h.2 (i := 0) (F := g.1) (o := g.2) rfl)
        simp only at this ⊢
        omega
    · intro j G q hj hjq
      cases j with
      | zero => omega
      | succ j => simp only [List.getElem?_cons_succ] at hjq; exact (wfFs_bounds h.2 hjq).1
  | f :: r, lo, h, i + 1, F, o, hi => by
    simp only [wfFs, Bool.and_eq_true, beq_iff_eq] at h
    simp only [List.getElem?_cons_succ] at hi
    obtain ⟨h1, h2, h3⟩ := wfFs_bounds h.2 hi
    refine ⟨by omega, h2, ?_⟩
    intro j G q hj hjq
    cases j with
    | zero => omega
    | succ j => simp only [List.getElem?_cons_succ] at hjq; exact h3 (by omega) hjq

theorem WF.fields (hP : WF P) {T : TypeId} (hs : shapeT P T = .struct) : wfFs P (P.cellsOf T) (fieldsT P T) 0 = true := by
  have := hP T
  unfold wfT at this
  rw [hs] at this
  exact this

theorem WF.arr (hP : WF P) {T : TypeId} {n : Nat} {e : TypeId} (hs : shapeT P T = .arr n e) : P.cellsOf T = n * P.cellsOf e := by
  have := hP T
  unfold wfT at this
  rw [hs] at this
  simpa using this

theorem pathT_bound (hP : WF P) : ∀ {p : List Nat} {T T' : TypeId} {o : Nat}, pathT P T p = some (T', o) → o + P.cellsOf T' ≤ P.cellsOf T
  | [], T, T', o, h => by simp only [pathT, Option.some.injEq, Prod.mk.injEq] at h; obtain ⟨rfl, rfl⟩ := h; omega
  | i :: r, T, T', o, h => by
    simp only [pathT] at h
    split at h
    · rename_i hs
      split at h
      · rename_i F q hf
        rw [Option.map_eq_some_iff] at h
        obtain ⟨⟨a, b⟩, ha, hb⟩ := h
        simp only [Prod.mk.injEq] at hb
        obtain ⟨rfl, rfl⟩ := hb
        have h1 := pathT_bound hP ha
        have h2 := (wfFs_bounds (hP.fields hs) hf).2.1
        omega
      · cases h
    · rename_i n e hs
      split at h
      · rename_i hi
        rw [Option.map_eq_some_iff] at h
        obtain ⟨⟨a, b⟩, ha, hb⟩ := h
        simp only [Prod.mk.injEq] at hb
        obtain ⟨rfl, rfl⟩ := hb
        have h1 := pathT_bound hP ha
        have h2 := hP.arr hs
        have h3 : (i + 1) * P.cellsOf e ≤ n * P.cellsOf e := Nat.mul_le_mul_right _ hi
        rw [Nat.add_mul] at h3
        omega
      · cases h
    · cases h

theorem pathT_append : ∀ {p q : List Nat} {T T' T'' : TypeId} {o o' : Nat}, pathT P T p = some (T', o) → pathT P T' q = some (T'', o') → pathT P T (p ++ q) = some (T'', o + o')
  | [], q, T, T', T'', o, o', h, h' => by simp only [pathT, Option.some.injEq, Prod.mk.injEq] at h; obtain ⟨rfl, rfl⟩ := h; simpa using h'
  | i :: r, q, T, T', T'', o, o', h, h' => by
    simp only [pathT, List.cons_append] at h ⊢
    split at h
    · rename_i hs
      split at h
      · rename_i F p hf
        rw [Option.map_eq_some_iff] at h
        obtain ⟨⟨a, b⟩, ha, hb⟩ := h
        simp only [Prod.mk.injEq] at hb
        obtain ⟨rfl, rfl⟩ := hb
        rw [pathT_append ha h']
        simp [Nat.add_assoc]
      · cases h
    · split at h
      · rename_i hi
        rw [Option.map_eq_some_iff] at h
        obtain ⟨⟨a, b⟩, ha, hb⟩ := h
        simp only [Prod.mk.injEq] at hb
        obtain ⟨rfl, rfl⟩ := hb
        rw [pathT_append ha h', if_pos hi]
        simp [Nat.add_assoc]
      · cases h
    · cases h

/-! ### Lengths, elements -/
theorem rep_length (hP : WF P) {c : Cx} {a : AV} {T : TypeId} {cs : List Value} (ht : tyOK P a T) (h : Rep P c a cs) : cs.length = P.cellsOf T := by
  cases a <;> simp only [Rep, tyOK] at ht h
  case int => rw [h, hP.scalar (T := T) (by rw [ht]; rfl)]; rfl
  case bool => rw [h, hP.scalar (T := T) (by rw [ht]; rfl)]; rfl
  case str => rw [h, hP.scalar (T := T) (by rw [ht]; rfl)]; rfl
  case agg => rw [← ht]; exact h.1
  case list => obtain ⟨_, _, rfl, _⟩ := h; rw [hP.scalar (T := T) (by rw [ht]; rfl)]; rfl
  case win => obtain ⟨_, _, _, _, _, rfl, _⟩ := h; rw [hP.scalar (T := T) (by rw [ht]; rfl)]; rfl
  case ref => obtain ⟨_, _, _, _, _, _, _, rfl⟩ := h; rw [hP.scalar (T := T) (by rw [ht]; rfl)]; rfl
  case eref => obtain ⟨_, _, _, _, _, rfl, _⟩ := h; rw [hP.scalar (T := T) (by rw [ht]; rfl)]; rfl
  case nilptr => obtain ⟨e, ht⟩ := ht; rw [h, hP.scalar (T := T) (by rw [ht]; rfl)]; rfl
  case fn => obtain ⟨_, rfl, _⟩ := h; rw [hP.scalar (T := T) (by rw [ht]; rfl)]; rfl
  case nilfn => rw [h, hP.scalar (T := T) (by rw [ht]; rfl)]; rfl
  case nils => obtain ⟨e, ht⟩ := ht; rw [h, hP.scalar (T := T) (by rw [ht]; rfl)]; rfl

/-- The rows of a slice: element i, its type and its cells. -/
theorem repE_get : ∀ {vs : List AV} {T : TypeId} {c : Cx} {cs : List Value} {i : Nat} {v : AV}, RepE P c vs T cs → vs[i]? = some v →
    tyOK P v T ∧ Rep P c v ((cs.drop (i * P.cellsOf T)).take (P.cellsOf T))
  | [], T, c, cs, i, v, h, hi => by simp at hi
  | u :: vs, T, c, cs, 0, v, h, hi => by
    simp only [RepE] at h
    simp only [List.getElem?_cons_zero, Option.some.injEq] at hi
    subst hi
    simpa using ⟨h.1, h.2.1⟩
  | u :: vs, T, c, cs, i + 1, v, h, hi => by
    simp only [RepE] at h
    simp only [List.getElem?_cons_succ] at hi
    have := repE_get h.2.2 hi
    rw [List.drop_drop] at this
    rwa [show (i + 1) * P.cellsOf T = P.cellsOf T + i * P.cellsOf T by rw [Nat.add_mul]; omega]

theorem repE_mk : ∀ {vs : List AV} {T : TypeId} {c : Cx} {cs : List Value},
    (∀ i v, vs[i]? = some v → tyOK P v T ∧ Rep P c v ((cs.drop (i * P.cellsOf T)).take (P.cellsOf T))) → RepE P c vs T cs
  | [], T, c, cs, _ => by simp only [RepE]
  | u :: vs, T, c, cs, h => by
    simp only [RepE]
    have h0 := h 0 u rfl
    refine ⟨h0.1, by simpa using h0.2, repE_mk fun i v hi => ?_⟩
    have := h (i + 1) v (by simpa using hi)
    rw [List.drop_drop]
    rwa [show (i + 1) * P.cellsOf T = P.cellsOf T + i * P.cellsOf T by rw [Nat.add_mul]; omega] at this

theorem repE_iff {vs : List AV} {T : TypeId} {c : Cx} {cs : List Value} : RepE P c vs T cs ↔
    ∀ i v, vs[i]? = some v → tyOK P v T ∧ Rep P c v ((cs.drop (i * P.cellsOf T)).take (P.cellsOf T)) :=
  ⟨fun h _ _ hi => repE_get h hi, repE_mk⟩

theorem repF_get : ∀ {vs : List AV} {fs : List (TypeId × Nat)} {c : Cx} {cs : List Value} {i : Nat} {f : TypeId × Nat}, RepF P c vs fs cs → fs[i]? = some f →
    ∃ v, vs[i]? = some v ∧ tyOK P v f.1 ∧ Rep P c v ((cs.drop f.2).take (P.cellsOf f.1))
  | [], fs, c, cs, i, f, h, hi => by simp only [RepF] at h; subst h; simp at hi
  | u :: vs, fs, c, cs, 0, f, h, hi => by
    simp only [RepF] at h
    obtain ⟨g, r, rfl, h1, h2, _⟩ := h
    simp only [List.getElem?_cons_zero, Option.some.injEq] at hi
    subst hi
    exact ⟨u, rfl, h1, h2⟩
  | u :: vs, fs, c, cs, i + 1, f, h, hi => by
    simp only [RepF] at h
    obtain ⟨g, r, rfl, _, _, h3⟩ := h
    simp only [List.getElem?_cons_succ] at hi
    obtain ⟨v, hv, h4⟩ := repF_get h3 hi
    exact ⟨v, by simpa using hv, h4⟩

theorem repF_mk : ∀ {vs : List AV} {fs : List (TypeId × Nat)} {c : Cx} {cs : List Value}, vs.length = fs.length →
    (∀ (i : Nat) (v : AV) (f : TypeId × Nat), vs[i]? = some v → fs[i]? = some f → tyOK P v f.1 ∧ Rep P c v ((cs.drop f.2).take (P.cellsOf f.1))) → RepF P c vs fs cs
  | [], fs, c, cs, hl, _ => by simp only [RepF]; exact List.eq_nil_of_length_eq_zero hl.symm
  | u :: vs, [], c, cs, hl, _ => by simp at hl
  | u :: vs, g :: r, c, cs, hl, h => by
    simp only [RepF]
    have h0 := h 0 u g rfl rfl
    exact ⟨g, r, rfl, h0.1, h0.2, repF_mk (by simpa using hl) fun i v f hv hf => h (i + 1) v f (by simpa using hv) (by simpa using hf)⟩

theorem repF_length : ∀ {vs : List AV} {fs : List (TypeId × Nat)} {c : Cx} {cs : List Value}, RepF P c vs fs cs → vs.length = fs.length
  | [], fs, c, cs, h => by simp only [RepF] at h; subst h; rfl
  | u :: vs, fs, c, cs, h => by
    simp only [RepF] at h
    obtain ⟨g, r, rfl, _, _, h3⟩ := h
    simpa using repF_length h3

theorem repF_iff {vs : List AV} {fs : List (TypeId × Nat)} {c : Cx} {cs : List Value} : RepF P c vs fs cs ↔ vs.length = fs.length ∧
    ∀ (i : Nat) (v : AV) (f : TypeId × Nat), vs[i]? = some v → fs[i]? = some f → tyOK P v f.1 ∧ Rep P c v ((cs.drop f.2).take (P.cellsOf f.1)) :=
  ⟨fun h => ⟨repF_length h, fun i v f hv hf => by obtain ⟨v', hv', h1⟩ := repF_get h hf; rw [hv] at hv'; cases hv'; exact h1⟩, fun h => repF_mk h.1 h.2⟩

/-! ### Parts of a value by a path -/
def getP : AV → List Nat → Option AV
  | v, [] => some v
  | .agg _ vs, i :: r => match vs[i]? with
    | some v => getP v r
    | none => none
  | _, _ :: _ => none

def setP : AV → List Nat → AV → Option AV
  | _, [], u => some u
  | .agg T vs, i :: r, u => match vs[i]? with
    | some v => (setP v r u).map fun x => .agg T (vs.set i x)
    | none => none
  | _, _ :: _, _ => none

theorem drop_take_drop_take {α : Type} (l : List α) (a n b m : Nat) (h : b + m ≤ n) : ((((l.drop a).take n).drop b).take m) = (l.drop (a + b)).take m := by
  rw [List.drop_take, List.take_take, List.drop_drop, Nat.min_eq_left (by omega)]

theorem getP_rep (hP : WF P) {c : Cx} : ∀ {p : List Nat} {T T' : TypeId} {o : Nat} {a v : AV} {cs : List Value}, tyOK P a T → Rep P c a cs → pathT P T p = some (T', o) → getP a p = some v →
    tyOK P v T' ∧ Rep P c v ((cs.drop o).take (P.cellsOf T'))
  | [], T, T', o, a, v, cs, ht, h, hp, hg => by
    simp only [pathT, Option.some.injEq, Prod.mk.injEq] at hp
    obtain ⟨rfl, rfl⟩ := hp
    have : a = v := by cases a <;> simpa [getP] using hg
    subst this
    refine ⟨ht, ?_⟩
    rw [List.drop_zero, List.take_of_length_le (by rw [rep_length hP ht h]; exact Nat.le_refl _)]
    exact h
  | i :: r, T, T', o, a, v, cs, ht, h, hp, hg => by
    cases a <;> simp only [getP, reduceCtorEq] at hg
    rename_i T0 vs
    simp only [tyOK] at ht
    subst ht
    simp only [Rep] at h
    simp only [pathT] at hp
    split at hp
    · rename_i hs
      rw [hs] at h
      split at hp
      · rename_i F q hf
        rw [Option.map_eq_some_iff] at hp
        obtain ⟨⟨a1, b1⟩, ha, hb⟩ := hp
        simp only [Prod.mk.injEq] at hb
        obtain ⟨rfl, rfl⟩ := hb
        obtain ⟨u, hu, h1, h2⟩ := repF_get h.2 hf
        simp only [hu] at hg
        obtain ⟨h3, h4⟩ := getP_rep hP h1 h2 ha hg
        refine ⟨h3, ?_⟩
        have := pathT_bound hP ha
        rwa [drop_take_drop_take _ _ _ _ _ this] at h4
      · cases hp
    · rename_i n e hs
      rw [hs] at h
      split at hp
      · rename_i hi
        rw [Option.map_eq_some_iff] at hp
        obtain ⟨⟨a1, b1⟩, ha, hb⟩ := hp
        simp only [Prod.mk.injEq] at hb
        obtain ⟨rfl, rfl⟩ := hb
        cases hu : vs[i]? with
        | none => simp [hu] at hg
        | some u =>
          simp only [hu] at hg
          obtain ⟨h1, h2⟩ := repE_get h.2.2 hu
          obtain ⟨h3, h4⟩ := getP_rep hP h1 h2 ha hg
          refine ⟨h3, ?_⟩
          have := pathT_bound hP ha
          rwa [drop_take_drop_take _ _ _ _ _ this] at h4
      · cases hp
    · cases hp

/-- cells with a part replaced -/
def splice (cs : List Value) (o : Nat) (new : List Value) : List Value := cs.take o ++ new ++ cs.drop (o + new.length)

theorem splice_length {cs new : List Value} {o : Nat} (h : o + new.length ≤ cs.length) : (splice cs o new).length = cs.length := by
  simp [splice]; omega

theorem splice_getElem? {cs new : List Value} {o : Nat} (h : o + new.length ≤ cs.length) (j : Nat) :
    (splice cs o new)[j]? = if j < o then cs[j]? else if j < o + new.length then new[j - o]? else cs[j]? := by
  unfold splice
  simp only [List.getElem?_append, List.length_append, List.length_take, List.getElem?_take, List.getElem?_drop]
  have e1 : min o cs.length = o := by omega
  simp only [e1]
  by_cases h1 : j < o
  · have : j < o + new.length := by omega
    simp [h1, this]
  · by_cases h2 : j < o + new.length
    · simp [h1, h2]
    · simp only [h1, h2, if_false]
      congr 1; omega

theorem splice_same {cs new : List Value} {o : Nat} (h : o + new.length ≤ cs.length) : ((splice cs o new).drop o).take new.length = new := by
  apply List.ext_getElem?
  intro j
  simp only [List.getElem?_take, List.getElem?_drop, splice_getElem? h]
  by_cases hj : j < new.length
  · rw [if_pos hj, if_neg (by omega), if_pos (by omega)]
    congr 1; omega
  · rw [if_neg hj, List.getElem?_eq_none (by omega)]

theorem splice_before {cs new : List Value} {o a n : Nat} (h : a + n ≤ o) (ho : o + new.length ≤ cs.length) : ((splice cs o new).drop a).take n = (cs.drop a).take n := by
  apply List.ext_getElem?
  intro j
  simp only [List.getElem?_take, List.getElem?_drop, splice_getElem? ho]
  by_cases hj : j < n
  · rw [if_pos hj, if_pos (by omega), if_pos hj]
  · rw [if_neg hj, if_neg hj]

theorem splice_behind {cs new : List Value} {o a n : Nat} (h : o + new.length ≤ a) (ho : o + new.length ≤ cs.length) : ((splice cs o new).drop a).take n = (cs.drop a).take n := by
  apply List.ext_getElem?
  intro j
  simp only [List.getElem?_take, List.getElem?_drop, splice_getElem? ho]
  by_cases hj : j < n
  · rw [if_pos hj, if_neg (by omega), if_neg (by omega), if_pos hj]
  · rw [if_neg hj, if_neg hj]

theorem splice_in {cs new : List Value} {o q m : Nat} (hq : q + new.length ≤ m) (ho : o + m ≤ cs.length) :
    ((splice cs (o + q) new).drop o).take m = splice ((cs.drop o).take m) q new := by
  apply List.ext_getElem?
  intro j
  have hl : q + new.length ≤ ((cs.drop o).take m).length := by simp; omega
  simp only [List.getElem?_take, List.getElem?_drop, splice_getElem? (show o + q + new.length ≤ cs.length by omega), splice_getElem? hl]
  by_cases hj : j < m
  · rw [if_pos hj]
    by_cases h1 : j < q
    · rw [if_pos (by omega), if_pos h1, if_pos hj]
    · by_cases h2 : j < q + new.length
      · rw [if_neg (by omega), if_pos (by omega), if_neg h1, if_pos h2]
        congr 1; omega
      · rw [if_neg (by omega), if_neg (by omega), if_neg h1, if_neg h2, if_pos hj]
  · rw [if_neg hj, if_neg (by omega), if_neg (by omega), if_neg hj]

theorem setP_rep (hP : WF P) {c : Cx} : ∀ {p : List Nat} {T T' : TypeId} {o : Nat} {a u x : AV} {cs new : List Value}, tyOK P a T → Rep P c a cs → pathT P T p = some (T', o) →
    tyOK P u T' → Rep P c u new → setP a p u = some x → tyOK P x T ∧ Rep P c x (splice cs o new)
  | [], T, T', o, a, u, x, cs, new, ht, h, hp, hu, hn, hs => by
    simp only [pathT, Option.some.injEq, Prod.mk.injEq] at hp
    obtain ⟨rfl, rfl⟩ := hp
    have : u = x := by cases a <;> simpa [setP] using hs
    subst this
    refine ⟨hu, ?_⟩
    have e1 := rep_length hP ht h
    have e2 := rep_length hP hu hn
    unfold splice
    rw [List.take_zero, List.nil_append, Nat.zero_add, List.drop_eq_nil_of_le (by omega), List.append_nil]
    exact hn
  | i :: r, T, T', o, a, u, x, cs, new, ht, h, hp, hu, hn, hs => by
    cases a <;> simp only [setP, reduceCtorEq] at hs
    rename_i T0 vs
    simp only [tyOK] at ht
    subst ht
    simp only [Rep] at h
    have hlen := h.1
    have hbound := pathT_bound hP hp
    have hnl := rep_length hP hu hn
    simp only [pathT] at hp
    cases hv : vs[i]? with
    | none => simp [hv] at hs
    | some v =>
      simp only [hv, Option.map_eq_some_iff] at hs
      obtain ⟨y, hy, rfl⟩ := hs
      have hi : i < vs.length := (List.getElem?_eq_some_iff.1 hv).1
      split at hp
      · rename_i hst
        rw [hst] at h
        split at hp
        · rename_i F q hf
          rw [Option.map_eq_some_iff] at hp
          obtain ⟨⟨a1, b1⟩, ha, hb⟩ := hp
          simp only [Prod.mk.injEq] at hb
          obtain ⟨rfl, rfl⟩ := hb
          obtain ⟨hl, hall⟩ := repF_iff.1 h.2
          obtain ⟨h1, h2⟩ := hall i v _ hv hf
          obtain ⟨h3, h4⟩ := setP_rep hP h1 h2 ha hu hn hy
          have hb1 := pathT_bound hP ha
          obtain ⟨_, hfb, hfs⟩ := wfFs_bounds (hP.fields hst) hf
          refine ⟨rfl, ?_⟩
          simp only [Rep]
          rw [splice_length (by omega), hst]
          refine ⟨hlen, repF_iff.2 ⟨by simpa using hl, ?_⟩⟩
          intro j w g hw hg
          by_cases hji : j = i
          · subst hji
            rw [hf] at hg
            cases hg
            rw [List.getElem?_set_self hi] at hw
            cases hw
            refine ⟨h3, ?_⟩
            show Rep P c _ (((splice cs (q + b1) new).drop q).take (P.cellsOf F))
            rw [splice_in (by omega) (by omega)]
            exact h4
          · rw [List.getElem?_set_ne (by omega)] at hw
            obtain ⟨h5, h6⟩ := hall j w g hw hg
            refine ⟨h5, ?_⟩
            obtain ⟨_, hgb, hgs⟩ := wfFs_bounds (hP.fields hst) (i := j) (F := g.1) (o := g.2) hg
            rcases Nat.lt_or_gt_of_ne hji with hlt | hgt
            · have := hgs hlt hf
              rw [splice_before (by omega) (by omega)]
              exact h6
            · have := hfs hgt (G := g.1) (q := g.2) hg
              rw [splice_behind (by omega) (by omega)]
              exact h6
        · cases hp
      · rename_i n e hst
        rw [hst] at h
        split at hp
        · rename_i hin
          rw [Option.map_eq_some_iff] at hp
          obtain ⟨⟨a1, b1⟩, ha, hb⟩ := hp
          simp only [Prod.mk.injEq] at hb
          obtain ⟨rfl, rfl⟩ := hb
          have hall := repE_iff.1 h.2.2
          obtain ⟨h1, h2⟩ := hall i v hv
          obtain ⟨h3, h4⟩ := setP_rep hP h1 h2 ha hu hn hy
          have hb1 := pathT_bound hP ha
          have har := hP.arr hst
          have hmul : (i + 1) * P.cellsOf e ≤ n * P.cellsOf e := Nat.mul_le_mul_right _ hin
          rw [Nat.add_mul] at hmul
          refine ⟨rfl, ?_⟩
          simp only [Rep]
          rw [splice_length (by omega), hst]
          refine ⟨hlen, by simpa using h.2.1, repE_iff.2 ?_⟩
          intro j w hw
          have hjn : j < n := by
            have := (List.getElem?_eq_some_iff.1 hw).1
            have := h.2.1
            simp at *
            omega
          by_cases hji : j = i
          · subst hji
            rw [List.getElem?_set_self hi] at hw
            cases hw
            refine ⟨h3, ?_⟩
            rw [splice_in (by omega) (by omega)]
            exact h4
          · rw [List.getElem?_set_ne (by omega)] at hw
            obtain ⟨h5, h6⟩ := hall j w hw
            refine ⟨h5, ?_⟩
            rcases Nat.lt_or_gt_of_ne hji with hlt | hgt
            · have hm2 : (j + 1) * P.cellsOf e ≤ i * P.cellsOf e := Nat.mul_le_mul_right _ hlt
              rw [Nat.add_mul] at hm2
              rw [splice_before (by omega) (by omega)]
              exact h6
            · have hm2 : (i + 1) * P.cellsOf e ≤ j * P.cellsOf e := Nat.mul_le_mul_right _ hgt
              rw [Nat.add_mul] at hm2
              rw [splice_behind (by omega) (by omega)]
              exact h6
        · cases hp
      · cases hp
end
end Go.Abs
