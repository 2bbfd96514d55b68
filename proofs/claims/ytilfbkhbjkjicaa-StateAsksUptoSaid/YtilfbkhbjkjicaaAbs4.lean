/- Abs4: a part of the proofs about the tuple space and its bytes. -/
import Derived.Orders
import Derived.Tactics
import Derived.Laws.World
import Derived.Laws.Entries
import Derived.Laws.Rows
import Derived.Below
import Derived.ChangeKeysEq
set_option linter.all false
namespace Go.Abs
open Go
inductive AV where
  | int (k : IntKind) (n : Int)
  | bool (b : Bool)
  | str (s : ByteArray)
  | agg (T : TypeId) (vs : List AV)
  | list (T : TypeId) (es : List AV)
  | win (k : Nat) (p : List Nat) (T : TypeId) (fr n lo : Nat)
  | ref (k : Nat) (p : List Nat) (T : TypeId)
  | eref (T : TypeId) (v : AV)
  | nilptr
  | fn (f : FuncId) (caps : List AV)
  | nilfn
  | nils
  | tup (vs : List AV)
  | junk
  deriving Inhabited
inductive Status where
  | own | fz | dead | hole
  deriving DecidableEq, Inhabited
structure Entry where
  T : TypeId
  es : List AV
  st : Status
  deriving Inhabited
structure Cx where
  κ : Nat → Option Nat
  h : List Entry
  w : World
def mOK (C : Array Value) (m : Nat × Nat) : Prop := m.1 = m.2 ∨ C.size ≤ m.1
theorem mOK.zero {C : Array Value} : mOK C (0, 0) := .inl rfl
theorem mOK.size {C C' : Array Value} {m : Nat × Nat} (h : mOK C m) (hs : C'.size = C.size) : mOK C' m := by unfold mOK at *; rw [hs]; exact h
def Cx.O (c : Cx) (b : Nat) : Prop := ∃ k e, c.h[k]? = some e ∧ e.st = .own ∧ c.κ k = some b
inductive Shape where
  | int (k : IntKind) | bool | str | slice (e : TypeId) | ptr (e : TypeId) | func | arr (n : Nat) (e : TypeId) | struct | other
  deriving DecidableEq, Inhabited
def zcn : Option TypeDesc → Shape
  | some (.int k) => .int k
  | some .bool => .bool
  | some .string => .str
  | some (.slice e) => .slice e
  | some (.pointer e) => .ptr e
  | some (.func ..) => .func
  | some (.array n e) => .arr n e
  | some (.struct _) => .struct
  | _ => .other
def zab (P : Program) (T : TypeId) : Shape := if T < P.types.size then zcn (P.underlying T) else .other
def qaj (P : Program) (T : TypeId) : List (TypeId × Nat) :=
  match P.underlying T with
  | some (.struct fs) => fs.toList.map fun f => (f.type, f.offset)
  | _ => []
def isY : List AV → Bool
  | .tup [] :: _ => true
  | _ => false
def isJ : AV → Bool
  | .junk => true
  | .tup [] => true
  | _ => false
def notY : AV → Bool
  | .fn _ caps => !isY caps
  | _ => true
def qdb : Code → Option (Array Tmp × Code × Code)
  | .rangeFunc _ ps a b => some (ps, a, b)
  | .seq x y => (qdb x).orElse fun _ => qdb y
  | .cond _ x y => (qdb x).orElse fun _ => qdb y
  | .block _ x => qdb x
  | .loop x => qdb x
  | _ => none
def loopOf (P : Program) (f : FuncId) : Option (Array Tmp × Code × Code) := (P.funcs[f]?).bind fun fn => fn.body.bind qdb
def yaz (P : Program) (av : AV) (T : TypeId) : Prop :=
  match av with
  | .int k _ => zab P T = .int k
  | .bool _ => zab P T = .bool
  | .str _ => zab P T = .str
  | .agg T' _ => T' = T
  | .list T' _ => zab P T = .slice T'
  | .win _ _ T' _ _ _ => zab P T = .slice T'
  | .ref _ _ T' => zab P T = .ptr T'
  | .eref T' _ => zab P T = .ptr T'
  | .nilptr => ∃ e, zab P T = .ptr e
  | .fn _ caps => zab P T = .func ∧ isY caps = false
  | .nilfn => zab P T = .func
  | .nils => ∃ e, zab P T = .slice e
  | .tup _ => False
  | .junk => False
def za9 (P : Program) : TypeId → List Nat → Option (TypeId × Nat)
  | T, [] => some (T, 0)
  | T, i :: r =>
    match zab P T with
    | .struct => match (qaj P T)[i]? with
      | some (F, o) => (za9 P F r).map fun x => (x.1, o + x.2)
      | none => none
    | .arr n e => if i < n then (za9 P e r).map fun x => (x.1, i * P.cellsOf e + x.2) else none
    | _ => none
def qbc (P : Program) (T : TypeId) : List Nat → Option (TypeId × Nat)
  | [] => none
  | i :: r => (za9 P T r).map fun x => (x.1, i * P.cellsOf T + x.2)
def zby (P : Program) (T : TypeId) : List Nat → Option (TypeId × Nat)
  | [] => some (T, 0)
  | i :: r => match za9 P T r with
    | some (A, o) => match zab P A with
      | .arr _ e => some (e, i * P.cellsOf T + o)
      | _ => none
    | none => none
def ycr (P : Program) (T : TypeId) : List Nat → Option Nat
  | [] => none
  | i :: r => match za9 P T r with
    | some (A, o) => match zab P A with
      | .arr n _ => some n
      | _ => none
    | none => none
def isAgg : AV → Bool
  | .agg .. => true
  | _ => false
def Value.isAgg : Value → Bool
  | .agg _ => true
  | _ => false
mutual
def Rep (P : Program) (c : Cx) : AV → List Value → Prop
  | .int k n, cs => cs = [.int k n]
  | .bool b, cs => cs = [.bool b]
  | .str s, cs => cs = [.string s]
  | .agg T vs, cs => cs.length = P.cellsOf T ∧ match zab P T with
      | .struct => zb1 P c vs (qaj P T) cs
      | .arr n e => vs.length = n ∧ qa0 P c vs e cs
      | _ => False
  | .list T es, cs => ∃ a cap, cs = [.slice a es.length cap] ∧ es.length ≤ cap ∧
      (es ≠ [] → ∃ b off C Te m, a = some ⟨b, off, none⟩ ∧ c.w.heap[b]? = some (.cells C Te m) ∧ ¬ c.O b ∧ qa0 P c es T (C.toList.drop off))
  | .win k p T fr n lo, cs => ∃ e cap a, c.h[k]? = some e ∧ e.st ≠ .hole ∧ cs = [.slice a n cap] ∧ lo ≤ cap ∧ n ≤ cap ∧ (p = [] → e.T = T) ∧
      (cap ≠ 0 → ∃ b off C m, c.κ k = some b ∧ zby P e.T p = some (T, off) ∧ c.w.heap[b]? = some (.cells C e.T m) ∧ (e.st = .own → mOK C m) ∧
        a = some ⟨b, off + fr * P.cellsOf T, none⟩ ∧ off + (fr + cap) * P.cellsOf T ≤ C.size ∧ ∀ l, ycr P e.T p = some l → fr + cap ≤ l)
  | .ref k p T, cs => ∃ e b off, c.h[k]? = some e ∧ e.st ≠ .hole ∧ c.κ k = some b ∧ qbc P e.T p = some (T, off) ∧ cs = [.pointer (some ⟨b, off, none⟩)]
  | .eref T v, cs => ∃ b off C Te m, cs = [.pointer (some ⟨b, off, none⟩)] ∧ c.w.heap[b]? = some (.cells C Te m) ∧ ¬ c.O b ∧ yaz P v T ∧
      Rep P c v ((C.toList.drop off).take (P.cellsOf T))
  | .nilptr, cs => cs = [.pointer none]
  | .fn f caps, cs => (isY caps = false ∧ caps.all notY = true ∧ ∃ vs : List Value, cs = [.func (.func f) #[] vs.toArray] ∧ ya2 P c caps vs) ∨
      (isY caps = true ∧ ∃ (l : Nat) (L : Loop), cs = [.func (.yield l) #[] #[]] ∧ c.w.heap[l]? = some (.loop L) ∧ ¬ c.O l ∧ L.state = .ready ∧ L.pending = none ∧
        loopOf P f = some (L.params, L.assign, L.body) ∧ zdx P c caps (.tuple #[] :: L.tmps.toList))
  | .nilfn, cs => cs = [.nilFunc]
  | .nils, cs => cs = [.slice none 0 0]
  | .tup _, _ => False
  | .junk, _ => False
def zb1 (P : Program) (c : Cx) : List AV → List (TypeId × Nat) → List Value → Prop
  | [], fs, _ => fs = []
  | v :: vs, fs, cs => ∃ f r, fs = f :: r ∧ yaz P v f.1 ∧ Rep P c v ((cs.drop f.2).take (P.cellsOf f.1)) ∧ zb1 P c vs r cs
def qa0 (P : Program) (c : Cx) : List AV → TypeId → List Value → Prop
  | [], _, _ => True
  | v :: vs, T, cs => yaz P v T ∧ Rep P c v (cs.take (P.cellsOf T)) ∧ qa0 P c vs T (cs.drop (P.cellsOf T))
def ya2 (P : Program) (c : Cx) : List AV → List Value → Prop
  | [], vs => vs = []
  | a :: as, vs => ∃ v r, vs = v :: r ∧ isAgg a = Value.isAgg v ∧ Rep P c a v.cells.toList ∧ ya2 P c as r
def zdx (P : Program) (c : Cx) : List AV → List Value → Prop
  | [], vs => vs = []
  | a :: as, vs => ∃ v r, vs = v :: r ∧ (isJ a = true ∨ (notY a = true ∧ isAgg a = Value.isAgg v ∧ Rep P c a v.cells.toList)) ∧ zdx P c as r
end
def VV (P : Program) (c : Cx) (a : AV) (v : Value) : Prop :=
  match a with
  | .junk => True
  | .tup vs => ∃ l : List Value, v = .tuple l.toArray ∧ ya2 P c vs l
  | a => isAgg a = Value.isAgg v ∧ Rep P c a v.cells.toList
def yca : Shape → Bool
  | .int _ | .bool | .str | .slice _ | .ptr _ | .func => true
  | _ => false
def wfFs (P : Program) (lim : Nat) : List (TypeId × Nat) → Nat → Bool
  | [], lo => lo == lim
  | f :: r, lo => lo == f.2 && wfFs P lim r (f.2 + P.cellsOf f.1)
def wfT (P : Program) (T : TypeId) : Bool :=
  match zab P T with
  | .struct => wfFs P (P.cellsOf T) (qaj P T) 0
  | .arr n e => P.cellsOf T == n * P.cellsOf e
  | .other => true
  | _ => P.cellsOf T == 1
def WF (P : Program) : Prop := ∀ T, wfT P T = true
theorem wf_of_table {P : Program} (h : (List.range P.types.size).all (wfT P) = true) : WF P := by
  intro T
  by_cases hT : T < P.types.size
  · exact List.all_eq_true.1 h T (by simpa using hT)
  · unfold wfT zab
    rw [if_neg hT]
section
variable {P : Program}
theorem zbh {T : TypeId} {s : Shape} (h : zab P T = s) (hs : s ≠ .other) : zcn (P.underlying T) = s := by
  unfold zab at h
  split at h
  · exact h
  · exact absurd h.symm hs
theorem qbs {T : TypeId} {k : IntKind} (h : zab P T = .int k) : P.underlying T = some (.int k) := by
  have := zbh h (by simp)
  unfold zcn at this
  split at this <;> simp_all
theorem zc1 {T : TypeId} (h : zab P T = .bool) : P.underlying T = some .bool := by
  have := zbh h (by simp)
  unfold zcn at this
  split at this <;> simp_all
theorem yba {T : TypeId} (h : zab P T = .str) : P.underlying T = some .string := by
  have := zbh h (by simp)
  unfold zcn at this
  split at this <;> simp_all
theorem qah {T e : TypeId} (h : zab P T = .slice e) : P.underlying T = some (.slice e) := by
  have := zbh h (by simp)
  unfold zcn at this
  split at this <;> simp_all
theorem und_ptr {T e : TypeId} (h : zab P T = .ptr e) : P.underlying T = some (.pointer e) := by
  have := zbh h (by simp)
  unfold zcn at this
  split at this <;> simp_all
theorem yb3 {T e : TypeId} {n : Nat} (h : zab P T = .arr n e) : P.underlying T = some (.array n e) := by
  have := zbh h (by simp)
  unfold zcn at this
  split at this <;> simp_all
theorem ycd {T : TypeId} (h : zab P T = .struct) : ∃ fs, P.underlying T = some (.struct fs) := by
  have := zbh h (by simp)
  unfold zcn at this
  split at this <;> simp_all
theorem zbi {T : TypeId} (h : zab P T ≠ .other) : ∃ i, P.info? T = some i := by
  unfold zab at h
  split at h
  · cases hi : P.info? T with
    | some i => exact ⟨i, rfl⟩
    | none => simp [Program.underlying, hi, zcn] at h
  · exact absurd rfl h
theorem WF.scalar (hP : WF P) {T : TypeId} (h : yca (zab P T) = true) : P.cellsOf T = 1 := by
  have := hP T
  unfold wfT at this
  cases hs : zab P T <;> simp_all [yca]
theorem zbs {lim : Nat} : ∀ {fs : List (TypeId × Nat)} {lo : Nat}, wfFs P lim fs lo = true →
    ∀ {i : Nat} {F : TypeId} {o : Nat}, fs[i]? = some (F, o) → lo ≤ o ∧ o + P.cellsOf F ≤ lim ∧
      ∀ {j : Nat} {G : TypeId} {q : Nat}, i < j → fs[j]? = some (G, q) → o + P.cellsOf F ≤ q
  | [], _, _, i, F, o, hi => by simp at hi
  | f :: r, lo, h, 0, F, o, hi => by
    simp only [wfFs, Bool.and_eq_true, beq_iff_eq] at h
    simp only [List.getElem?_cons_zero, Option.some.injEq] at hi
    subst hi
    refine ⟨Nat.le_of_eq h.1, ?_, ?_⟩
    · cases r with
      | nil => exact Nat.le_of_eq (by simpa [wfFs] using h.2)
      | cons g r =>
        have := (zbs h.2 (i := 0) (F := g.1) (o := g.2) rfl)
        simp only at this ⊢
        omega
    · intro j G q hj hjq
      cases j with
      | zero => omega
      | succ j => simp only [List.getElem?_cons_succ] at hjq; exact (zbs h.2 hjq).1
  | f :: r, lo, h, i + 1, F, o, hi => by
    simp only [wfFs, Bool.and_eq_true, beq_iff_eq] at h
    simp only [List.getElem?_cons_succ] at hi
    obtain ⟨h1, h2, h3⟩ := zbs h.2 hi
    refine ⟨by omega, h2, ?_⟩
    intro j G q hj hjq
    cases j with
    | zero => omega
    | succ j => simp only [List.getElem?_cons_succ] at hjq; exact h3 (by omega) hjq
theorem WF.fields (hP : WF P) {T : TypeId} (hs : zab P T = .struct) : wfFs P (P.cellsOf T) (qaj P T) 0 = true := by
  have := hP T
  unfold wfT at this
  rw [hs] at this
  exact this
theorem WF.arr (hP : WF P) {T : TypeId} {n : Nat} {e : TypeId} (hs : zab P T = .arr n e) : P.cellsOf T = n * P.cellsOf e := by
  have := hP T
  unfold wfT at this
  rw [hs] at this
  simpa using this
theorem zaw (hP : WF P) : ∀ {p : List Nat} {T T' : TypeId} {o : Nat}, za9 P T p = some (T', o) → o + P.cellsOf T' ≤ P.cellsOf T
  | [], T, T', o, h => by simp only [za9, Option.some.injEq, Prod.mk.injEq] at h; obtain ⟨rfl, rfl⟩ := h; omega
  | i :: r, T, T', o, h => by
    simp only [za9] at h
    split at h
    · rename_i hs
      split at h
      · rename_i F q hf
        rw [Option.map_eq_some_iff] at h
        obtain ⟨⟨a, b⟩, ha, hb⟩ := h
        simp only [Prod.mk.injEq] at hb
        obtain ⟨rfl, rfl⟩ := hb
        have h1 := zaw hP ha
        have h2 := (zbs (hP.fields hs) hf).2.1
        omega
      · cases h
    · rename_i n e hs
      split at h
      · rename_i hi
        rw [Option.map_eq_some_iff] at h
        obtain ⟨⟨a, b⟩, ha, hb⟩ := h
        simp only [Prod.mk.injEq] at hb
        obtain ⟨rfl, rfl⟩ := hb
        have h1 := zaw hP ha
        have h2 := hP.arr hs
        have h3 : (i + 1) * P.cellsOf e ≤ n * P.cellsOf e := Nat.mul_le_mul_right _ hi
        rw [Nat.add_mul] at h3
        omega
      · cases h
    · cases h
theorem zca : ∀ {p q : List Nat} {T T' T'' : TypeId} {o o' : Nat}, za9 P T p = some (T', o) → za9 P T' q = some (T'', o') → za9 P T (p ++ q) = some (T'', o + o')
  | [], q, T, T', T'', o, o', h, h' => by simp only [za9, Option.some.injEq, Prod.mk.injEq] at h; obtain ⟨rfl, rfl⟩ := h; simpa using h'
  | i :: r, q, T, T', T'', o, o', h, h' => by
    simp only [za9, List.cons_append] at h ⊢
    split at h
    · rename_i hs
      split at h
      · rename_i F p hf
        rw [Option.map_eq_some_iff] at h
        obtain ⟨⟨a, b⟩, ha, hb⟩ := h
        simp only [Prod.mk.injEq] at hb
        obtain ⟨rfl, rfl⟩ := hb
        rw [zca ha h']
        simp [Nat.add_assoc]
      · cases h
    · split at h
      · rename_i hi
        rw [Option.map_eq_some_iff] at h
        obtain ⟨⟨a, b⟩, ha, hb⟩ := h
        simp only [Prod.mk.injEq] at hb
        obtain ⟨rfl, rfl⟩ := hb
        rw [zca ha h', if_pos hi]
        simp [Nat.add_assoc]
      · cases h
    · cases h
theorem yao (hP : WF P) {c : Cx} {a : AV} {T : TypeId} {cs : List Value} (ht : yaz P a T) (h : Rep P c a cs) : cs.length = P.cellsOf T := by
  cases a <;> simp only [Rep, yaz] at ht h
  case int => rw [h, hP.scalar (T := T) (by rw [ht]; rfl)]; rfl
  case bool => rw [h, hP.scalar (T := T) (by rw [ht]; rfl)]; rfl
  case str => rw [h, hP.scalar (T := T) (by rw [ht]; rfl)]; rfl
  case agg => rw [← ht]; exact h.1
  case list => obtain ⟨_, _, rfl, _⟩ := h; rw [hP.scalar (T := T) (by rw [ht]; rfl)]; rfl
  case win => obtain ⟨_, _, _, _, _, rfl, _⟩ := h; rw [hP.scalar (T := T) (by rw [ht]; rfl)]; rfl
  case ref => obtain ⟨_, _, _, _, _, _, _, rfl⟩ := h; rw [hP.scalar (T := T) (by rw [ht]; rfl)]; rfl
  case eref => obtain ⟨_, _, _, _, _, rfl, _⟩ := h; rw [hP.scalar (T := T) (by rw [ht]; rfl)]; rfl
  case nilptr => obtain ⟨e, ht⟩ := ht; rw [h, hP.scalar (T := T) (by rw [ht]; rfl)]; rfl
  case fn => rcases h with ⟨_, _, _, rfl, _⟩ | ⟨_, _, _, rfl, _⟩ <;> (rw [hP.scalar (T := T) (by simp only [ht.1]; rfl)]; rfl)
  case nilfn => rw [h, hP.scalar (T := T) (by rw [ht]; rfl)]; rfl
  case nils => obtain ⟨e, ht⟩ := ht; rw [h, hP.scalar (T := T) (by rw [ht]; rfl)]; rfl
theorem qa7 : ∀ {vs : List AV} {T : TypeId} {c : Cx} {cs : List Value} {i : Nat} {v : AV}, qa0 P c vs T cs → vs[i]? = some v →
    yaz P v T ∧ Rep P c v ((cs.drop (i * P.cellsOf T)).take (P.cellsOf T))
  | [], T, c, cs, i, v, h, hi => by simp at hi
  | u :: vs, T, c, cs, 0, v, h, hi => by
    simp only [qa0] at h
    simp only [List.getElem?_cons_zero, Option.some.injEq] at hi
    subst hi
    simpa using ⟨h.1, h.2.1⟩
  | u :: vs, T, c, cs, i + 1, v, h, hi => by
    simp only [qa0] at h
    simp only [List.getElem?_cons_succ] at hi
    have := qa7 h.2.2 hi
    rw [List.drop_drop] at this
    rwa [show (i + 1) * P.cellsOf T = P.cellsOf T + i * P.cellsOf T by rw [Nat.add_mul]; omega]
theorem repE_mk : ∀ {vs : List AV} {T : TypeId} {c : Cx} {cs : List Value},
    (∀ i v, vs[i]? = some v → yaz P v T ∧ Rep P c v ((cs.drop (i * P.cellsOf T)).take (P.cellsOf T))) → qa0 P c vs T cs
  | [], T, c, cs, _ => by simp only [qa0]
  | u :: vs, T, c, cs, h => by
    simp only [qa0]
    have h0 := h 0 u rfl
    refine ⟨h0.1, by simpa using h0.2, repE_mk fun i v hi => ?_⟩
    have := h (i + 1) v (by simpa using hi)
    rw [List.drop_drop]
    rwa [show (i + 1) * P.cellsOf T = P.cellsOf T + i * P.cellsOf T by rw [Nat.add_mul]; omega] at this
theorem repE_iff {vs : List AV} {T : TypeId} {c : Cx} {cs : List Value} : qa0 P c vs T cs ↔
    ∀ i v, vs[i]? = some v → yaz P v T ∧ Rep P c v ((cs.drop (i * P.cellsOf T)).take (P.cellsOf T)) :=
  ⟨fun h _ _ hi => qa7 h hi, repE_mk⟩
theorem repF_get : ∀ {vs : List AV} {fs : List (TypeId × Nat)} {c : Cx} {cs : List Value} {i : Nat} {f : TypeId × Nat}, zb1 P c vs fs cs → fs[i]? = some f →
    ∃ v, vs[i]? = some v ∧ yaz P v f.1 ∧ Rep P c v ((cs.drop f.2).take (P.cellsOf f.1))
  | [], fs, c, cs, i, f, h, hi => by simp only [zb1] at h; subst h; simp at hi
  | u :: vs, fs, c, cs, 0, f, h, hi => by
    simp only [zb1] at h
    obtain ⟨g, r, rfl, h1, h2, _⟩ := h
    simp only [List.getElem?_cons_zero, Option.some.injEq] at hi
    subst hi
    exact ⟨u, rfl, h1, h2⟩
  | u :: vs, fs, c, cs, i + 1, f, h, hi => by
    simp only [zb1] at h
    obtain ⟨g, r, rfl, _, _, h3⟩ := h
    simp only [List.getElem?_cons_succ] at hi
    obtain ⟨v, hv, h4⟩ := repF_get h3 hi
    exact ⟨v, by simpa using hv, h4⟩
theorem repF_mk : ∀ {vs : List AV} {fs : List (TypeId × Nat)} {c : Cx} {cs : List Value}, vs.length = fs.length →
    (∀ (i : Nat) (v : AV) (f : TypeId × Nat), vs[i]? = some v → fs[i]? = some f → yaz P v f.1 ∧ Rep P c v ((cs.drop f.2).take (P.cellsOf f.1))) → zb1 P c vs fs cs
  | [], fs, c, cs, hl, _ => by simp only [zb1]; exact List.eq_nil_of_length_eq_zero hl.symm
  | u :: vs, [], c, cs, hl, _ => by simp at hl
  | u :: vs, g :: r, c, cs, hl, h => by
    simp only [zb1]
    have h0 := h 0 u g rfl rfl
    exact ⟨g, r, rfl, h0.1, h0.2, repF_mk (by simpa using hl) fun i v f hv hf => h (i + 1) v f (by simpa using hv) (by simpa using hf)⟩
theorem repF_length : ∀ {vs : List AV} {fs : List (TypeId × Nat)} {c : Cx} {cs : List Value}, zb1 P c vs fs cs → vs.length = fs.length
  | [], fs, c, cs, h => by simp only [zb1] at h; subst h; rfl
  | u :: vs, fs, c, cs, h => by
    simp only [zb1] at h
    obtain ⟨g, r, rfl, _, _, h3⟩ := h
    simpa using repF_length h3
theorem repF_iff {vs : List AV} {fs : List (TypeId × Nat)} {c : Cx} {cs : List Value} : zb1 P c vs fs cs ↔ vs.length = fs.length ∧
    ∀ (i : Nat) (v : AV) (f : TypeId × Nat), vs[i]? = some v → fs[i]? = some f → yaz P v f.1 ∧ Rep P c v ((cs.drop f.2).take (P.cellsOf f.1)) :=
  ⟨fun h => ⟨repF_length h, fun i v f hv hf => by obtain ⟨v', hv', h1⟩ := repF_get h hf; rw [hv] at hv'; cases hv'; exact h1⟩, fun h => repF_mk h.1 h.2⟩
def qbg : AV → List Nat → Option AV
  | v, [] => some v
  | .agg _ vs, i :: r => match vs[i]? with
    | some v => qbg v r
    | none => none
  | _, _ :: _ => none
def setP : AV → List Nat → AV → Option AV
  | _, [], u => some u
  | .agg T vs, i :: r, u => match vs[i]? with
    | some v => (setP v r u).map fun x => .agg T (vs.set i x)
    | none => none
  | _, _ :: _, _ => none
theorem za5 {α : Type} (l : List α) (a n b m : Nat) (h : b + m ≤ n) : ((((l.drop a).take n).drop b).take m) = (l.drop (a + b)).take m := by
  rw [List.drop_take, List.take_take, List.drop_drop, Nat.min_eq_left (by omega)]
theorem yck (hP : WF P) {c : Cx} : ∀ {p : List Nat} {T T' : TypeId} {o : Nat} {a v : AV} {cs : List Value}, yaz P a T → Rep P c a cs → za9 P T p = some (T', o) → qbg a p = some v →
    yaz P v T' ∧ Rep P c v ((cs.drop o).take (P.cellsOf T'))
  | [], T, T', o, a, v, cs, ht, h, hp, hg => by
    simp only [za9, Option.some.injEq, Prod.mk.injEq] at hp
    obtain ⟨rfl, rfl⟩ := hp
    have : a = v := by cases a <;> simpa [qbg] using hg
    subst this
    refine ⟨ht, ?_⟩
    rw [List.drop_zero, List.take_of_length_le (by rw [yao hP ht h]; exact Nat.le_refl _)]
    exact h
  | i :: r, T, T', o, a, v, cs, ht, h, hp, hg => by
    cases a <;> simp only [qbg, reduceCtorEq] at hg
    rename_i T0 vs
    simp only [yaz] at ht
    subst ht
    simp only [Rep] at h
    simp only [za9] at hp
    split at hp
    · rename_i hs
      rw [hs] at h
      split at hp
      · rename_i F q hf
        rw [Option.map_eq_some_iff] at hp
        obtain ⟨⟨a1, b1⟩, ha, hb⟩ := hp
        simp only [Prod.mk.injEq] at hb
        obtain ⟨rfl, rfl⟩ := hb
        obtain ⟨u, hu, h1, h2⟩ := repF_get h.2 hf
        simp only [hu] at hg
        obtain ⟨h3, h4⟩ := yck hP h1 h2 ha hg
        refine ⟨h3, ?_⟩
        have := zaw hP ha
        rwa [za5 _ _ _ _ _ this] at h4
      · cases hp
    · rename_i n e hs
      rw [hs] at h
      split at hp
      · rename_i hi
        rw [Option.map_eq_some_iff] at hp
        obtain ⟨⟨a1, b1⟩, ha, hb⟩ := hp
        simp only [Prod.mk.injEq] at hb
        obtain ⟨rfl, rfl⟩ := hb
        cases hu : vs[i]? with
        | none => simp [hu] at hg
        | some u =>
          simp only [hu] at hg
          obtain ⟨h1, h2⟩ := qa7 h.2.2 hu
          obtain ⟨h3, h4⟩ := yck hP h1 h2 ha hg
          refine ⟨h3, ?_⟩
          have := zaw hP ha
          rwa [za5 _ _ _ _ _ this] at h4
      · cases hp
    · cases hp
def zav (cs : List Value) (o : Nat) (new : List Value) : List Value := cs.take o ++ new ++ cs.drop (o + new.length)
theorem za0 {cs new : List Value} {o : Nat} (h : o + new.length ≤ cs.length) : (zav cs o new).length = cs.length := by
  simp [zav]; omega
theorem splice_getElem? {cs new : List Value} {o : Nat} (h : o + new.length ≤ cs.length) (j : Nat) :
    (zav cs o new)[j]? = if j < o then cs[j]? else if j < o + new.length then new[j - o]? else cs[j]? := by
  unfold zav
  simp only [List.getElem?_append, List.length_append, List.length_take, List.getElem?_take, List.getElem?_drop]
  have e1 : min o cs.length = o := by omega
  simp only [e1]
  by_cases h1 : j < o
  · have : j < o + new.length := by omega
    simp [h1, this]
  · by_cases h2 : j < o + new.length
    · simp [h1, h2]
    · simp only [h1, h2, if_false]
      congr 1; omega
theorem zcj {cs new : List Value} {o a n : Nat} (h : a + n ≤ o) (ho : o + new.length ≤ cs.length) : ((zav cs o new).drop a).take n = (cs.drop a).take n := by
  apply List.ext_getElem?
  intro j
  simp only [List.getElem?_take, List.getElem?_drop, splice_getElem? ho]
  by_cases hj : j < n
  · rw [if_pos hj, if_pos (by omega), if_pos hj]
  · rw [if_neg hj, if_neg hj]
theorem qci {cs new : List Value} {o a n : Nat} (h : o + new.length ≤ a) (ho : o + new.length ≤ cs.length) : ((zav cs o new).drop a).take n = (cs.drop a).take n := by
  apply List.ext_getElem?
  intro j
  simp only [List.getElem?_take, List.getElem?_drop, splice_getElem? ho]
  by_cases hj : j < n
  · rw [if_pos hj, if_neg (by omega), if_neg (by omega), if_pos hj]
  · rw [if_neg hj, if_neg hj]
theorem splice_in {cs new : List Value} {o q m : Nat} (hq : q + new.length ≤ m) (ho : o + m ≤ cs.length) :
    ((zav cs (o + q) new).drop o).take m = zav ((cs.drop o).take m) q new := by
  apply List.ext_getElem?
  intro j
  have hl : q + new.length ≤ ((cs.drop o).take m).length := by simp; omega
  simp only [List.getElem?_take, List.getElem?_drop, splice_getElem? (show o + q + new.length ≤ cs.length by omega), splice_getElem? hl]
  by_cases hj : j < m
  · rw [if_pos hj]
    by_cases h1 : j < q
    · rw [if_pos (by omega), if_pos h1, if_pos hj]
    · by_cases h2 : j < q + new.length
      · rw [if_neg (by omega), if_pos (by omega), if_neg h1, if_pos h2]
        congr 1; omega
      · rw [if_neg (by omega), if_neg (by omega), if_neg h1, if_neg h2, if_pos hj]
  · rw [if_neg hj, if_neg (by omega), if_neg (by omega), if_neg hj]
theorem setP_rep (hP : WF P) {c : Cx} : ∀ {p : List Nat} {T T' : TypeId} {o : Nat} {a u x : AV} {cs new : List Value}, yaz P a T → Rep P c a cs → za9 P T p = some (T', o) →
    yaz P u T' → Rep P c u new → setP a p u = some x → yaz P x T ∧ Rep P c x (zav cs o new)
  | [], T, T', o, a, u, x, cs, new, ht, h, hp, hu, hn, hs => by
    simp only [za9, Option.some.injEq, Prod.mk.injEq] at hp
    obtain ⟨rfl, rfl⟩ := hp
    have : u = x := by cases a <;> simpa [setP] using hs
    subst this
    refine ⟨hu, ?_⟩
    have e1 := yao hP ht h
    have e2 := yao hP hu hn
    unfold zav
    rw [List.take_zero, List.nil_append, Nat.zero_add, List.drop_eq_nil_of_le (by omega), List.append_nil]
    exact hn
  | i :: r, T, T', o, a, u, x, cs, new, ht, h, hp, hu, hn, hs => by
    cases a <;> simp only [setP, reduceCtorEq] at hs
    rename_i T0 vs
    simp only [yaz] at ht
    subst ht
    simp only [Rep] at h
    have hlen := h.1
    have hbound := zaw hP hp
    have hnl := yao hP hu hn
    simp only [za9] at hp
    cases hv : vs[i]? with
    | none => simp [hv] at hs
    | some v =>
      simp only [hv, Option.map_eq_some_iff] at hs
      obtain ⟨y, hy, rfl⟩ := hs
      have hi : i < vs.length := (List.getElem?_eq_some_iff.1 hv).1
      split at hp
      · rename_i hst
        rw [hst] at h
        split at hp
        · rename_i F q hf
          rw [Option.map_eq_some_iff] at hp
          obtain ⟨⟨a1, b1⟩, ha, hb⟩ := hp
          simp only [Prod.mk.injEq] at hb
          obtain ⟨rfl, rfl⟩ := hb
          obtain ⟨hl, hall⟩ := repF_iff.1 h.2
          obtain ⟨h1, h2⟩ := hall i v _ hv hf
          obtain ⟨h3, h4⟩ := setP_rep hP h1 h2 ha hu hn hy
          have hb1 := zaw hP ha
          obtain ⟨_, hfb, hfs⟩ := zbs (hP.fields hst) hf
          refine ⟨rfl, ?_⟩
          simp only [Rep]
          rw [za0 (by omega), hst]
          refine ⟨hlen, repF_iff.2 ⟨by simpa using hl, ?_⟩⟩
          intro j w g hw hg
          by_cases hji : j = i
          · subst hji
            rw [hf] at hg
            cases hg
            rw [List.getElem?_set_self hi] at hw
            cases hw
            refine ⟨h3, ?_⟩
            show Rep P c _ (((zav cs (q + b1) new).drop q).take (P.cellsOf F))
            rw [splice_in (by omega) (by omega)]
            exact h4
          · rw [List.getElem?_set_ne (by omega)] at hw
            obtain ⟨h5, h6⟩ := hall j w g hw hg
            refine ⟨h5, ?_⟩
            obtain ⟨_, hgb, hgs⟩ := zbs (hP.fields hst) (i := j) (F := g.1) (o := g.2) hg
            rcases Nat.lt_or_gt_of_ne hji with hlt | hgt
            · have := hgs hlt hf
              rw [zcj (by omega) (by omega)]
              exact h6
            · have := hfs hgt (G := g.1) (q := g.2) hg
              rw [qci (by omega) (by omega)]
              exact h6
        · cases hp
      · rename_i n e hst
        rw [hst] at h
        split at hp
        · rename_i hin
          rw [Option.map_eq_some_iff] at hp
          obtain ⟨⟨a1, b1⟩, ha, hb⟩ := hp
          simp only [Prod.mk.injEq] at hb
          obtain ⟨rfl, rfl⟩ := hb
          have hall := repE_iff.1 h.2.2
          obtain ⟨h1, h2⟩ := hall i v hv
          obtain ⟨h3, h4⟩ := setP_rep hP h1 h2 ha hu hn hy
          have hb1 := zaw hP ha
          have har := hP.arr hst
          have hmul : (i + 1) * P.cellsOf e ≤ n * P.cellsOf e := Nat.mul_le_mul_right _ hin
          rw [Nat.add_mul] at hmul
          refine ⟨rfl, ?_⟩
          simp only [Rep]
          rw [za0 (by omega), hst]
          refine ⟨hlen, by simpa using h.2.1, repE_iff.2 ?_⟩
          intro j w hw
          have hjn : j < n := by
            have := (List.getElem?_eq_some_iff.1 hw).1
            have := h.2.1
            simp at *
            omega
          by_cases hji : j = i
          · subst hji
            rw [List.getElem?_set_self hi] at hw
            cases hw
            refine ⟨h3, ?_⟩
            rw [splice_in (by omega) (by omega)]
            exact h4
          · rw [List.getElem?_set_ne (by omega)] at hw
            obtain ⟨h5, h6⟩ := hall j w hw
            refine ⟨h5, ?_⟩
            rcases Nat.lt_or_gt_of_ne hji with hlt | hgt
            · have hm2 : (j + 1) * P.cellsOf e ≤ i * P.cellsOf e := Nat.mul_le_mul_right _ hlt
              rw [Nat.add_mul] at hm2
              rw [zcj (by omega) (by omega)]
              exact h6
            · have hm2 : (i + 1) * P.cellsOf e ≤ j * P.cellsOf e := Nat.mul_le_mul_right _ hgt
              rw [Nat.add_mul] at hm2
              rw [qci (by omega) (by omega)]
              exact h6
        · cases hp
      · cases hp
end
end Go.Abs
set_option linter.all false
namespace Go.Abs
open Go
section
variable {P : Program}
theorem cover_fields {c : Cx} {lim : Nat} : ∀ {vs : List AV} {fs : List (TypeId × Nat)} {lo : Nat} {cs : List Value}, wfFs P lim fs lo = true →
    (∀ (i : Nat) (v : AV) (f : TypeId × Nat), vs[i]? = some v → fs[i]? = some f → ∀ x ∈ (cs.drop f.2).take (P.cellsOf f.1), x.oneCell' = true) →
    zb1 P c vs fs cs → ∀ j x, lo ≤ j → j < lim → cs[j]? = some x → x.oneCell' = true
  | [], fs, lo, cs, hw, _, h, j, x, h1, h2, _ => by
    simp only [zb1] at h
    subst h
    simp only [wfFs, beq_iff_eq] at hw
    omega
  | v :: vs, fs, lo, cs, hw, hall, h, j, x, h1, h2, hx => by
    simp only [zb1] at h
    obtain ⟨f, r, rfl, ht, hv, hr⟩ := h
    simp only [wfFs, Bool.and_eq_true, beq_iff_eq] at hw
    by_cases hj : j < f.2 + P.cellsOf f.1
    · refine hall 0 v f rfl rfl x ?_
      refine List.mem_of_getElem? (i := j - f.2) ?_
      rw [List.getElem?_take, if_pos (by omega), List.getElem?_drop, ← hx]
      congr 1; omega
    · exact cover_fields hw.2 (fun i v f hv hf => hall (i + 1) v f (by simpa using hv) (by simpa using hf)) hr j x (by omega) h2 hx
mutual
theorem rep_one (hP : WF P) (c : Cx) : ∀ (a : AV) (T : TypeId) (cs : List Value), yaz P a T → Rep P c a cs → ∀ x ∈ cs, x.oneCell' = true
  | .int k n, T, cs, _, h, x, hx => by simp only [Rep] at h; subst h; simp at hx; subst hx; rfl
  | .bool b, T, cs, _, h, x, hx => by simp only [Rep] at h; subst h; simp at hx; subst hx; rfl
  | .str s, T, cs, _, h, x, hx => by simp only [Rep] at h; subst h; simp at hx; subst hx; rfl
  | .agg T' vs, T, cs, _, h, x, hx => by
    simp only [Rep] at h
    obtain ⟨hl, h⟩ := h
    obtain ⟨j, hj, rfl⟩ := List.mem_iff_getElem.1 hx
    split at h
    · rename_i hs
      exact cover_fields (hP.fields hs) (fun i v f hv hf => rep_oneF hP c vs (qaj P T') cs h i v f hv hf) h j _ (Nat.zero_le _) (by omega) (List.getElem?_eq_getElem hj)
    · rename_i n e hs
      have ha := hP.arr hs
      have h0 : 0 < P.cellsOf e := by
        rcases Nat.eq_zero_or_pos (P.cellsOf e) with h0 | h0
        · rw [h0] at ha; omega
        · exact h0
      have hd : j / P.cellsOf e < vs.length := by
        rw [h.1]
        exact Nat.div_lt_of_lt_mul (by rw [Nat.mul_comm]; omega)
      refine rep_oneE hP c vs e cs h.2 (j / P.cellsOf e) _ (List.getElem?_eq_getElem hd) _ ?_
      refine List.mem_of_getElem? (i := j % P.cellsOf e) ?_
      rw [List.getElem?_take, if_pos (Nat.mod_lt _ h0), List.getElem?_drop]
      rw [show j / P.cellsOf e * P.cellsOf e + j % P.cellsOf e = j by rw [Nat.mul_comm]; exact Nat.div_add_mod _ _]
      exact List.getElem?_eq_getElem hj
    · exact h.elim
  | .list T' es, T, cs, _, h, x, hx => by simp only [Rep] at h; obtain ⟨_, _, rfl, _⟩ := h; simp at hx; subst hx; rfl
  | .win .., T, cs, _, h, x, hx => by simp only [Rep] at h; obtain ⟨_, _, _, _, _, rfl, _⟩ := h; simp at hx; subst hx; rfl
  | .ref .., T, cs, _, h, x, hx => by simp only [Rep] at h; obtain ⟨_, _, _, _, _, _, _, rfl⟩ := h; simp at hx; subst hx; rfl
  | .eref .., T, cs, _, h, x, hx => by simp only [Rep] at h; obtain ⟨_, _, _, _, _, rfl, _⟩ := h; simp at hx; subst hx; rfl
  | .nilptr, T, cs, _, h, x, hx => by simp only [Rep] at h; subst h; simp at hx; subst hx; rfl
  | .fn .., T, cs, _, h, x, hx => by simp only [Rep] at h; rcases h with ⟨_, _, _, rfl, _⟩ | ⟨_, _, _, rfl, _⟩ <;> (simp at hx; subst hx; rfl)
  | .nilfn, T, cs, _, h, x, hx => by simp only [Rep] at h; subst h; simp at hx; subst hx; rfl
  | .nils, T, cs, _, h, x, hx => by simp only [Rep] at h; subst h; simp at hx; subst hx; rfl
  | .tup _, T, cs, _, h, x, hx => by simp only [Rep] at h
  | .junk, T, cs, _, h, x, hx => by simp only [Rep] at h
theorem rep_oneF (hP : WF P) (c : Cx) : ∀ (vs : List AV) (fs : List (TypeId × Nat)) (cs : List Value), zb1 P c vs fs cs →
    ∀ (i : Nat) (v : AV) (f : TypeId × Nat), vs[i]? = some v → fs[i]? = some f → ∀ x ∈ (cs.drop f.2).take (P.cellsOf f.1), x.oneCell' = true
  | [], fs, cs, _, i, v, f, hv, _, x, _ => by simp at hv
  | u :: vs, fs, cs, h, i, v, f, hv, hf, x, hx => by
    simp only [zb1] at h
    obtain ⟨g, r, rfl, h1, h2, h3⟩ := h
    cases i with
    | zero =>
      simp only [List.getElem?_cons_zero, Option.some.injEq] at hv hf
      subst hf
      exact rep_one hP c u _ _ h1 h2 x hx
    | succ i => exact rep_oneF hP c vs r cs h3 i v f (by simpa using hv) (by simpa using hf) x hx
theorem rep_oneE (hP : WF P) (c : Cx) : ∀ (vs : List AV) (T : TypeId) (cs : List Value), qa0 P c vs T cs →
    ∀ (i : Nat) (v : AV), vs[i]? = some v → ∀ x ∈ (cs.drop (i * P.cellsOf T)).take (P.cellsOf T), x.oneCell' = true
  | [], T, cs, _, i, v, hv, x, _ => by simp at hv
  | u :: vs, T, cs, h, i, v, hv, x, hx => by
    simp only [qa0] at h
    cases i with
    | zero => exact rep_one hP c u _ _ h.1 h.2.1 x (by simpa using hx)
    | succ i =>
      refine rep_oneE hP c vs T _ h.2.2 i v (by simpa using hv) x ?_
      rw [List.drop_drop]
      rwa [show P.cellsOf T + i * P.cellsOf T = (i + 1) * P.cellsOf T by rw [Nat.add_mul]; omega]
end
structure Ext (c c' : Cx) : Prop where
  os : c'.w.os = c.w.os
  tape : c'.w.tape = c.w.tape
  output : c'.w.output = c.w.output
  size : c.w.heap.size ≤ c'.w.heap.size
  frozen : ∀ b, b < c.w.heap.size → ¬ c.O b → c'.w.heap[b]? = c.w.heap[b]?
  shape : ∀ (b : Nat) (C : Array Value) (T : TypeId) (m : Nat × Nat), c.w.heap[b]? = some (.cells C T m) → ∃ (C' : Array Value) (m' : Nat × Nat), c'.w.heap[b]? = some (.cells C' T m') ∧ C'.size = C.size ∧ (mOK C m → mOK C' m')
  own : ∀ b, b < c.w.heap.size → c'.O b → c.O b
  names : ∀ k e, c.h[k]? = some e → e.st ≠ .hole → c'.κ k = c.κ k ∧ ∃ e', c'.h[k]? = some e' ∧ e'.T = e.T ∧ e'.st ≠ .hole ∧ (e'.st = .own → e.st = .own)
theorem Ext.refl (c : Cx) : Ext c c :=
  ⟨rfl, rfl, rfl, Nat.le_refl _, fun _ _ _ => rfl, fun _ C _ m h => ⟨C, m, h, rfl, id⟩, fun _ _ h => h, fun _ e h hn => ⟨rfl, e, h, rfl, hn, id⟩⟩
theorem Ext.trans {a b c : Cx} (x : Ext a b) (y : Ext b c) : Ext a c where
  os := y.os.trans x.os
  tape := y.tape.trans x.tape
  output := y.output.trans x.output
  size := Nat.le_trans x.size y.size
  frozen k hk hn := (y.frozen k (Nat.lt_of_lt_of_le hk x.size) (fun h => hn (x.own k hk h))).trans (x.frozen k hk hn)
  shape b C T m h := by
    obtain ⟨C1, m1, h1, e1, f1⟩ := x.shape b C T m h
    obtain ⟨C2, m2, h2, e2, f2⟩ := y.shape b C1 T m1 h1
    exact ⟨C2, m2, h2, e2.trans e1, fun h => f2 (f1 h)⟩
  own k hk h := x.own k hk (y.own k (Nat.lt_of_lt_of_le hk x.size) h)
  names k e h hn := by
    obtain ⟨h1, e1, h2, h3, h4, g4⟩ := x.names k e h hn
    obtain ⟨h5, e2, h6, h7, h8, g8⟩ := y.names k e1 h2 h4
    exact ⟨h5.trans h1, e2, h6, h7.trans h3, h8, fun ho => g4 (g8 ho)⟩
theorem qag {w : World} {b : Nat} {o : Obj} (h : w.heap[b]? = some o) : b < w.heap.size := (Array.getElem?_eq_some_iff.1 h).1
mutual
theorem qb9 {c c' : Cx} (x : Ext c c') : ∀ (a : AV) (cs : List Value), Rep P c a cs → Rep P c' a cs
  | .int k n, cs, h => by simpa only [Rep] using h
  | .bool b, cs, h => by simpa only [Rep] using h
  | .str s, cs, h => by simpa only [Rep] using h
  | .agg T vs, cs, h => by
    simp only [Rep] at h ⊢
    refine ⟨h.1, ?_⟩
    have h2 := h.2
    split at h2
    · exact repF_mono x _ _ _ h2
    · exact ⟨h2.1, ybc x _ _ _ h2.2⟩
    · exact h2.elim
  | .list T es, cs, h => by
    simp only [Rep] at h ⊢
    obtain ⟨a, cap, rfl, hc, h⟩ := h
    refine ⟨a, cap, rfl, hc, fun hne => ?_⟩
    obtain ⟨b, off, C, Te, m, ha, hb, hO, hr⟩ := h hne
    have hlt := qag hb
    exact ⟨b, off, C, Te, m, ha, (x.frozen b hlt hO).trans hb, fun h => hO (x.own b hlt h), ybc x _ _ _ hr⟩
  | .win k p T fr n lo, cs, h => by
    simp only [Rep] at h ⊢
    obtain ⟨e, cap, a, he, hne, rfl, h1, h2, h3, h4⟩ := h
    obtain ⟨hk, e', he', hT, hne', hst⟩ := x.names k e he hne
    refine ⟨e', cap, a, he', hne', rfl, h1, h2, by rw [hT]; exact h3, fun hc => ?_⟩
    obtain ⟨b, off, C, m, g1, g2, g3, g4, g5, g6, g7⟩ := h4 hc
    obtain ⟨C', m', hb', hs, hm⟩ := x.shape _ _ _ _ g3
    exact ⟨b, off, C', m', by rw [hk]; exact g1, by rw [hT]; exact g2, by rw [hT]; exact hb', fun ho => hm (g4 (hst ho)), g5, by rw [hs]; exact g6, by rw [hT]; exact g7⟩
  | .ref k p T, cs, h => by
    simp only [Rep] at h ⊢
    obtain ⟨e, b, off, he, hne, hb, hr, rfl⟩ := h
    obtain ⟨hk, e', he', hT, hne', _⟩ := x.names k e he hne
    exact ⟨e', b, off, he', hne', by rw [hk]; exact hb, by rw [hT]; exact hr, rfl⟩
  | .eref T v, cs, h => by
    simp only [Rep] at h ⊢
    obtain ⟨b, off, C, Te, m, rfl, hb, hO, ht, hr⟩ := h
    have hlt := qag hb
    exact ⟨b, off, C, Te, m, rfl, (x.frozen b hlt hO).trans hb, fun h => hO (x.own b hlt h), ht, qb9 x _ _ hr⟩
  | .nilptr, cs, h => by simpa only [Rep] using h
  | .fn f caps, cs, h => by
    simp only [Rep] at h ⊢
    rcases h with ⟨h0, h1, vs, rfl, hv⟩ | ⟨h0, l, L, rfl, hl, hO, h1, h2, h3, h4⟩
    · exact .inl ⟨h0, h1, vs, rfl, qdh x _ _ hv⟩
    · exact .inr ⟨h0, l, L, rfl, (x.frozen l (qag hl) hO).trans hl, fun h => hO (x.own l (qag hl) h), h1, h2, h3, repS_mono x _ _ h4⟩
  | .nilfn, cs, h => by simpa only [Rep] using h
  | .nils, cs, h => by simpa only [Rep] using h
  | .tup _, cs, h => by simp only [Rep] at h
  | .junk, cs, h => by simp only [Rep] at h
theorem repF_mono {c c' : Cx} (x : Ext c c') : ∀ (vs : List AV) (fs : List (TypeId × Nat)) (cs : List Value), zb1 P c vs fs cs → zb1 P c' vs fs cs
  | [], fs, cs, h => by simpa only [zb1] using h
  | v :: vs, fs, cs, h => by
    simp only [zb1] at h ⊢
    obtain ⟨f, r, rfl, h1, h2, h3⟩ := h
    exact ⟨f, r, rfl, h1, qb9 x _ _ h2, repF_mono x _ _ _ h3⟩
theorem ybc {c c' : Cx} (x : Ext c c') : ∀ (vs : List AV) (T : TypeId) (cs : List Value), qa0 P c vs T cs → qa0 P c' vs T cs
  | [], T, cs, h => by simp only [qa0]
  | v :: vs, T, cs, h => by
    simp only [qa0] at h ⊢
    exact ⟨h.1, qb9 x _ _ h.2.1, ybc x _ _ _ h.2.2⟩
theorem qdh {c c' : Cx} (x : Ext c c') : ∀ (as : List AV) (vs : List Value), ya2 P c as vs → ya2 P c' as vs
  | [], vs, h => by simpa only [ya2] using h
  | a :: as, vs, h => by
    simp only [ya2] at h ⊢
    obtain ⟨v, r, rfl, h1, h2, h3⟩ := h
    exact ⟨v, r, rfl, h1, qb9 x _ _ h2, qdh x _ _ h3⟩
theorem repS_mono {c c' : Cx} (x : Ext c c') : ∀ (as : List AV) (vs : List Value), zdx P c as vs → zdx P c' as vs
  | [], vs, h => by simpa only [zdx] using h
  | a :: as, vs, h => by
    simp only [zdx] at h ⊢
    obtain ⟨v, r, rfl, h1, h3⟩ := h
    refine ⟨v, r, rfl, ?_, repS_mono x _ _ h3⟩
    rcases h1 with h1 | ⟨h1, h2, h4⟩
    · exact .inl h1
    · exact .inr ⟨h1, h2, qb9 x _ _ h4⟩
end
theorem qc9 {c c' : Cx} (x : Ext c c') {a : AV} {v : Value} (h : VV P c a v) : VV P c' a v := by
  cases a <;> simp only [VV] at h ⊢
  case tup vs => obtain ⟨l, rfl, hl⟩ := h; exact ⟨l, rfl, qdh x _ _ hl⟩
  all_goals exact ⟨h.1, qb9 x _ _ h.2⟩
def Live (e : Entry) : Prop := e.st = .own ∨ e.st = .fz
def Blk (P : Program) (c : Cx) (k : Nat) (e : Entry) : Prop :=
  (e.st = .own ∧ e.es = [] ∧ c.κ k = none) ∨
  ∃ b C m, c.κ k = some b ∧ c.w.heap[b]? = some (.cells C e.T m) ∧ (e.st = .own → mOK C m) ∧ (e.st = .fz → ¬ c.O b) ∧
    e.es.length * P.cellsOf e.T ≤ C.size ∧ qa0 P c e.es e.T C.toList
structure HR (P : Program) (c : Cx) : Prop where
  blk : ∀ k e, c.h[k]? = some e → Live e → Blk P c k e
  apart : ∀ k k' e e' b, c.h[k]? = some e → c.h[k']? = some e' → e.st = .own → e'.st = .own → c.κ k = some b → c.κ k' = some b → k = k'
theorem HR.block {c : Cx} (h : HR P c) {k : Nat} {e : Entry} (he : c.h[k]? = some e) (hl : Live e) {b : Nat} (hb : c.κ k = some b) :
    ∃ C m, c.w.heap[b]? = some (.cells C e.T m) ∧ (e.st = .own → mOK C m) ∧ (e.st = .fz → ¬ c.O b) ∧ e.es.length * P.cellsOf e.T ≤ C.size ∧ qa0 P c e.es e.T C.toList := by
  rcases h.blk k e he hl with ⟨_, _, h3⟩ | ⟨b', C, m, h1, h2⟩
  · rw [h3] at hb; cases hb
  · rw [h1] at hb; cases hb; exact ⟨C, m, h2⟩
theorem Cx.O.lt {c : Cx} (h : HR P c) {b : Nat} (hb : c.O b) : b < c.w.heap.size := by
  obtain ⟨k, e, he, hs, hk⟩ := hb
  obtain ⟨C, m, hc, _⟩ := h.block he (.inl hs) hk
  exact qag hc
theorem Blk.keep {c c' : Cx} (x : Ext c c') {k : Nat} {e : Entry} (h : Blk P c k e) (hk : c'.κ k = c.κ k) (hb : ∀ b, c.κ k = some b → c'.w.heap[b]? = c.w.heap[b]?)
    (hO : ∀ b, c.κ k = some b → e.st = .fz → ¬ c'.O b) : Blk P c' k e := by
  rcases h with ⟨h1, h2, h3⟩ | ⟨b, C, m, h0, h1, h2, h3, h4, h5⟩
  · exact .inl ⟨h1, h2, by rw [hk]; exact h3⟩
  · exact .inr ⟨b, C, m, by rw [hk]; exact h0, by rw [hb b h0]; exact h1, h2, hO b h0, h4, ybc x _ _ _ h5⟩
def ya0 (w : World) (b : Nat) (o : Obj) : World := { w with heap := w.heap.setIfInBounds b o }
theorem zbb {w : World} {b : Nat} {o : Obj} (h : b < w.heap.size) : (ya0 w b o).heap[b]? = some o := by simp [ya0, h]
theorem yan {w : World} {b b' : Nat} {o : Obj} (h : b' ≠ b) : (ya0 w b o).heap[b']? = w.heap[b']? := by
  simp only [ya0]
  rw [Array.getElem?_setIfInBounds_ne (by omega)]
theorem putBlk_size {w : World} {b : Nat} {o : Obj} : (ya0 w b o).heap.size = w.heap.size := by simp [ya0]
def drewN (w : World) (n : Nat) : World := { w with drawn := w.drawn + n }
theorem ext_drew {c : Cx} (n : Nat) : Ext c { c with w := drewN c.w n } :=
  ⟨rfl, rfl, rfl, Nat.le_refl _, fun _ _ _ => rfl, fun _ C _ m h => ⟨C, m, h, rfl, id⟩, fun _ _ h => h, fun _ e h hn => ⟨rfl, e, h, rfl, hn, id⟩⟩
theorem Blk.fz {c : Cx} {k : Nat} {e : Entry} (h : Blk P c k e) {b : Nat} (hb : c.κ k = some b) (hf : e.st = .fz) : ¬ c.O b := by
  rcases h with ⟨_, _, h3⟩ | ⟨b', C, m, h0, h1, h2, h3, h4, h5⟩
  · rw [h3] at hb; cases hb
  · rw [h0] at hb; cases hb; exact h3 hf
theorem hr_drew {c : Cx} (h : HR P c) (n : Nat) : HR P { c with w := drewN c.w n } where
  blk k e he hl := (h.blk k e he hl).keep (ext_drew n) rfl (fun _ _ => rfl) (fun b hb hf => (h.blk k e he hl).fz hb hf)
  apart := h.apart
def zdc (m : Nat) : List Entry := List.replicate m ⟨0, [], .hole⟩
theorem zdm {h : List Entry} {m k : Nat} {e : Entry} (hk : (h ++ zdc m)[k]? = some e) (hn : e.st ≠ .hole) : h[k]? = some e := by
  rw [List.getElem?_append] at hk
  split at hk
  · exact hk
  · unfold zdc at hk
    rw [List.getElem?_replicate] at hk
    split at hk
    · cases hk; exact absurd rfl hn
    · cases hk
theorem O_holes {c : Cx} {m : Nat} {b : Nat} : Cx.O { c with h := c.h ++ zdc m } b ↔ c.O b := by
  constructor
  · rintro ⟨k, e, he, hs, hk⟩
    exact ⟨k, e, zdm he (by rw [hs]; simp), hs, hk⟩
  · rintro ⟨k, e, he, hs, hk⟩
    exact ⟨k, e, by rw [List.getElem?_append_left (List.getElem?_eq_some_iff.1 he).1]; exact he, hs, hk⟩
theorem ext_holes {c : Cx} (m : Nat) : Ext c { c with h := c.h ++ zdc m } :=
  ⟨rfl, rfl, rfl, Nat.le_refl _, fun _ _ _ => rfl, fun _ C _ m h => ⟨C, m, h, rfl, id⟩, fun _ _ h => O_holes.1 h,
    fun _ e h hn => ⟨rfl, e, by rw [List.getElem?_append_left (List.getElem?_eq_some_iff.1 h).1]; exact h, rfl, hn, id⟩⟩
theorem hr_holes {c : Cx} (h : HR P c) (m : Nat) : HR P { c with h := c.h ++ zdc m } where
  blk k e he hl := by
    have he' := zdm he (by rcases hl with h | h <;> rw [h] <;> simp)
    exact (h.blk k e he' hl).keep (ext_holes m) rfl (fun _ _ => rfl) fun b hb hf hO => (h.blk k e he' hl).fz hb hf (O_holes.1 hO)
  apart k k' e e' b he he' hs hs' := h.apart k k' e e' b (zdm he (by rw [hs]; simp)) (zdm he' (by rw [hs']; simp)) hs hs'
theorem qav {α : Type} {l : List α} {s k : Nat} {x y : α} (h : (l.set s x)[k]? = some y) : (k = s ∧ y = x ∧ s < l.length) ∨ (k ≠ s ∧ l[k]? = some y) := by
  by_cases hk : k = s
  · subst hk
    by_cases hl : k < l.length
    · rw [List.getElem?_set_self hl] at h
      cases h
      exact .inl ⟨rfl, rfl, hl⟩
    · rw [List.getElem?_eq_none (by simp; omega)] at h
      cases h
  · rw [List.getElem?_set_ne (by omega)] at h
    exact .inr ⟨hk, h⟩
def za7 (c : Cx) (s : Nat) (T : TypeId) (es : List AV) (C : Array Value) : Cx :=
  { κ := fun k => if k = s then some c.w.heap.size else c.κ k, h := c.h.set s ⟨T, es, .own⟩, w := c.w.alloc (.cells C T) }
theorem O_alloc {c : Cx} {s : Nat} {T : TypeId} {es : List AV} {C : Array Value} {e0 : Entry} (hs : c.h[s]? = some e0) (h0 : e0.st = .hole) {b : Nat} :
    (za7 c s T es C).O b ↔ c.O b ∨ b = c.w.heap.size := by
  have hl := (List.getElem?_eq_some_iff.1 hs).1
  constructor
  · rintro ⟨k, e, he, hst, hk⟩
    rcases qav he with ⟨rfl, rfl, _⟩ | ⟨hne, he⟩
    · exact .inr (by simpa [za7] using hk.symm)
    · exact .inl ⟨k, e, he, hst, by simpa [za7, hne] using hk⟩
  · rintro (⟨k, e, he, hst, hk⟩ | rfl)
    · have hne : k ≠ s := by rintro rfl; rw [hs] at he; cases he; rw [h0] at hst; cases hst
      exact ⟨k, e, by simp only [za7]; rw [List.getElem?_set_ne (by omega)]; exact he, hst, by simpa [za7, hne] using hk⟩
    · exact ⟨s, ⟨T, es, .own⟩, by simp only [za7]; rw [List.getElem?_set_self hl], rfl, by simp [za7]⟩
theorem zb7 {c : Cx} {s : Nat} {T : TypeId} {es : List AV} {C : Array Value} {e0 : Entry} (hs : c.h[s]? = some e0) (h0 : e0.st = .hole) : Ext c (za7 c s T es C) where
  os := rfl
  tape := rfl
  output := rfl
  size := by simp [za7]
  frozen b hb _ := heap_alloc_old _ _ _ hb
  shape b C T m h := ⟨C, m, (heap_alloc_old _ _ _ (qag h)).trans h, rfl, id⟩
  own b hb h := ((O_alloc hs h0).1 h).resolve_right (by omega)
  names k e he hn := by
    have hne : k ≠ s := by rintro rfl; rw [hs] at he; cases he; exact hn h0
    exact ⟨by simp [za7, hne], e, by simp only [za7]; rw [List.getElem?_set_ne (by omega)]; exact he, rfl, hn, id⟩
theorem zc3 {c : Cx} (hr : HR P c) {s : Nat} {T : TypeId} {es : List AV} {C : Array Value} {e0 : Entry} (hs : c.h[s]? = some e0) (h0 : e0.st = .hole)
    (hl : es.length * P.cellsOf T ≤ C.size) (hes : qa0 P c es T C.toList) : HR P (za7 c s T es C) where
  blk k e he hlv := by
    have x := zb7 (T := T) (es := es) (C := C) hs h0
    rcases qav he with ⟨rfl, rfl, _⟩ | ⟨hne, he⟩
    · refine .inr ⟨c.w.heap.size, C, (0, 0), by simp [za7], heap_alloc_new _ _, fun _ => mOK.zero, fun h => (by cases h), hl, ybc x _ _ _ hes⟩
    · have hb := hr.blk k e he hlv
      have hlt : ∀ b, c.κ k = some b → b < c.w.heap.size := fun b hbk => by
        obtain ⟨C1, m1, h1, _⟩ := hr.block he hlv hbk
        exact qag h1
      refine hb.keep x (by simp [za7, hne]) (fun b hbk => heap_alloc_old _ _ _ (hlt b hbk)) fun b hbk hf hO => ?_
      rcases (O_alloc hs h0).1 hO with hO | hO
      · exact hb.fz hbk hf hO
      · have := hlt b hbk; omega
  apart k k' e e' b he he' hst hst' hk hk' := by
    by_cases h1 : k = s
    · by_cases h2 : k' = s
      · rw [h1, h2]
      · rcases qav he' with ⟨h3, _, _⟩ | ⟨_, he'⟩
        · exact absurd h3 h2
        · simp only [za7, h1, if_true, Option.some.injEq] at hk
          simp only [za7, h2, if_false] at hk'
          obtain ⟨_, _, h5, _⟩ := hr.block he' (.inl hst') hk'
          have := qag h5
          omega
    · rcases qav he with ⟨h3, _, _⟩ | ⟨_, he⟩
      · exact absurd h3 h1
      · simp only [za7, h1, if_false] at hk
        by_cases h2 : k' = s
        · simp only [za7, h2, if_true, Option.some.injEq] at hk'
          obtain ⟨_, _, h5, _⟩ := hr.block he (.inl hst) hk
          have := qag h5
          omega
        · rcases qav he' with ⟨h3, _, _⟩ | ⟨_, he'⟩
          · exact absurd h3 h2
          · simp only [za7, h2, if_false] at hk'
            exact hr.apart k k' e e' b he he' hst hst' hk hk'
def qbm (c : Cx) (s : Nat) (T : TypeId) : Cx :=
  { κ := fun k => if k = s then none else c.κ k, h := c.h.set s ⟨T, [], .own⟩, w := c.w }
theorem O_ghost {c : Cx} {s : Nat} {T : TypeId} {e0 : Entry} (hs : c.h[s]? = some e0) (h0 : e0.st = .hole) {b : Nat} : (qbm c s T).O b ↔ c.O b := by
  constructor
  · rintro ⟨k, e, he, hst, hk⟩
    rcases qav he with ⟨rfl, rfl, _⟩ | ⟨hne, he⟩
    · simp [qbm] at hk
    · exact ⟨k, e, he, hst, by simpa [qbm, hne] using hk⟩
  · rintro ⟨k, e, he, hst, hk⟩
    have hne : k ≠ s := by rintro rfl; rw [hs] at he; cases he; rw [h0] at hst; cases hst
    exact ⟨k, e, by simp only [qbm]; rw [List.getElem?_set_ne (by omega)]; exact he, hst, by simpa [qbm, hne] using hk⟩
theorem ext_ghost {c : Cx} {s : Nat} {T : TypeId} {e0 : Entry} (hs : c.h[s]? = some e0) (h0 : e0.st = .hole) : Ext c (qbm c s T) where
  os := rfl
  tape := rfl
  output := rfl
  size := Nat.le_refl _
  frozen b hb _ := rfl
  shape b C T m h := ⟨C, m, h, rfl, id⟩
  own b hb h := (O_ghost hs h0).1 h
  names k e he hn := by
    have hne : k ≠ s := by rintro rfl; rw [hs] at he; cases he; exact hn h0
    exact ⟨by simp [qbm, hne], e, by simp only [qbm]; rw [List.getElem?_set_ne (by omega)]; exact he, rfl, hn, id⟩
theorem hr_ghost {c : Cx} (hr : HR P c) {s : Nat} {T : TypeId} {e0 : Entry} (hs : c.h[s]? = some e0) (h0 : e0.st = .hole) : HR P (qbm c s T) where
  blk k e he hlv := by
    have x := ext_ghost (T := T) hs h0
    rcases qav he with ⟨rfl, rfl, _⟩ | ⟨hne, he⟩
    · exact .inl ⟨rfl, rfl, by simp [qbm]⟩
    · exact (hr.blk k e he hlv).keep x (by simp [qbm, hne]) (fun _ _ => rfl) fun b hbk hf hO => (hr.blk k e he hlv).fz hbk hf ((O_ghost hs h0).1 hO)
  apart k k' e e' b he he' hst hst' hk hk' := by
    have h1 : k ≠ s := by rintro rfl; simp [qbm] at hk
    have h2 : k' ≠ s := by rintro rfl; simp [qbm] at hk'
    simp only [qbm, h1, if_false] at hk
    simp only [qbm, h2, if_false] at hk'
    rcases qav he with ⟨h3, _, _⟩ | ⟨_, he⟩
    · exact absurd h3 h1
    · rcases qav he' with ⟨h3, _, _⟩ | ⟨_, he'⟩
      · exact absurd h3 h2
      · exact hr.apart k k' e e' b he he' hst hst' hk hk'
def qcq (c : Cx) (k b : Nat) (e : Entry) (es : List AV) (C : Array Value) (m : Nat × Nat) : Cx :=
  { κ := c.κ, h := c.h.set k { e with es := es }, w := ya0 c.w b (.cells C e.T m) }
theorem O_write {c : Cx} {k b0 : Nat} {e : Entry} {es : List AV} {C : Array Value} {m : Nat × Nat} (hk : c.h[k]? = some e) {b : Nat} : (qcq c k b0 e es C m).O b ↔ c.O b := by
  have hl := (List.getElem?_eq_some_iff.1 hk).1
  constructor
  · rintro ⟨j, e', he, hst, hj⟩
    rcases qav he with ⟨rfl, rfl, _⟩ | ⟨hne, he⟩
    · exact ⟨j, e, hk, hst, hj⟩
    · exact ⟨j, e', he, hst, hj⟩
  · rintro ⟨j, e', he, hst, hj⟩
    by_cases hjk : j = k
    · subst hjk
      rw [hk] at he
      cases he
      exact ⟨j, { e with es := es }, by simp only [qcq]; rw [List.getElem?_set_self hl], hst, hj⟩
    · exact ⟨j, e', by simp only [qcq]; rw [List.getElem?_set_ne (by omega)]; exact he, hst, hj⟩
theorem zcy {c : Cx} {k b0 : Nat} {e : Entry} {es : List AV} {C C0 : Array Value} {m0 : Nat × Nat} (hk : c.h[k]? = some e) (ho : e.st = .own) (hb0 : c.κ k = some b0)
    (hc : c.w.heap[b0]? = some (.cells C0 e.T m0)) (hs : C.size = C0.size) : Ext c (qcq c k b0 e es C m0) where
  os := rfl
  tape := rfl
  output := rfl
  size := by simp [qcq, ya0]
  frozen b hb hO := yan (by rintro rfl; exact hO ⟨k, e, hk, ho, hb0⟩)
  shape b C1 T m h := by
    by_cases hb : b = b0
    · subst hb
      rw [hc] at h
      cases h
      exact ⟨C, m0, zbb (qag hc), hs, fun h => h.size hs⟩
    · exact ⟨C1, m, (yan hb).trans h, rfl, id⟩
  own b hb h := (O_write hk).1 h
  names j e' he hn := by
    by_cases hj : j = k
    · subst hj
      rw [hk] at he
      cases he
      exact ⟨rfl, { e with es := es }, by simp only [qcq]; rw [List.getElem?_set_self (List.getElem?_eq_some_iff.1 hk).1], rfl, hn, id⟩
    · exact ⟨rfl, e', by simp only [qcq]; rw [List.getElem?_set_ne (by omega)]; exact he, rfl, hn, id⟩
theorem hr_write {c : Cx} (hr : HR P c) {k b0 : Nat} {e : Entry} {es : List AV} {C C0 : Array Value} {m0 : Nat × Nat} (hk : c.h[k]? = some e) (ho : e.st = .own) (hb0 : c.κ k = some b0)
    (hc : c.w.heap[b0]? = some (.cells C0 e.T m0)) (hs : C.size = C0.size) (hm0 : mOK C0 m0) (hl : es.length * P.cellsOf e.T ≤ C.size) (hes : qa0 P c es e.T C.toList) : HR P (qcq c k b0 e es C m0) where
  blk j e' he hlv := by
    have x := zcy (es := es) (C := C) hk ho hb0 hc hs
    rcases qav he with ⟨rfl, rfl, _⟩ | ⟨hne, he⟩
    · exact .inr ⟨b0, C, m0, hb0, zbb (qag hc), fun _ => hm0.size hs, fun h => (by simp only at h; rw [ho] at h; cases h), hl, ybc x _ _ _ hes⟩
    · have hb := hr.blk j e' he hlv
      have he2 := he
      have hne2 : ∀ b, c.κ j = some b → b ≠ b0 := by
        intro b hbj hbb
        rcases hlv with hown | hfz
        · exact hne (hr.apart j k e' e b he2 hk hown ho hbj (hbb ▸ hb0))
        · exact hb.fz hbj hfz ⟨k, e, hk, ho, hbb ▸ hb0⟩
      exact hb.keep x rfl (fun b hbj => yan (hne2 b hbj)) fun b hbj hf hO => hb.fz hbj hf ((O_write hk).1 hO)
  apart j j' e1 e2 b he he' hst hst' hk1 hk2 := by
    have a1 : ∃ x, c.h[j]? = some x ∧ x.st = .own := by
      rcases qav he with ⟨rfl, _, _⟩ | ⟨_, he⟩
      · exact ⟨e, hk, ho⟩
      · exact ⟨e1, he, hst⟩
    have a2 : ∃ x, c.h[j']? = some x ∧ x.st = .own := by
      rcases qav he' with ⟨rfl, _, _⟩ | ⟨_, he'⟩
      · exact ⟨e, hk, ho⟩
      · exact ⟨e2, he', hst'⟩
    obtain ⟨x1, b1, b2⟩ := a1
    obtain ⟨x2, b3, b4⟩ := a2
    exact hr.apart j j' x1 x2 b b1 b3 b2 b4 hk1 hk2
def markCx (c : Cx) (b : Nat) (T : TypeId) (C : Array Value) (m : Nat × Nat) : Cx := { κ := c.κ, h := c.h, w := ya0 c.w b (.cells C T m) }
theorem ext_mark {c : Cx} {k b0 : Nat} {e : Entry} {C : Array Value} {m0 m1 : Nat × Nat} (hk : c.h[k]? = some e) (ho : e.st = .own) (hb0 : c.κ k = some b0)
    (hc : c.w.heap[b0]? = some (.cells C e.T m0)) (hm : mOK C m1) : Ext c (markCx c b0 e.T C m1) where
  os := rfl
  tape := rfl
  output := rfl
  size := by simp [markCx, ya0]
  frozen b hb hO := yan (by rintro rfl; exact hO ⟨k, e, hk, ho, hb0⟩)
  shape b C1 T m h := by
    by_cases hb : b = b0
    · subst hb
      rw [hc] at h
      cases h
      exact ⟨C, m1, zbb (qag hc), rfl, fun _ => hm⟩
    · exact ⟨C1, m, (yan hb).trans h, rfl, id⟩
  own _ _ h := h
  names _ e' he hn := ⟨rfl, e', he, rfl, hn, id⟩
theorem hr_mark {c : Cx} (hr : HR P c) {k b0 : Nat} {e : Entry} {C : Array Value} {m0 m1 : Nat × Nat} (hk : c.h[k]? = some e) (ho : e.st = .own) (hb0 : c.κ k = some b0)
    (hc : c.w.heap[b0]? = some (.cells C e.T m0)) (hm : mOK C m1) : HR P (markCx c b0 e.T C m1) where
  blk j e' he hlv := by
    have x := ext_mark hk ho hb0 hc hm
    have hb := hr.blk j e' he hlv
    by_cases hj : c.κ j = some b0
    · rcases hlv with hown | hfz
      · obtain rfl := hr.apart j k e' e b0 he hk hown ho hj hb0
        have he2 : c.h[j]? = some e' := he
        rw [hk] at he2
        cases he2
        obtain ⟨C2, m2, h1, _, h3, h4, h5⟩ := hr.block hk (.inl ho) hb0
        rw [hc] at h1
        cases h1
        exact .inr ⟨b0, C, m1, hb0, zbb (qag hc), fun _ => hm, fun h => (by rw [ho] at h; cases h), h4, ybc x _ _ _ h5⟩
      · exact absurd ⟨k, e, hk, ho, hb0⟩ (hb.fz hj hfz)
    · exact hb.keep x rfl (fun b hbj => yan (by rintro rfl; exact hj hbj)) fun b hbj hf hO => hb.fz hbj hf hO
  apart := hr.apart
theorem O_dim {c : Cx} {k : Nat} {e e' : Entry} (hk : c.h[k]? = some e) (hn : e'.st ≠ .own) {b : Nat} (h : Cx.O { c with h := c.h.set k e' } b) : c.O b := by
  obtain ⟨j, e1, he, hst, hj⟩ := h
  rcases qav he with ⟨rfl, rfl, _⟩ | ⟨hne, he⟩
  · exact absurd hst hn
  · exact ⟨j, e1, he, hst, hj⟩
theorem ext_dim {c : Cx} {k : Nat} {e e' : Entry} (hk : c.h[k]? = some e) (hT : e'.T = e.T) (hn : e'.st ≠ .own) (hn2 : e'.st ≠ .hole) : Ext c { c with h := c.h.set k e' } :=
  ⟨rfl, rfl, rfl, Nat.le_refl _, fun _ _ _ => rfl, fun _ C _ m h => ⟨C, m, h, rfl, id⟩, fun _ _ h => O_dim hk hn h, fun j e1 he hn1 => by
    by_cases hj : j = k
    · subst hj
      rw [hk] at he
      cases he
      exact ⟨rfl, e', by simp only; rw [List.getElem?_set_self (List.getElem?_eq_some_iff.1 hk).1], hT, hn2, fun h => absurd h hn⟩
    · exact ⟨rfl, e1, by simp only; rw [List.getElem?_set_ne (by omega)]; exact he, rfl, hn1, id⟩⟩
theorem hr_dim {c : Cx} (hr : HR P c) {k : Nat} {e e' : Entry} (hk : c.h[k]? = some e) (hT : e'.T = e.T) (hn : e'.st ≠ .own) (hn2 : e'.st ≠ .hole)
    (hfz : e'.st = .fz → Live e ∧ c.κ k ≠ none ∧ ∃ n, e'.es = e.es.take n) : HR P { c with h := c.h.set k e' } where
  blk j e1 he hlv := by
    have x := ext_dim hk hT hn hn2
    rcases qav he with ⟨rfl, rfl, _⟩ | ⟨hne, he⟩
    · rcases hlv with h | h
      · exact absurd h hn
      · obtain ⟨hlv, hκ, n, hes⟩ := hfz h
        rcases hr.blk j e hk hlv with ⟨_, _, h3⟩ | ⟨b, C, m, h0, h1, h2, h3, h4, h5⟩
        · exact absurd h3 hκ
        · refine .inr ⟨b, C, m, h0, by rw [hT]; exact h1, fun h' => absurd h' hn, fun _ hO => ?_, ?_, ?_⟩
          · obtain ⟨i, e2, he2, hst2, hκ2⟩ := hO
            rcases qav he2 with ⟨rfl, rfl, _⟩ | ⟨hne2, he2⟩
            · exact hn hst2
            · rcases hlv with hown | hf
              · exact hne2 (hr.apart i j e2 e b he2 hk hst2 hown hκ2 h0)
              · exact h3 hf ⟨i, e2, he2, hst2, hκ2⟩
          · rw [hT, hes]
            have : (e.es.take n).length ≤ e.es.length := by simp; omega
            exact Nat.le_trans (Nat.mul_le_mul_right _ this) h4
          · rw [hes, hT]
            refine ybc x _ _ _ (repE_iff.2 fun i v hv => qa7 h5 ?_)
            rw [List.getElem?_take] at hv
            split at hv
            · exact hv
            · cases hv
    · have hb := hr.blk j e1 he hlv
      exact hb.keep x rfl (fun _ _ => rfl) fun b hbj hf hO => hb.fz hbj hf (O_dim hk hn hO)
  apart j j' e1 e2 b he he' hst hst' hk1 hk2 := by
    rcases qav he with ⟨rfl, rfl, _⟩ | ⟨hne, he⟩
    · exact absurd hst hn
    · rcases qav he' with ⟨rfl, rfl, _⟩ | ⟨hne', he'⟩
      · exact absurd hst' hn
      · exact hr.apart j j' e1 e2 b he he' hst hst' hk1 hk2
theorem notY_ty {a : AV} {T : TypeId} (h : yaz P a T) : notY a = true := by
  cases a <;> try rfl
  simp only [yaz] at h
  simp [notY, h.2]
structure Cls (y : Bool) (c c' : Cx) : Prop where
  κ : c'.κ = c.κ
  h : c'.h = c.h
  cells : ∀ (b : Nat) (C : Array Value) (T : TypeId) (m : Nat × Nat), c.w.heap[b]? = some (.cells C T m) → c'.w.heap[b]? = some (.cells C T m)
  loops : y = true → ∀ (b : Nat) (L : Loop), c.w.heap[b]? = some (.loop L) → c'.w.heap[b]? = some (.loop L)
theorem Cls.O {y : Bool} {c c' : Cx} (x : Cls y c c') (b : Nat) : c'.O b = c.O b := by simp only [Cx.O, x.κ, x.h]
mutual
theorem zdb {y : Bool} {c c' : Cx} (x : Cls y c c') : ∀ (a : AV) (cs : List Value), y = true ∨ notY a = true → Rep P c a cs → Rep P c' a cs
  | .int k n, cs, _, h => by simpa only [Rep] using h
  | .bool b, cs, _, h => by simpa only [Rep] using h
  | .str s, cs, _, h => by simpa only [Rep] using h
  | .agg T vs, cs, _, h => by
    simp only [Rep] at h ⊢
    refine ⟨h.1, ?_⟩
    have h2 := h.2
    split at h2
    · exact repF_cls x _ _ _ h2
    · exact ⟨h2.1, repE_cls x _ _ _ h2.2⟩
    · exact h2.elim
  | .list T es, cs, _, h => by
    simp only [Rep] at h ⊢
    obtain ⟨a, cap, rfl, hc, h⟩ := h
    refine ⟨a, cap, rfl, hc, fun hne => ?_⟩
    obtain ⟨b, off, C, Te, m, ha, hb, hO, hr⟩ := h hne
    exact ⟨b, off, C, Te, m, ha, x.cells _ _ _ _ hb, by rw [x.O]; exact hO, repE_cls x _ _ _ hr⟩
  | .win k p T fr n lo, cs, _, h => by
    simp only [Rep] at h ⊢
    obtain ⟨e, cap, a, he, hne, rfl, h1, h2, h3, h4⟩ := h
    refine ⟨e, cap, a, by rw [x.h]; exact he, hne, rfl, h1, h2, h3, fun hc => ?_⟩
    obtain ⟨b, off, C, m, g1, g2, g3, g4, g5, g6, g7⟩ := h4 hc
    exact ⟨b, off, C, m, by rw [x.κ]; exact g1, g2, x.cells _ _ _ _ g3, g4, g5, g6, g7⟩
  | .ref k p T, cs, _, h => by
    simp only [Rep] at h ⊢
    obtain ⟨e, b, off, he, hne, hb, hr, rfl⟩ := h
    exact ⟨e, b, off, by rw [x.h]; exact he, hne, by rw [x.κ]; exact hb, hr, rfl⟩
  | .eref T v, cs, _, h => by
    simp only [Rep] at h ⊢
    obtain ⟨b, off, C, Te, m, rfl, hb, hO, ht, hr⟩ := h
    exact ⟨b, off, C, Te, m, rfl, x.cells _ _ _ _ hb, by rw [x.O]; exact hO, ht, zdb x _ _ (.inr (notY_ty ht)) hr⟩
  | .nilptr, cs, _, h => by simpa only [Rep] using h
  | .fn f caps, cs, hy, h => by
    simp only [Rep] at h ⊢
    rcases h with ⟨h0, h1, vs, rfl, hv⟩ | ⟨h0, l, L, rfl, hl, hO, h1, h2, h3, h4⟩
    · exact .inl ⟨h0, h1, vs, rfl, repV_cls x _ _ h1 hv⟩
    · rcases hy with hy | hy
      · exact .inr ⟨h0, l, L, rfl, x.loops hy _ _ hl, by rw [x.O]; exact hO, h1, h2, h3, repS_cls x _ _ h4⟩
      · simp [notY, h0] at hy
  | .nilfn, cs, _, h => by simpa only [Rep] using h
  | .nils, cs, _, h => by simpa only [Rep] using h
  | .tup _, cs, _, h => by simp only [Rep] at h
  | .junk, cs, _, h => by simp only [Rep] at h
theorem repF_cls {y : Bool} {c c' : Cx} (x : Cls y c c') : ∀ (vs : List AV) (fs : List (TypeId × Nat)) (cs : List Value), zb1 P c vs fs cs → zb1 P c' vs fs cs
  | [], fs, cs, h => by simpa only [zb1] using h
  | v :: vs, fs, cs, h => by
    simp only [zb1] at h ⊢
    obtain ⟨f, r, rfl, h1, h2, h3⟩ := h
    exact ⟨f, r, rfl, h1, zdb x _ _ (.inr (notY_ty h1)) h2, repF_cls x _ _ _ h3⟩
theorem repE_cls {y : Bool} {c c' : Cx} (x : Cls y c c') : ∀ (vs : List AV) (T : TypeId) (cs : List Value), qa0 P c vs T cs → qa0 P c' vs T cs
  | [], T, cs, h => by simp only [qa0]
  | v :: vs, T, cs, h => by
    simp only [qa0] at h ⊢
    exact ⟨h.1, zdb x _ _ (.inr (notY_ty h.1)) h.2.1, repE_cls x _ _ _ h.2.2⟩
theorem repV_cls {y : Bool} {c c' : Cx} (x : Cls y c c') : ∀ (as : List AV) (vs : List Value), as.all notY = true → ya2 P c as vs → ya2 P c' as vs
  | [], vs, _, h => by simpa only [ya2] using h
  | a :: as, vs, hn, h => by
    simp only [List.all_cons, Bool.and_eq_true] at hn
    simp only [ya2] at h ⊢
    obtain ⟨v, r, rfl, h1, h2, h3⟩ := h
    exact ⟨v, r, rfl, h1, zdb x _ _ (.inr hn.1) h2, repV_cls x _ _ hn.2 h3⟩
theorem repS_cls {y : Bool} {c c' : Cx} (x : Cls y c c') : ∀ (as : List AV) (vs : List Value), zdx P c as vs → zdx P c' as vs
  | [], vs, h => by simpa only [zdx] using h
  | a :: as, vs, h => by
    simp only [zdx] at h ⊢
    obtain ⟨v, r, rfl, h1, h3⟩ := h
    refine ⟨v, r, rfl, ?_, repS_cls x _ _ h3⟩
    rcases h1 with h1 | ⟨h1, h2, h4⟩
    · exact .inl h1
    · exact .inr ⟨h1, h2, zdb x _ _ (.inr h1) h4⟩
end
theorem vv_cls {c c' : Cx} (x : Cls true c c') {a : AV} {v : Value} (h : VV P c a v) : VV P c' a v := by
  cases a <;> simp only [VV] at h ⊢
  case tup vs =>
    obtain ⟨l, rfl, hl⟩ := h
    refine ⟨l, rfl, ?_⟩
    induction vs generalizing l with
    | nil => simpa only [ya2] using hl
    | cons a as ih =>
      simp only [ya2] at hl ⊢
      obtain ⟨v, r, rfl, h1, h2, h3⟩ := hl
      exact ⟨v, r, rfl, h1, zdb x _ _ (.inl rfl) h2, ih r h3⟩
  all_goals exact ⟨h.1, zdb x _ _ (.inl rfl) h.2⟩
theorem hr_cls {y : Bool} {c c' : Cx} (x : Cls y c c') (hr : HR P c) : HR P c' where
  blk k e he hl := by
    rw [x.h] at he
    rcases hr.blk k e he hl with ⟨h1, h2, h3⟩ | ⟨b, C, m, h0, h1, h2, h3, h4, h5⟩
    · exact .inl ⟨h1, h2, by rw [x.κ]; exact h3⟩
    · exact .inr ⟨b, C, m, by rw [x.κ]; exact h0, x.cells _ _ _ _ h1, h2, fun hf => by rw [x.O]; exact h3 hf, h4, repE_cls x _ _ _ h5⟩
  apart k k' e e' b h1 h2 h3 h4 h5 h6 := by
    rw [x.h] at h1 h2
    rw [x.κ] at h5 h6
    exact hr.apart k k' e e' b h1 h2 h3 h4 h5 h6
theorem cls_put {c : Cx} {l : Nat} {o o' : Obj} (h : c.w.heap[l]? = some o) (ho : ∀ C T m, o ≠ .cells C T m) {y : Bool} (hy : y = true → ∀ L, o ≠ .loop L) : Cls y c { c with w := ya0 c.w l o' } where
  κ := rfl
  h := rfl
  cells b C T m hb := by
    have : b ≠ l := by rintro rfl; rw [h] at hb; cases hb; exact ho _ _ _ rfl
    show (ya0 c.w l o').heap[b]? = _
    rw [yan this]; exact hb
  loops hy' b L hb := by
    have : b ≠ l := by rintro rfl; rw [h] at hb; cases hb; exact hy hy' _ rfl
    show (ya0 c.w l o').heap[b]? = _
    rw [yan this]; exact hb
theorem O_live {c : Cx} (hr : HR P c) {b : Nat} (h : c.O b) : ∃ C T m, c.w.heap[b]? = some (.cells C T m) := by
  obtain ⟨k, e, he, hs, hk⟩ := h
  obtain ⟨C, m, hc, _⟩ := hr.block he (.inl hs) hk
  exact ⟨C, _, m, hc⟩
theorem qdl {w : World} {o : Obj} {b : Nat} (h : b < w.heap.size) : (w.alloc o).heap[b]? = w.heap[b]? := by
  show (w.heap.push o)[b]? = _
  rw [Array.getElem?_push]
  rw [if_neg (by omega)]
theorem get_push0 {w : World} {o : Obj} : (w.alloc o).heap[w.heap.size]? = some o := by
  show (w.heap.push o)[w.heap.size]? = _
  simp
theorem size_push {w : World} {o : Obj} : (w.alloc o).heap.size = w.heap.size + 1 := by
  show (w.heap.push o).size = _
  simp
theorem ext_push {c : Cx} (o : Obj) : Ext c { c with w := c.w.alloc o } where
  os := rfl
  tape := rfl
  output := rfl
  size := by show _ ≤ (c.w.alloc o).heap.size; rw [size_push]; omega
  frozen b hb _ := qdl hb
  shape b C T m h := ⟨C, m, (qdl (qag h)).trans h, rfl, id⟩
  own b _ h := h
  names k e h hn := ⟨rfl, e, h, rfl, hn, id⟩
theorem cls_push {c : Cx} (o : Obj) : Cls true c { c with w := c.w.alloc o } where
  κ := rfl
  h := rfl
  cells b C T m hb := (qdl (qag hb)).trans hb
  loops _ b L hb := (qdl (qag hb)).trans hb
end
end Go.Abs
set_option linter.all false
namespace Go.Abs
open Go
section
variable {P : Program}
inductive Stp where
  | fail
  | ret (v : AV) (wr : List (Nat × Entry))
  | rd (k : Nat) (f : Entry → Stp)
def Stp.run (h : List Entry) : Stp → Option (AV × List (Nat × Entry))
  | .fail => none
  | .ret v wr => some (v, wr)
  | .rd k f => match h[k]? with
    | some e => (f e).run h
    | none => none
def yay (h : List Entry) : List (Nat × Entry) → List Entry
  | [] => h
  | x :: r => yay (h.set x.1 x.2) r
def lk : List (Nat × AV) → Nat → AV
  | [], _ => .junk
  | x :: r, t => if x.1 = t then x.2 else lk r t
def qb7 : Value → AV
  | .int k n => .int k n
  | .bool b => .bool b
  | .string s => .str s
  | .pointer a => match a with
    | none => .nilptr
    | some _ => .junk
  | .slice a l c => match a with
    | none => if l = 0 ∧ c = 0 then .nils else .junk
    | some _ => .junk
  | .nilFunc => .nilfn
  | .tuple vs => if vs = #[] then .tup [] else .junk
  | _ => .junk
def ev (env : List (Nat × AV)) : Operand → AV
  | .tmp t => lk env t
  | .const v => qb7 v
  | .func f => .fn f []
  | .global _ => .junk
def isPtr : Shape → Bool | .ptr _ => true | _ => false
def qay : Shape → Bool | .slice _ => true | _ => false
def tyB (P : Program) (av : AV) (T : TypeId) : Bool :=
  match av with
  | .int k _ => zab P T == .int k
  | .bool _ => zab P T == .bool
  | .str _ => zab P T == .str
  | .agg T' _ => T' == T
  | .list T' _ => zab P T == .slice T'
  | .win _ _ T' _ _ _ => zab P T == .slice T'
  | .ref _ _ T' => zab P T == .ptr T'
  | .eref T' _ => zab P T == .ptr T'
  | .nilptr => isPtr (zab P T)
  | .fn _ caps => zab P T == .func && !isY caps
  | .nilfn => zab P T == .func
  | .nils => qay (zab P T)
  | .tup _ => false
  | .junk => false
theorem tyB_ok {av : AV} {T : TypeId} (h : tyB P av T = true) : yaz P av T := by
  cases av <;> simp only [tyB, yaz, beq_iff_eq, reduceCtorEq] at h ⊢ <;> try exact h
  case fn => simpa using h
  case nilptr => cases hs : zab P T <;> simp_all [isPtr]
  case nils => cases hs : zab P T <;> simp_all [qay]
def getE (es : List AV) : List Nat → Option AV
  | [] => none
  | i :: r => match es[i]? with
    | some v => qbg v r
    | none => none
def setE (es : List AV) (u : AV) : List Nat → Option (List AV)
  | [] => none
  | i :: r => match es[i]? with
    | some v => (setP v r u).map fun x => es.set i x
    | none => none
def yb5 : Status → Bool
  | .own => true
  | .fz => true
  | _ => false
def okT (P : Program) (T : TypeId) : Bool := !(zab P T == .other) && !(P.cellsOf T == 0)
def zeroA (P : Program) : Nat → TypeId → AV
  | 0, _ => .junk
  | f + 1, T => match zab P T with
    | .int k => .int k 0
    | .bool => .bool false
    | .str => .str ByteArray.empty
    | .slice _ => .nils
    | .ptr _ => .nilptr
    | .func => .nilfn
    | .struct => .agg T ((qaj P T).map fun x => zeroA P f x.1)
    | .arr n e => .agg T (List.replicate n (zeroA P f e))
    | .other => .junk
def qai (P : Program) (T : TypeId) : AV := zeroA P 8 T
def zeroC (P : Program) : Nat → TypeId → List Value
  | 0, _ => []
  | f + 1, T => match zab P T with
    | .int k => [.int k 0]
    | .bool => [.bool false]
    | .str => [.string ByteArray.empty]
    | .slice _ => [.slice none 0 0]
    | .ptr _ => [.pointer none]
    | .func => [.nilFunc]
    | .struct => (qaj P T).flatMap fun x => zeroC P f x.1
    | .arr n e => (List.replicate n (zeroC P f e)).flatten
    | .other => []
def goodZ (P : Program) : Nat → TypeId → Bool
  | 0, _ => false
  | f + 1, T => match zab P T with
    | .other => false
    | .struct => (qaj P T).all fun x => goodZ P f x.1
    | .arr _ e => goodZ P f e
    | _ => true
def vEq : Value → Value → Bool
  | .int k n, .int k' m => k == k' && n == m
  | .bool a, .bool b => a == b
  | .string a, .string b => a.data == b.data
  | .pointer none, .pointer none => true
  | .slice none a b, .slice none a' b' => a == a' && b == b'
  | .nilFunc, .nilFunc => true
  | _, _ => false
def vEqs : List Value → List Value → Bool
  | [], [] => true
  | a :: r, b :: s => vEq a b && vEqs r s
  | _, _ => false
def zOK (P : Program) (T : TypeId) : Bool :=
  goodZ P 8 T && okT P T && (match P.info? T with
    | some i => (match i.zero with
      | some z => vEqs z.cells.toList (zeroC P 8 T) && (Value.isAgg z == isAgg (qai P T))
      | none => false)
    | none => false)
def qcd (T : TypeId) : AV → Stp
  | .ref k p T' => if T' = T then .rd k fun e => if yb5 e.st = true then (match getE e.es p with | some v => .ret v [] | none => .fail) else .fail else .fail
  | .eref T' v => if T' = T then .ret v [] else .fail
  | _ => .fail
def qdq (P : Program) (T : TypeId) (y : AV) : AV → Stp
  | .ref k p T' => if T' = T then (if tyB P y T = true then .rd k fun e => if e.st = .own then (match setE e.es y p with | some es => .ret (.tup []) [(k, { e with es := es })] | none => .fail) else .fail else .fail) else .fail
  | _ => .fail
def ybe (P : Program) (T : TypeId) (i : Nat) : AV → Stp
  | .ref k p T' => if T' = T then (match (qaj P T)[i]? with | some f => if okT P f.1 = true then .ret (.ref k (p ++ [i]) f.1) [] else .fail | none => .fail) else .fail
  | .eref T' (.agg T'' vs) => if T' = T then (match (qaj P T)[i]?, vs[i]? with | some f, some v => if okT P f.1 = true then .ret (.eref f.1 v) [] else .fail | _, _ => .fail) else .fail
  | _ => .fail
def qcs (P : Program) (T : TypeId) (i : Nat) : AV → Stp
  | .agg T' vs => if T' = T then (match (qaj P T)[i]?, vs[i]? with | some f, some v => if okT P f.1 = true then .ret v [] else .fail | _, _ => .fail) else .fail
  | _ => .fail
def ya3 (P : Program) (T : TypeId) (x i : AV) : Stp :=
  match i with
  | .int _ n =>
    match x with
    | .win k p e fr len _ => if zab P T = .slice e ∧ okT P e = true then (if 0 ≤ n ∧ n < (len : Int) then .ret (.ref k (p ++ [fr + n.toNat]) e) [] else .fail) else .fail
    | .list e es => if zab P T = .slice e ∧ okT P e = true then (if 0 ≤ n ∧ n < (es.length : Int) then .ret (.eref e (es.getD n.toNat .junk)) [] else .fail) else .fail
    | .ref k p T' => if T' = T then (match zab P T with | .arr m e => if okT P e = true ∧ 0 ≤ n ∧ n < (m : Int) then .ret (.ref k (p ++ [n.toNat]) e) [] else .fail | _ => .fail) else .fail
    | .eref T' (.agg T'' vs) => if T' = T then (match zab P T with | .arr m e => if okT P e = true ∧ 0 ≤ n ∧ n < (m : Int) then .ret (.eref e (vs.getD n.toNat .junk)) [] else .fail | _ => .fail) else .fail
    | _ => .fail
  | _ => .fail
def ycs (P : Program) (T : TypeId) (x i : AV) : Stp :=
  match i with
  | .int _ n =>
    match x with
    | .agg T' vs => if T' = T then (match zab P T with | .arr m e => if okT P e = true ∧ 0 ≤ n ∧ n < (m : Int) then .ret (vs.getD n.toNat .junk) [] else .fail | _ => .fail) else .fail
    | .str s => if zab P T = .str then (if 0 ≤ n ∧ n < (s.size : Int) then .ret (.int .u8 ((s.data.getD n.toNat 0).toNat)) [] else .fail) else .fail
    | _ => .fail
  | _ => .fail
def eqT (P : Program) (T : TypeId) : Bool := match P.underlying T with
  | some (.struct fs) => fs.toList.all (fun f => f.name != "_") && !P.stoodInHeld T && !P.eqGuardType P.depth T
  | some (.array _ e) => okT P e && !P.eqGuardType P.depth T
  | _ => false
def eqA (P : Program) : Nat → AV → AV → Option Bool
  | 0, _, _ => none
  | n + 1, x, y => match x, y with
    | .int _ a, .int _ b => some (a == b)
    | .bool a, .bool b => some (a == b)
    | .str a, .str b => some (a == b)
    | .agg T vs, .agg T' us => if T = T' ∧ eqT P T = true ∧ vs.length = us.length then
        ((vs.zip us).foldr (fun p acc => match eqA P n p.1 p.2, acc with | some a, some b => some (a && b) | _, _ => none) (some true)) else none
    | _, _ => none
def intBin (op : BinOp) (k : IntKind) (a b : Int) : Stp :=
  match op with
  | .add => .ret (.int k (k.wrap (a + b))) []
  | .sub => .ret (.int k (k.wrap (a - b))) []
  | .mul => .ret (.int k (k.wrap (a * b))) []
  | .quo => if b = 0 then .fail else .ret (.int k (k.wrap (a.tdiv b))) []
  | .rem => if b = 0 then .fail else .ret (.int k (a.tmod b)) []
  | .and => .ret (.int k (bits .and k a b)) []
  | .or => .ret (.int k (bits .or k a b)) []
  | .xor => .ret (.int k (bits .xor k a b)) []
  | .andNot => .ret (.int k (bits .andNot k a b)) []
  | .eql => .ret (.bool (a == b)) []
  | .neq => .ret (.bool (a != b)) []
  | .lss => .ret (.bool (decide (a < b))) []
  | .leq => .ret (.bool (decide (a ≤ b))) []
  | .gtr => .ret (.bool (decide (b < a))) []
  | .geq => .ret (.bool (decide (b ≤ a))) []
  | .shl => if b < 0 then .fail else .ret (.int k (k.wrap (a * 2 ^ (min b.toNat k.bits)))) []
  | .shr => if b < 0 then .fail else .ret (.int k (a.fdiv (2 ^ (min b.toNat k.bits)))) []
def stBin (P : Program) (op : BinOp) (T : TypeId) (x y : AV) : Stp :=
  match x, y with
  | .int k a, .int k' b => if op = .shl ∨ op = .shr ∨ k = k' then intBin op k a b else .fail
  | .bool a, .bool b => if zab P T = .bool then (match op with | .eql => .ret (.bool (a == b)) [] | .neq => .ret (.bool (!(a == b))) [] | _ => .fail) else .fail
  | .str a, .str b => match op with | .eql => .ret (.bool (a == b)) [] | .neq => .ret (.bool (!(a == b))) [] | _ => .fail
  | .ref .., .nilptr => if isPtr (zab P T) = true then (match op with | .eql => .ret (.bool false) [] | .neq => .ret (.bool true) [] | _ => .fail) else .fail
  | .eref .., .nilptr => if isPtr (zab P T) = true then (match op with | .eql => .ret (.bool false) [] | .neq => .ret (.bool true) [] | _ => .fail) else .fail
  | .nilptr, .nilptr => if isPtr (zab P T) = true then (match op with | .eql => .ret (.bool true) [] | .neq => .ret (.bool false) [] | _ => .fail) else .fail
  | .agg T1 vs, .agg T2 us => if T1 = T ∧ T2 = T then (match op, eqA P 5 (.agg T vs) (.agg T us) with | .eql, some b => .ret (.bool b) [] | .neq, some b => .ret (.bool (!b)) [] | _, _ => .fail) else .fail
  | _, _ => .fail
def stUn (op : UnOp) (x : AV) : Stp :=
  match op, x with
  | .not, .bool b => .ret (.bool (!b)) []
  | .neg, .int k n => .ret (.int k (k.wrap (0 - n))) []
  | .xor, .int k n => .ret (.int k (bits .xor k (if k.signed = true then -1 else k.max) n)) []
  | _, _ => .fail
def u8s (s : ByteArray) : List AV := s.data.toList.map fun b => .int .u8 b.toNat
def u8A : AV → UInt8
  | .int _ n => UInt8.ofNat n.toNat
  | _ => 0
def strA (es : List AV) : ByteArray := ⟨(es.map u8A).toArray⟩
def qaq (es : List AV) (p : List Nat) (fr n : Nat) : Option (List AV) :=
  match p with
  | [] => if fr + n ≤ es.length then some ((es.drop fr).take n) else none
  | _ => match getE es p with
    | some (.agg _ vs) => if fr + n ≤ vs.length then some ((vs.drop fr).take n) else none
    | _ => none
def stConvB (P : Program) (S T : TypeId) (x : AV) : Stp :=
  match x with
  | .str b => match zab P T with
    | .slice e => if zab P e = .int .u8 ∧ zab P S = .str then .ret (.list e (u8s b)) [] else .fail
    | .str => if zab P S = .str then .ret (.str b) [] else .fail
    | _ => .fail
  | .list e es => if zab P S = .slice e ∧ zab P e = .int .u8 ∧ zab P T = .str then .ret (.str (strA es)) [] else .fail
  | .nils => match zab P S with
    | .slice e => if zab P e = .int .u8 ∧ zab P T = .str then .ret (.str ByteArray.empty) [] else .fail
    | _ => .fail
  | .win k p e fr n lo => if zab P S = .slice e ∧ zab P e = .int .u8 ∧ zab P T = .str then .rd k fun en => if yb5 en.st = true then (match qaq en.es p fr n with | some ys => .ret (.str (strA ys)) [] | none => .fail) else .fail else if S = T ∧ zab P S = .slice e ∧ zab P e = .int .u8 ∧ n ≠ 0 then .rd k fun en => if (en.st == .own) = true then .ret (.win k p e fr n lo) [] else .fail else .fail
  | _ => .fail
def qbk (P : Program) (S T : TypeId) (x : AV) : Stp :=
  match x with
  | .int _ n => match zab P T with
    | .int k => if zab P S ≠ .other then .ret (.int k (k.wrap n)) [] else .fail
    | _ => .fail
  | x => stConvB P S T x
def ydr (P : Program) (S T : TypeId) (b : ByteArray) (s : Nat) : Stp :=
  match zab P T with
  | .slice e => if zab P e = .int .u8 ∧ zab P S = .str then .ret (.win s [] e 0 b.size b.size) [(s, ⟨e, u8s b, .own⟩)] else .fail
  | .str => if zab P S = .str then .ret (.str b) [] else .fail
  | _ => .fail
def qa5 : Operand → Bool
  | .const (.string _) => true
  | _ => false
def constStr : Operand → ByteArray
  | .const (.string b) => b
  | _ => ByteArray.empty
def zcp (P : Program) (T : TypeId) (x : AV) : Stp :=
  match x with
  | .win _ _ e _ n _ => if qay (zab P T) = true then .ret (.int .i64 n) [] else .fail
  | .list e es => if qay (zab P T) = true then .ret (.int .i64 es.length) [] else .fail
  | .nils => if qay (zab P T) = true then .ret (.int .i64 0) [] else .fail
  | .str s => if zab P T = .str then .ret (.int .i64 s.size) [] else .fail
  | _ => .fail
def stMin (op : Builtin) (x y : AV) : Stp :=
  match x, y with
  | .int k a, .int _ b => match op with
    | .min => .ret (.int k (if b < a then b else a)) []
    | .max => .ret (.int k (if a < b then b else a)) []
    | _ => .fail
  | _, _ => .fail
def evs (env : List (Nat × AV)) (xs : Array Operand) : List AV := xs.toList.map (ev env)
def qca (P : Program) (ty : Nat → Option TypeId) : List (Nat × AV) → List AV → Option (List AV)
  | [], zs => some zs
  | x :: r, zs => match ty x.1 with
    | some T => if x.1 < zs.length ∧ tyB P x.2 T = true then qca P ty r (zs.set x.1 x.2) else none
    | none => none
def ya9 (P : Program) (T : TypeId) : Bool := match zab P T with
  | .struct => (qaj P T).all fun f => okT P f.1
  | .arr _ e => okT P e
  | _ => false
def zct (P : Program) (T : TypeId) (ps : List (Nat × AV)) : Stp :=
  match qai P T with
  | .agg T' zs => if T' = T ∧ zOK P T = true ∧ ya9 P T = true then (match qca P (fun i => match zab P T with | .struct => ((qaj P T)[i]?).map (·.1) | .arr _ e => some e | _ => none) ps zs with
    | some vs => .ret (.agg T vs) []
    | none => .fail) else .fail
  | _ => .fail
def qbn (P : Program) (T : TypeId) (n : Nat) (ps : List (Nat × AV)) (s : Nat) : Stp :=
  match zab P T with
  | .slice e => if n * P.cellsOf e ≤ 16777216 ∧ zOK P e = true then (match qca P (fun _ => some e) ps (List.replicate n (qai P e)) with
    | some vs => .ret (.win s [] e 0 n n) [(s, ⟨e, vs, .own⟩)]
    | none => .fail) else .fail
  | _ => .fail
def zbt (P : Program) (T : TypeId) (l c : AV) (s : Nat) : Stp :=
  match l, c, zab P T with
  | .int _ a, .int _ b, .slice e => if 0 ≤ a ∧ a ≤ b ∧ (P.bytesOf e : Int) * b ≤ 140737488355328 ∧ b ≤ 9223372036854775807 ∧ zOK P e = true then
      .ret (.win s [] e 0 a.toNat b.toNat) [(s, ⟨e, List.replicate a.toNat (qai P e), .own⟩)] else .fail
  | _, _, _ => .fail
def ybn (x : AV) : Stp :=
  match x with
  | .ref k p T => .ret (.ref k p T) []
  | .eref T v => .ret (.eref T v) []
  | .fn f caps => .ret (.fn f caps) []
  | _ => .fail
def isSliceOK (P : Program) (T : TypeId) : Bool := match zab P T with | .slice e => okT P e | _ => false
def bnd (o : Option AV) (d : Nat) : Option Int := match o with
  | none => some (d : Int)
  | some (.int _ n) => some n
  | _ => none
def pIn (p : List Nat) (n : Nat) : Bool := match p with
  | [] => false
  | i :: _ => decide (i < n)
def zdr (P : Program) (T : TypeId) (x : AV) (lo hi mx : Option AV) : Stp :=
  match x with
  | .str s => if zab P T = .str then (match mx, bnd lo 0, bnd hi s.size with
    | none, some l, some h => if 0 ≤ l ∧ l ≤ h ∧ h ≤ (s.size : Int) then .ret (.str (s.extract l.toNat h.toNat)) [] else .fail
    | _, _, _ => .fail) else .fail
  | .list e es => if zab P T = .slice e ∧ okT P e = true then (match mx, bnd lo 0, bnd hi es.length with
    | none, some l, some h => if 0 ≤ l ∧ l ≤ h ∧ h ≤ (es.length : Int) then .ret (.list e ((es.take h.toNat).drop l.toNat)) [] else .fail
    | some (.int _ m), some l, some h => if 0 ≤ l ∧ l ≤ h ∧ h ≤ m ∧ m ≤ (es.length : Int) then .ret (.list e ((es.take h.toNat).drop l.toNat)) [] else .fail
    | _, _, _ => .fail) else .fail
  | .win k p e fr n lo' => if zab P T = .slice e ∧ okT P e = true then (match mx, bnd lo 0, bnd hi n with
    | none, some l, some h => if 0 ≤ l ∧ l ≤ h ∧ (h ≤ (n : Int) ∨ h ≤ (lo' : Int)) then .ret (.win k p e (fr + l.toNat) (h.toNat - l.toNat) (max n lo' - l.toNat)) [] else .fail
    | some (.int _ m), some l, some h => if 0 ≤ l ∧ l ≤ h ∧ h ≤ m ∧ (m ≤ (n : Int) ∨ m ≤ (lo' : Int)) then .ret (.win k p e (fr + l.toNat) (h.toNat - l.toNat) (m.toNat - l.toNat)) [] else .fail
    | _, _, _ => .fail) else .fail
  | .nils => if isSliceOK P T = true then (match mx, bnd lo 0, bnd hi 0 with
    | none, some l, some h => if l = 0 ∧ h = 0 then .ret .nils [] else .fail
    | _, _, _ => .fail) else .fail
  | .ref k p T' => if T' = T then (match zab P T with
    | .arr m e => (match mx, bnd lo 0, bnd hi m with
      | none, some l, some h => if okT P e = true ∧ 0 ≤ l ∧ l ≤ h ∧ h ≤ (m : Int) then .rd k fun en => if yb5 en.st = true ∧ pIn p en.es.length = true then .ret (.win k p e l.toNat (h.toNat - l.toNat) (m - l.toNat)) [] else .fail else .fail
      | some (.int _ M), some l, some h => if okT P e = true ∧ 0 ≤ l ∧ l ≤ h ∧ h ≤ M ∧ M ≤ (m : Int) then .rd k fun en => if yb5 en.st = true ∧ pIn p en.es.length = true then .ret (.win k p e l.toNat (h.toNat - l.toNat) (M.toNat - l.toNat)) [] else .fail else .fail
      | _, _, _ => .fail)
    | _ => .fail) else .fail
  | _ => .fail
def yco (p : List Nat) : Bool := match p with | [] => true | _ => false
def zap (e : TypeId) (ys : List AV) (s : Nat) (x : AV) : Stp :=
  match x with
  | .nils => .ret (.win s [] e 0 ys.length ys.length) [(s, ⟨e, ys, .own⟩)]
  | .win k p e' fr n lo => if e' = e ∧ yco p = true ∧ fr = 0 then .rd k fun en => if en.st = .own ∧ n ≤ en.es.length then
      (if n + ys.length ≤ lo then .ret (.win k [] e 0 (n + ys.length) lo) [(k, { en with es := en.es.take n ++ ys ++ en.es.drop (n + ys.length) })]
       else .ret (.win s [] e 0 (n + ys.length) (n + ys.length)) [(k, { en with es := [], st := .dead }), (s, ⟨e, en.es.take n ++ ys, .own⟩)])
      else .fail else .fail
  | _ => .fail
def zdf (es : List AV) (p : List Nat) (fr : Nat) (ys : List AV) : Option (List AV) :=
  match p with
  | [] => if fr + ys.length ≤ es.length then some (es.take fr ++ ys ++ es.drop (fr + ys.length)) else none
  | _ => match getE es p with
    | some (.agg A vs) => if fr + ys.length ≤ vs.length then setE es (.agg A (vs.take fr ++ ys ++ vs.drop (fr + ys.length))) p else none
    | _ => none
def yb9 (e : TypeId) (ys : List AV) (x : AV) : Stp :=
  match x with
  | .nils => .ret (.int .i64 0) []
  | .win k p e' fr n _ => if e' = e then .rd k fun en => if en.st = .own then
      (match zdf en.es p fr (ys.take n) with
       | some es => .ret (.int .i64 (min ys.length n : Nat)) [(k, { en with es := es })]
       | none => .fail) else .fail else .fail
  | _ => .fail
def stCopy (P : Program) (T : TypeId) (x y : AV) : Stp :=
  match zab P T with
  | .slice e => if okT P e = true then
      (match y with
       | .list e' es => if e' = e then yb9 e es x else .fail
       | .str b => if zab P e = .int .u8 then yb9 e (u8s b) x else .fail
       | .nils => yb9 e [] x
       | .win k p e' fr n _ => if e' = e then .rd k fun en => if yb5 en.st = true then (match qaq en.es p fr n with | some ys => yb9 e ys x | none => .fail) else .fail else .fail
       | _ => .fail) else .fail
  | _ => .fail
def yam (P : Program) (e : TypeId) (n : Nat) : Bool := decide (n ≤ 4294967296) && decide (P.bytesOf e ≤ 16384) && zOK P e
def stAppend (P : Program) (T : TypeId) (x y : AV) (s : Nat) (len : AV → Nat) : Stp :=
  match zab P T with
  | .slice e =>
    if yam P e (len x + len y) = true then
      match y with
      | .list e' es => if e' = e then zap e es s x else .fail
      | .str b => if zab P e = .int .u8 then zap e (u8s b) s x else .fail
      | .nils => zap e [] s x
      | .win k p e' fr n _ => if e' = e then .rd k fun en => if yb5 en.st = true then (match qaq en.es p fr n with | some ys => zap e ys s x | none => .fail) else .fail else .fail
      | _ => .fail
    else .fail
  | _ => .fail
def lenAV : AV → Nat
  | .win _ _ _ _ n _ => n
  | .list _ es => es.length
  | .str s => s.size
  | _ => 0
def stClear (P : Program) (T : TypeId) (x : AV) : Stp :=
  match x with
  | .nils => if qay (zab P T) = true then .ret (.tup []) [] else .fail
  | .win k p e fr n _ => if zab P T = .slice e ∧ zOK P e = true ∧ yco p = true then .rd k fun en => if en.st = .own ∧ fr + n ≤ en.es.length then
      .ret (.tup []) [(k, { en with es := en.es.take fr ++ List.replicate n (qai P e) ++ en.es.drop (fr + n) })] else .fail else .fail
  | _ => .fail
def qdg (P : Program) (T : TypeId) (x : AV) (n : Int) (s : Nat) : Stp :=
  match x with
  | .nils => (match zab P T with
    | .slice e => if 0 ≤ n ∧ yam P e n.toNat = true then .ret (.win s [] e 0 n.toNat n.toNat) [(s, ⟨e, List.replicate n.toNat (qai P e), .own⟩)] else .fail
    | _ => .fail)
  | _ => .fail
def stCap (P : Program) (T : TypeId) (x : AV) : Stp :=
  match x with
  | .nils => if qay (zab P T) = true then .ret (.int .i64 0) [] else .fail
  | _ => .fail
def stAppendI (P : Program) (T : TypeId) (x y : AV) (s : Nat) : Shape → Stp
  | .int _ => (match y with | .int _ n => qdg P T x n s | _ => .fail)
  | _ => .fail
def qa3 (P : Program) (b : Builtin) (ts : List TypeId) (xs : List AV) (s : Nat) : Stp :=
  match b, ts, xs with
  | .len, T :: _, [x] => zcp P T x
  | .min, _, [x, y] => stMin .min x y
  | .max, _, [x, y] => stMin .max x y
  | .clear, T :: _, [x] => stClear P T x
  | .copy, T :: _, [x, y] => stCopy P T x y
  | .append, [T, T2], [x, y] => if qay (zab P T2) = true ∨ zab P T2 = .str then stAppend P T x y s lenAV else stAppendI P T x y s (zab P T2)
  | .cap, T :: _, [x] => stCap P T x
  | _, _, _ => .fail
def ybv (i : Nat) : AV → Stp
  | .tup vs => match vs[i]? with | some v => .ret v [] | none => .fail
  | _ => .fail
def zah : AV → Bool
  | .junk => false
  | .tup _ => false
  | .fn _ caps => !isY caps
  | _ => true
def ydj (env : List (Nat × AV)) (ps : Array (Nat × Operand)) : List (Nat × AV) := ps.toList.map fun x => (x.1, ev env x.2)
def step (P : Program) (env : List (Nat × AV)) (s : Nat) : Op → Stp
  | .move x => .ret (ev env x) []
  | .assign x => .ret (ev env x) []
  | .pick c a b => match ev env c with
    | .bool true => .ret (ev env a) []
    | .bool false => .ret (ev env b) []
    | _ => .fail
  | .alloc T => if zOK P T = true then .ret (.ref s [0] T) [(s, ⟨T, [qai P T], .own⟩)] else .fail
  | .box T x => if tyB P (ev env x) T = true then .ret (.ref s [0] T) [(s, ⟨T, [ev env x], .own⟩)] else .fail
  | .build T ps => zct P T (ydj env ps)
  | .buildSlice T n ps => qbn P T n (ydj env ps) s
  | .load T x => qcd T (ev env x)
  | .store T x y => qdq P T (ev env y) (ev env x)
  | .nilCheck x => ybn (ev env x)
  | .binOp op T x y _ => stBin P op T (ev env x) (ev env y)
  | .unOp op _ x => stUn op (ev env x)
  | .convert S T x => if qa5 x = true then ydr P S T (constStr x) s else qbk P S T (ev env x)
  | .makeFunc (.func f) first caps => if first = #[] ∧ (evs env caps).all zah = true then .ret (.fn f (evs env caps)) [] else .fail
  | .makeSlice T l c => zbt P T (ev env l) (ev env c) s
  | .slice T x lo hi mx => if (mx.isNone || hi.isSome) = true then zdr P T (ev env x) (lo.map (ev env)) (hi.map (ev env)) (mx.map (ev env)) else .fail
  | .fieldAddr T x i => if zab P T = .struct then ybe P T i (ev env x) else .fail
  | .field T x i => if zab P T = .struct then qcs P T i (ev env x) else .fail
  | .indexAddr T x i => ya3 P T (ev env x) (ev env i)
  | .index T x i => ycs P T (ev env x) (ev env i)
  | .extract x i => ybv i (ev env x)
  | .call { callee := .builtin b, args, argTypes } => qa3 P b argTypes.toList (evs env args) s
  | _ => .fail
def qa2 : Op → Bool
  | .alloc _ | .box _ _ | .buildSlice .. | .makeSlice .. => true
  | .convert _ _ x => qa5 x
  | .call { callee := .builtin .append, .. } => true
  | _ => false
end
end Go.Abs
set_option linter.all false
namespace Go.Abs
open Go
section
variable {P : Program}
def ER (P : Program) (c : Cx) (env : List (Nat × AV)) (tmps : Array Value) : Prop := ∀ t, VV P c (lk env t) (tmps.getD t undef)
def Done (P : Program) (c : Cx) (r : AV) (wr : List (Nat × Entry)) (v : Value) (w' : World) : Prop :=
  ∃ κ' : Nat → Option Nat, HR P ⟨κ', yay c.h wr, w'⟩ ∧ Ext c ⟨κ', yay c.h wr, w'⟩ ∧ VV P ⟨κ', yay c.h wr, w'⟩ r v
def ROK (P : Program) (c : Cx) (r : AV) (wr : List (Nat × Entry)) : Result Next → Prop
  | .ok (.value v) w' => Done P c r wr v w'
  | .ok .skip w' => Done P c r wr undef w'
  | _ => False
theorem zam {c : Cx} (hr : HR P c) {r : AV} {v : Value} (h : VV P c r v) : Done P c r [] v c.w := ⟨c.κ, hr, Ext.refl c, h⟩
theorem zao {c : Cx} {r : AV} {wr : List (Nat × Entry)} {s : Sem Value} {v : Value} {w' : World} (hs : s.run P c.w = .ok v w') (h : Done P c r wr v w') :
    ROK P c r wr ((do pure (Next.value (← s)) : Sem Next).run P c.w) := by
  simp only [Sem.run_bind, hs, Result.andThen_ok, Sem.run_pure, ROK]
  exact h
theorem rok_unit {c : Cx} {r : AV} {wr : List (Nat × Entry)} {s : Sem Unit} {w' : World} (hs : s.run P c.w = .ok () w') (h : Done P c r wr undef w') :
    ROK P c r wr ((do s; pure Next.skip : Sem Next).run P c.w) := by
  simp only [Sem.run_bind, hs, Result.andThen_ok, Sem.run_pure, ROK]
  exact h
theorem const_vv {c : Cx} (v : Value) : VV P c (qb7 v) v := by
  cases v with
  | pointer a => cases a <;> simp [qb7, VV, Rep, isAgg, Value.isAgg, Value.cells]
  | slice a l c =>
    cases a with
    | none =>
      by_cases h : l = 0 ∧ c = 0
      · obtain ⟨rfl, rfl⟩ := h
        simp [qb7, VV, Rep, isAgg, Value.isAgg, Value.cells]
      · simp only [qb7, if_neg h, VV]
    | some _ => simp [qb7, VV]
  | tuple vs =>
    by_cases h : vs = #[]
    · subst h
      simp only [qb7, if_true, VV]
      exact ⟨[], rfl, by simp only [ya2]⟩
    · simp only [qb7, if_neg h, VV]
  | _ => simp [qb7, VV, Rep, isAgg, Value.isAgg, Value.cells]
theorem za2 {c : Cx} {env : List (Nat × AV)} {a : Act} (he : ER P c env a.tmps) (x : Operand) : VV P c (ev env x) (a.eval x) := by
  cases x with
  | tmp t => exact he t
  | const v => exact const_vv v
  | func f => simp [ev, Act.eval, VV, Rep, isAgg, Value.isAgg, Value.cells, ya2, isY]
  | global g => simp [ev, VV]
theorem zbc {c : Cx} {k : IntKind} {n : Int} {v : Value} (h : VV P c (.int k n) v) : v = .int k n := by
  simp only [VV, Rep, isAgg] at h
  obtain ⟨h1, h2⟩ := h
  cases v <;> simp_all [Value.isAgg, Value.cells]
theorem ybs {c : Cx} {b : Bool} {v : Value} (h : VV P c (.bool b) v) : v = .bool b := by
  simp only [VV, Rep, isAgg] at h
  obtain ⟨h1, h2⟩ := h
  cases v <;> simp_all [Value.isAgg, Value.cells]
theorem qc5 {c : Cx} {b : ByteArray} {v : Value} (h : VV P c (.str b) v) : v = .string b := by
  simp only [VV, Rep, isAgg] at h
  obtain ⟨h1, h2⟩ := h
  cases v <;> simp_all [Value.isAgg, Value.cells]
theorem zb3 {c : Cx} {v : Value} (h : VV P c .nils v) : v = .slice none 0 0 := by
  simp only [VV, Rep, isAgg] at h
  obtain ⟨h1, h2⟩ := h
  cases v <;> simp_all [Value.isAgg, Value.cells]
theorem vv_agg {c : Cx} {T : TypeId} {vs : List AV} {v : Value} (h : VV P c (.agg T vs) v) : ∃ cs, v = .agg cs ∧ Rep P c (.agg T vs) cs.toList := by
  simp only [VV, isAgg] at h
  obtain ⟨h1, h2⟩ := h
  cases v <;> simp_all [Value.isAgg, Value.cells]
theorem vv_agg_mk {c : Cx} {T : TypeId} {vs : List AV} {cs : Array Value} (h : Rep P c (.agg T vs) cs.toList) : VV P c (.agg T vs) (.agg cs) := by
  simp only [VV, isAgg, Value.isAgg, Value.cells]
  exact ⟨trivial, h⟩
theorem zba {c : Cx} {a : AV} {v : Value} (ha : isAgg a = false) (ht : ∀ vs, a ≠ .tup vs) (hj : a ≠ .junk) : VV P c a v ↔ Value.isAgg v = false ∧ Rep P c a [v] := by
  have : ∀ v : Value, Value.isAgg v = false → v.cells.toList = [v] := by
    intro v hv
    cases v <;> simp_all [Value.isAgg, Value.cells]
  constructor
  · intro h
    have h' : isAgg a = Value.isAgg v ∧ Rep P c a v.cells.toList := by
      cases a <;> first | exact h | exact absurd rfl (ht _) | exact absurd rfl hj
    rw [ha] at h'
    exact ⟨h'.1.symm, by rw [← this v h'.1.symm]; exact h'.2⟩
  · intro h
    have h' : isAgg a = Value.isAgg v ∧ Rep P c a v.cells.toList := ⟨by rw [ha, h.1], by rw [this v h.1]; exact h.2⟩
    cases a <;> first | exact h' | exact absurd rfl (ht _) | exact absurd rfl hj
theorem ydx {c : Cx} {k : Nat} {p : List Nat} {T : TypeId} {v : Value} (h : VV P c (.ref k p T) v) :
    ∃ e b off, c.h[k]? = some e ∧ e.st ≠ .hole ∧ c.κ k = some b ∧ qbc P e.T p = some (T, off) ∧ v = .pointer (some ⟨b, off, none⟩) := by
  obtain ⟨_, h⟩ := (zba rfl (by simp) (by simp)).1 h
  simp only [Rep] at h
  obtain ⟨e, b, off, h1, h2, h3, h4, h5⟩ := h
  exact ⟨e, b, off, h1, h2, h3, h4, by simpa using h5⟩
theorem qdf {c : Cx} {k : Nat} {p : List Nat} {T : TypeId} {e : Entry} {b off : Nat} (h1 : c.h[k]? = some e) (h2 : e.st ≠ .hole) (h3 : c.κ k = some b)
    (h4 : qbc P e.T p = some (T, off)) : VV P c (.ref k p T) (.pointer (some ⟨b, off, none⟩)) :=
  (zba rfl (by simp) (by simp)).2 ⟨rfl, by simp only [Rep]; exact ⟨e, b, off, h1, h2, h3, h4, rfl⟩⟩
theorem vv_eref {c : Cx} {T : TypeId} {u : AV} {v : Value} (h : VV P c (.eref T u) v) :
    ∃ b off C Te m, v = .pointer (some ⟨b, off, none⟩) ∧ c.w.heap[b]? = some (.cells C Te m) ∧ ¬ c.O b ∧ yaz P u T ∧ Rep P c u ((C.toList.drop off).take (P.cellsOf T)) := by
  obtain ⟨_, h⟩ := (zba rfl (by simp) (by simp)).1 h
  simp only [Rep] at h
  obtain ⟨b, off, C, Te, m, h5, h⟩ := h
  exact ⟨b, off, C, Te, m, by simpa using h5, h⟩
theorem zdq {c : Cx} {T : TypeId} {u : AV} {b off : Nat} {C : Array Value} {Te : TypeId} {m : Nat × Nat} (h1 : c.w.heap[b]? = some (.cells C Te m)) (h2 : ¬ c.O b)
    (h3 : yaz P u T) (h4 : Rep P c u ((C.toList.drop off).take (P.cellsOf T))) : VV P c (.eref T u) (.pointer (some ⟨b, off, none⟩)) :=
  (zba rfl (by simp) (by simp)).2 ⟨rfl, by simp only [Rep]; exact ⟨b, off, C, Te, m, rfl, h1, h2, h3, h4⟩⟩
theorem zda {c : Cx} {T : TypeId} {es : List AV} {v : Value} (h : VV P c (.list T es) v) : ∃ a cap, v = .slice a es.length cap ∧ es.length ≤ cap ∧
      (es ≠ [] → ∃ b off C Te m, a = some ⟨b, off, none⟩ ∧ c.w.heap[b]? = some (.cells C Te m) ∧ ¬ c.O b ∧ qa0 P c es T (C.toList.drop off)) := by
  obtain ⟨_, h⟩ := (zba rfl (by simp) (by simp)).1 h
  simp only [Rep] at h
  obtain ⟨a, cap, h5, h⟩ := h
  exact ⟨a, cap, by simpa using h5, h⟩
theorem vv_list_mk {c : Cx} {T : TypeId} {es : List AV} {a : Option Addr} {n cap : Nat} (hn : n = es.length) (h1 : es.length ≤ cap)
    (h2 : es ≠ [] → ∃ b off C Te m, a = some ⟨b, off, none⟩ ∧ c.w.heap[b]? = some (.cells C Te m) ∧ ¬ c.O b ∧ qa0 P c es T (C.toList.drop off)) : VV P c (.list T es) (.slice a n cap) :=
  (zba rfl (by simp) (by simp)).2 ⟨rfl, by simp only [Rep]; exact ⟨a, cap, by rw [hn], h1, h2⟩⟩
theorem yby {c : Cx} {k : Nat} {p : List Nat} {T : TypeId} {fr n lo : Nat} {v : Value} (h : VV P c (.win k p T fr n lo) v) :
    ∃ e cap a, c.h[k]? = some e ∧ e.st ≠ .hole ∧ v = .slice a n cap ∧ lo ≤ cap ∧ n ≤ cap ∧ (p = [] → e.T = T) ∧
      (cap ≠ 0 → ∃ b off C m, c.κ k = some b ∧ zby P e.T p = some (T, off) ∧ c.w.heap[b]? = some (.cells C e.T m) ∧ (e.st = .own → mOK C m) ∧
        a = some ⟨b, off + fr * P.cellsOf T, none⟩ ∧ off + (fr + cap) * P.cellsOf T ≤ C.size ∧ ∀ l, ycr P e.T p = some l → fr + cap ≤ l) := by
  obtain ⟨_, h⟩ := (zba rfl (by simp) (by simp)).1 h
  simp only [Rep] at h
  obtain ⟨e, cap, a, h1, h2, h5, h⟩ := h
  exact ⟨e, cap, a, h1, h2, by simpa using h5, h⟩
theorem qbp {c : Cx} {k : Nat} {p : List Nat} {T : TypeId} {fr n lo cap : Nat} {a : Option Addr} {e : Entry} (h1 : c.h[k]? = some e) (h2 : e.st ≠ .hole) (h3 : lo ≤ cap) (h4 : n ≤ cap)
    (h5 : p = [] → e.T = T) (h6 : cap ≠ 0 → ∃ b off C m, c.κ k = some b ∧ zby P e.T p = some (T, off) ∧ c.w.heap[b]? = some (.cells C e.T m) ∧ (e.st = .own → mOK C m) ∧
        a = some ⟨b, off + fr * P.cellsOf T, none⟩ ∧ off + (fr + cap) * P.cellsOf T ≤ C.size ∧ ∀ l, ycr P e.T p = some l → fr + cap ≤ l) : VV P c (.win k p T fr n lo) (.slice a n cap) :=
  (zba rfl (by simp) (by simp)).2 ⟨rfl, by simp only [Rep]; exact ⟨e, cap, a, h1, h2, rfl, h3, h4, h5, h6⟩⟩
def mkV (P : Program) (T : TypeId) (cs : List Value) : Value :=
  match zab P T with
  | .struct => .agg cs.toArray
  | .arr _ _ => .agg cs.toArray
  | _ => cs.getD 0 undef
theorem zbv (hP : WF P) {c : Cx} {a : AV} {T : TypeId} {cs : List Value} (ht : yaz P a T) (h : Rep P c a cs) : VV P c a (mkV P T cs) := by
  have hl := yao hP ht h
  by_cases ha : isAgg a = true
  · cases a <;> simp [isAgg] at ha
    rename_i T' vs
    simp only [yaz] at ht
    subst ht
    have h' := h
    simp only [Rep] at h'
    have : mkV P T' cs = .agg cs.toArray := by
      unfold mkV
      cases hs : zab P T' <;> simp_all
    rw [this]
    exact vv_agg_mk (by simpa using h)
  · have hsc : yca (zab P T) = true := by
      cases a <;> simp only [yaz] at ht <;> simp_all [isAgg, yca]
      all_goals (obtain ⟨e, ht⟩ := ht; rw [ht])
    have h1 := hP.scalar hsc
    rw [h1] at hl
    match cs, hl with
    | [x], _ =>
      have hm : mkV P T [x] = x := by
        unfold mkV
        cases hs : zab P T <;> simp_all [yca]
      rw [hm]
      have hone := rep_one hP c a T [x] ht h x (by simp)
      refine (zba (by simpa using ha) (by rintro vs rfl; simp [yaz] at ht) (by rintro rfl; simp [yaz] at ht)).2 ⟨?_, h⟩
      cases x <;> simp_all [Value.isAgg, Value.oneCell']
theorem zbf {c : Cx} {a : AV} {T : TypeId} {v : Value} (ht : yaz P a T) (h : VV P c a v) : Rep P c a v.cells.toList := by
  cases a <;> first | exact h.2 | (simp [yaz] at ht)
theorem zbm (b o n : Nat) : (⟨b, o, none⟩ : Addr).add n = ⟨b, o + n, none⟩ := Addr.add_lit b o n
theorem qbl {w : World} {b off n : Nat} {C : Array Value} {T : TypeId} {m : Nat × Nat} (hb : w.heap[b]? = some (.cells C T m)) (hn : off + n ≤ C.size) :
    (loadCells ⟨b, off, none⟩ n).run P w = .ok ((C.toList.drop off).take n).toArray w := by
  have hl : ((C.toList.drop off).take n).length = n := by simp; omega
  have := run_loadCells_list (P := P) w ⟨b, off, none⟩ ((C.toList.drop off).take n) (fun j v hv => by
    rw [zbm, cell_of_row w b (off + j) C T m hb]
    rw [List.getElem?_take] at hv
    split at hv
    · rw [List.getElem?_drop] at hv
      simpa using hv
    · cases hv)
  rwa [hl] at this
theorem run_isAgg {T : TypeId} (h : zab P T ≠ .other) (w : World) : (Go.isAgg T).run P w = .ok (match zab P T with | .struct => true | .arr _ _ => true | _ => false) w := by
  unfold Go.isAgg
  have hu := zbh (P := P) (T := T) rfl h
  cases hd : P.underlying T with
  | none => rw [hd] at hu; simp [zcn] at hu; exact absurd hu.symm h
  | some d =>
    rw [hd] at hu
    rw [Sem.run_bind, run_underlying hd w]
    cases d <;> simp_all [zcn]
    all_goals first | (rw [← hu]) | skip
    all_goals first | rfl | (exact absurd hu.symm h)
theorem qak {T : TypeId} (h : zab P T ≠ .other) (w : World) : (sizeOf T).run P w = .ok (P.cellsOf T) w := by
  obtain ⟨i, hi⟩ := zbi h
  exact run_sizeOf (w := w) hi
theorem shape_of_ty {a : AV} {T : TypeId} (ht : yaz P a T) (ha : isAgg a = false) : yca (zab P T) = true := by
  cases a <;> simp only [yaz] at ht <;> simp_all [isAgg, yca]
  all_goals (obtain ⟨e, ht⟩ := ht; rw [ht])
theorem shape_ne {c : Cx} {a : AV} {T : TypeId} {cs : List Value} (ht : yaz P a T) (h : Rep P c a cs) : zab P T ≠ .other := by
  by_cases ha : isAgg a = true
  · cases a <;> simp [isAgg] at ha
    simp only [yaz] at ht
    subst ht
    simp only [Rep] at h
    intro hs
    rw [hs] at h
    exact h.2
  · have := shape_of_ty ht (by simpa using ha)
    intro hs
    rw [hs] at this
    simp [yca] at this
theorem run_loadVar (hP : WF P) {c : Cx} {b off : Nat} {C : Array Value} {Te T : TypeId} {m : Nat × Nat} {a : AV} (hb : c.w.heap[b]? = some (.cells C Te m)) (hn : off + P.cellsOf T ≤ C.size)
    (ht : yaz P a T) (h : Rep P c a ((C.toList.drop off).take (P.cellsOf T))) : (loadVar T ⟨b, off, none⟩).run P c.w = .ok (mkV P T ((C.toList.drop off).take (P.cellsOf T))) c.w := by
  have hs := shape_ne ht h
  unfold loadVar
  rw [Sem.run_bind, run_isAgg hs]
  simp only [Result.andThen_ok]
  cases hsh : zab P T with
  | struct =>
    simp only [if_true, Sem.run_bind, qak hs, Result.andThen_ok, qbl hb hn, Sem.run_pure, mkV, hsh]
  | arr n e =>
    simp only [if_true, Sem.run_bind, qak hs, Result.andThen_ok, qbl hb hn, Sem.run_pure, mkV, hsh]
  | other => exact absurd hsh hs
  | _ =>
    have h1 := hP.scalar (T := T) (by rw [hsh]; rfl)
    have hlt : off < C.size := by omega
    simp only [Bool.false_eq_true, if_false, run_load, cell_of_row c.w b off C Te m hb, mkV, hsh, h1]
    simp [List.take_one, List.head?_drop, hlt]
theorem ya8 {T : TypeId} {b off : Nat} : ∀ (vs : List Value) (i : Nat) (w : World) (C : Array Value) (m : Nat × Nat), w.heap[b]? = some (.cells C T m) → mOK C m → (∀ v ∈ vs, v.oneCell' = true) →
    off + i + vs.length ≤ C.size → (storeCells ⟨b, off, none⟩ vs i).run P w = .ok () (ya0 w b (.cells (zav C.toList (off + i) vs).toArray T m))
  | [], i, w, C, m, hb, _, _, _ => by
    simp only [storeCells, Sem.run_pure]
    congr 1
    have : (zav C.toList (off + i) []).toArray = C := by
      apply Array.ext'
      simp [zav]
    rw [this]
    unfold ya0
    have hlt := qag hb
    have : w.heap.setIfInBounds b (.cells C T m) = w.heap := by
      apply Array.ext_getElem?
      intro j
      rw [Array.getElem?_setIfInBounds]
      split
      · rename_i h
        subst h
        rw [hb]
      · rfl
    rw [this]
  | v :: vs, i, w, C, m, hb, hm, hone, hn => by
    have hlt : off + i < C.size := by simp at hn; omega
    have hv := hone v (by simp)
    have hcell : w.cell? ⟨b, off + i, none⟩ = some C[off + i] := by
      rw [cell_of_row w b _ C T _ hb]
      simp [hlt]
    simp only [storeCells, Sem.run_bind, zbm, run_store P w _ v _ hv, hcell]
    rw [show w.frozen? ⟨b, off + i, none⟩ = false by
      simp only [World.frozen?, hb]
      unfold mOK at hm
      simp only [Bool.and_eq_false_iff, decide_eq_false_iff_not]
      omega]
    simp only [Bool.false_eq_true, if_false, Result.andThen_ok]
    have hset : w.setCell ⟨b, off + i, none⟩ v = ya0 w b (.cells (C.setIfInBounds (off + i) v) T m) := by
      unfold World.setCell ya0
      congr 1
      apply Array.ext_getElem?
      intro j
      rw [Array.getElem?_modify, Array.getElem?_setIfInBounds]
      simp only
      split
      · rename_i h
        subst h
        rw [hb, if_pos (qag hb)]
        rfl
      · rfl
    rw [hset]
    have hb' : (ya0 w b (.cells (C.setIfInBounds (off + i) v) T m)).heap[b]? = some (.cells (C.setIfInBounds (off + i) v) T m) := zbb (qag hb)
    rw [ya8 vs (i + 1) _ _ m hb' (hm.size (by simp)) (fun x hx => hone x (by simp [hx])) (by simp at hn ⊢; omega)]
    congr 1
    unfold ya0
    simp only [Array.setIfInBounds_setIfInBounds]
    congr 3
    apply Array.ext'
    simp only [Array.toList_setIfInBounds]
    apply List.ext_getElem?
    intro j
    have h1 : off + (i + 1) + vs.length ≤ (C.toList.set (off + i) v).length := by simp at hn ⊢; omega
    have h2 : off + i + (v :: vs).length ≤ C.toList.length := by simpa using hn
    rw [splice_getElem? h1, splice_getElem? h2]
    simp only [List.length_cons]
    by_cases e1 : j < off + i
    · rw [if_pos (by omega), if_pos e1, List.getElem?_set_ne (by omega)]
    · by_cases e2 : j = off + i
      · subst e2
        rw [if_pos (by omega), if_neg (by omega), if_pos (by omega), List.getElem?_set_self (by simpa using hlt)]
        simp
      · by_cases e3 : j < off + (i + 1) + vs.length
        · rw [if_neg (by omega), if_pos e3, if_neg e1, if_pos (by omega)]
          rw [show j - (off + i) = (j - (off + (i + 1))) + 1 by omega]
          simp
        · rw [if_neg (by omega), if_neg e3, if_neg e1, if_neg (by omega), List.getElem?_set_ne (by omega)]
theorem cells_of_ty (hP : WF P) {c : Cx} {a : AV} {T : TypeId} {v : Value} (ht : yaz P a T) (h : VV P c a v) : v.cells.toList.length = P.cellsOf T ∧ ∀ x ∈ v.cells.toList, x.oneCell' = true :=
  ⟨yao hP ht (zbf ht h), rep_one hP c a T _ ht (zbf ht h)⟩
theorem run_storeVar (hP : WF P) {c : Cx} {b off : Nat} {C : Array Value} {Te T : TypeId} {a : AV} {v : Value} {m : Nat × Nat} (hb : c.w.heap[b]? = some (.cells C Te m)) (hm : mOK C m) (hn : off + P.cellsOf T ≤ C.size)
    (ht : yaz P a T) (h : VV P c a v) : (storeVar T ⟨b, off, none⟩ v).run P c.w = .ok () (ya0 c.w b (.cells (zav C.toList off v.cells.toList).toArray Te m)) := by
  obtain ⟨hl, hone⟩ := cells_of_ty hP ht h
  have hs := shape_ne ht (zbf ht h)
  unfold storeVar
  simp only [Sem.run_bind, qak hs, Result.andThen_ok]
  have hsz : v.cells.size = P.cellsOf T := by simpa using hl
  simp only [hsz, ne_eq, not_true_eq_false, if_false]
  have := ya8 (P := P) (T := Te) (b := b) (off := off) v.cells.toList 0 c.w C m hb hm hone (by omega)
  simpa using this
end
end Go.Abs
