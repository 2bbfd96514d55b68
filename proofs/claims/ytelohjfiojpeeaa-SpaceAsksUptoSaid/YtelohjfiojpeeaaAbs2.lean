/- Abs2: a part of the proofs about the tuple space (layer 8). -/
import Derived.Test.YtelohjfiojpeeaaAbs1
set_option linter.all false
namespace Go.Abs
open Go
section
variable {P : Program}

/-! ### Cells are single -/
theorem cover_fields {c : Cx} {lim : Nat} : ∀ {vs : List AV} {fs : List (TypeId × Nat)} {lo : Nat} {cs : List Value}, wfFs P lim fs lo = true →
    (∀ (i : Nat) (v : AV) (f : TypeId × Nat), vs[i]? = some v → fs[i]? = some f → ∀ x ∈ (cs.drop f.2).take (P.cellsOf f.1), x.oneCell' = true) →
    RepF P c vs fs cs → ∀ j x, lo ≤ j → j < lim → cs[j]? = some x → x.oneCell' = true
  | [], fs, lo, cs, hw, _, h, j, x, h1, h2, _ => by
    simp only [RepF] at h
    subst h
    simp only [wfFs, beq_iff_eq] at hw
    omega
  | v :: vs, fs, lo, cs, hw, hall, h, j, x, h1, h2, hx => by
    simp only [RepF] at h
    obtain ⟨f, r, rfl, ht, hv, hr⟩ := h
    simp only [wfFs, Bool.and_eq_true, beq_iff_eq] at hw
    by_cases hj : j < f.2 + P.cellsOf f.1
    · refine hall 0 v f rfl rfl x ?_
      refine List.mem_of_getElem? (i := j - f.2) ?_
      rw [List.getElem?_take, if_pos (by omega), List.getElem?_drop, ← hx]
      congr 1; omega
    · exact cover_fields hw.2 (fun i v f hv hf => hall (i + 1) v f (by simpa using hv) (by simpa using hf)) hr j x (by omega) h2 hx

mutual
theorem rep_one (hP : WF P) (c : Cx) : ∀ (a : AV) (T : TypeId) (cs : List Value), tyOK P a T → Rep P c a cs → ∀ x ∈ cs, x.oneCell' = true
  | .int k n, T, cs, _, h, x, hx => by simp only [Rep] at h; subst h; simp at hx; subst hx; rfl
  | .bool b, T, cs, _, h, x, hx => by simp only [Rep] at h; subst h; simp at hx; subst hx; rfl
  | .str s, T, cs, _, h, x, hx => by simp only [Rep] at h; subst h; simp at hx; subst hx; rfl
  | .agg T' vs, T, cs, _, h, x, hx => by
    simp only [Rep] at h
    obtain ⟨hl, h⟩ := h
    obtain ⟨j, hj, rfl⟩ := List.mem_iff_getElem.1 hx
    split at h
    · rename_i hs
      exact cover_fields (hP.fields hs) (fun i v f hv hf => rep_oneF hP c vs (fieldsT P T') cs h i v f hv hf) h j _ (Nat.zero_le _) (by omega) (List.getElem?_eq_getElem hj)
    · rename_i n e hs
      have ha := hP.arr hs
      have h0 : 0 < P.cellsOf e := by
        rcases Nat.eq_zero_or_pos (P.cellsOf e) with h0 | h0
        · rw [h0] at ha; omega
        · exact h0
      have hd : j / P.cellsOf e < vs.length := by
        rw [h.1]
        exact Nat.div_lt_of_lt_mul (by rw [Nat.mul_comm]; omega)
      refine rep_oneE hP c vs e cs h.2 (j / P.cellsOf e) _ (List.getElem?_eq_getElem hd) _ ?_
      refine List.mem_of_getElem? (i := j % P.cellsOf e) ?_
      rw [List.getElem?_take, if_pos (Nat.mod_lt _ h0), List.getElem?_drop]
      rw [show j / P.cellsOf e * P.cellsOf e + j % P.cellsOf e = j by rw [Nat.mul_comm]; exact Nat.div_add_mod _ _]
      exact List.getElem?_eq_getElem hj
    · exact h.elim
  | .list T' es, T, cs, _, h, x, hx => by simp only [Rep] at h; obtain ⟨_, _, rfl, _⟩ := h; simp at hx; subst hx; rfl
  | .win .., T, cs, _, h, x, hx => by simp only [Rep] at h; obtain ⟨_, _, _, _, _, rfl, _⟩ := h; simp at hx; subst hx; rfl
  | .ref .., T, cs, _, h, x, hx => by simp only [Rep] at h; obtain ⟨_, _, _, _, _, _, _, rfl⟩ := h; simp at hx; subst hx; rfl
  | .eref .., T, cs, _, h, x, hx => by simp only [Rep] at h; obtain ⟨_, _, _, _, _, rfl, _⟩ := h; simp at hx; subst hx; rfl
  | .nilptr, T, cs, _, h, x, hx => by simp only [Rep] at h; subst h; simp at hx; subst hx; rfl
  | .fn .., T, cs, _, h, x, hx => by simp only [Rep] at h; obtain ⟨_, rfl, _⟩ := h; simp at hx; subst hx; rfl
  | .nilfn, T, cs, _, h, x, hx => by simp only [Rep] at h; subst h; simp at hx; subst hx; rfl
  | .nils, T, cs, _, h, x, hx => by simp only [Rep] at h; subst h; simp at hx; subst hx; rfl
  | .tup _, T, cs, _, h, x, hx => by simp only [Rep] at h
  | .junk, T, cs, _, h, x, hx => by simp only [Rep] at h
theorem rep_oneF (hP : WF P) (c : Cx) : ∀ (vs : List AV) (fs : List (TypeId × Nat)) (cs : List Value), RepF P c vs fs cs →
    ∀ (i : Nat) (v : AV) (f : TypeId × Nat), vs[i]? = some v → fs[i]? = some f → ∀ x ∈ (cs.drop f.2).take (P.cellsOf f.1), x.oneCell' = true
  | [], fs, cs, _, i, v, f, hv, _, x, _ => by simp at hv
  | u :: vs, fs, cs, h, i, v, f, hv, hf, x, hx => by
    simp only [RepF] at h
    obtain ⟨g, r, rfl, h1, h2, h3⟩ := h
    cases i with
    | zero =>
      simp only [List.getElem?_cons_zero, Option.some.injEq] at hv hf
      subst hf
      exact rep_one hP c u _ _ h1 h2 x hx
    | succ i => exact rep_oneF hP c vs r cs h3 i v f (by simpa using hv) (by simpa using hf) x hx
theorem rep_oneE (hP : WF P) (c : Cx) : ∀ (vs : List AV) (T : TypeId) (cs : List Value), RepE P c vs T cs →
    ∀ (i : Nat) (v : AV), vs[i]? = some v → ∀ x ∈ (cs.drop (i * P.cellsOf T)).take (P.cellsOf T), x.oneCell' = true
  | [], T, cs, _, i, v, hv, x, _ => by simp at hv
  | u :: vs, T, cs, h, i, v, hv, x, hx => by
    simp only [RepE] at h
    cases i with
    | zero => exact rep_one hP c u _ _ h.1 h.2.1 x (by simpa using hx)
    | succ i =>
      refine rep_oneE hP c vs T _ h.2.2 i v (by simpa using hv) x ?_
      rw [List.drop_drop]
      rwa [show P.cellsOf T + i * P.cellsOf T = (i + 1) * P.cellsOf T by rw [Nat.add_mul]; omega]
end

/-! ### A context that has grown -/
structure Ext (c c' : Cx) : Prop where
  os : c'.w.os = c.w.os
  tape : c'.w.tape = c.w.tape
  output : c'.w.output = c.w.output
  size : c.w.heap.size ≤ c'.w.heap.size
  frozen : ∀ b, b < c.w.heap.size → ¬ c.O b → c'.w.heap[b]? = c.w.heap[b]?
  shape : ∀ (b : Nat) (C : Array Value) (T : TypeId) (m : Nat × Nat), c.w.heap[b]? = some (.cells C T m) → ∃ (C' : Array Value) (m' : Nat × Nat), c'.w.heap[b]? = some (.cells C' T m') ∧ C'.size = C.size ∧ (m = (0, 0) → m' = (0, 0))
  own : ∀ b, b < c.w.heap.size → c'.O b → c.O b
  names : ∀ k e, c.h[k]? = some e → e.st ≠ .hole → c'.κ k = c.κ k ∧ ∃ e', c'.h[k]? = some e' ∧ e'.T = e.T ∧ e'.st ≠ .hole ∧ (e'.st = .own → e.st = .own)

theorem Ext.refl (c : Cx) : Ext c c :=
  ⟨rfl, rfl, rfl, Nat.le_refl _, fun _ _ _ => rfl, fun _ C _ m h => ⟨C, m, h, rfl, id⟩, fun _ _ h => h, fun _ e h hn => ⟨rfl, e, h, rfl, hn, id⟩⟩

theorem Ext.trans {a b c : Cx} (x : Ext a b) (y : Ext b c) : Ext a c where
  os := y.os.trans x.os
  tape := y.tape.trans x.tape
  output := y.output.trans x.output
  size := Nat.le_trans x.size y.size
  frozen k hk hn := (y.frozen k (Nat.lt_of_lt_of_le hk x.size) (fun h => hn (x.own k hk h))).trans (x.frozen k hk hn)
  shape b C T m h := by
    obtain ⟨C1, m1, h1, e1, f1⟩ := x.shape b C T m h
    obtain ⟨C2, m2, h2, e2, f2⟩ := y.shape b C1 T m1 h1
    exact ⟨C2, m2, h2, e2.trans e1, fun hm => f2 (f1 hm)⟩
  own k hk h := x.own k hk (y.own k (Nat.lt_of_lt_of_le hk x.size) h)
  names k e h hn := by
    obtain ⟨h1, e1, h2, h3, h4, g4⟩ := x.names k e h hn
    obtain ⟨h5, e2, h6, h7, h8, g8⟩ := y.names k e1 h2 h4
    exact ⟨h5.trans h1, e2, h6, h7.trans h3, h8, fun ho => g4 (g8 ho)⟩

theorem lt_of_heap {w : World} {b : Nat} {o : Obj} (h : w.heap[b]? = some o) : b < w.heap.size := (Array.getElem?_eq_some_iff.1 h).1

mutual
theorem rep_mono {c c' : Cx} (x : Ext c c') : ∀ (a : AV) (cs : List Value), Rep P c a cs → Rep P c' a cs
  | .int k n, cs, h => by simpa only [Rep] using h
  | .bool b, cs, h => by simpa only [Rep] using h
  | .str s, cs, h => by simpa only [Rep] using h
  | .agg T vs, cs, h => by
    simp only [Rep] at h ⊢
    refine ⟨h.1, ?_⟩
    have h2 := h.2
    split at h2
    · exact repF_mono x _ _ _ h2
    · exact ⟨h2.1, repE_mono x _ _ _ h2.2⟩
    · exact h2.elim
  | .list T es, cs, h => by
    simp only [Rep] at h ⊢
    obtain ⟨a, cap, rfl, hc, h⟩ := h
    refine ⟨a, cap, rfl, hc, fun hne => ?_⟩
    obtain ⟨b, off, C, Te, m, ha, hb, hO, hr⟩ := h hne
    have hlt := lt_of_heap hb
    exact ⟨b, off, C, Te, m, ha, (x.frozen b hlt hO).trans hb, fun h => hO (x.own b hlt h), repE_mono x _ _ _ hr⟩
  | .win k p T fr n lo, cs, h => by
    simp only [Rep] at h ⊢
    obtain ⟨e, cap, a, he, hne, rfl, h1, h2, h3, h4⟩ := h
    obtain ⟨hk, e', he', hT, hne', hst⟩ := x.names k e he hne
    refine ⟨e', cap, a, he', hne', rfl, h1, h2, by rw [hT]; exact h3, fun hc => ?_⟩
    obtain ⟨b, off, C, m, g1, g2, g3, g4, g5, g6, g7⟩ := h4 hc
    obtain ⟨C', m', hb', hs, hm⟩ := x.shape _ _ _ _ g3
    exact ⟨b, off, C', m', by rw [hk]; exact g1, by rw [hT]; exact g2, by rw [hT]; exact hb', fun ho => hm (g4 (hst ho)), g5, by rw [hs]; exact g6, by rw [hT]; exact g7⟩
  | .ref k p T, cs, h => by
    simp only [Rep] at h ⊢
    obtain ⟨e, b, off, he, hne, hb, hr, rfl⟩ := h
    obtain ⟨hk, e', he', hT, hne', _⟩ := x.names k e he hne
    exact ⟨e', b, off, he', hne', by rw [hk]; exact hb, by rw [hT]; exact hr, rfl⟩
  | .eref T v, cs, h => by
    simp only [Rep] at h ⊢
    obtain ⟨b, off, C, Te, m, rfl, hb, hO, ht, hr⟩ := h
    have hlt := lt_of_heap hb
    exact ⟨b, off, C, Te, m, rfl, (x.frozen b hlt hO).trans hb, fun h => hO (x.own b hlt h), ht, rep_mono x _ _ hr⟩
  | .nilptr, cs, h => by simpa only [Rep] using h
  | .fn f caps, cs, h => by
    simp only [Rep] at h ⊢
    obtain ⟨vs, rfl, hv⟩ := h
    exact ⟨vs, rfl, repV_mono x _ _ hv⟩
  | .nilfn, cs, h => by simpa only [Rep] using h
  | .nils, cs, h => by simpa only [Rep] using h
  | .tup _, cs, h => by simp only [Rep] at h
  | .junk, cs, h => by simp only [Rep] at h
theorem repF_mono {c c' : Cx} (x : Ext c c') : ∀ (vs : List AV) (fs : List (TypeId × Nat)) (cs : List Value), RepF P c vs fs cs → RepF P c' vs fs cs
  | [], fs, cs, h => by simpa only [RepF] using h
  | v :: vs, fs, cs, h => by
    simp only [RepF] at h ⊢
    obtain ⟨f, r, rfl, h1, h2, h3⟩ := h
    exact ⟨f, r, rfl, h1, rep_mono x _ _ h2, repF_mono x _ _ _ h3⟩
theorem repE_mono {c c' : Cx} (x : Ext c c') : ∀ (vs : List AV) (T : TypeId) (cs : List Value), RepE P c vs T cs → RepE P c' vs T cs
  | [], T, cs, h => by simp only [RepE]
  | v :: vs, T, cs, h => by
    simp only [RepE] at h ⊢
    exact ⟨h.1, rep_mono x _ _ h.2.1, repE_mono x _ _ _ h.2.2⟩
theorem repV_mono {c c' : Cx} (x : Ext c c') : ∀ (as : List AV) (vs : List Value), RepV P c as vs → RepV P c' as vs
  | [], vs, h => by simpa only [RepV] using h
  | a :: as, vs, h => by
    simp only [RepV] at h ⊢
    obtain ⟨v, r, rfl, h1, h2, h3⟩ := h
    exact ⟨v, r, rfl, h1, rep_mono x _ _ h2, repV_mono x _ _ h3⟩
end

theorem vv_mono {c c' : Cx} (x : Ext c c') {a : AV} {v : Value} (h : VV P c a v) : VV P c' a v := by
  cases a <;> simp only [VV] at h ⊢
  case tup vs => obtain ⟨l, rfl, hl⟩ := h; exact ⟨l, rfl, repV_mono x _ _ hl⟩
  all_goals exact ⟨h.1, rep_mono x _ _ h.2⟩

/-! ### The heap's relation -/
def Live (e : Entry) : Prop := e.st = .own ∨ e.st = .fz

/-- What an entry owes: its block (or it is an own row that is nil). -/
def Blk (P : Program) (c : Cx) (k : Nat) (e : Entry) : Prop :=
  (e.st = .own ∧ e.es = [] ∧ c.κ k = none) ∨
  ∃ b C m, c.κ k = some b ∧ c.w.heap[b]? = some (.cells C e.T m) ∧ (e.st = .own → m = (0, 0)) ∧ (e.st = .fz → ¬ c.O b) ∧
    e.es.length * P.cellsOf e.T ≤ C.size ∧ RepE P c e.es e.T C.toList

structure HR (P : Program) (c : Cx) : Prop where
  blk : ∀ k e, c.h[k]? = some e → Live e → Blk P c k e
  apart : ∀ k k' e e' b, c.h[k]? = some e → c.h[k']? = some e' → e.st = .own → e'.st = .own → c.κ k = some b → c.κ k' = some b → k = k'

theorem HR.block {c : Cx} (h : HR P c) {k : Nat} {e : Entry} (he : c.h[k]? = some e) (hl : Live e) {b : Nat} (hb : c.κ k = some b) :
    ∃ C m, c.w.heap[b]? = some (.cells C e.T m) ∧ (e.st = .own → m = (0, 0)) ∧ (e.st = .fz → ¬ c.O b) ∧ e.es.length * P.cellsOf e.T ≤ C.size ∧ RepE P c e.es e.T C.toList := by
  rcases h.blk k e he hl with ⟨_, _, h3⟩ | ⟨b', C, m, h1, h2⟩
  · rw [h3] at hb; cases hb
  · rw [h1] at hb; cases hb; exact ⟨C, m, h2⟩

theorem Cx.O.lt {c : Cx} (h : HR P c) {b : Nat} (hb : c.O b) : b < c.w.heap.size := by
  obtain ⟨k, e, he, hs, hk⟩ := hb
  obtain ⟨C, m, hc, _⟩ := h.block he (.inl hs) hk
  exact lt_of_heap hc

/-- An entry whose block has not turned holds what it held. -/
theorem Blk.keep {c c' : Cx} (x : Ext c c') {k : Nat} {e : Entry} (h : Blk P c k e) (hk : c'.κ k = c.κ k) (hb : ∀ b, c.κ k = some b → c'.w.heap[b]? = c.w.heap[b]?)
    (hO : ∀ b, c.κ k = some b → e.st = .fz → ¬ c'.O b) : Blk P c' k e := by
  rcases h with ⟨h1, h2, h3⟩ | ⟨b, C, m, h0, h1, h2, h3, h4, h5⟩
  · exact .inl ⟨h1, h2, by rw [hk]; exact h3⟩
  · exact .inr ⟨b, C, m, by rw [hk]; exact h0, by rw [hb b h0]; exact h1, h2, hO b h0, h4, repE_mono x _ _ _ h5⟩

/-! ### The elementary turns -/
/-- A world in which block b alone is another. -/
def putBlk (w : World) (b : Nat) (o : Obj) : World := { w with heap := w.heap.setIfInBounds b o }

theorem putBlk_same {w : World} {b : Nat} {o : Obj} (h : b < w.heap.size) : (putBlk w b o).heap[b]? = some o := by simp [putBlk, h]
theorem putBlk_other {w : World} {b b' : Nat} {o : Obj} (h : b' ≠ b) : (putBlk w b o).heap[b']? = w.heap[b']? := by
  simp only [putBlk]
  rw [Array.getElem?_setIfInBounds_ne (by omega)]
theorem putBlk_size {w : World} {b : Nat} {o : Obj} : (putBlk w b o).heap.size = w.heap.size := by simp [putBlk]

def drewN (w : World) (n : Nat) : World := { w with drawn := w.drawn + n }

/-- Draws turn nothing. -/
theorem ext_drew {c : Cx} (n : Nat) : Ext c { c with w := drewN c.w n } :=
  ⟨rfl, rfl, rfl, Nat.le_refl _, fun _ _ _ => rfl, fun _ C _ m h => ⟨C, m, h, rfl, id⟩, fun _ _ h => h, fun _ e h hn => ⟨rfl, e, h, rfl, hn, id⟩⟩

theorem Blk.fz {c : Cx} {k : Nat} {e : Entry} (h : Blk P c k e) {b : Nat} (hb : c.κ k = some b) (hf : e.st = .fz) : ¬ c.O b := by
  rcases h with ⟨_, _, h3⟩ | ⟨b', C, m, h0, h1, h2, h3, h4, h5⟩
  · rw [h3] at hb; cases hb
  · rw [h0] at hb; cases hb; exact h3 hf

theorem hr_drew {c : Cx} (h : HR P c) (n : Nat) : HR P { c with w := drewN c.w n } where
  blk k e he hl := (h.blk k e he hl).keep (ext_drew n) rfl (fun _ _ => rfl) (fun b hb hf => (h.blk k e he hl).fz hb hf)
  apart := h.apart

/-- Holes more at the end. -/
def holes (m : Nat) : List Entry := List.replicate m ⟨0, [], .hole⟩

theorem get_holes {h : List Entry} {m k : Nat} {e : Entry} (hk : (h ++ holes m)[k]? = some e) (hn : e.st ≠ .hole) : h[k]? = some e := by
  rw [List.getElem?_append] at hk
  split at hk
  · exact hk
  · unfold holes at hk
    rw [List.getElem?_replicate] at hk
    split at hk
    · cases hk; exact absurd rfl hn
    · cases hk

theorem O_holes {c : Cx} {m : Nat} {b : Nat} : Cx.O { c with h := c.h ++ holes m } b ↔ c.O b := by
  constructor
  · rintro ⟨k, e, he, hs, hk⟩
    exact ⟨k, e, get_holes he (by rw [hs]; simp), hs, hk⟩
  · rintro ⟨k, e, he, hs, hk⟩
    exact ⟨k, e, by rw [List.getElem?_append_left (List.getElem?_eq_some_iff.1 he).1]; exact he, hs, hk⟩

theorem ext_holes {c : Cx} (m : Nat) : Ext c { c with h := c.h ++ holes m } :=
  ⟨rfl, rfl, rfl, Nat.le_refl _, fun _ _ _ => rfl, fun _ C _ m h => ⟨C, m, h, rfl, id⟩, fun _ _ h => O_holes.1 h,
    fun _ e h hn => ⟨rfl, e, by rw [List.getElem?_append_left (List.getElem?_eq_some_iff.1 h).1]; exact h, rfl, hn, id⟩⟩

theorem hr_holes {c : Cx} (h : HR P c) (m : Nat) : HR P { c with h := c.h ++ holes m } where
  blk k e he hl := by
    have he' := get_holes he (by rcases hl with h | h <;> rw [h] <;> simp)
    exact (h.blk k e he' hl).keep (ext_holes m) rfl (fun _ _ => rfl) fun b hb hf hO => (h.blk k e he' hl).fz hb hf (O_holes.1 hO)
  apart k k' e e' b he he' hs hs' := h.apart k k' e e' b (get_holes he (by rw [hs]; simp)) (get_holes he' (by rw [hs']; simp)) hs hs'

theorem set_get {α : Type} {l : List α} {s k : Nat} {x y : α} (h : (l.set s x)[k]? = some y) : (k = s ∧ y = x ∧ s < l.length) ∨ (k ≠ s ∧ l[k]? = some y) := by
  by_cases hk : k = s
  · subst hk
    by_cases hl : k < l.length
    · rw [List.getElem?_set_self hl] at h
      cases h
      exact .inl ⟨rfl, rfl, hl⟩
    · rw [List.getElem?_eq_none (by simp; omega)] at h
      cases h
  · rw [List.getElem?_set_ne (by omega)] at h
    exact .inr ⟨hk, h⟩

/-- A new block, in a hole. -/
def allocCx (c : Cx) (s : Nat) (T : TypeId) (es : List AV) (C : Array Value) : Cx :=
  { κ := fun k => if k = s then some c.w.heap.size else c.κ k, h := c.h.set s ⟨T, es, .own⟩, w := c.w.alloc (.cells C T) }

theorem O_alloc {c : Cx} {s : Nat} {T : TypeId} {es : List AV} {C : Array Value} {e0 : Entry} (hs : c.h[s]? = some e0) (h0 : e0.st = .hole) {b : Nat} :
    (allocCx c s T es C).O b ↔ c.O b ∨ b = c.w.heap.size := by
  have hl := (List.getElem?_eq_some_iff.1 hs).1
  constructor
  · rintro ⟨k, e, he, hst, hk⟩
    rcases set_get he with ⟨rfl, rfl, _⟩ | ⟨hne, he⟩
    · exact .inr (by simpa [allocCx] using hk.symm)
    · exact .inl ⟨k, e, he, hst, by simpa [allocCx, hne] using hk⟩
  · rintro (⟨k, e, he, hst, hk⟩ | rfl)
    · have hne : k ≠ s := by rintro rfl; rw [hs] at he; cases he; rw [h0] at hst; cases hst
      exact ⟨k, e, by simp only [allocCx]; rw [List.getElem?_set_ne (by omega)]; exact he, hst, by simpa [allocCx, hne] using hk⟩
    · exact ⟨s, ⟨T, es, .own⟩, by simp only [allocCx]; rw [List.getElem?_set_self hl], rfl, by simp [allocCx]⟩

theorem ext_alloc {c : Cx} {s : Nat} {T : TypeId} {es : List AV} {C : Array Value} {e0 : Entry} (hs : c.h[s]? = some e0) (h0 : e0.st = .hole) : Ext c (allocCx c s T es C) where
  os := rfl
  tape := rfl
  output := rfl
  size := by simp [allocCx]
  frozen b hb _ := heap_alloc_old _ _ _ hb
  shape b C T m h := ⟨C, m, (heap_alloc_old _ _ _ (lt_of_heap h)).trans h, rfl, id⟩
  own b hb h := ((O_alloc hs h0).1 h).resolve_right (by omega)
  names k e he hn := by
    have hne : k ≠ s := by rintro rfl; rw [hs] at he; cases he; exact hn h0
    exact ⟨by simp [allocCx, hne], e, by simp only [allocCx]; rw [List.getElem?_set_ne (by omega)]; exact he, rfl, hn, id⟩

theorem hr_alloc {c : Cx} (hr : HR P c) {s : Nat} {T : TypeId} {es : List AV} {C : Array Value} {e0 : Entry} (hs : c.h[s]? = some e0) (h0 : e0.st = .hole)
    (hl : es.length * P.cellsOf T ≤ C.size) (hes : RepE P c es T C.toList) : HR P (allocCx c s T es C) where
  blk k e he hlv := by
    have x := ext_alloc (T := T) (es := es) (C := C) hs h0
    rcases set_get he with ⟨rfl, rfl, _⟩ | ⟨hne, he⟩
    · refine .inr ⟨c.w.heap.size, C, (0, 0), by simp [allocCx], heap_alloc_new _ _, fun _ => rfl, fun h => (by cases h), hl, repE_mono x _ _ _ hes⟩
    · have hb := hr.blk k e he hlv
      have hlt : ∀ b, c.κ k = some b → b < c.w.heap.size := fun b hbk => by
        obtain ⟨C1, m1, h1, _⟩ := hr.block he hlv hbk
        exact lt_of_heap h1
      refine hb.keep x (by simp [allocCx, hne]) (fun b hbk => heap_alloc_old _ _ _ (hlt b hbk)) fun b hbk hf hO => ?_
      rcases (O_alloc hs h0).1 hO with hO | hO
      · exact hb.fz hbk hf hO
      · have := hlt b hbk; omega
  apart k k' e e' b he he' hst hst' hk hk' := by
    by_cases h1 : k = s
    · by_cases h2 : k' = s
      · rw [h1, h2]
      · rcases set_get he' with ⟨h3, _, _⟩ | ⟨_, he'⟩
        · exact absurd h3 h2
        · simp only [allocCx, h1, if_true, Option.some.injEq] at hk
          simp only [allocCx, h2, if_false] at hk'
          obtain ⟨_, _, h5, _⟩ := hr.block he' (.inl hst') hk'
          have := lt_of_heap h5
          omega
    · rcases set_get he with ⟨h3, _, _⟩ | ⟨_, he⟩
      · exact absurd h3 h1
      · simp only [allocCx, h1, if_false] at hk
        by_cases h2 : k' = s
        · simp only [allocCx, h2, if_true, Option.some.injEq] at hk'
          obtain ⟨_, _, h5, _⟩ := hr.block he (.inl hst) hk
          have := lt_of_heap h5
          omega
        · rcases set_get he' with ⟨h3, _, _⟩ | ⟨_, he'⟩
          · exact absurd h3 h2
          · simp only [allocCx, h2, if_false] at hk'
            exact hr.apart k k' e e' b he he' hst hst' hk hk'

/-- A nil row, in a hole: no block. -/
def ghostCx (c : Cx) (s : Nat) (T : TypeId) : Cx :=
  { κ := fun k => if k = s then none else c.κ k, h := c.h.set s ⟨T, [], .own⟩, w := c.w }

theorem O_ghost {c : Cx} {s : Nat} {T : TypeId} {e0 : Entry} (hs : c.h[s]? = some e0) (h0 : e0.st = .hole) {b : Nat} : (ghostCx c s T).O b ↔ c.O b := by
  constructor
  · rintro ⟨k, e, he, hst, hk⟩
    rcases set_get he with ⟨rfl, rfl, _⟩ | ⟨hne, he⟩
    · simp [ghostCx] at hk
    · exact ⟨k, e, he, hst, by simpa [ghostCx, hne] using hk⟩
  · rintro ⟨k, e, he, hst, hk⟩
    have hne : k ≠ s := by rintro rfl; rw [hs] at he; cases he; rw [h0] at hst; cases hst
    exact ⟨k, e, by simp only [ghostCx]; rw [List.getElem?_set_ne (by omega)]; exact he, hst, by simpa [ghostCx, hne] using hk⟩

theorem ext_ghost {c : Cx} {s : Nat} {T : TypeId} {e0 : Entry} (hs : c.h[s]? = some e0) (h0 : e0.st = .hole) : Ext c (ghostCx c s T) where
  os := rfl
  tape := rfl
  output := rfl
  size := Nat.le_refl _
  frozen b hb _ := rfl
  shape b C T m h := ⟨C, m, h, rfl, id⟩
  own b hb h := (O_ghost hs h0).1 h
  names k e he hn := by
    have hne : k ≠ s := by rintro rfl; rw [hs] at he; cases he; exact hn h0
    exact ⟨by simp [ghostCx, hne], e, by simp only [ghostCx]; rw [List.getElem?_set_ne (by omega)]; exact he, rfl, hn, id⟩

theorem hr_ghost {c : Cx} (hr : HR P c) {s : Nat} {T : TypeId} {e0 : Entry} (hs : c.h[s]? = some e0) (h0 : e0.st = .hole) : HR P (ghostCx c s T) where
  blk k e he hlv := by
    have x := ext_ghost (T := T) hs h0
    rcases set_get he with ⟨rfl, rfl, _⟩ | ⟨hne, he⟩
    · exact .inl ⟨rfl, rfl, by simp [ghostCx]⟩
    · exact (hr.blk k e he hlv).keep x (by simp [ghostCx, hne]) (fun _ _ => rfl) fun b hbk hf hO => (hr.blk k e he hlv).fz hbk hf ((O_ghost hs h0).1 hO)
  apart k k' e e' b he he' hst hst' hk hk' := by
    have h1 : k ≠ s := by rintro rfl; simp [ghostCx] at hk
    have h2 : k' ≠ s := by rintro rfl; simp [ghostCx] at hk'
    simp only [ghostCx, h1, if_false] at hk
    simp only [ghostCx, h2, if_false] at hk'
    rcases set_get he with ⟨h3, _, _⟩ | ⟨_, he⟩
    · exact absurd h3 h1
    · rcases set_get he' with ⟨h3, _, _⟩ | ⟨_, he'⟩
      · exact absurd h3 h2
      · exact hr.apart k k' e e' b he he' hst hst' hk hk'

/-- An own block written. -/
def writeCx (c : Cx) (k b : Nat) (e : Entry) (es : List AV) (C : Array Value) : Cx :=
  { κ := c.κ, h := c.h.set k { e with es := es }, w := putBlk c.w b (.cells C e.T) }

theorem O_write {c : Cx} {k b0 : Nat} {e : Entry} {es : List AV} {C : Array Value} (hk : c.h[k]? = some e) {b : Nat} : (writeCx c k b0 e es C).O b ↔ c.O b := by
  have hl := (List.getElem?_eq_some_iff.1 hk).1
  constructor
  · rintro ⟨j, e', he, hst, hj⟩
    rcases set_get he with ⟨rfl, rfl, _⟩ | ⟨hne, he⟩
    · exact ⟨j, e, hk, hst, hj⟩
    · exact ⟨j, e', he, hst, hj⟩
  · rintro ⟨j, e', he, hst, hj⟩
    by_cases hjk : j = k
    · subst hjk
      rw [hk] at he
      cases he
      exact ⟨j, { e with es := es }, by simp only [writeCx]; rw [List.getElem?_set_self hl], hst, hj⟩
    · exact ⟨j, e', by simp only [writeCx]; rw [List.getElem?_set_ne (by omega)]; exact he, hst, hj⟩

theorem ext_write {c : Cx} {k b0 : Nat} {e : Entry} {es : List AV} {C C0 : Array Value} (hk : c.h[k]? = some e) (ho : e.st = .own) (hb0 : c.κ k = some b0)
    (hc : c.w.heap[b0]? = some (.cells C0 e.T (0, 0))) (hs : C.size = C0.size) : Ext c (writeCx c k b0 e es C) where
  os := rfl
  tape := rfl
  output := rfl
  size := by simp [writeCx, putBlk]
  frozen b hb hO := putBlk_other (by rintro rfl; exact hO ⟨k, e, hk, ho, hb0⟩)
  shape b C1 T m h := by
    by_cases hb : b = b0
    · subst hb
      rw [hc] at h
      cases h
      exact ⟨C, (0, 0), putBlk_same (lt_of_heap hc), hs, id⟩
    · exact ⟨C1, m, (putBlk_other hb).trans h, rfl, id⟩
  own b hb h := (O_write hk).1 h
  names j e' he hn := by
    by_cases hj : j = k
    · subst hj
      rw [hk] at he
      cases he
      exact ⟨rfl, { e with es := es }, by simp only [writeCx]; rw [List.getElem?_set_self (List.getElem?_eq_some_iff.1 hk).1], rfl, hn, id⟩
    · exact ⟨rfl, e', by simp only [writeCx]; rw [List.getElem?_set_ne (by omega)]; exact he, rfl, hn, id⟩

theorem hr_write {c : Cx} (hr : HR P c) {k b0 : Nat} {e : Entry} {es : List AV} {C C0 : Array Value} (hk : c.h[k]? = some e) (ho : e.st = .own) (hb0 : c.κ k = some b0)
    (hc : c.w.heap[b0]? = some (.cells C0 e.T (0, 0))) (hs : C.size = C0.size) (hl : es.length * P.cellsOf e.T ≤ C.size) (hes : RepE P c es e.T C.toList) : HR P (writeCx c k b0 e es C) where
  blk j e' he hlv := by
    have x := ext_write (es := es) (C := C) hk ho hb0 hc hs
    rcases set_get he with ⟨rfl, rfl, _⟩ | ⟨hne, he⟩
    · exact .inr ⟨b0, C, (0, 0), hb0, putBlk_same (lt_of_heap hc), fun _ => rfl, fun h => (by simp only at h; rw [ho] at h; cases h), hl, repE_mono x _ _ _ hes⟩
    · have hb := hr.blk j e' he hlv
      have he2 := he
      have hne2 : ∀ b, c.κ j = some b → b ≠ b0 := by
        intro b hbj hbb
        rcases hlv with hown | hfz
        · exact hne (hr.apart j k e' e b he2 hk hown ho hbj (hbb ▸ hb0))
        · exact hb.fz hbj hfz ⟨k, e, hk, ho, hbb ▸ hb0⟩
      exact hb.keep x rfl (fun b hbj => putBlk_other (hne2 b hbj)) fun b hbj hf hO => hb.fz hbj hf ((O_write hk).1 hO)
  apart j j' e1 e2 b he he' hst hst' hk1 hk2 := by
    have a1 : ∃ x, c.h[j]? = some x ∧ x.st = .own := by
      rcases set_get he with ⟨rfl, _, _⟩ | ⟨_, he⟩
      · exact ⟨e, hk, ho⟩
      · exact ⟨e1, he, hst⟩
    have a2 : ∃ x, c.h[j']? = some x ∧ x.st = .own := by
      rcases set_get he' with ⟨rfl, _, _⟩ | ⟨_, he'⟩
      · exact ⟨e, hk, ho⟩
      · exact ⟨e2, he', hst'⟩
    obtain ⟨x1, b1, b2⟩ := a1
    obtain ⟨x2, b3, b4⟩ := a2
    exact hr.apart j j' x1 x2 b b1 b3 b2 b4 hk1 hk2

/-- An own entry is frozen, or given up. -/
theorem O_dim {c : Cx} {k : Nat} {e e' : Entry} (hk : c.h[k]? = some e) (hn : e'.st ≠ .own) {b : Nat} (h : Cx.O { c with h := c.h.set k e' } b) : c.O b := by
  obtain ⟨j, e1, he, hst, hj⟩ := h
  rcases set_get he with ⟨rfl, rfl, _⟩ | ⟨hne, he⟩
  · exact absurd hst hn
  · exact ⟨j, e1, he, hst, hj⟩

theorem ext_dim {c : Cx} {k : Nat} {e e' : Entry} (hk : c.h[k]? = some e) (hT : e'.T = e.T) (hn : e'.st ≠ .own) (hn2 : e'.st ≠ .hole) : Ext c { c with h := c.h.set k e' } :=
  ⟨rfl, rfl, rfl, Nat.le_refl _, fun _ _ _ => rfl, fun _ C _ m h => ⟨C, m, h, rfl, id⟩, fun _ _ h => O_dim hk hn h, fun j e1 he hn1 => by
    by_cases hj : j = k
    · subst hj
      rw [hk] at he
      cases he
      exact ⟨rfl, e', by simp only; rw [List.getElem?_set_self (List.getElem?_eq_some_iff.1 hk).1], hT, hn2, fun h => absurd h hn⟩
    · exact ⟨rfl, e1, by simp only; rw [List.getElem?_set_ne (by omega)]; exact he, rfl, hn1, id⟩⟩

theorem hr_dim {c : Cx} (hr : HR P c) {k : Nat} {e e' : Entry} (hk : c.h[k]? = some e) (hT : e'.T = e.T) (hn : e'.st ≠ .own) (hn2 : e'.st ≠ .hole)
    (hfz : e'.st = .fz → Live e ∧ c.κ k ≠ none ∧ ∃ n, e'.es = e.es.take n) : HR P { c with h := c.h.set k e' } where
  blk j e1 he hlv := by
    have x := ext_dim hk hT hn hn2
    rcases set_get he with ⟨rfl, rfl, _⟩ | ⟨hne, he⟩
    · rcases hlv with h | h
      · exact absurd h hn
      · obtain ⟨hlv, hκ, n, hes⟩ := hfz h
        rcases hr.blk j e hk hlv with ⟨_, _, h3⟩ | ⟨b, C, m, h0, h1, h2, h3, h4, h5⟩
        · exact absurd h3 hκ
        · refine .inr ⟨b, C, m, h0, by rw [hT]; exact h1, fun h' => absurd h' hn, fun _ hO => ?_, ?_, ?_⟩
          · obtain ⟨i, e2, he2, hst2, hκ2⟩ := hO
            rcases set_get he2 with ⟨rfl, rfl, _⟩ | ⟨hne2, he2⟩
            · exact hn hst2
            · rcases hlv with hown | hf
              · exact hne2 (hr.apart i j e2 e b he2 hk hst2 hown hκ2 h0)
              · exact h3 hf ⟨i, e2, he2, hst2, hκ2⟩
          · rw [hT, hes]
            have : (e.es.take n).length ≤ e.es.length := by simp; omega
            exact Nat.le_trans (Nat.mul_le_mul_right _ this) h4
          · rw [hes, hT]
            refine repE_mono x _ _ _ (repE_iff.2 fun i v hv => repE_get h5 ?_)
            rw [List.getElem?_take] at hv
            split at hv
            · exact hv
            · cases hv
    · have hb := hr.blk j e1 he hlv
      exact hb.keep x rfl (fun _ _ => rfl) fun b hbj hf hO => hb.fz hbj hf (O_dim hk hn hO)
  apart j j' e1 e2 b he he' hst hst' hk1 hk2 := by
    rcases set_get he with ⟨rfl, rfl, _⟩ | ⟨hne, he⟩
    · exact absurd hst hn
    · rcases set_get he' with ⟨rfl, rfl, _⟩ | ⟨hne', he'⟩
      · exact absurd hst' hn
      · exact hr.apart j j' e1 e2 b he he' hst hst' hk1 hk2
end
end Go.Abs
