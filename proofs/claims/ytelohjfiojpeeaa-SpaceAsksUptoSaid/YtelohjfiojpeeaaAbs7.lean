/- Abs7: a part of the proofs about the tuple space (layer 8). -/
import Derived.Test.YtelohjfiojpeeaaAbs6
set_option linter.all false
namespace Go.Abs
open Go
section
variable {P : Program}

theorem vEq_eq {a b : Value} (h : vEq a b = true) : a = b := by
  unfold vEq at h
  split at h <;> try simp_all
  rename_i a b
  cases a; cases b
  simp_all

theorem vEqs_eq : ∀ {l m : List Value}, vEqs l m = true → l = m
  | [], [], _ => rfl
  | [], _ :: _, h => by simp [vEqs] at h
  | _ :: _, [], h => by simp [vEqs] at h
  | a :: l, b :: m, h => by
    simp only [vEqs, Bool.and_eq_true] at h
    rw [vEq_eq h.1, vEqs_eq h.2]

theorem flat_fields {c : Cx} {f : Nat} (hP : WF P) (IH : ∀ T, goodZ P f T = true → tyOK P (zeroA P f T) T ∧ Rep P c (zeroA P f T) (zeroC P f T)) {lim : Nat} : ∀ (fs : List (TypeId × Nat)) (lo : Nat) (pre : List Value),
    wfFs P lim fs lo = true → fs.all (fun x => goodZ P f x.1) = true → pre.length = lo →
    RepF P c (fs.map fun x => zeroA P f x.1) fs (pre ++ fs.flatMap fun x => zeroC P f x.1) ∧ (pre ++ fs.flatMap fun x => zeroC P f x.1).length = lim
  | [], lo, pre, hw, hg, hp => by
    simp only [wfFs, beq_iff_eq] at hw
    simp only [List.map_nil, RepF, List.flatMap_nil, List.append_nil, true_and]
    omega
  | x :: fs, lo, pre, hw, hg, hp => by
    simp only [wfFs, Bool.and_eq_true, beq_iff_eq] at hw
    simp only [List.all_cons, Bool.and_eq_true] at hg
    obtain ⟨h1, h2⟩ := IH x.1 hg.1
    have hl := rep_length hP h1 h2
    obtain ⟨h3, h4⟩ := flat_fields hP IH fs (x.2 + P.cellsOf x.1) (pre ++ zeroC P f x.1) hw.2 hg.2 (by simp [hl, hp, hw.1])
    rw [List.append_assoc] at h3 h4
    refine ⟨?_, by simpa [List.flatMap_cons] using h4⟩
    simp only [List.map_cons, RepF, List.flatMap_cons]
    refine ⟨x, fs, rfl, h1, ?_, h3⟩
    rw [List.drop_left' (by omega), List.take_left' hl]
    exact h2

theorem repE_replicate {c : Cx} (hP : WF P) {v : AV} {e : TypeId} {cs : List Value} (h1 : tyOK P v e) (h2 : Rep P c v cs) : ∀ (n : Nat) (rest : List Value),
    RepE P c (List.replicate n v) e ((List.replicate n cs).flatten ++ rest)
  | 0, rest => by simp only [List.replicate_zero, RepE]
  | n + 1, rest => by
    have hl := rep_length hP h1 h2
    simp only [List.replicate_succ, RepE, List.flatten_cons, List.append_assoc]
    refine ⟨h1, by rw [List.take_left' hl]; exact h2, ?_⟩
    rw [List.drop_left' hl]
    exact repE_replicate hP h1 h2 n rest

theorem zeroA_rep (hP : WF P) (c : Cx) : ∀ (f : Nat) (T : TypeId), goodZ P f T = true → tyOK P (zeroA P f T) T ∧ Rep P c (zeroA P f T) (zeroC P f T)
  | 0, T, h => by simp [goodZ] at h
  | f + 1, T, h => by
    have IH := zeroA_rep hP c f
    simp only [goodZ] at h
    cases hs : shapeT P T <;> simp only [hs] at h <;> simp only [zeroA, zeroC, hs]
    case int k => simp [tyOK, hs, Rep]
    case bool => simp [tyOK, hs, Rep]
    case str => simp [tyOK, hs, Rep]
    case slice e => simp [tyOK, hs, Rep]
    case ptr e => simp [tyOK, hs, Rep]
    case func => simp [tyOK, hs, Rep]
    case struct =>
      obtain ⟨h1, h2⟩ := flat_fields hP IH (fieldsT P T) 0 [] (hP.fields hs) h rfl
      simp only [List.nil_append] at h1 h2
      refine ⟨by simp only [tyOK], ?_⟩
      simp only [Rep, hs]
      exact ⟨h2, h1⟩
    case arr n e =>
      obtain ⟨h1, h2⟩ := IH e h
      have hl := rep_length hP h1 h2
      refine ⟨by simp only [tyOK], ?_⟩
      simp only [Rep, hs]
      refine ⟨?_, by simp, by simpa using repE_replicate hP h1 h2 n []⟩
      rw [hP.arr hs]
      simp [List.length_flatten, hl]
    case other => cases h

theorem zero_sound (hP : WF P) (c : Cx) {T : TypeId} (h : zOK P T = true) (w : World) : ∃ z, (zeroValue T).run P w = .ok z w ∧ VV P c (zeroAV P T) z ∧ tyOK P (zeroAV P T) T ∧ okT P T = true := by
  unfold zOK at h
  simp only [Bool.and_eq_true] at h
  obtain ⟨⟨hg, hok⟩, h⟩ := h
  split at h
  · rename_i i hi
    split at h
    · rename_i z hz
      simp only [Bool.and_eq_true, beq_iff_eq] at h
      obtain ⟨h1, h2⟩ := zeroA_rep hP c 8 T hg
      refine ⟨z, by simp [zeroValue, typeInfo, hi, hz], ?_, h1, hok⟩
      refine vv_of_parts h.2.symm ?_
      rw [vEqs_eq h.1]
      exact h2
    · cases h
  · cases h

/-! ### New variables -/
theorem hole_set {c : Cx} {s : Nat} {e0 : Entry} (hs : c.h[s]? = some e0) (e : Entry) : (c.h.set s e)[s]? = some e := List.getElem?_set_self (List.getElem?_eq_some_iff.1 hs).1

theorem newVar_sound (hP : WF P) {c : Cx} (hr : HR P c) {s : Nat} {e0 : Entry} (hs : c.h[s]? = some e0) (h0 : e0.st = .hole) {T : TypeId} {a : AV} {v : Value} (ht : tyOK P a T) (hv : VV P c a v) :
    ∃ w', (newVar T v).run P c.w = .ok ⟨c.w.heap.size, 0, none⟩ w' ∧ Done P c (.ref s [0] T) [(s, ⟨T, [a], .own⟩)] (.pointer (some ⟨c.w.heap.size, 0, none⟩)) w' := by
  have hrep := rep_of_vv ht hv
  have hl := rep_length hP ht hrep
  have hE : RepE P c [a] T v.cells.toList := by
    simp only [RepE, and_true]
    exact ⟨ht, by rw [List.take_of_length_le (by omega)]; exact hrep⟩
  refine ⟨c.w.alloc (.cells v.cells T), by simp [newVar, newRow], _, hr_alloc (s := s) (T := T) (es := [a]) (C := v.cells) hr hs h0 (by simp; simp at hl; omega) hE, ext_alloc hs h0, ?_⟩
  refine vv_ref_mk (e := ⟨T, [a], .own⟩) (hole_set hs _) (by simp) (by simp) ?_
  simp [refOff, pathT]

theorem alloc_sound (hP : WF P) {c : Cx} (hr : HR P c) {s : Nat} {e0 : Entry} (hs : c.h[s]? = some e0) (h0 : e0.st = .hole) {T : TypeId} (hz : zOK P T = true) :
    ∃ v w', (Instr.alloc T true (.tuple #[])).run P c.w = .ok v w' ∧ Done P c (.ref s [0] T) [(s, ⟨T, [zeroAV P T], .own⟩)] v w' := by
  obtain ⟨z, h1, h2, h3, _⟩ := zero_sound hP c hz c.w
  obtain ⟨w', h4, h5⟩ := newVar_sound hP hr hs h0 h3 h2
  exact ⟨_, w', by simp [Instr.alloc, h1, h4], h5⟩

theorem box_sound (hP : WF P) {c : Cx} (hr : HR P c) {s : Nat} {e0 : Entry} (hs : c.h[s]? = some e0) (h0 : e0.st = .hole) {T : TypeId} {a : AV} {v : Value} (ht : tyB P a T = true) (hv : VV P c a v) :
    ∃ u w', (Instr.box T v).run P c.w = .ok u w' ∧ Done P c (.ref s [0] T) [(s, ⟨T, [a], .own⟩)] u w' := by
  obtain ⟨w', h4, h5⟩ := newVar_sound hP hr hs h0 (tyB_ok ht) hv
  exact ⟨_, w', by simp [Instr.box, h4], h5⟩

/-! ### Literals -/
theorem fold_splice : ∀ (new : List Value) (cells : Array Value) (off k : Nat), off + k + new.length ≤ cells.size →
    (((new.zipIdx k).foldl (fun cs (x : Value × Nat) => cs.setIfInBounds (off + x.2) x.1) cells)).toList = splice cells.toList (off + k) new
  | [], cells, off, k, _ => by simp [splice]
  | v :: new, cells, off, k, h => by
    simp only [List.length_cons] at h
    simp only [List.zipIdx_cons, List.foldl_cons]
    rw [fold_splice new _ off (k + 1) (by simp; omega)]
    simp only [Array.toList_setIfInBounds]
    apply List.ext_getElem?
    intro j
    have h1 : off + (k + 1) + new.length ≤ (cells.toList.set (off + k) v).length := by simp; omega
    have h2 : off + k + (v :: new).length ≤ cells.toList.length := by simp; omega
    rw [splice_getElem? h1, splice_getElem? h2]
    simp only [List.length_cons]
    by_cases e1 : j < off + k
    · rw [if_pos (by omega), if_pos e1, List.getElem?_set_ne (by omega)]
    · by_cases e2 : j = off + k
      · subst e2
        rw [if_pos (by omega), if_neg (by omega), if_pos (by omega), List.getElem?_set_self (by simp; omega)]
        simp
      · by_cases e3 : j < off + (k + 1) + new.length
        · rw [if_neg (by omega), if_pos e3, if_neg e1, if_pos (by omega)]
          rw [show j - (off + k) = (j - (off + (k + 1))) + 1 by omega]
          simp
        · rw [if_neg (by omega), if_neg e3, if_neg e1, if_neg (by omega), List.getElem?_set_ne (by omega)]

theorem fill_step {place : Nat → Option (Nat × Nat)} {cells : Array Value} {i off size : Nat} {v : Value} {rest : List (Nat × Value)} (hp : place i = some (off, size)) (hs : v.cells.size = size) (hb : off + size ≤ cells.size) :
    ∃ cells' : Array Value, cells'.toList = splice cells.toList off v.cells.toList ∧ Instr.fill place cells ((i, v) :: rest) = Instr.fill place cells' rest := by
  refine ⟨v.cells.zipIdx.foldl (fun cs (x : Value × Nat) => cs.setIfInBounds (off + x.2) x.1) cells, ?_, ?_⟩
  · rw [← Array.foldl_toList, Array.toList_zipIdx]
    have := fold_splice v.cells.toList cells off 0 (by simp; omega)
    simpa using this
  · simp only [Instr.fill, hp, hs, ne_eq, not_true_eq_false, decide_false, Bool.false_or, gt_iff_lt, decide_eq_true_eq]
    rw [if_neg (by omega)]

theorem fill_agg (hP : WF P) {c : Cx} {T : TypeId} {ty : Nat → Option TypeId} {place : Nat → Option (Nat × Nat)}
    (hty : ∀ i F, ty i = some F → ∃ o, pathT P T [i] = some (F, o) ∧ place i = some (o, P.cellsOf F)) : ∀ (ps : List (Nat × AV)) (vs : List (Nat × Value)) (zs us : List AV) (cells : Array Value),
    ps.map (·.1) = vs.map (·.1) → (∀ (k : Nat) (p : Nat × AV) (v : Nat × Value), ps[k]? = some p → vs[k]? = some v → VV P c p.2 v.2) → Rep P c (.agg T zs) cells.toList → fillAV P ty ps zs = some us →
    ∃ cells', Instr.fill place cells vs = some cells' ∧ Rep P c (.agg T us) cells'.toList
  | [], vs, zs, us, cells, hl, _, hr, hf => by
    cases vs with
    | cons _ _ => simp at hl
    | nil => simp only [fillAV, Option.some.injEq] at hf; subst hf; exact ⟨cells, rfl, hr⟩
  | p :: ps, vs, zs, us, cells, hl, hv, hr, hf => by
    cases vs with
    | nil => simp at hl
    | cons v vs =>
      simp only [List.map_cons, List.cons.injEq] at hl
      simp only [fillAV] at hf
      cases hF : ty p.1 with
      | none => simp [hF] at hf
      | some F =>
        simp only [hF] at hf
        split at hf
        · rename_i hc
          obtain ⟨hlt, htb⟩ := hc
          have ht := tyB_ok htb
          obtain ⟨o, hpath, hplace⟩ := hty p.1 F hF
          have hvv := hv 0 p v rfl rfl
          have hrep := rep_of_vv ht hvv
          have hlen := rep_length hP ht hrep
          have hb := pathT_bound hP hpath
          have hcl : cells.toList.length = P.cellsOf T := by simp only [Rep] at hr; exact hr.1
          obtain ⟨cells', h1, h2⟩ := fill_step (cells := cells) (rest := vs) (v := v.2) hplace (by simpa using hlen) (by simp at hcl; omega)
          have hset : setP (.agg T zs) [p.1] p.2 = some (.agg T (zs.set p.1 p.2)) := by
            simp only [setP, List.getElem?_eq_getElem hlt, Option.map_eq_some_iff]
            exact ⟨p.2, by cases zs[p.1] <;> rfl, rfl⟩
          have := (setP_rep hP (a := .agg T zs) (T := T) (by simp only [tyOK]) hr hpath ht hrep hset).2
          rw [← h1] at this
          obtain ⟨c2, h3, h4⟩ := fill_agg hP hty ps vs (zs.set p.1 p.2) us cells' hl.2 (fun k q u hq hu => hv (k + 1) q u (by simpa using hq) (by simpa using hu)) this hf
          refine ⟨c2, ?_, h4⟩
          have e : v = (p.1, v.2) := by rw [hl.1]
          rw [e, h2]
          exact h3
        · cases hf

theorem build_sound (hP : WF P) {c : Cx} {T : TypeId} {ps : List (Nat × AV)} {vs : Array (Nat × Value)} {r : AV} {wr : List (Nat × Entry)} (hl : ps.map (·.1) = vs.toList.map (·.1))
    (hv : ∀ (k : Nat) (p : Nat × AV) (v : Nat × Value), ps[k]? = some p → vs.toList[k]? = some v → VV P c p.2 v.2) (h : (stBuild P T ps).run c.h = some (r, wr)) :
    wr = [] ∧ ∃ z, (Instr.build T vs).run P c.w = .ok z c.w ∧ VV P c r z := by
  unfold stBuild at h
  cases hzv : zeroAV P T <;> rw [hzv] at h <;> try exact (stp_fail h).elim
  rename_i T' zs
  replace h := stp_ite h; obtain ⟨⟨rfl, hz, hpo⟩, h⟩ := h
  obtain ⟨z, h1, h2, h3, _⟩ := zero_sound hP c hz c.w
  rw [hzv] at h2
  obtain ⟨zc, rfl, hrep⟩ := vv_agg h2
  have hrep' := hrep
  simp only [Rep] at hrep'
  cases hs : shapeT P T' <;> rw [hs] at hrep' <;> simp only [and_false] at hrep'
  case struct =>
    simp only [hs] at h
    obtain ⟨fs, hu⟩ := und_struct hs
    cases hf : fillAV P (fun i => ((fieldsT P T')[i]?).map (·.1)) ps zs with
    | none => rw [hf] at h; exact (stp_fail h).elim
    | some us =>
      rw [hf] at h
      obtain ⟨rfl, rfl⟩ := stp_ret h
      simp only [partsOK, hs, List.all_eq_true] at hpo
      have hft : fieldsT P T' = fs.toList.map fun f => (f.type, f.offset) := by simp [fieldsT, hu]
      have hplaces : (fs.mapM (fun f => (do pure (f.offset, ← sizeOf f.type) : Sem (Nat × Nat)))).run P c.w = .ok (fs.map fun f => (f.offset, P.cellsOf f.type)) c.w := by
        rw [Array.mapM_eq_mapM_toList]
        have : ∀ (l : List Field), (∀ f ∈ l, okT P f.type = true) → (l.mapM (fun f => (do pure (f.offset, ← sizeOf f.type) : Sem (Nat × Nat)))).run P c.w = .ok (l.map fun f => (f.offset, P.cellsOf f.type)) c.w := by
          intro l
          induction l with
          | nil => intro _; simp
          | cons f l ih =>
            intro hl
            have h5 := run_sizeT (okT_spec (hl f (by simp))).1 c.w
            simp only [List.mapM_cons, Sem.run_bind, h5, Result.andThen_ok, Sem.run_pure, ih (fun g hg => hl g (by simp [hg])), List.map_cons]
        have hall : ∀ f ∈ fs.toList, okT P f.type = true := fun f hf => hpo (f.type, f.offset) (by rw [hft]; exact List.mem_map.2 ⟨f, hf, rfl⟩)
        rw [map_eq_pure_bind, Sem.run_bind, this fs.toList hall]
        simp only [Result.andThen_ok, Sem.run_pure]
        refine congrArg (fun x => Result.ok x c.w) ?_
        apply Array.ext'
        simp
      obtain ⟨cells', h6, h7⟩ := fill_agg hP (T := T') (ty := fun i => ((fieldsT P T')[i]?).map (·.1)) (place := fun i => (fs.map fun f => (f.offset, P.cellsOf f.type))[i]?) (by
        intro i F hF
        simp only [Option.map_eq_some_iff] at hF
        obtain ⟨⟨F', o⟩, hg, rfl⟩ := hF
        refine ⟨o, by simp [pathT, hs, hg], ?_⟩
        rw [hft] at hg
        simp only [List.getElem?_map, Option.map_eq_some_iff, Prod.mk.injEq] at hg
        obtain ⟨f, hf2, rfl, rfl⟩ := hg
        simp only [Array.getElem?_map, Option.map_eq_some_iff]
        exact ⟨f, by simpa using hf2, rfl⟩) ps vs.toList zs us zc hl hv hrep hf
      refine ⟨rfl, .agg cells', ?_, vv_agg_mk h7⟩
      simp only [Instr.build, Sem.run_bind, h1, Result.andThen_ok, run_underlying hu, Value.cells, hplaces, h6, Sem.run_pure]
  case arr n e =>
    simp only [hs] at h
    cases hf : fillAV P (fun i => some e) ps zs with
    | none => rw [hf] at h; exact (stp_fail h).elim
    | some us =>
      rw [hf] at h
      obtain ⟨rfl, rfl⟩ := stp_ret h
      simp only [partsOK, hs] at hpo
      obtain ⟨cells', h6, h7⟩ := fill_agg hP (T := T') (ty := fun i => if i < n then some e else none) (place := fun i => some (i * P.cellsOf e, P.cellsOf e)) (by
        intro i F hF
        split at hF
        · rename_i hin
          simp only [Option.some.injEq] at hF
          subst hF
          exact ⟨i * P.cellsOf e, by simp [pathT, hs, hin], rfl⟩
        · cases hF) ps vs.toList zs us zc hl hv hrep (by
          rw [← hf]
          have hzl : zs.length = n := hrep'.2.1
          clear hf hl hv hrep hrep' hzv h h2 h3
          revert hzl
          generalize zs = zs
          induction ps generalizing zs with
          | nil => intro _; rfl
          | cons p ps ih =>
            intro hzl
            simp only [fillAV]
            by_cases hp : p.1 < n
            · rw [if_pos hp]
              simp only
              split
              · rw [ih _ (by simpa using hzl)]
              · rfl
            · rw [if_neg hp]
              simp only
              rw [if_neg (by rw [hzl]; intro h; exact hp h.1)])
      refine ⟨rfl, .agg cells', ?_, vv_agg_mk h7⟩
      simp only [Instr.build, Sem.run_bind, h1, Result.andThen_ok, run_underlying (und_arr hs), Value.cells, run_sizeT (okT_spec hpo).1, h6, Sem.run_pure]

/-! ### Rows -/
theorem zeroRow_chunk {z : Array Value} {size n i : Nat} (hs : z.size = size) (h0 : 0 < size) (hi : i < n) :
    ((((Array.range (n * size)).map fun j => z[j % z.size]!).toList.drop (i * size)).take size) = z.toList := by
  apply List.ext_getElem?
  intro j
  have hmul : (i + 1) * size ≤ n * size := Nat.mul_le_mul_right _ hi
  rw [Nat.add_mul] at hmul
  simp only [List.getElem?_take, List.getElem?_drop, Array.getElem?_toList, Array.getElem?_map]
  by_cases hj : j < size
  · rw [if_pos hj]
    have hlt : i * size + j < n * size := by omega
    simp only [Array.getElem?_range, hlt, if_true, Option.map_some]
    have hm : (i * size + j) % z.size = j := by
      rw [hs, Nat.mul_comm, Nat.mul_add_mod]
      exact Nat.mod_eq_of_lt hj
    rw [hm, getElem!_pos z j (by omega), Array.getElem?_eq_getElem (by omega)]
  · rw [if_neg hj, Array.getElem?_eq_none (by omega)]

theorem zeroRow_rep (hP : WF P) {c : Cx} {e : TypeId} {a : AV} {z : Value} (ht : tyOK P a e) (hv : VV P c a z) (h0 : P.cellsOf e ≠ 0) (n m : Nat) (hnm : n ≤ m) :
    RepE P c (List.replicate n a) e ((Array.range (m * P.cellsOf e)).map fun j => z.cells[j % z.cells.size]!).toList := by
  have hrep := rep_of_vv ht hv
  have hl := rep_length hP ht hrep
  refine repE_iff.2 fun i v hi => ?_
  have hin : i < n := by have := (List.getElem?_eq_some_iff.1 hi).1; simpa using this
  rw [List.getElem?_replicate, if_pos hin] at hi
  cases hi
  refine ⟨ht, ?_⟩
  rw [zeroRow_chunk (by simpa using hl) (by omega) (by omega)]
  exact hrep

theorem fill_row (hP : WF P) {c : Cx} {e : TypeId} : ∀ (ps : List (Nat × AV)) (vs : List (Nat × Value)) (zs us : List AV) (cells : Array Value),
    ps.map (·.1) = vs.map (·.1) → (∀ (k : Nat) (p : Nat × AV) (v : Nat × Value), ps[k]? = some p → vs[k]? = some v → VV P c p.2 v.2) → RepE P c zs e cells.toList → zs.length * P.cellsOf e ≤ cells.size →
    fillAV P (fun _ => some e) ps zs = some us →
    ∃ cells', Instr.fill (fun i => some (i * P.cellsOf e, P.cellsOf e)) cells vs = some cells' ∧ RepE P c us e cells'.toList ∧ cells'.size = cells.size ∧ us.length = zs.length
  | [], vs, zs, us, cells, hl, _, hr, _, hf => by
    cases vs with
    | cons _ _ => simp at hl
    | nil => simp only [fillAV, Option.some.injEq] at hf; subst hf; exact ⟨cells, rfl, hr, rfl, rfl⟩
  | p :: ps, vs, zs, us, cells, hl, hv, hr, hsz, hf => by
    cases vs with
    | nil => simp at hl
    | cons v vs =>
      simp only [List.map_cons, List.cons.injEq] at hl
      simp only [fillAV] at hf
      split at hf
      · rename_i hc
        obtain ⟨hlt, htb⟩ := hc
        have ht := tyB_ok htb
        have hvv := hv 0 p v rfl rfl
        have hrep := rep_of_vv ht hvv
        have hlen := rep_length hP ht hrep
        have hmul : (p.1 + 1) * P.cellsOf e ≤ zs.length * P.cellsOf e := Nat.mul_le_mul_right _ hlt
        rw [Nat.add_mul] at hmul
        obtain ⟨cells', h1, h2⟩ := fill_step (place := fun i => some (i * P.cellsOf e, P.cellsOf e)) (cells := cells) (i := p.1) (rest := vs) (v := v.2) rfl (by simpa using hlen) (by omega)
        have hoff : refOff P e [p.1] = some (e, p.1 * P.cellsOf e) := by simp [refOff, pathT]
        have hset : setE zs p.2 [p.1] = some (zs.set p.1 p.2) := by
          simp only [setE, List.getElem?_eq_getElem hlt, Option.map_eq_some_iff]
          exact ⟨p.2, by cases zs[p.1] <;> rfl, rfl⟩
        obtain ⟨h3, h4, _⟩ := setE_rep hP hr (by simpa using hsz) hoff ht hrep hset
        rw [← h1] at h4
        have hsz' : cells'.size = cells.size := by
          have := congrArg List.length h1
          rw [splice_length (by simp at hlen ⊢; omega)] at this
          simpa using this
        obtain ⟨c2, h5, h6, h7, h8⟩ := fill_row hP ps vs (zs.set p.1 p.2) us cells' hl.2 (fun k q u hq hu => hv (k + 1) q u (by simpa using hq) (by simpa using hu)) h4 (by simpa [hsz'] using hsz) hf
        refine ⟨c2, ?_, h6, by omega, by simpa using h8⟩
        have e1 : v = (p.1, v.2) := by rw [hl.1]
        rw [e1, h2]
        exact h5
      · cases hf

theorem win_new {c : Cx} {s : Nat} {e0 : Entry} (hs : c.h[s]? = some e0) {e : TypeId} {es : List AV} {C : Array Value} {n lo cap : Nat} (hlo : lo ≤ cap) (hn : n ≤ cap) (hc : cap * P.cellsOf e ≤ C.size) :
    VV P (allocCx c s e es C) (.win s [] e 0 n lo) (.slice (some ⟨c.w.heap.size, 0, none⟩) n cap) := by
  refine vv_win_mk (e := ⟨e, es, .own⟩) (hole_set hs _) (by simp) hlo hn (fun _ => rfl) fun _ => ?_
  exact ⟨c.w.heap.size, 0, C, (0, 0), by simp [allocCx], rfl, heap_alloc_new _ _, fun _ => rfl, by simp, by simpa using hc, by simp [winLim]⟩

theorem buildSlice_sound (hP : WF P) {c : Cx} (hr : HR P c) {s : Nat} {e0 : Entry} (hs : c.h[s]? = some e0) (h0 : e0.st = .hole) {T : TypeId} {n : Nat} {ps : List (Nat × AV)} {vs : Array (Nat × Value)} {r : AV} {wr : List (Nat × Entry)}
    (hl : ps.map (·.1) = vs.toList.map (·.1)) (hv : ∀ (k : Nat) (p : Nat × AV) (v : Nat × Value), ps[k]? = some p → vs.toList[k]? = some v → VV P c p.2 v.2) (h : (stBuildSlice P T n ps s).run c.h = some (r, wr)) :
    ∃ z w', (Instr.buildSlice T n vs).run P c.w = .ok z w' ∧ Done P c r wr z w' := by
  unfold stBuildSlice at h
  cases hsh : shapeT P T <;> rw [hsh] at h <;> try exact (stp_fail h).elim
  rename_i e
  replace h := stp_ite h; obtain ⟨⟨hn, hz⟩, h⟩ := h
  obtain ⟨z, h1, h2, h3, hok⟩ := zero_sound hP c hz c.w
  obtain ⟨hne, hc0⟩ := okT_spec hok
  cases hf : fillAV P (fun _ => some e) ps (List.replicate n (zeroAV P e)) with
  | none => rw [hf] at h; exact (stp_fail h).elim
  | some us =>
    rw [hf] at h
    obtain ⟨rfl, rfl⟩ := stp_ret h
    have hrow := zeroRow_rep hP h3 h2 hc0 n n (Nat.le_refl _)
    obtain ⟨cells', h5, h6, h7, h8⟩ := fill_row hP ps vs.toList _ us ((Array.range (n * P.cellsOf e)).map fun j => z.cells[j % z.cells.size]!) hl hv hrow (by simp) hf
    simp only [Array.size_map, Array.size_range] at h7
    simp only [List.length_replicate] at h8
    refine ⟨.slice (some ⟨c.w.heap.size, 0, none⟩) n n, c.w.alloc (.cells cells' e), ?_, _, hr_alloc (C := cells') hr hs h0 (by rw [h8]; omega) h6, ext_alloc hs h0, win_new hs (Nat.le_refl _) (Nat.le_refl _) (by omega)⟩
    have hnn : ¬ (n * P.cellsOf e > 2 ^ 24) := by omega
    by_cases hz0 : n * P.cellsOf e = 0
    · simp only [Instr.buildSlice, Sem.run_bind, run_underlying (und_slice hsh), Result.andThen_ok, run_sizeT hne, Sem.run_ite, hz0, if_true, Sem.run_pure]
      rw [hz0] at h5
      simp only [Array.range_zero', Array.map_empty] at h5 ⊢
      rw [h5]
      simp [newRow]
    · simp only [Instr.buildSlice, Sem.run_bind, run_underlying (und_slice hsh), Result.andThen_ok, run_sizeT hne, Sem.run_ite, hnn, if_false, hz0, h1, Sem.run_pure, h5]
      simp [newRow]
end
end Go.Abs
