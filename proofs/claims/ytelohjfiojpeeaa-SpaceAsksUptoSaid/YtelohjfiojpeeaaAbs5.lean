/- Abs5: a part of the proofs about the tuple space (layer 8). -/
import Derived.Test.YtelohjfiojpeeaaAbs4
import Derived.ShutString
set_option linter.all false
namespace Go.Abs
open Go
section
variable {P : Program}

/-! ### Elements of an entry by a path -/
theorem getE_rep (hP : WF P) {c : Cx} {es : List AV} {T0 T : TypeId} {p : List Nat} {off : Nat} {cs : List Value} {v : AV} (h : RepE P c es T0 cs) (hp : refOff P T0 p = some (T, off))
    (hg : getE es p = some v) : tyOK P v T ∧ Rep P c v ((cs.drop off).take (P.cellsOf T)) ∧ off + P.cellsOf T ≤ es.length * P.cellsOf T0 := by
  cases p with
  | nil => simp [refOff] at hp
  | cons i r =>
    simp only [refOff, Option.map_eq_some_iff] at hp
    obtain ⟨⟨T1, o⟩, hp, hq⟩ := hp
    simp only [Prod.mk.injEq] at hq
    obtain ⟨rfl, rfl⟩ := hq
    simp only [getE] at hg
    cases hi : es[i]? with
    | none => simp [hi] at hg
    | some u =>
      simp only [hi] at hg
      obtain ⟨h1, h2⟩ := repE_get h hi
      obtain ⟨h3, h4⟩ := getP_rep hP h1 h2 hp hg
      have hb := pathT_bound hP hp
      rw [drop_take_drop_take _ _ _ _ _ hb] at h4
      refine ⟨h3, h4, ?_⟩
      have hlt := (List.getElem?_eq_some_iff.1 hi).1
      have : (i + 1) * P.cellsOf T0 ≤ es.length * P.cellsOf T0 := Nat.mul_le_mul_right _ hlt
      rw [Nat.add_mul] at this
      omega

theorem setE_rep (hP : WF P) {c : Cx} {es es' : List AV} {T0 T : TypeId} {p : List Nat} {off : Nat} {cs new : List Value} {u : AV} (h : RepE P c es T0 cs) (hl : es.length * P.cellsOf T0 ≤ cs.length)
    (hp : refOff P T0 p = some (T, off)) (ht : tyOK P u T) (hn : Rep P c u new) (hs : setE es u p = some es') :
    es'.length = es.length ∧ RepE P c es' T0 (splice cs off new) ∧ off + P.cellsOf T ≤ es.length * P.cellsOf T0 := by
  cases p with
  | nil => simp [refOff] at hp
  | cons i r =>
    simp only [refOff, Option.map_eq_some_iff] at hp
    obtain ⟨⟨T1, o⟩, hp, hq⟩ := hp
    simp only [Prod.mk.injEq] at hq
    obtain ⟨rfl, rfl⟩ := hq
    simp only [setE] at hs
    cases hi : es[i]? with
    | none => simp [hi] at hs
    | some v =>
      simp only [hi, Option.map_eq_some_iff] at hs
      obtain ⟨y, hy, rfl⟩ := hs
      have hlt := (List.getElem?_eq_some_iff.1 hi).1
      have hmul : (i + 1) * P.cellsOf T0 ≤ es.length * P.cellsOf T0 := Nat.mul_le_mul_right _ hlt
      rw [Nat.add_mul] at hmul
      have hb := pathT_bound hP hp
      have hnl := rep_length hP ht hn
      obtain ⟨h1, h2⟩ := repE_get h hi
      obtain ⟨h3, h4⟩ := setP_rep hP h1 h2 hp ht hn hy
      refine ⟨by simp, ?_, by omega⟩
      refine repE_iff.2 fun j w hw => ?_
      by_cases hji : j = i
      · subst hji
        rw [List.getElem?_set_self hlt] at hw
        cases hw
        refine ⟨h3, ?_⟩
        rw [splice_in (by omega) (by omega)]
        exact h4
      · rw [List.getElem?_set_ne (by omega)] at hw
        obtain ⟨h5, h6⟩ := repE_get h hw
        refine ⟨h5, ?_⟩
        have hjl := (List.getElem?_eq_some_iff.1 hw).1
        rcases Nat.lt_or_gt_of_ne hji with hlt2 | hgt
        · have hm2 : (j + 1) * P.cellsOf T0 ≤ i * P.cellsOf T0 := Nat.mul_le_mul_right _ hlt2
          rw [Nat.add_mul] at hm2
          rw [splice_before (by omega) (by omega)]
          exact h6
        · have hm2 : (i + 1) * P.cellsOf T0 ≤ j * P.cellsOf T0 := Nat.mul_le_mul_right _ hgt
          rw [Nat.add_mul] at hm2
          rw [splice_behind (by omega) (by omega)]
          exact h6

theorem stp_rd {k : Nat} {f : Entry → Stp} {h : List Entry} {x : AV × List (Nat × Entry)} (hx : (Stp.rd k f).run h = some x) : ∃ e, h[k]? = some e ∧ (f e).run h = some x := by
  simp only [Stp.run] at hx
  cases he : h[k]? with
  | none => simp [he] at hx
  | some e => simp only [he] at hx; exact ⟨e, rfl, hx⟩

theorem stp_ret {v r : AV} {wr wr' : List (Nat × Entry)} {h : List Entry} (hx : (Stp.ret v wr').run h = some (r, wr)) : r = v ∧ wr = wr' := by
  simp only [Stp.run, Option.some.injEq, Prod.mk.injEq] at hx
  exact ⟨hx.1.symm, hx.2.symm⟩

theorem stp_fail {x : AV × List (Nat × Entry)} {h : List Entry} (hx : Stp.fail.run h = some x) : False := by simp [Stp.run] at hx

theorem stp_ite {p : Prop} [Decidable p] {a : Stp} {h : List Entry} {x : AV × List (Nat × Entry)} (hx : (if p then a else .fail).run h = some x) : p ∧ a.run h = some x := by
  split at hx
  · exact ⟨‹_›, hx⟩
  · exact (stp_fail hx).elim

theorem live_of_liveB {e : Entry} (h : liveB e.st = true) : Live e := by
  unfold Live
  cases hs : e.st <;> simp_all [liveB]

theorem load_sound (hP : WF P) {c : Cx} (hr : HR P c) {T : TypeId} {x r : AV} {wr : List (Nat × Entry)} {v : Value} (hv : VV P c x v) (h : (stLoad T x).run c.h = some (r, wr)) :
    wr = [] ∧ ∃ u, (Instr.loadAt T v).run P c.w = .ok u c.w ∧ VV P c r u := by
  cases x <;> simp only [stLoad] at h <;> try exact (stp_fail h).elim
  case ref k p T' =>
    replace h := stp_ite h; obtain ⟨rfl, h⟩ := h
    obtain ⟨e, he, h⟩ := stp_rd h
    obtain ⟨hl, h⟩ := stp_ite h
    cases hg : getE e.es p with
    | none => rw [hg] at h; exact (stp_fail h).elim
    | some u =>
      rw [hg] at h
      obtain ⟨rfl, rfl⟩ := stp_ret h
      obtain ⟨e', b, off, he', _, hk, ho, rfl⟩ := vv_ref hv
      rw [he] at he'
      cases he'
      obtain ⟨C, m, hb, _, _, hle, hes⟩ := hr.block he (live_of_liveB hl) hk
      obtain ⟨h1, h2, h3⟩ := getE_rep hP hes ho hg
      refine ⟨rfl, mkV P T' ((C.toList.drop off).take (P.cellsOf T')), ?_, vv_of_rep hP h1 h2⟩
      simp only [Instr.loadAt, Instr.sureAddr, Sem.run_bind, Sem.run_pure, Result.andThen_ok]
      exact run_loadVar hP hb (by omega) h1 h2
  case eref T' u =>
    replace h := stp_ite h; obtain ⟨rfl, h⟩ := h
    obtain ⟨rfl, rfl⟩ := stp_ret h
    obtain ⟨b, off, C, Te, m, rfl, hb, _, h1, h2⟩ := vv_eref hv
    have hlen := rep_length hP h1 h2
    refine ⟨rfl, mkV P T' ((C.toList.drop off).take (P.cellsOf T')), ?_, vv_of_rep hP h1 h2⟩
    simp only [Instr.loadAt, Instr.sureAddr, Sem.run_bind, Sem.run_pure, Result.andThen_ok]
    by_cases h0 : P.cellsOf T' = 0
    · -- a value without cells: an empty struct or array
      have hs := shape_ne h1 h2
      unfold loadVar
      rw [Sem.run_bind, run_isAgg hs]
      simp only [Result.andThen_ok]
      cases hsh : shapeT P T' with
      | struct => simp [Sem.run_bind, run_sizeT hs, h0, loadCells, loadCellsFrom, mkV, hsh]
      | arr n e => simp [Sem.run_bind, run_sizeT hs, h0, loadCells, loadCellsFrom, mkV, hsh]
      | other => exact absurd hsh hs
      | _ => exact absurd (hP.scalar (T := T') (by rw [hsh]; rfl)) (by omega)
    · refine run_loadVar hP hb ?_ h1 h2
      simp at hlen
      omega

theorem store_sound (hP : WF P) {c : Cx} (hr : HR P c) {T : TypeId} {x y r : AV} {wr : List (Nat × Entry)} {v u : Value} (hv : VV P c x v) (hu : VV P c y u) (h : (stStore P T y x).run c.h = some (r, wr)) :
    ∃ w', (Instr.storeAt T v u).run P c.w = .ok () w' ∧ Done P c r wr undef w' := by
  cases x <;> simp only [stStore] at h <;> try exact (stp_fail h).elim
  rename_i k p T'
  replace h := stp_ite h; obtain ⟨rfl, h⟩ := h
  obtain ⟨ht, h⟩ := stp_ite h
  have ht := tyB_ok ht
  obtain ⟨e, he, h⟩ := stp_rd h
  obtain ⟨ho, h⟩ := stp_ite h
  cases hg : setE e.es y p with
  | none => rw [hg] at h; exact (stp_fail h).elim
  | some es =>
    rw [hg] at h
    obtain ⟨rfl, rfl⟩ := stp_ret h
    obtain ⟨e', b, off, he', _, hk, hof, rfl⟩ := vv_ref hv
    rw [he] at he'
    cases he'
    obtain ⟨C, m, hb, hm, _, hle, hes⟩ := hr.block he (.inl ho) hk
    rw [hm ho] at hb
    have hru := rep_of_vv ht hu
    obtain ⟨h1, h2, h3⟩ := setE_rep hP hes (by simpa using hle) hof ht hru hg
    have hnl := rep_length hP ht hru
    have hbd : off + u.cells.toList.length ≤ C.toList.length := by rw [hnl]; simp; omega
    have hsz : (splice C.toList off u.cells.toList).toArray.size = C.size := by simpa using splice_length hbd
    refine ⟨putBlk c.w b (.cells (splice C.toList off u.cells.toList).toArray e.T), ?_, c.κ, ?_, ?_, ?_⟩
    · simp only [Instr.storeAt, Instr.sureAddr, Sem.run_bind, Sem.run_pure, Result.andThen_ok]
      exact run_storeVar hP hb (by omega) ht hu
    · exact hr_write hr he ho hk hb hsz (by rw [h1, hsz]; exact hle) (by simpa using h2)
    · exact ext_write he ho hk hb hsz
    · simp only [VV]; exact ⟨[], rfl, by simp only [RepV]⟩

theorem fieldsT_spec {T : TypeId} {i : Nat} {f : TypeId × Nat} (h : (fieldsT P T)[i]? = some f) : ∃ fs, P.underlying T = some (.struct fs) ∧ ∃ g, fs[i]? = some g ∧ g.type = f.1 ∧ g.offset = f.2 := by
  unfold fieldsT at h
  cases hu : P.underlying T with
  | none => simp [hu] at h
  | some d =>
    rw [hu] at h
    cases d <;> simp at h
    rename_i fs
    obtain ⟨g, hg, rfl⟩ := h
    exact ⟨fs, rfl, g, hg, rfl, rfl⟩

/-- Of a field's type something is known: then its place is plain. -/
theorem run_fieldPlace {b off : Nat} {g : Field} (hs : shapeT P g.type ≠ .other) (h0 : P.cellsOf g.type ≠ 0) (w : World) : (fieldPlace ⟨b, off, none⟩ g).run P w = .ok ⟨b, off + g.offset, none⟩ w := by
  unfold fieldPlace
  simp only [Sem.run_bind, run_sizeT hs, Result.andThen_ok, h0, if_false, Sem.run_pure, addr_add]

theorem okT_spec {T : TypeId} (h : okT P T = true) : shapeT P T ≠ .other ∧ P.cellsOf T ≠ 0 := by
  simpa [okT] using h

theorem refOff_append {T0 T T' : TypeId} {p q : List Nat} {o o' : Nat} (h : refOff P T0 p = some (T, o)) (h' : pathT P T q = some (T', o')) : refOff P T0 (p ++ q) = some (T', o + o') := by
  cases p with
  | nil => simp [refOff] at h
  | cons i r =>
    simp only [refOff, Option.map_eq_some_iff, List.cons_append] at h ⊢
    obtain ⟨⟨T1, o1⟩, h, hq⟩ := h
    simp only [Prod.mk.injEq] at hq
    obtain ⟨rfl, rfl⟩ := hq
    exact ⟨_, pathT_append h h', by simp [Nat.add_assoc]⟩

theorem struct_shape {T : TypeId} {f : TypeId × Nat} {i : Nat} (h : (fieldsT P T)[i]? = some f) (hs : shapeT P T ≠ .other) : shapeT P T = .struct := by
  obtain ⟨fs, hu, _⟩ := fieldsT_spec h
  have := shape_spec (P := P) (T := T) rfl hs
  rw [hu] at this
  exact this.symm

theorem fieldAddr_sound (hP : WF P) {c : Cx} (hr : HR P c) {T : TypeId} {i : Nat} {x r : AV} {wr : List (Nat × Entry)} {v : Value} (hT : shapeT P T = .struct) (hv : VV P c x v) (h : (stFieldAddr P T i x).run c.h = some (r, wr)) :
    wr = [] ∧ ∃ u, (Instr.fieldAt T v i).run P c.w = .ok u c.w ∧ VV P c r u := by
  cases x <;> simp only [stFieldAddr] at h <;> try exact (stp_fail h).elim
  case ref k p T' =>
    replace h := stp_ite h; obtain ⟨rfl, h⟩ := h
    cases hf : (fieldsT P T')[i]? with
    | none => rw [hf] at h; exact (stp_fail h).elim
    | some f =>
      rw [hf] at h
      replace h := stp_ite h; obtain ⟨hok, h⟩ := h
      obtain ⟨rfl, rfl⟩ := stp_ret h
      obtain ⟨e, b, off, he, hne, hk, ho, rfl⟩ := vv_ref hv
      obtain ⟨fs, hu, g, hg, hgt, hgo⟩ := fieldsT_spec hf
      obtain ⟨h1, h2⟩ := okT_spec hok
      refine ⟨rfl, .pointer (some ⟨b, off + f.2, none⟩), ?_, vv_ref_mk he hne hk (refOff_append ho ?_)⟩
      · simp only [Instr.fieldAt, Sem.run_bind, run_underlying hu, Result.andThen_ok, hg, Instr.sureAddr, Sem.run_pure]
        rw [run_fieldPlace (by rw [hgt]; exact h1) (by rw [hgt]; exact h2)]
        simp [hgo]
      · simp [pathT, hT, hf]
  case eref T' u =>
    cases u <;> try exact (stp_fail h).elim
    rename_i T'' vs
    simp only at h
    replace h := stp_ite h; obtain ⟨rfl, h⟩ := h
    cases hf : (fieldsT P T')[i]? with
    | none => rw [hf] at h; exact (stp_fail h).elim
    | some f =>
      rw [hf] at h
      cases hx : vs[i]? with
      | none => rw [hx] at h; exact (stp_fail h).elim
      | some y =>
        rw [hx] at h
        replace h := stp_ite h; obtain ⟨hok, h⟩ := h
        obtain ⟨rfl, rfl⟩ := stp_ret h
        obtain ⟨b, off, C, Te, m, rfl, hb, hO, ht, hrep⟩ := vv_eref hv
        simp only [tyOK] at ht
        subst ht
        obtain ⟨fs, hu, g, hg, hgt, hgo⟩ := fieldsT_spec hf
        obtain ⟨h1, h2⟩ := okT_spec hok
        have hp : pathT P T'' [i] = some (f.1, f.2) := by simp [pathT, hT, hf]
        have hgp : getP (.agg T'' vs) [i] = some y := by simp [getP, hx]
        obtain ⟨h3, h4⟩ := getP_rep hP (a := .agg T'' vs) (T := T'') (by simp only [tyOK]) hrep hp hgp
        rw [drop_take_drop_take _ _ _ _ _ (pathT_bound hP hp)] at h4
        refine ⟨rfl, .pointer (some ⟨b, off + f.2, none⟩), ?_, vv_eref_mk hb hO h3 h4⟩
        simp only [Instr.fieldAt, Sem.run_bind, run_underlying hu, Result.andThen_ok, hg, Instr.sureAddr, Sem.run_pure]
        rw [run_fieldPlace (by rw [hgt]; exact h1) (by rw [hgt]; exact h2)]
        simp [hgo]

/-- A part of a value in hand. -/
theorem run_part (hP : WF P) {c : Cx} {T : TypeId} {o : Nat} {cs : Array Value} {y : AV} (ht : tyOK P y T) (h : Rep P c y ((cs.toList.drop o).take (P.cellsOf T))) (w : World) :
    (part T cs o).run P w = .ok (mkV P T ((cs.toList.drop o).take (P.cellsOf T))) w := by
  have hs := shape_ne ht h
  have hl := rep_length hP ht h
  unfold part
  rw [Sem.run_bind, run_isAgg hs]
  simp only [Result.andThen_ok]
  have hex : (cs.extract o (o + P.cellsOf T)) = ((cs.toList.drop o).take (P.cellsOf T)).toArray := by
    apply Array.ext'
    simp
  cases hsh : shapeT P T with
  | struct => simp only [if_true, Sem.run_bind, run_sizeT hs, Result.andThen_ok, Sem.run_pure, mkV, hsh, hex]
  | arr n e => simp only [if_true, Sem.run_bind, run_sizeT hs, Result.andThen_ok, Sem.run_pure, mkV, hsh, hex]
  | other => exact absurd hsh hs
  | _ =>
    have h1 := hP.scalar (T := T) (by rw [hsh]; rfl)
    rw [h1] at hl
    have hlt : o < cs.size := by simp at hl; omega
    simp [mkV, hsh, h1, List.take_one, List.head?_drop, hlt]

theorem field_sound (hP : WF P) {c : Cx} {T : TypeId} {i : Nat} {x r : AV} {wr : List (Nat × Entry)} {v : Value} (hT : shapeT P T = .struct) (hv : VV P c x v) (h : (stField P T i x).run c.h = some (r, wr)) :
    wr = [] ∧ ∃ u, (Instr.field T v i).run P c.w = .ok u c.w ∧ VV P c r u := by
  cases x <;> simp only [stField] at h <;> try exact (stp_fail h).elim
  rename_i T' vs
  replace h := stp_ite h; obtain ⟨rfl, h⟩ := h
  cases hf : (fieldsT P T')[i]? with
  | none => rw [hf] at h; exact (stp_fail h).elim
  | some f =>
    rw [hf] at h
    cases hx : vs[i]? with
    | none => rw [hx] at h; exact (stp_fail h).elim
    | some y =>
      rw [hx] at h
      replace h := stp_ite h; obtain ⟨hok, h⟩ := h
      obtain ⟨rfl, rfl⟩ := stp_ret h
      obtain ⟨cs, rfl, hrep⟩ := vv_agg hv
      obtain ⟨fs, hu, g, hg, hgt, hgo⟩ := fieldsT_spec hf
      obtain ⟨h1, h2⟩ := okT_spec hok
      have hp : pathT P T' [i] = some (f.1, f.2) := by simp [pathT, hT, hf]
      obtain ⟨h3, h4⟩ := getP_rep hP (a := .agg T' vs) (T := T') (by simp only [tyOK]) hrep hp (v := r) (by simp [getP, hx])
      refine ⟨rfl, _, ?_, vv_of_rep hP h3 h4⟩
      simp only [Instr.field, Sem.run_bind, run_underlying hu, Result.andThen_ok, hg, asAgg, Sem.run_pure]
      rw [hgt, hgo]
      exact run_part hP h3 h4 _

theorem winOff_elem {T0 T : TypeId} {p : List Nat} {o : Nat} (h : winOff P T0 p = some (T, o)) (i : Nat) (hi : ∀ l, winLim P T0 p = some l → i < l) : refOff P T0 (p ++ [i]) = some (T, o + i * P.cellsOf T) := by
  cases p with
  | nil =>
    simp only [winOff, Option.some.injEq, Prod.mk.injEq] at h
    obtain ⟨rfl, rfl⟩ := h
    simp [refOff, pathT]
  | cons j r =>
    simp only [winOff] at h
    cases hp : pathT P T0 r with
    | none => simp [hp] at h
    | some x =>
      obtain ⟨A, q⟩ := x
      simp only [hp] at h
      cases hs : shapeT P A <;> simp [hs] at h
      rename_i n e
      obtain ⟨rfl, rfl⟩ := h
      have hlt := hi n (by simp [winLim, hp, hs])
      have h2 : pathT P A [i] = some (e, i * P.cellsOf e) := by simp [pathT, hs, hlt]
      have := pathT_append hp h2
      simp [refOff, this, Nat.add_assoc]

theorem asInt_of {c : Cx} {k : IntKind} {n : Int} {v : Value} (h : VV P c (.int k n) v) (w : World) : (asIntOf v).run P w = .ok (k, n) w := by
  rw [vv_int h]; rfl

theorem getD_getElem? {es : List AV} {i : Nat} (h : i < es.length) : es[i]? = some (es.getD i .junk) := by
  simp [List.getD, List.getElem?_eq_getElem h]

theorem indexAddr_sound (hP : WF P) {c : Cx} {T : TypeId} {x i r : AV} {wr : List (Nat × Entry)} {v u : Value} (hv : VV P c x v) (hu : VV P c i u) (h : (stIndexAddr P T x i).run c.h = some (r, wr)) :
    wr = [] ∧ ∃ z, (Instr.indexAt T v u).run P c.w = .ok z c.w ∧ VV P c r z := by
  cases i <;> simp only [stIndexAddr] at h <;> try exact (stp_fail h).elim
  rename_i ki n
  obtain rfl := vv_int hu
  cases x <;> try exact (stp_fail h).elim
  case win k p e fr len lo =>
    simp only at h
    replace h := stp_ite h; obtain ⟨⟨hs, hok⟩, h⟩ := h
    replace h := stp_ite h; obtain ⟨⟨h0, h1⟩, h⟩ := h
    obtain ⟨rfl, rfl⟩ := stp_ret h
    obtain ⟨en, cap, a, hk, hne, rfl, hlo, hn, hpe, hc⟩ := vv_win hv
    obtain ⟨b, off, C, m, hkb, hw, hb, hm, rfl, hbd, hlim⟩ := hc (by omega)
    refine ⟨rfl, .pointer (some ⟨b, off + fr * P.cellsOf e + n.toNat * P.cellsOf e, none⟩), ?_, ?_⟩
    · simp only [Instr.indexAt, Sem.run_bind, asIntOf, Sem.run_pure, Result.andThen_ok, run_underlying (und_slice hs), h0, h1, and_self, if_true, run_sizeT (okT_spec hok).1, addr_add]
    · have := winOff_elem hw (fr + n.toNat) (fun l hl => by have := hlim l hl; omega)
      refine vv_ref_mk hk hne hkb ?_
      rw [this, Nat.add_mul, Nat.add_assoc]
  case list e es =>
    simp only at h
    replace h := stp_ite h; obtain ⟨⟨hs, hok⟩, h⟩ := h
    replace h := stp_ite h; obtain ⟨⟨h0, h1⟩, h⟩ := h
    obtain ⟨rfl, rfl⟩ := stp_ret h
    obtain ⟨a, cap, rfl, hcap, hne⟩ := vv_list hv
    have hlt : n.toNat < es.length := by omega
    obtain ⟨b, off, C, Te, m, rfl, hb, hO, hE⟩ := hne (by rintro rfl; simp at hlt)
    obtain ⟨h3, h4⟩ := repE_get hE (getD_getElem? hlt)
    rw [List.drop_drop] at h4
    refine ⟨rfl, .pointer (some ⟨b, off + n.toNat * P.cellsOf e, none⟩), ?_, vv_eref_mk hb hO h3 h4⟩
    simp only [Instr.indexAt, Sem.run_bind, asIntOf, Sem.run_pure, Result.andThen_ok, run_underlying (und_slice hs), h0, h1, and_self, if_true, run_sizeT (okT_spec hok).1, addr_add]
  case ref k p T' =>
    simp only at h
    replace h := stp_ite h; obtain ⟨rfl, h⟩ := h
    cases hs : shapeT P T' <;> rw [hs] at h <;> try exact (stp_fail h).elim
    rename_i m e
    replace h := stp_ite h; obtain ⟨⟨hok, h0, h1⟩, h⟩ := h
    obtain ⟨rfl, rfl⟩ := stp_ret h
    obtain ⟨en, b, off, hk, hne, hkb, ho, rfl⟩ := vv_ref hv
    refine ⟨rfl, .pointer (some ⟨b, off + n.toNat * P.cellsOf e, none⟩), ?_, vv_ref_mk hk hne hkb (refOff_append ho ?_)⟩
    · simp only [Instr.indexAt, Instr.sureAddr, Sem.run_bind, asIntOf, Sem.run_pure, Result.andThen_ok, run_underlying (und_arr hs), h0, h1, and_self, if_true, run_sizeT (okT_spec hok).1, addr_add]
    · have : n.toNat < m := by omega
      simp [pathT, hs, this]
  case eref T' y =>
    cases y <;> try exact (stp_fail h).elim
    rename_i T'' vs
    simp only at h
    replace h := stp_ite h; obtain ⟨rfl, h⟩ := h
    cases hs : shapeT P T' <;> rw [hs] at h <;> try exact (stp_fail h).elim
    rename_i m e
    replace h := stp_ite h; obtain ⟨⟨hok, h0, h1⟩, h⟩ := h
    obtain ⟨rfl, rfl⟩ := stp_ret h
    obtain ⟨b, off, C, Te, mk, rfl, hb, hO, ht, hrep⟩ := vv_eref hv
    simp only [tyOK] at ht
    subst ht
    have hrep' := hrep
    simp only [Rep, hs] at hrep'
    have hlt : n.toNat < vs.length := by rw [hrep'.2.1]; omega
    have hlm : n.toNat < m := by omega
    have hp : pathT P T'' [n.toNat] = some (e, n.toNat * P.cellsOf e) := by simp [pathT, hs, hlm]
    obtain ⟨h3, h4⟩ := getP_rep hP (a := .agg T'' vs) (T := T'') (by simp only [tyOK]) hrep hp (v := vs.getD n.toNat .junk) (by simp only [getP, getD_getElem? hlt])
    rw [drop_take_drop_take _ _ _ _ _ (pathT_bound hP hp)] at h4
    refine ⟨rfl, .pointer (some ⟨b, off + n.toNat * P.cellsOf e, none⟩), ?_, vv_eref_mk hb hO h3 h4⟩
    simp only [Instr.indexAt, Instr.sureAddr, Sem.run_bind, asIntOf, Sem.run_pure, Result.andThen_ok, run_underlying (und_arr hs), h0, h1, and_self, if_true, run_sizeT (okT_spec hok).1, addr_add]

theorem index_sound (hP : WF P) {c : Cx} {T : TypeId} {x i r : AV} {wr : List (Nat × Entry)} {v u : Value} (hv : VV P c x v) (hu : VV P c i u) (h : (stIndex P T x i).run c.h = some (r, wr)) :
    wr = [] ∧ ∃ z, (Instr.index T v u).run P c.w = .ok z c.w ∧ VV P c r z := by
  cases i <;> simp only [stIndex] at h <;> try exact (stp_fail h).elim
  rename_i ki n
  obtain rfl := vv_int hu
  cases x <;> try exact (stp_fail h).elim
  case agg T' vs =>
    simp only at h
    replace h := stp_ite h; obtain ⟨rfl, h⟩ := h
    cases hs : shapeT P T' <;> rw [hs] at h <;> try exact (stp_fail h).elim
    rename_i m e
    replace h := stp_ite h; obtain ⟨⟨hok, h0, h1⟩, h⟩ := h
    obtain ⟨rfl, rfl⟩ := stp_ret h
    obtain ⟨cs, rfl, hrep⟩ := vv_agg hv
    have hrep' := hrep
    simp only [Rep, hs] at hrep'
    have hlt : n.toNat < vs.length := by rw [hrep'.2.1]; omega
    have hlm : n.toNat < m := by omega
    have hp : pathT P T' [n.toNat] = some (e, n.toNat * P.cellsOf e) := by simp [pathT, hs, hlm]
    obtain ⟨h3, h4⟩ := getP_rep hP (a := .agg T' vs) (T := T') (by simp only [tyOK]) hrep hp (v := vs.getD n.toNat .junk) (by simp only [getP, getD_getElem? hlt])
    refine ⟨rfl, _, ?_, vv_of_rep hP h3 h4⟩
    simp only [Instr.index, Sem.run_bind, asIntOf, Sem.run_pure, Result.andThen_ok, run_underlying (und_arr hs), h0, h1, and_self, if_true, run_sizeT (okT_spec hok).1]
    exact run_part hP h3 h4 _
  case str s =>
    simp only at h
    replace h := stp_ite h; obtain ⟨hs, h⟩ := h
    replace h := stp_ite h; obtain ⟨⟨h0, h1⟩, h⟩ := h
    obtain ⟨rfl, rfl⟩ := stp_ret h
    obtain rfl := vv_str hv
    have hlt : n.toNat < s.size := by omega
    refine ⟨rfl, .int .u8 ((s.data.getD n.toNat 0).toNat), ?_, ?_⟩
    · simp only [Instr.index, Sem.run_bind, asIntOf, Sem.run_pure, Result.andThen_ok, run_underlying (und_str hs), h0, if_true]
      have hget : s[n.toNat]? = some (s.data.getD n.toNat 0) := by
        rw [getElem?_pos s n.toNat hlt]
        congr 1
        have : n.toNat < s.data.size := hlt
        unfold Array.getD
        rw [dif_pos this]
        rfl
      rw [hget]
      rfl
    · simp [VV, Rep, isAgg, Value.isAgg, Value.cells]
end
end Go.Abs
