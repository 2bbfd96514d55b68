/- Abs8: a part of the proofs about the tuple space and its bytes. -/
import Derived.Test.YtilfbkhbjkjicaaAbs4
import Derived.ShutString
import Derived.Laws.Pointers
import Derived.Laws.Bits
import Derived.Laws.StructEq
set_option linter.all false
namespace Go.Abs
open Go
section
variable {P : Program}
theorem getE_rep (hP : WF P) {c : Cx} {es : List AV} {T0 T : TypeId} {p : List Nat} {off : Nat} {cs : List Value} {v : AV} (h : qa0 P c es T0 cs) (hp : qbc P T0 p = some (T, off))
    (hg : getE es p = some v) : yaz P v T ∧ Rep P c v ((cs.drop off).take (P.cellsOf T)) ∧ off + P.cellsOf T ≤ es.length * P.cellsOf T0 := by
  cases p with
  | nil => simp [qbc] at hp
  | cons i r =>
    simp only [qbc, Option.map_eq_some_iff] at hp
    obtain ⟨⟨T1, o⟩, hp, hq⟩ := hp
    simp only [Prod.mk.injEq] at hq
    obtain ⟨rfl, rfl⟩ := hq
    simp only [getE] at hg
    cases hi : es[i]? with
    | none => simp [hi] at hg
    | some u =>
      simp only [hi] at hg
      obtain ⟨h1, h2⟩ := qa7 h hi
      obtain ⟨h3, h4⟩ := yck hP h1 h2 hp hg
      have hb := zaw hP hp
      rw [za5 _ _ _ _ _ hb] at h4
      refine ⟨h3, h4, ?_⟩
      have hlt := (List.getElem?_eq_some_iff.1 hi).1
      have : (i + 1) * P.cellsOf T0 ≤ es.length * P.cellsOf T0 := Nat.mul_le_mul_right _ hlt
      rw [Nat.add_mul] at this
      omega
theorem setE_rep (hP : WF P) {c : Cx} {es es' : List AV} {T0 T : TypeId} {p : List Nat} {off : Nat} {cs new : List Value} {u : AV} (h : qa0 P c es T0 cs) (hl : es.length * P.cellsOf T0 ≤ cs.length)
    (hp : qbc P T0 p = some (T, off)) (ht : yaz P u T) (hn : Rep P c u new) (hs : setE es u p = some es') :
    es'.length = es.length ∧ qa0 P c es' T0 (zav cs off new) ∧ off + P.cellsOf T ≤ es.length * P.cellsOf T0 := by
  cases p with
  | nil => simp [qbc] at hp
  | cons i r =>
    simp only [qbc, Option.map_eq_some_iff] at hp
    obtain ⟨⟨T1, o⟩, hp, hq⟩ := hp
    simp only [Prod.mk.injEq] at hq
    obtain ⟨rfl, rfl⟩ := hq
    simp only [setE] at hs
    cases hi : es[i]? with
    | none => simp [hi] at hs
    | some v =>
      simp only [hi, Option.map_eq_some_iff] at hs
      obtain ⟨y, hy, rfl⟩ := hs
      have hlt := (List.getElem?_eq_some_iff.1 hi).1
      have hmul : (i + 1) * P.cellsOf T0 ≤ es.length * P.cellsOf T0 := Nat.mul_le_mul_right _ hlt
      rw [Nat.add_mul] at hmul
      have hb := zaw hP hp
      have hnl := yao hP ht hn
      obtain ⟨h1, h2⟩ := qa7 h hi
      obtain ⟨h3, h4⟩ := setP_rep hP h1 h2 hp ht hn hy
      refine ⟨by simp, ?_, by omega⟩
      refine repE_iff.2 fun j w hw => ?_
      by_cases hji : j = i
      · subst hji
        rw [List.getElem?_set_self hlt] at hw
        cases hw
        refine ⟨h3, ?_⟩
        rw [splice_in (by omega) (by omega)]
        exact h4
      · rw [List.getElem?_set_ne (by omega)] at hw
        obtain ⟨h5, h6⟩ := qa7 h hw
        refine ⟨h5, ?_⟩
        have hjl := (List.getElem?_eq_some_iff.1 hw).1
        rcases Nat.lt_or_gt_of_ne hji with hlt2 | hgt
        · have hm2 : (j + 1) * P.cellsOf T0 ≤ i * P.cellsOf T0 := Nat.mul_le_mul_right _ hlt2
          rw [Nat.add_mul] at hm2
          rw [zcj (by omega) (by omega)]
          exact h6
        · have hm2 : (i + 1) * P.cellsOf T0 ≤ j * P.cellsOf T0 := Nat.mul_le_mul_right _ hgt
          rw [Nat.add_mul] at hm2
          rw [qci (by omega) (by omega)]
          exact h6
theorem zcs {k : Nat} {f : Entry → Stp} {h : List Entry} {x : AV × List (Nat × Entry)} (hx : (Stp.rd k f).run h = some x) : ∃ e, h[k]? = some e ∧ (f e).run h = some x := by
  simp only [Stp.run] at hx
  cases he : h[k]? with
  | none => simp [he] at hx
  | some e => simp only [he] at hx; exact ⟨e, rfl, hx⟩
theorem yaf {v r : AV} {wr wr' : List (Nat × Entry)} {h : List Entry} (hx : (Stp.ret v wr').run h = some (r, wr)) : r = v ∧ wr = wr' := by
  simp only [Stp.run, Option.some.injEq, Prod.mk.injEq] at hx
  exact ⟨hx.1.symm, hx.2.symm⟩
theorem yae {x : AV × List (Nat × Entry)} {h : List Entry} (hx : Stp.fail.run h = some x) : False := by simp [Stp.run] at hx
theorem qaf {p : Prop} [Decidable p] {a : Stp} {h : List Entry} {x : AV × List (Nat × Entry)} (hx : (if p then a else .fail).run h = some x) : p ∧ a.run h = some x := by
  split at hx
  · exact ⟨‹_›, hx⟩
  · exact (yae hx).elim
theorem qas {e : Entry} (h : yb5 e.st = true) : Live e := by
  unfold Live
  cases hs : e.st <;> simp_all [yb5]
theorem load_sound (hP : WF P) {c : Cx} (hr : HR P c) {T : TypeId} {x r : AV} {wr : List (Nat × Entry)} {v : Value} (hv : VV P c x v) (h : (qcd T x).run c.h = some (r, wr)) :
    wr = [] ∧ ∃ u, (Instr.loadAt T v).run P c.w = .ok u c.w ∧ VV P c r u := by
  cases x <;> simp only [qcd] at h <;> try exact (yae h).elim
  case ref k p T' =>
    replace h := qaf h; obtain ⟨rfl, h⟩ := h
    obtain ⟨e, he, h⟩ := zcs h
    obtain ⟨hl, h⟩ := qaf h
    cases hg : getE e.es p with
    | none => rw [hg] at h; exact (yae h).elim
    | some u =>
      rw [hg] at h
      obtain ⟨rfl, rfl⟩ := yaf h
      obtain ⟨e', b, off, he', _, hk, ho, rfl⟩ := ydx hv
      rw [he] at he'
      cases he'
      obtain ⟨C, m, hb, _, _, hle, hes⟩ := hr.block he (qas hl) hk
      obtain ⟨h1, h2, h3⟩ := getE_rep hP hes ho hg
      refine ⟨rfl, mkV P T' ((C.toList.drop off).take (P.cellsOf T')), ?_, zbv hP h1 h2⟩
      simp only [Instr.loadAt, Instr.sureAddr, Sem.run_bind, Sem.run_pure, Result.andThen_ok]
      exact run_loadVar hP hb (by omega) h1 h2
  case eref T' u =>
    replace h := qaf h; obtain ⟨rfl, h⟩ := h
    obtain ⟨rfl, rfl⟩ := yaf h
    obtain ⟨b, off, C, Te, m, rfl, hb, _, h1, h2⟩ := vv_eref hv
    have hlen := yao hP h1 h2
    refine ⟨rfl, mkV P T' ((C.toList.drop off).take (P.cellsOf T')), ?_, zbv hP h1 h2⟩
    simp only [Instr.loadAt, Instr.sureAddr, Sem.run_bind, Sem.run_pure, Result.andThen_ok]
    by_cases h0 : P.cellsOf T' = 0
    · 
      have hs := shape_ne h1 h2
      unfold loadVar
      rw [Sem.run_bind, run_isAgg hs]
      simp only [Result.andThen_ok]
      cases hsh : zab P T' with
      | struct => simp [Sem.run_bind, qak hs, h0, loadCells, loadCellsFrom, mkV, hsh]
      | arr n e => simp [Sem.run_bind, qak hs, h0, loadCells, loadCellsFrom, mkV, hsh]
      | other => exact absurd hsh hs
      | _ => exact absurd (hP.scalar (T := T') (by rw [hsh]; rfl)) (by omega)
    · refine run_loadVar hP hb ?_ h1 h2
      simp at hlen
      omega
theorem store_sound (hP : WF P) {c : Cx} (hr : HR P c) {T : TypeId} {x y r : AV} {wr : List (Nat × Entry)} {v u : Value} (hv : VV P c x v) (hu : VV P c y u) (h : (qdq P T y x).run c.h = some (r, wr)) :
    ∃ w', (Instr.storeAt T v u).run P c.w = .ok () w' ∧ Done P c r wr undef w' := by
  cases x <;> simp only [qdq] at h <;> try exact (yae h).elim
  rename_i k p T'
  replace h := qaf h; obtain ⟨rfl, h⟩ := h
  obtain ⟨ht, h⟩ := qaf h
  have ht := tyB_ok ht
  obtain ⟨e, he, h⟩ := zcs h
  obtain ⟨ho, h⟩ := qaf h
  cases hg : setE e.es y p with
  | none => rw [hg] at h; exact (yae h).elim
  | some es =>
    rw [hg] at h
    obtain ⟨rfl, rfl⟩ := yaf h
    obtain ⟨e', b, off, he', _, hk, hof, rfl⟩ := ydx hv
    rw [he] at he'
    cases he'
    obtain ⟨C, m, hb, hm, _, hle, hes⟩ := hr.block he (.inl ho) hk
    have hru := zbf ht hu
    obtain ⟨h1, h2, h3⟩ := setE_rep hP hes (by simpa using hle) hof ht hru hg
    have hnl := yao hP ht hru
    have hbd : off + u.cells.toList.length ≤ C.toList.length := by rw [hnl]; simp; omega
    have hsz : (zav C.toList off u.cells.toList).toArray.size = C.size := by simpa using za0 hbd
    refine ⟨ya0 c.w b (.cells (zav C.toList off u.cells.toList).toArray e.T m), ?_, c.κ, ?_, ?_, ?_⟩
    · simp only [Instr.storeAt, Instr.sureAddr, Sem.run_bind, Sem.run_pure, Result.andThen_ok]
      exact run_storeVar hP hb (hm ho) (by omega) ht hu
    · exact hr_write hr he ho hk hb hsz (hm ho) (by rw [h1, hsz]; exact hle) (by simpa using h2)
    · exact zcy he ho hk hb hsz
    · simp only [VV]; exact ⟨[], rfl, by simp only [ya2]⟩
theorem qcx {T : TypeId} {i : Nat} {f : TypeId × Nat} (h : (qaj P T)[i]? = some f) : ∃ fs, P.underlying T = some (.struct fs) ∧ ∃ g, fs[i]? = some g ∧ g.type = f.1 ∧ g.offset = f.2 := by
  unfold qaj at h
  cases hu : P.underlying T with
  | none => simp [hu] at h
  | some d =>
    rw [hu] at h
    cases d <;> simp at h
    rename_i fs
    obtain ⟨g, hg, rfl⟩ := h
    exact ⟨fs, rfl, g, hg, rfl, rfl⟩
theorem yc6 {b off : Nat} {g : Field} (hs : zab P g.type ≠ .other) (h0 : P.cellsOf g.type ≠ 0) (w : World) : (fieldPlace ⟨b, off, none⟩ g).run P w = .ok ⟨b, off + g.offset, none⟩ w := by
  unfold fieldPlace
  simp only [Sem.run_bind, qak hs, Result.andThen_ok, h0, if_false, Sem.run_pure, zbm]
theorem yai {T : TypeId} (h : okT P T = true) : zab P T ≠ .other ∧ P.cellsOf T ≠ 0 := by
  simpa [okT] using h
theorem ydi {T0 T T' : TypeId} {p q : List Nat} {o o' : Nat} (h : qbc P T0 p = some (T, o)) (h' : za9 P T q = some (T', o')) : qbc P T0 (p ++ q) = some (T', o + o') := by
  cases p with
  | nil => simp [qbc] at h
  | cons i r =>
    simp only [qbc, Option.map_eq_some_iff, List.cons_append] at h ⊢
    obtain ⟨⟨T1, o1⟩, h, hq⟩ := h
    simp only [Prod.mk.injEq] at hq
    obtain ⟨rfl, rfl⟩ := hq
    exact ⟨_, zca h h', by simp [Nat.add_assoc]⟩
theorem fieldAddr_sound (hP : WF P) {c : Cx} (hr : HR P c) {T : TypeId} {i : Nat} {x r : AV} {wr : List (Nat × Entry)} {v : Value} (hT : zab P T = .struct) (hv : VV P c x v) (h : (ybe P T i x).run c.h = some (r, wr)) :
    wr = [] ∧ ∃ u, (Instr.fieldAt T v i).run P c.w = .ok u c.w ∧ VV P c r u := by
  cases x <;> simp only [ybe] at h <;> try exact (yae h).elim
  case ref k p T' =>
    replace h := qaf h; obtain ⟨rfl, h⟩ := h
    cases hf : (qaj P T')[i]? with
    | none => rw [hf] at h; exact (yae h).elim
    | some f =>
      rw [hf] at h
      replace h := qaf h; obtain ⟨hok, h⟩ := h
      obtain ⟨rfl, rfl⟩ := yaf h
      obtain ⟨e, b, off, he, hne, hk, ho, rfl⟩ := ydx hv
      obtain ⟨fs, hu, g, hg, hgt, hgo⟩ := qcx hf
      obtain ⟨h1, h2⟩ := yai hok
      refine ⟨rfl, .pointer (some ⟨b, off + f.2, none⟩), ?_, qdf he hne hk (ydi ho ?_)⟩
      · simp only [Instr.fieldAt, Sem.run_bind, run_underlying hu, Result.andThen_ok, hg, Instr.sureAddr, Sem.run_pure]
        rw [yc6 (by rw [hgt]; exact h1) (by rw [hgt]; exact h2)]
        simp [hgo]
      · simp [za9, hT, hf]
  case eref T' u =>
    cases u <;> try exact (yae h).elim
    rename_i T'' vs
    simp only at h
    replace h := qaf h; obtain ⟨rfl, h⟩ := h
    cases hf : (qaj P T')[i]? with
    | none => rw [hf] at h; exact (yae h).elim
    | some f =>
      rw [hf] at h
      cases hx : vs[i]? with
      | none => rw [hx] at h; exact (yae h).elim
      | some y =>
        rw [hx] at h
        replace h := qaf h; obtain ⟨hok, h⟩ := h
        obtain ⟨rfl, rfl⟩ := yaf h
        obtain ⟨b, off, C, Te, m, rfl, hb, hO, ht, hrep⟩ := vv_eref hv
        simp only [yaz] at ht
        subst ht
        obtain ⟨fs, hu, g, hg, hgt, hgo⟩ := qcx hf
        obtain ⟨h1, h2⟩ := yai hok
        have hp : za9 P T'' [i] = some (f.1, f.2) := by simp [za9, hT, hf]
        have hgp : qbg (.agg T'' vs) [i] = some y := by simp [qbg, hx]
        obtain ⟨h3, h4⟩ := yck hP (a := .agg T'' vs) (T := T'') (by simp only [yaz]) hrep hp hgp
        rw [za5 _ _ _ _ _ (zaw hP hp)] at h4
        refine ⟨rfl, .pointer (some ⟨b, off + f.2, none⟩), ?_, zdq hb hO h3 h4⟩
        simp only [Instr.fieldAt, Sem.run_bind, run_underlying hu, Result.andThen_ok, hg, Instr.sureAddr, Sem.run_pure]
        rw [yc6 (by rw [hgt]; exact h1) (by rw [hgt]; exact h2)]
        simp [hgo]
theorem yc1 (hP : WF P) {c : Cx} {T : TypeId} {o : Nat} {cs : Array Value} {y : AV} (ht : yaz P y T) (h : Rep P c y ((cs.toList.drop o).take (P.cellsOf T))) (w : World) :
    (part T cs o).run P w = .ok (mkV P T ((cs.toList.drop o).take (P.cellsOf T))) w := by
  have hs := shape_ne ht h
  have hl := yao hP ht h
  unfold part
  rw [Sem.run_bind, run_isAgg hs]
  simp only [Result.andThen_ok]
  have hex : (cs.extract o (o + P.cellsOf T)) = ((cs.toList.drop o).take (P.cellsOf T)).toArray := by
    apply Array.ext'
    simp
  cases hsh : zab P T with
  | struct => simp only [if_true, Sem.run_bind, qak hs, Result.andThen_ok, Sem.run_pure, mkV, hsh, hex]
  | arr n e => simp only [if_true, Sem.run_bind, qak hs, Result.andThen_ok, Sem.run_pure, mkV, hsh, hex]
  | other => exact absurd hsh hs
  | _ =>
    have h1 := hP.scalar (T := T) (by rw [hsh]; rfl)
    rw [h1] at hl
    have hlt : o < cs.size := by simp at hl; omega
    simp [mkV, hsh, h1, List.take_one, List.head?_drop, hlt]
theorem field_sound (hP : WF P) {c : Cx} {T : TypeId} {i : Nat} {x r : AV} {wr : List (Nat × Entry)} {v : Value} (hT : zab P T = .struct) (hv : VV P c x v) (h : (qcs P T i x).run c.h = some (r, wr)) :
    wr = [] ∧ ∃ u, (Instr.field T v i).run P c.w = .ok u c.w ∧ VV P c r u := by
  cases x <;> simp only [qcs] at h <;> try exact (yae h).elim
  rename_i T' vs
  replace h := qaf h; obtain ⟨rfl, h⟩ := h
  cases hf : (qaj P T')[i]? with
  | none => rw [hf] at h; exact (yae h).elim
  | some f =>
    rw [hf] at h
    cases hx : vs[i]? with
    | none => rw [hx] at h; exact (yae h).elim
    | some y =>
      rw [hx] at h
      replace h := qaf h; obtain ⟨hok, h⟩ := h
      obtain ⟨rfl, rfl⟩ := yaf h
      obtain ⟨cs, rfl, hrep⟩ := vv_agg hv
      obtain ⟨fs, hu, g, hg, hgt, hgo⟩ := qcx hf
      obtain ⟨h1, h2⟩ := yai hok
      have hp : za9 P T' [i] = some (f.1, f.2) := by simp [za9, hT, hf]
      obtain ⟨h3, h4⟩ := yck hP (a := .agg T' vs) (T := T') (by simp only [yaz]) hrep hp (v := r) (by simp [qbg, hx])
      refine ⟨rfl, _, ?_, zbv hP h3 h4⟩
      simp only [Instr.field, Sem.run_bind, run_underlying hu, Result.andThen_ok, hg, asAgg, Sem.run_pure]
      rw [hgt, hgo]
      exact yc1 hP h3 h4 _
theorem winOff_elem {T0 T : TypeId} {p : List Nat} {o : Nat} (h : zby P T0 p = some (T, o)) (i : Nat) (hi : ∀ l, ycr P T0 p = some l → i < l) : qbc P T0 (p ++ [i]) = some (T, o + i * P.cellsOf T) := by
  cases p with
  | nil =>
    simp only [zby, Option.some.injEq, Prod.mk.injEq] at h
    obtain ⟨rfl, rfl⟩ := h
    simp [qbc, za9]
  | cons j r =>
    simp only [zby] at h
    cases hp : za9 P T0 r with
    | none => simp [hp] at h
    | some x =>
      obtain ⟨A, q⟩ := x
      simp only [hp] at h
      cases hs : zab P A <;> simp [hs] at h
      rename_i n e
      obtain ⟨rfl, rfl⟩ := h
      have hlt := hi n (by simp [ycr, hp, hs])
      have h2 : za9 P A [i] = some (e, i * P.cellsOf e) := by simp [za9, hs, hlt]
      have := zca hp h2
      simp [qbc, this, Nat.add_assoc]
theorem getD_getElem? {es : List AV} {i : Nat} (h : i < es.length) : es[i]? = some (es.getD i .junk) := by
  simp [List.getD, List.getElem?_eq_getElem h]
theorem indexAddr_sound (hP : WF P) {c : Cx} {T : TypeId} {x i r : AV} {wr : List (Nat × Entry)} {v u : Value} (hv : VV P c x v) (hu : VV P c i u) (h : (ya3 P T x i).run c.h = some (r, wr)) :
    wr = [] ∧ ∃ z, (Instr.indexAt T v u).run P c.w = .ok z c.w ∧ VV P c r z := by
  cases i <;> simp only [ya3] at h <;> try exact (yae h).elim
  rename_i ki n
  obtain rfl := zbc hu
  cases x <;> try exact (yae h).elim
  case win k p e fr len lo =>
    simp only at h
    replace h := qaf h; obtain ⟨⟨hs, hok⟩, h⟩ := h
    replace h := qaf h; obtain ⟨⟨h0, h1⟩, h⟩ := h
    obtain ⟨rfl, rfl⟩ := yaf h
    obtain ⟨en, cap, a, hk, hne, rfl, hlo, hn, hpe, hc⟩ := yby hv
    obtain ⟨b, off, C, m, hkb, hw, hb, hm, rfl, hbd, hlim⟩ := hc (by omega)
    refine ⟨rfl, .pointer (some ⟨b, off + fr * P.cellsOf e + n.toNat * P.cellsOf e, none⟩), ?_, ?_⟩
    · simp only [Instr.indexAt, Sem.run_bind, asIntOf, Sem.run_pure, Result.andThen_ok, run_underlying (qah hs), h0, h1, and_self, if_true, qak (yai hok).1, zbm]
    · have := winOff_elem hw (fr + n.toNat) (fun l hl => by have := hlim l hl; omega)
      refine qdf hk hne hkb ?_
      rw [this, Nat.add_mul, Nat.add_assoc]
  case list e es =>
    simp only at h
    replace h := qaf h; obtain ⟨⟨hs, hok⟩, h⟩ := h
    replace h := qaf h; obtain ⟨⟨h0, h1⟩, h⟩ := h
    obtain ⟨rfl, rfl⟩ := yaf h
    obtain ⟨a, cap, rfl, hcap, hne⟩ := zda hv
    have hlt : n.toNat < es.length := by omega
    obtain ⟨b, off, C, Te, m, rfl, hb, hO, hE⟩ := hne (by rintro rfl; simp at hlt)
    obtain ⟨h3, h4⟩ := qa7 hE (getD_getElem? hlt)
    rw [List.drop_drop] at h4
    refine ⟨rfl, .pointer (some ⟨b, off + n.toNat * P.cellsOf e, none⟩), ?_, zdq hb hO h3 h4⟩
    simp only [Instr.indexAt, Sem.run_bind, asIntOf, Sem.run_pure, Result.andThen_ok, run_underlying (qah hs), h0, h1, and_self, if_true, qak (yai hok).1, zbm]
  case ref k p T' =>
    simp only at h
    replace h := qaf h; obtain ⟨rfl, h⟩ := h
    cases hs : zab P T' <;> rw [hs] at h <;> try exact (yae h).elim
    rename_i m e
    replace h := qaf h; obtain ⟨⟨hok, h0, h1⟩, h⟩ := h
    obtain ⟨rfl, rfl⟩ := yaf h
    obtain ⟨en, b, off, hk, hne, hkb, ho, rfl⟩ := ydx hv
    refine ⟨rfl, .pointer (some ⟨b, off + n.toNat * P.cellsOf e, none⟩), ?_, qdf hk hne hkb (ydi ho ?_)⟩
    · simp only [Instr.indexAt, Instr.sureAddr, Sem.run_bind, asIntOf, Sem.run_pure, Result.andThen_ok, run_underlying (yb3 hs), h0, h1, and_self, if_true, qak (yai hok).1, zbm]
    · have : n.toNat < m := by omega
      simp [za9, hs, this]
  case eref T' y =>
    cases y <;> try exact (yae h).elim
    rename_i T'' vs
    simp only at h
    replace h := qaf h; obtain ⟨rfl, h⟩ := h
    cases hs : zab P T' <;> rw [hs] at h <;> try exact (yae h).elim
    rename_i m e
    replace h := qaf h; obtain ⟨⟨hok, h0, h1⟩, h⟩ := h
    obtain ⟨rfl, rfl⟩ := yaf h
    obtain ⟨b, off, C, Te, mk, rfl, hb, hO, ht, hrep⟩ := vv_eref hv
    simp only [yaz] at ht
    subst ht
    have hrep' := hrep
    simp only [Rep, hs] at hrep'
    have hlt : n.toNat < vs.length := by rw [hrep'.2.1]; omega
    have hlm : n.toNat < m := by omega
    have hp : za9 P T'' [n.toNat] = some (e, n.toNat * P.cellsOf e) := by simp [za9, hs, hlm]
    obtain ⟨h3, h4⟩ := yck hP (a := .agg T'' vs) (T := T'') (by simp only [yaz]) hrep hp (v := vs.getD n.toNat .junk) (by simp only [qbg, getD_getElem? hlt])
    rw [za5 _ _ _ _ _ (zaw hP hp)] at h4
    refine ⟨rfl, .pointer (some ⟨b, off + n.toNat * P.cellsOf e, none⟩), ?_, zdq hb hO h3 h4⟩
    simp only [Instr.indexAt, Instr.sureAddr, Sem.run_bind, asIntOf, Sem.run_pure, Result.andThen_ok, run_underlying (yb3 hs), h0, h1, and_self, if_true, qak (yai hok).1, zbm]
theorem index_sound (hP : WF P) {c : Cx} {T : TypeId} {x i r : AV} {wr : List (Nat × Entry)} {v u : Value} (hv : VV P c x v) (hu : VV P c i u) (h : (ycs P T x i).run c.h = some (r, wr)) :
    wr = [] ∧ ∃ z, (Instr.index T v u).run P c.w = .ok z c.w ∧ VV P c r z := by
  cases i <;> simp only [ycs] at h <;> try exact (yae h).elim
  rename_i ki n
  obtain rfl := zbc hu
  cases x <;> try exact (yae h).elim
  case agg T' vs =>
    simp only at h
    replace h := qaf h; obtain ⟨rfl, h⟩ := h
    cases hs : zab P T' <;> rw [hs] at h <;> try exact (yae h).elim
    rename_i m e
    replace h := qaf h; obtain ⟨⟨hok, h0, h1⟩, h⟩ := h
    obtain ⟨rfl, rfl⟩ := yaf h
    obtain ⟨cs, rfl, hrep⟩ := vv_agg hv
    have hrep' := hrep
    simp only [Rep, hs] at hrep'
    have hlt : n.toNat < vs.length := by rw [hrep'.2.1]; omega
    have hlm : n.toNat < m := by omega
    have hp : za9 P T' [n.toNat] = some (e, n.toNat * P.cellsOf e) := by simp [za9, hs, hlm]
    obtain ⟨h3, h4⟩ := yck hP (a := .agg T' vs) (T := T') (by simp only [yaz]) hrep hp (v := vs.getD n.toNat .junk) (by simp only [qbg, getD_getElem? hlt])
    refine ⟨rfl, _, ?_, zbv hP h3 h4⟩
    simp only [Instr.index, Sem.run_bind, asIntOf, Sem.run_pure, Result.andThen_ok, run_underlying (yb3 hs), h0, h1, and_self, if_true, qak (yai hok).1]
    exact yc1 hP h3 h4 _
  case str s =>
    simp only at h
    replace h := qaf h; obtain ⟨hs, h⟩ := h
    replace h := qaf h; obtain ⟨⟨h0, h1⟩, h⟩ := h
    obtain ⟨rfl, rfl⟩ := yaf h
    obtain rfl := qc5 hv
    have hlt : n.toNat < s.size := by omega
    refine ⟨rfl, .int .u8 ((s.data.getD n.toNat 0).toNat), ?_, ?_⟩
    · simp only [Instr.index, Sem.run_bind, asIntOf, Sem.run_pure, Result.andThen_ok, run_underlying (yba hs), h0, if_true]
      have hget : s[n.toNat]? = some (s.data.getD n.toNat 0) := by
        rw [getElem?_pos s n.toNat hlt]
        congr 1
        have : n.toNat < s.data.size := hlt
        unfold Array.getD
        rw [dif_pos this]
        rfl
      rw [hget]
      rfl
    · simp [VV, Rep, isAgg, Value.isAgg, Value.cells]
end
end Go.Abs
set_option linter.all false
namespace Go.Abs
open Go
section
variable {P : Program}
theorem qao {c : Cx} {k : IntKind} {n : Int} : VV P c (.int k n) (.int k n) := by simp [VV, Rep, isAgg, Value.isAgg, Value.cells]
theorem yau {c : Cx} {b : Bool} : VV P c (.bool b) (.bool b) := by simp [VV, Rep, isAgg, Value.isAgg, Value.cells]
theorem zcd {c : Cx} {s : ByteArray} : VV P c (.str s) (.string s) := by simp [VV, Rep, isAgg, Value.isAgg, Value.cells]
theorem vv_nils_mk {c : Cx} : VV P c .nils (.slice none 0 0) := by simp [VV, Rep, isAgg, Value.isAgg, Value.cells]
theorem qbi {op : BinOp} {T : TypeId} {x y : Operand} {a b : Value} (h1 : ∀ cs, a ≠ .agg cs) (h2 : a ≠ .nilIface) (w : World) : (eqGuard op T x y a b).run P w = .ok () w := by
  unfold eqGuard
  cases op <;> simp only [] <;> first
    | (cases a <;> first | exact absurd rfl (h1 _) | exact absurd rfl h2 | (cases b <;> simp))
    | simp
def andA (P : Program) (n : Nat) (l : List (AV × AV)) : Option Bool :=
  l.foldr (fun p acc => match eqA P n p.1 p.2, acc with | some a, some b => some (a && b) | _, _ => none) (some true)
theorem andA_cons {n : Nat} {x y : AV} {l : List (AV × AV)} {b : Bool} (h : andA P n ((x, y) :: l) = some b) : ∃ b1 b2, eqA P n x y = some b1 ∧ andA P n l = some b2 ∧ b = (b1 && b2) := by
  simp only [andA, List.foldr_cons] at h
  split at h
  · rename_i a1 a2 h1 h2
    exact ⟨a1, a2, h1, h2, by simpa using h.symm⟩
  · cases h
def EqN (P : Program) (c : Cx) (n : Nat) : Prop := ∀ (d : Nat) (x y : AV) (b : Bool) (T : TypeId) (v u : Value), eqA P n x y = some b → yaz P x T → yaz P y T → VV P c x v → VV P c y u → ∀ w, (Op.equalIn (d + n) T v u).run P w = .ok b w
theorem zc8 (hP : WF P) {c : Cx} {n : Nat} (IH : EqN P c n) (d : Nat) {xs ys : Array Value} (w : World) : ∀ (fs : List Field) (vs us : List AV) (b : Bool), (∀ f ∈ fs, f.name ≠ "_") →
    zb1 P c vs (fs.map fun f => (f.type, f.offset)) xs.toList → zb1 P c us (fs.map fun f => (f.type, f.offset)) ys.toList → andA P n (vs.zip us) = some b → (Op.eqFields (d + n) xs ys fs).run P w = .ok b w
  | [], vs, us, b, _, h1, h2, h3 => by
    cases vs with
    | cons v vs => simp [zb1] at h1
    | nil => simp [andA] at h3; subst h3; simp [Op.eqFields]
  | f :: fs, vs, us, b, hn, h1, h2, h3 => by
    cases vs with
    | nil => simp [zb1] at h1
    | cons v vs =>
      cases us with
      | nil => simp [zb1] at h2
      | cons u us =>
        simp only [zb1, List.map_cons, List.cons.injEq] at h1 h2
        obtain ⟨g1, r1, ⟨rfl, rfl⟩, t1, p1, q1⟩ := h1
        obtain ⟨g2, r2, ⟨rfl, rfl⟩, t2, p2, q2⟩ := h2
        obtain ⟨b1, b2, e1, e2, rfl⟩ := andA_cons h3
        have hr := zc8 hP IH d w fs vs us b2 (fun g hg => hn g (by simp [hg])) q1 q2 e2
        have hh := IH d v u b1 f.type _ _ e1 t1 t2 (zbv hP t1 p1) (zbv hP t2 p2) w
        simp only [Op.eqFields, ne_eq, hn f (by simp), not_false_eq_true, if_true, Sem.run_bind, yc1 hP t1 p1, yc1 hP t2 p2, Result.andThen_ok, hh]
        cases b1
        · simp
        · simpa using hr
theorem ydn (hP : WF P) {c : Cx} {n : Nat} (IH : EqN P c n) (d : Nat) {xs ys : Array Value} {e : TypeId} (w : World) : ∀ (vs us : List AV) (k : Nat) (b : Bool),
    qa0 P c vs e (xs.toList.drop (k * P.cellsOf e)) → qa0 P c us e (ys.toList.drop (k * P.cellsOf e)) → vs.length = us.length → andA P n (vs.zip us) = some b →
    (Op.eqItems (d + n) e (P.cellsOf e) xs ys (List.range' k vs.length)).run P w = .ok b w
  | [], us, k, b, _, _, hl, h3 => by
    simp [andA] at h3; subst h3; simp [Op.eqItems]
  | v :: vs, us, k, b, h1, h2, hl, h3 => by
    cases us with
    | nil => simp at hl
    | cons u us =>
      simp only [qa0] at h1 h2
      obtain ⟨t1, p1, q1⟩ := h1
      obtain ⟨t2, p2, q2⟩ := h2
      obtain ⟨b1, b2, e1, e2, rfl⟩ := andA_cons h3
      rw [List.drop_drop, show k * P.cellsOf e + P.cellsOf e = (k + 1) * P.cellsOf e by rw [Nat.add_mul]; omega] at q1 q2
      have hr := ydn hP IH d w vs us (k + 1) b2 q1 q2 (by simpa using hl) e2
      have hh := IH d v u b1 e _ _ e1 t1 t2 (zbv hP t1 p1) (zbv hP t2 p2) w
      simp only [List.length_cons, List.range'_succ, Op.eqItems, Sem.run_bind, yc1 hP t1 p1, yc1 hP t2 p2, Result.andThen_ok, hh]
      cases b1
      · simp
      · simpa using hr
theorem eqA_sound (hP : WF P) (c : Cx) : ∀ n, EqN P c n
  | 0 => by intro d x y b T v u h; simp [eqA] at h
  | n + 1 => by
    intro d x y b T v u h tx ty hx hy w
    have IH := eqA_sound hP c n
    cases x <;> simp only [eqA, reduceCtorEq] at h
    case int k a =>
      cases y <;> simp only [reduceCtorEq, Option.some.injEq] at h
      obtain rfl := zbc hx
      obtain rfl := zbc hy
      simp only [yaz] at tx ty
      rw [tx] at ty
      simp only [Shape.int.injEq] at ty
      subst ty
      subst h
      exact run_equalIn_int w (d + n) T _ _ _ _ (qbs tx)
    case bool a =>
      cases y <;> simp only [reduceCtorEq, Option.some.injEq] at h
      obtain rfl := ybs hx
      obtain rfl := ybs hy
      subst h
      exact run_equalIn_bool' w (d + n) T _ _ (zc1 tx)
    case str a =>
      cases y <;> simp only [reduceCtorEq, Option.some.injEq] at h
      obtain rfl := qc5 hx
      obtain rfl := qc5 hy
      subst h
      rw [beq_toListBytes]
      exact run_equalIn_string w (d + n) T _ _ (yba tx)
    case agg T1 vs =>
      cases y <;> simp only [reduceCtorEq] at h
      rename_i T2 us
      split at h
      · rename_i hc
        obtain ⟨rfl, ht, hl⟩ := hc
        obtain ⟨xs, rfl, h1⟩ := vv_agg hx
        obtain ⟨ys, rfl, h2⟩ := vv_agg hy
        simp only [yaz] at tx
        subst tx
        simp only [Rep] at h1 h2
        cases hs : zab P T1 <;> rw [hs] at h1 h2 <;> simp only [and_false] at h1
        case struct =>
          obtain ⟨fs, hu⟩ := ycd hs
          have hf : P.fieldsOf T1 = fs := by simp [Program.fieldsOf, hu]
          have hft : qaj P T1 = fs.toList.map fun f => (f.type, f.offset) := by simp [qaj, hu]
          simp only [eqT, hu, Bool.and_eq_true, List.all_eq_true, bne_iff_ne, ne_eq, Bool.not_eq_true'] at ht
          rw [show d + (n + 1) = (d + n) + 1 by omega, run_equalIn_struct w (d + n) T1 xs ys (by rw [hf]; exact hu) ht.1.2, hf]
          rw [hft] at h1 h2
          exact zc8 hP IH d w fs.toList vs us b (fun f hf => ht.1.1 f hf) h1.2 h2.2 h
        case arr m e =>
          have hex : ∃ i, P.info? e = some i := by
            simp only [eqT, yb3 hs, Bool.and_eq_true] at ht
            exact zbi (yai ht.1).1
          obtain ⟨i, hi⟩ := hex
          rw [show d + (n + 1) = (d + n) + 1 by omega, run_equalIn_array w (d + n) xs ys (yb3 hs) hi]
          have := ydn hP IH d w vs us 0 b (by simpa using h1.2.2) (by simpa using h2.2.2) hl h
          rw [h1.2.1] at this
          rw [List.range_eq_range']
          exact this
      · cases h
theorem eqT_guard {T : TypeId} (h : eqT P T = true) : P.eqGuardType P.depth T = false := by
  unfold eqT at h
  split at h
  · simp only [Bool.and_eq_true, Bool.not_eq_true'] at h; exact h.2
  · simp only [Bool.and_eq_true, Bool.not_eq_true'] at h; exact h.2
  · cases h
theorem eqA_guard {n : Nat} {T1 T2 : TypeId} {vs us : List AV} {b : Bool} (h : eqA P n (.agg T1 vs) (.agg T2 us) = some b) : P.eqGuardType P.depth T1 = false := by
  cases n with
  | zero => simp [eqA] at h
  | succ n =>
    simp only [eqA] at h
    split at h
    · rename_i hc; exact eqT_guard hc.2.1
    · cases h
theorem ptr_nil {c : Cx} {op : BinOp} {T : TypeId} {a : Option Addr} {r : AV} {xo yo : Operand} {wr : List (Nat × Entry)} {u : Value} (hs : isPtr (zab P T) = true) (hu : VV P c .nilptr u)
    (h : (match op with | .eql => Stp.ret (.bool a.isNone) [] | .neq => .ret (.bool (!a.isNone)) [] | _ => .fail).run c.h = some (r, wr)) :
    wr = [] ∧ ∃ z, ((do eqGuard op T xo yo (.pointer a) u; binOp op T (.pointer a) u) : Sem Value).run P c.w = .ok z c.w ∧ VV P c r z := by
  have hu' := (zba (c := c) (a := .nilptr) (v := u) rfl (by simp) (by simp)).1 hu
  simp only [Rep, List.cons.injEq, and_true] at hu'
  obtain ⟨_, rfl⟩ := hu'
  obtain ⟨e, hs⟩ : ∃ e, zab P T = .ptr e := by cases hs' : zab P T <;> simp_all [isPtr]
  have hT := und_ptr hs
  have hpt : P.underlying T = some (.pointer (P.pointee T)) := by rw [hT]; simp [Program.pointee, hT]
  rw [Sem.run_bind, qbi (by simp) (by simp)]
  simp only [Result.andThen_ok]
  cases op <;> simp only at h <;> try exact (yae h).elim
  case eql =>
    obtain ⟨rfl, rfl⟩ := yaf h
    exact ⟨rfl, .bool a.isNone, run_eql_pointer_nil c.w T a hpt, yau⟩
  case neq =>
    obtain ⟨rfl, rfl⟩ := yaf h
    exact ⟨rfl, .bool (!a.isNone), run_neq_pointer_nil c.w T a hpt, yau⟩
theorem bin_sound (hP : WF P) {c : Cx} {op : BinOp} {T : TypeId} {x y r : AV} {xo yo : Operand} {wr : List (Nat × Entry)} {v u : Value} (hv : VV P c x v) (hu : VV P c y u) (h : (stBin P op T x y).run c.h = some (r, wr)) :
    wr = [] ∧ ∃ z, ((do eqGuard op T xo yo v u; binOp op T v u) : Sem Value).run P c.w = .ok z c.w ∧ VV P c r z := by
  cases x <;> simp only [stBin] at h <;> try exact (yae h).elim
  case int k a =>
    cases y <;> simp only at h <;> try exact (yae h).elim
    rename_i k' b
    replace h := qaf h; obtain ⟨hk, h⟩ := h
    obtain rfl := zbc hv
    obtain rfl := zbc hu
    rw [Sem.run_bind, qbi (by simp) (by simp)]
    simp only [Result.andThen_ok]
    cases op <;> simp only [intBin, reduceCtorEq, false_or, true_or, or_true] at h hk
    case shl =>
      split at h
      · exact (yae h).elim
      · obtain ⟨rfl, rfl⟩ := yaf h
        rename_i hb
        exact ⟨rfl, _, by simp only [binOp, Op.shift, if_neg hb, Sem.run_pure], qao⟩
    case shr =>
      split at h
      · exact (yae h).elim
      · obtain ⟨rfl, rfl⟩ := yaf h
        rename_i hb
        exact ⟨rfl, _, by simp only [binOp, Op.shift, if_neg hb, Sem.run_pure], qao⟩
    all_goals subst hk
    case quo =>
      split at h
      · exact (yae h).elim
      · obtain ⟨rfl, rfl⟩ := yaf h
        rename_i hb
        exact ⟨rfl, _, by simp only [binOp_quo, Op.intDiv, if_neg hb, Sem.run_pure], qao⟩
    case rem =>
      split at h
      · exact (yae h).elim
      · obtain ⟨rfl, rfl⟩ := yaf h
        rename_i hb
        exact ⟨rfl, _, by simp only [binOp_rem, Op.intDiv, if_neg hb, Sem.run_pure], qao⟩
    case add => obtain ⟨rfl, rfl⟩ := yaf h; exact ⟨rfl, _, by rw [binOp_add]; rfl, qao⟩
    case sub => obtain ⟨rfl, rfl⟩ := yaf h; exact ⟨rfl, _, by rw [binOp_sub]; rfl, qao⟩
    case mul => obtain ⟨rfl, rfl⟩ := yaf h; exact ⟨rfl, _, by rw [binOp_mul]; rfl, qao⟩
    case and => obtain ⟨rfl, rfl⟩ := yaf h; exact ⟨rfl, _, by rw [binOp_and]; rfl, qao⟩
    case or => obtain ⟨rfl, rfl⟩ := yaf h; exact ⟨rfl, _, by rw [binOp_or]; rfl, qao⟩
    case xor => obtain ⟨rfl, rfl⟩ := yaf h; exact ⟨rfl, _, by rw [binOp_xor]; rfl, qao⟩
    case andNot => obtain ⟨rfl, rfl⟩ := yaf h; exact ⟨rfl, _, by rw [binOp_andNot]; rfl, qao⟩
    case eql => obtain ⟨rfl, rfl⟩ := yaf h; exact ⟨rfl, _, by rw [binOp_eql]; rfl, yau⟩
    case neq => obtain ⟨rfl, rfl⟩ := yaf h; exact ⟨rfl, _, by rw [binOp_neq]; rfl, yau⟩
    case lss => obtain ⟨rfl, rfl⟩ := yaf h; exact ⟨rfl, _, by rw [binOp_lss]; rfl, yau⟩
    case leq => obtain ⟨rfl, rfl⟩ := yaf h; exact ⟨rfl, _, by rw [binOp_leq]; rfl, yau⟩
    case gtr => obtain ⟨rfl, rfl⟩ := yaf h; exact ⟨rfl, _, by rw [binOp_gtr]; rfl, yau⟩
    case geq => obtain ⟨rfl, rfl⟩ := yaf h; exact ⟨rfl, _, by rw [binOp_geq]; rfl, yau⟩
  case bool a =>
    cases y <;> simp only at h <;> try exact (yae h).elim
    rename_i b
    replace h := qaf h; obtain ⟨hs, h⟩ := h
    obtain rfl := ybs hv
    obtain rfl := ybs hu
    rw [Sem.run_bind, qbi (by simp) (by simp)]
    simp only [Result.andThen_ok]
    cases op <;> simp only at h <;> try exact (yae h).elim
    case eql =>
      obtain ⟨rfl, rfl⟩ := yaf h
      exact ⟨rfl, .bool (a == b), run_eql_bool c.w T a b (zc1 hs), yau⟩
    case neq =>
      obtain ⟨rfl, rfl⟩ := yaf h
      exact ⟨rfl, .bool (!(a == b)), run_neq_bool c.w T a b (zc1 hs), yau⟩
  case str a =>
    cases y <;> simp only at h <;> try exact (yae h).elim
    rename_i b
    obtain rfl := qc5 hv
    obtain rfl := qc5 hu
    rw [Sem.run_bind, qbi (by simp) (by simp)]
    simp only [Result.andThen_ok]
    cases op <;> simp only at h <;> try exact (yae h).elim
    case eql =>
      obtain ⟨rfl, rfl⟩ := yaf h
      refine ⟨rfl, .bool (a == b), ?_, yau⟩
      simp only [binOp, Op.stringOp, Sem.run_pure, ← beq_toListBytes]
    case neq =>
      obtain ⟨rfl, rfl⟩ := yaf h
      refine ⟨rfl, .bool (!(a == b)), ?_, yau⟩
      simp only [binOp, Op.stringOp, Sem.run_pure, ← beq_toListBytes]
  case ref k p T1 =>
    cases y <;> simp only at h <;> try exact (yae h).elim
    replace h := qaf h; obtain ⟨hs, h⟩ := h
    obtain ⟨e, b, off, _, _, _, _, rfl⟩ := ydx hv
    exact ptr_nil hs hu (by cases op <;> exact h)
  case eref T1 a =>
    cases y <;> simp only at h <;> try exact (yae h).elim
    replace h := qaf h; obtain ⟨hs, h⟩ := h
    obtain ⟨b, off, C, Te, m, rfl, _⟩ := vv_eref hv
    exact ptr_nil hs hu (by cases op <;> exact h)
  case nilptr =>
    cases y <;> simp only at h <;> try exact (yae h).elim
    replace h := qaf h; obtain ⟨hs, h⟩ := h
    have hv' := (zba (c := c) (a := .nilptr) (v := v) rfl (by simp) (by simp)).1 hv
    simp only [Rep, List.cons.injEq, and_true] at hv'
    obtain ⟨_, rfl⟩ := hv'
    exact ptr_nil (a := none) hs hu (by cases op <;> exact h)
  case agg T1 vs =>
    cases y <;> simp only at h <;> try exact (yae h).elim
    rename_i T2 us
    replace h := qaf h; obtain ⟨⟨rfl, rfl⟩, h⟩ := h
    obtain ⟨xs, rfl, h1⟩ := vv_agg hv
    obtain ⟨ys, rfl, h2⟩ := vv_agg hu
    cases he : eqA P 5 (.agg T2 vs) (.agg T2 us) with
    | none => rw [he] at h; cases op <;> exact (yae h).elim
    | some b =>
      rw [he] at h
      have hg := eqA_guard he
      rw [Sem.run_bind, run_eqGuard_agg c.w op T2 xo yo xs ys hg]
      simp only [Result.andThen_ok]
      have hq := eqA_sound hP c 5 9995 _ _ b T2 _ _ he (by simp only [yaz]) (by simp only [yaz]) hv hu c.w
      cases op <;> simp only at h <;> try exact (yae h).elim
      case eql =>
        obtain ⟨rfl, rfl⟩ := yaf h
        refine ⟨rfl, .bool b, ?_, yau⟩
        rw [run_eql_struct, hq]
        rfl
      case neq =>
        obtain ⟨rfl, rfl⟩ := yaf h
        refine ⟨rfl, .bool (!b), ?_, yau⟩
        rw [run_neq_struct, hq]
        rfl
theorem un_sound {c : Cx} {op : UnOp} {x r : AV} {wr : List (Nat × Entry)} {v : Value} (hv : VV P c x v) (h : (stUn op x).run c.h = some (r, wr)) :
    wr = [] ∧ ∃ z, (Op.unary op v).run P c.w = .ok z c.w ∧ VV P c r z := by
  cases op <;> cases x <;> simp only [stUn] at h <;> try exact (yae h).elim
  case neg.int k n => obtain ⟨rfl, rfl⟩ := yaf h; obtain rfl := zbc hv; exact ⟨rfl, _, rfl, qao⟩
  case xor.int k n => obtain ⟨rfl, rfl⟩ := yaf h; obtain rfl := zbc hv; exact ⟨rfl, .int k (bits .xor k (if k.signed = true then -1 else k.max) n), by simp only [Op.unary]; rfl, qao⟩
  case not.bool b => obtain ⟨rfl, rfl⟩ := yaf h; obtain rfl := ybs hv; exact ⟨rfl, _, rfl, yau⟩
theorem und_some {T : TypeId} (h : zab P T ≠ .other) : ∃ d, P.underlying T = some d := by
  have := zbh (P := P) (T := T) rfl h
  cases hd : P.underlying T with
  | none => rw [hd] at this; exact absurd this.symm h
  | some d => exact ⟨d, rfl⟩
theorem conv_int_sound {c : Cx} {S T : TypeId} {k : IntKind} {n : Int} {r : AV} {wr : List (Nat × Entry)} {v : Value} (hv : VV P c (.int k n) v) (h : (qbk P S T (.int k n)).run c.h = some (r, wr)) :
    wr = [] ∧ ∃ z, (convert S T v).run P c.w = .ok z c.w ∧ VV P c r z := by
  simp only [qbk] at h
  cases hs : zab P T <;> rw [hs] at h <;> try exact (yae h).elim
  rename_i k'
  replace h := qaf h; obtain ⟨hS, h⟩ := h
  obtain ⟨rfl, rfl⟩ := yaf h
  obtain rfl := zbc hv
  obtain ⟨d, hd⟩ := und_some hS
  refine ⟨rfl, .int k' (k'.wrap n), ?_, qao⟩
  simp only [convert, Sem.run_bind, run_underlying hd, run_underlying (qbs hs), Result.andThen_ok, Conv.intToInt, Sem.run_pure]
theorem qa6 {T : TypeId} (h : qay (zab P T) = true) : ∃ e, zab P T = .slice e := by
  cases hs : zab P T <;> simp_all [qay]
theorem len_sound {c : Cx} {T ty : TypeId} {ts : Array TypeId} {x r : AV} {wr : List (Nat × Entry)} {v : Value} (hts : ts[0]? = some T) (hv : VV P c x v) (h : (zcp P T x).run c.h = some (r, wr)) :
    wr = [] ∧ ∃ z, (Builtin.len_ ts ty #[v]).run P c.w = .ok z c.w ∧ VV P c r z := by
  cases x <;> simp only [zcp] at h <;> try exact (yae h).elim
  case win k p e fr n lo =>
    replace h := qaf h; obtain ⟨hs, h⟩ := h
    obtain ⟨rfl, rfl⟩ := yaf h
    obtain ⟨e', hs⟩ := qa6 hs
    obtain ⟨en, cap, a, _, _, rfl, _⟩ := yby hv
    exact ⟨rfl, .int .i64 n, by simp [Builtin.len_, hts, run_underlying (qah hs), goInt], qao⟩
  case list e es =>
    replace h := qaf h; obtain ⟨hs, h⟩ := h
    obtain ⟨rfl, rfl⟩ := yaf h
    obtain ⟨e', hs⟩ := qa6 hs
    obtain ⟨a, cap, rfl, _⟩ := zda hv
    exact ⟨rfl, .int .i64 es.length, by simp [Builtin.len_, hts, run_underlying (qah hs), goInt], qao⟩
  case nils =>
    replace h := qaf h; obtain ⟨hs, h⟩ := h
    obtain ⟨rfl, rfl⟩ := yaf h
    obtain ⟨e', hs⟩ := qa6 hs
    obtain rfl := zb3 hv
    exact ⟨rfl, .int .i64 0, by simp [Builtin.len_, hts, run_underlying (qah hs), goInt], qao⟩
  case str s =>
    replace h := qaf h; obtain ⟨hs, h⟩ := h
    obtain ⟨rfl, rfl⟩ := yaf h
    obtain rfl := qc5 hv
    exact ⟨rfl, .int .i64 s.size, by simp [Builtin.len_, hts, run_underlying (yba hs), goInt], qao⟩
theorem min_sound {c : Cx} {ty : TypeId} {ts : Array TypeId} {x y r : AV} {wr : List (Nat × Entry)} {v u : Value} (hv : VV P c x v) (hu : VV P c y u) (h : (stMin .min x y).run c.h = some (r, wr)) :
    wr = [] ∧ ∃ z, (Builtin.min_ ts ty #[v, u]).run P c.w = .ok z c.w ∧ VV P c r z := by
  cases x <;> simp only [stMin] at h <;> try exact (yae h).elim
  cases y <;> simp only at h <;> try exact (yae h).elim
  obtain ⟨rfl, rfl⟩ := yaf h
  obtain rfl := zbc hv
  obtain rfl := zbc hu
  exact ⟨rfl, _, run_min_int2 c.w ts ty _ _ _ _, qao⟩
theorem max_sound {c : Cx} {ty : TypeId} {ts : Array TypeId} {x y r : AV} {wr : List (Nat × Entry)} {v u : Value} (hv : VV P c x v) (hu : VV P c y u) (h : (stMin .max x y).run c.h = some (r, wr)) :
    wr = [] ∧ ∃ z, (Builtin.max_ ts ty #[v, u]).run P c.w = .ok z c.w ∧ VV P c r z := by
  cases x <;> simp only [stMin] at h <;> try exact (yae h).elim
  cases y <;> simp only at h <;> try exact (yae h).elim
  obtain ⟨rfl, rfl⟩ := yaf h
  obtain rfl := zbc hv
  obtain rfl := zbc hu
  exact ⟨rfl, _, run_max_int2 c.w ts ty _ _ _ _, qao⟩
theorem nilCheck_sound {c : Cx} {x r : AV} {wr : List (Nat × Entry)} {v : Value} (hv : VV P c x v) (h : (ybn x).run c.h = some (r, wr)) :
    wr = [] ∧ (∀ fn first caps, v = .func fn first caps → (∃ f, fn = .func f) ∨ ∃ l, fn = .yield l) ∧ v ≠ .pointer none ∧ v ≠ .nilIface ∧ v ≠ .nilFunc ∧ VV P c r v := by
  cases x <;> simp only [ybn] at h <;> try exact (yae h).elim
  case ref k p T => obtain ⟨rfl, rfl⟩ := yaf h; obtain ⟨_, _, _, _, _, _, _, rfl⟩ := ydx hv; exact ⟨rfl, by simp, by simp, by simp, by simp, hv⟩
  case eref T u => obtain ⟨rfl, rfl⟩ := yaf h; obtain ⟨_, _, _, _, _, rfl, _⟩ := vv_eref hv; exact ⟨rfl, by simp, by simp, by simp, by simp, hv⟩
  case fn f caps =>
    obtain ⟨rfl, rfl⟩ := yaf h
    obtain ⟨_, h2⟩ := (zba rfl (by simp) (by simp)).1 hv
    simp only [Rep] at h2
    rcases h2 with ⟨_, _, vs, h2, _⟩ | ⟨_, l, L, h2, _⟩
    · simp only [List.cons.injEq, and_true] at h2
      subst h2
      exact ⟨rfl, fun fn first caps e => (Value.func.inj e).1 ▸ .inl ⟨_, rfl⟩, by simp, by simp, by simp, hv⟩
    · simp only [List.cons.injEq, and_true] at h2
      subst h2
      exact ⟨rfl, fun fn first caps e => (Value.func.inj e).1 ▸ .inr ⟨_, rfl⟩, by simp, by simp, by simp, hv⟩
theorem repV_get : ∀ {as : List AV} {vs : List Value} {c : Cx} {i : Nat} {a : AV}, ya2 P c as vs → as[i]? = some a → ∃ v, vs[i]? = some v ∧ isAgg a = Value.isAgg v ∧ Rep P c a v.cells.toList
  | [], vs, c, i, a, h, hi => by simp at hi
  | b :: as, vs, c, 0, a, h, hi => by
    simp only [ya2] at h
    obtain ⟨v, r, rfl, h1, h2, _⟩ := h
    simp only [List.getElem?_cons_zero, Option.some.injEq] at hi
    subst hi
    exact ⟨v, rfl, h1, h2⟩
  | b :: as, vs, c, i + 1, a, h, hi => by
    simp only [ya2] at h
    obtain ⟨v, r, rfl, _, _, h3⟩ := h
    simp only [List.getElem?_cons_succ] at hi ⊢
    exact repV_get h3 hi
theorem qb2 {c : Cx} {a : AV} {v : Value} (h1 : isAgg a = Value.isAgg v) (h2 : Rep P c a v.cells.toList) : VV P c a v := by
  cases a <;> first | exact ⟨h1, h2⟩ | (simp only [Rep] at h2)
theorem extract_sound {c : Cx} {i : Nat} {x r : AV} {wr : List (Nat × Entry)} {v : Value} (hv : VV P c x v) (h : (ybv i x).run c.h = some (r, wr)) :
    wr = [] ∧ ∃ z, (Instr.extract v i).run P c.w = .ok z c.w ∧ VV P c r z := by
  cases x <;> simp only [ybv] at h <;> try exact (yae h).elim
  rename_i vs
  cases hi : vs[i]? with
  | none => rw [hi] at h; exact (yae h).elim
  | some y =>
    rw [hi] at h
    obtain ⟨rfl, rfl⟩ := yaf h
    simp only [VV] at hv
    obtain ⟨l, rfl, hl⟩ := hv
    obtain ⟨u, hu, h1, h2⟩ := repV_get hl hi
    exact ⟨rfl, u, by simp [Instr.extract, hu], qb2 h1 h2⟩
theorem cap_sound {c : Cx} {T ty : TypeId} {ts : Array TypeId} {x r : AV} {wr : List (Nat × Entry)} {v : Value} (hts : ts[0]? = some T) (hv : VV P c x v) (h : (stCap P T x).run c.h = some (r, wr)) :
    wr = [] ∧ ∃ z, (Builtin.cap_ ts ty #[v]).run P c.w = .ok z c.w ∧ VV P c r z := by
  cases x <;> simp only [stCap] at h <;> try exact (yae h).elim
  replace h := qaf h; obtain ⟨hs, h⟩ := h
  obtain ⟨rfl, rfl⟩ := yaf h
  obtain ⟨e', hs⟩ := qa6 hs
  obtain rfl := zb3 hv
  exact ⟨rfl, .int .i64 0, by simp [Builtin.cap_, hts, run_underlying (qah hs), goInt], qao⟩
end
end Go.Abs
set_option linter.all false
namespace Go.Abs
open Go
section
variable {P : Program}
theorem vEq_eq {a b : Value} (h : vEq a b = true) : a = b := by
  unfold vEq at h
  split at h <;> try simp_all
  rename_i a b
  cases a; cases b
  simp_all
theorem vEqs_eq : ∀ {l m : List Value}, vEqs l m = true → l = m
  | [], [], _ => rfl
  | [], _ :: _, h => by simp [vEqs] at h
  | _ :: _, [], h => by simp [vEqs] at h
  | a :: l, b :: m, h => by
    simp only [vEqs, Bool.and_eq_true] at h
    rw [vEq_eq h.1, vEqs_eq h.2]
theorem flat_fields {c : Cx} {f : Nat} (hP : WF P) (IH : ∀ T, goodZ P f T = true → yaz P (zeroA P f T) T ∧ Rep P c (zeroA P f T) (zeroC P f T)) {lim : Nat} : ∀ (fs : List (TypeId × Nat)) (lo : Nat) (pre : List Value),
    wfFs P lim fs lo = true → fs.all (fun x => goodZ P f x.1) = true → pre.length = lo →
    zb1 P c (fs.map fun x => zeroA P f x.1) fs (pre ++ fs.flatMap fun x => zeroC P f x.1) ∧ (pre ++ fs.flatMap fun x => zeroC P f x.1).length = lim
  | [], lo, pre, hw, hg, hp => by
    simp only [wfFs, beq_iff_eq] at hw
    simp only [List.map_nil, zb1, List.flatMap_nil, List.append_nil, true_and]
    omega
  | x :: fs, lo, pre, hw, hg, hp => by
    simp only [wfFs, Bool.and_eq_true, beq_iff_eq] at hw
    simp only [List.all_cons, Bool.and_eq_true] at hg
    obtain ⟨h1, h2⟩ := IH x.1 hg.1
    have hl := yao hP h1 h2
    obtain ⟨h3, h4⟩ := flat_fields hP IH fs (x.2 + P.cellsOf x.1) (pre ++ zeroC P f x.1) hw.2 hg.2 (by simp [hl, hp, hw.1])
    rw [List.append_assoc] at h3 h4
    refine ⟨?_, by simpa [List.flatMap_cons] using h4⟩
    simp only [List.map_cons, zb1, List.flatMap_cons]
    refine ⟨x, fs, rfl, h1, ?_, h3⟩
    rw [List.drop_left' (by omega), List.take_left' hl]
    exact h2
theorem qc6 {c : Cx} (hP : WF P) {v : AV} {e : TypeId} {cs : List Value} (h1 : yaz P v e) (h2 : Rep P c v cs) : ∀ (n : Nat) (rest : List Value),
    qa0 P c (List.replicate n v) e ((List.replicate n cs).flatten ++ rest)
  | 0, rest => by simp only [List.replicate_zero, qa0]
  | n + 1, rest => by
    have hl := yao hP h1 h2
    simp only [List.replicate_succ, qa0, List.flatten_cons, List.append_assoc]
    refine ⟨h1, by rw [List.take_left' hl]; exact h2, ?_⟩
    rw [List.drop_left' hl]
    exact qc6 hP h1 h2 n rest
theorem zeroA_rep (hP : WF P) (c : Cx) : ∀ (f : Nat) (T : TypeId), goodZ P f T = true → yaz P (zeroA P f T) T ∧ Rep P c (zeroA P f T) (zeroC P f T)
  | 0, T, h => by simp [goodZ] at h
  | f + 1, T, h => by
    have IH := zeroA_rep hP c f
    simp only [goodZ] at h
    cases hs : zab P T <;> simp only [hs] at h <;> simp only [zeroA, zeroC, hs]
    case int k => simp [yaz, hs, Rep]
    case bool => simp [yaz, hs, Rep]
    case str => simp [yaz, hs, Rep]
    case slice e => simp [yaz, hs, Rep]
    case ptr e => simp [yaz, hs, Rep]
    case func => simp [yaz, hs, Rep]
    case struct =>
      obtain ⟨h1, h2⟩ := flat_fields hP IH (qaj P T) 0 [] (hP.fields hs) h rfl
      simp only [List.nil_append] at h1 h2
      refine ⟨by simp only [yaz], ?_⟩
      simp only [Rep, hs]
      exact ⟨h2, h1⟩
    case arr n e =>
      obtain ⟨h1, h2⟩ := IH e h
      have hl := yao hP h1 h2
      refine ⟨by simp only [yaz], ?_⟩
      simp only [Rep, hs]
      refine ⟨?_, by simp, by simpa using qc6 hP h1 h2 n []⟩
      rw [hP.arr hs]
      simp [List.length_flatten, hl]
    case other => cases h
theorem zbn (hP : WF P) (c : Cx) {T : TypeId} (h : zOK P T = true) (w : World) : ∃ z, (zeroValue T).run P w = .ok z w ∧ VV P c (qai P T) z ∧ yaz P (qai P T) T ∧ okT P T = true := by
  unfold zOK at h
  simp only [Bool.and_eq_true] at h
  obtain ⟨⟨hg, hok⟩, h⟩ := h
  split at h
  · rename_i i hi
    split at h
    · rename_i z hz
      simp only [Bool.and_eq_true, beq_iff_eq] at h
      obtain ⟨h1, h2⟩ := zeroA_rep hP c 8 T hg
      refine ⟨z, by simp [zeroValue, typeInfo, hi, hz], ?_, h1, hok⟩
      refine qb2 h.2.symm ?_
      rw [vEqs_eq h.1]
      exact h2
    · cases h
  · cases h
theorem zdl {c : Cx} {s : Nat} {e0 : Entry} (hs : c.h[s]? = some e0) (e : Entry) : (c.h.set s e)[s]? = some e := List.getElem?_set_self (List.getElem?_eq_some_iff.1 hs).1
theorem zdy (hP : WF P) {c : Cx} (hr : HR P c) {s : Nat} {e0 : Entry} (hs : c.h[s]? = some e0) (h0 : e0.st = .hole) {T : TypeId} {a : AV} {v : Value} (ht : yaz P a T) (hv : VV P c a v) :
    ∃ w', (newVar T v).run P c.w = .ok ⟨c.w.heap.size, 0, none⟩ w' ∧ Done P c (.ref s [0] T) [(s, ⟨T, [a], .own⟩)] (.pointer (some ⟨c.w.heap.size, 0, none⟩)) w' := by
  have hrep := zbf ht hv
  have hl := yao hP ht hrep
  have hE : qa0 P c [a] T v.cells.toList := by
    simp only [qa0, and_true]
    exact ⟨ht, by rw [List.take_of_length_le (by omega)]; exact hrep⟩
  refine ⟨c.w.alloc (.cells v.cells T), by simp [newVar, newRow], _, zc3 (s := s) (T := T) (es := [a]) (C := v.cells) hr hs h0 (by simp; simp at hl; omega) hE, zb7 hs h0, ?_⟩
  refine qdf (e := ⟨T, [a], .own⟩) (zdl hs _) (by simp) (by simp) ?_
  simp [qbc, za9]
theorem alloc_sound (hP : WF P) {c : Cx} (hr : HR P c) {s : Nat} {e0 : Entry} (hs : c.h[s]? = some e0) (h0 : e0.st = .hole) {T : TypeId} (hz : zOK P T = true) :
    ∃ v w', (Instr.alloc T true (.tuple #[])).run P c.w = .ok v w' ∧ Done P c (.ref s [0] T) [(s, ⟨T, [qai P T], .own⟩)] v w' := by
  obtain ⟨z, h1, h2, h3, _⟩ := zbn hP c hz c.w
  obtain ⟨w', h4, h5⟩ := zdy hP hr hs h0 h3 h2
  exact ⟨_, w', by simp [Instr.alloc, h1, h4], h5⟩
theorem box_sound (hP : WF P) {c : Cx} (hr : HR P c) {s : Nat} {e0 : Entry} (hs : c.h[s]? = some e0) (h0 : e0.st = .hole) {T : TypeId} {a : AV} {v : Value} (ht : tyB P a T = true) (hv : VV P c a v) :
    ∃ u w', (Instr.box T v).run P c.w = .ok u w' ∧ Done P c (.ref s [0] T) [(s, ⟨T, [a], .own⟩)] u w' := by
  obtain ⟨w', h4, h5⟩ := zdy hP hr hs h0 (tyB_ok ht) hv
  exact ⟨_, w', by simp [Instr.box, h4], h5⟩
theorem fold_splice : ∀ (new : List Value) (cells : Array Value) (off k : Nat), off + k + new.length ≤ cells.size →
    (((new.zipIdx k).foldl (fun cs (x : Value × Nat) => cs.setIfInBounds (off + x.2) x.1) cells)).toList = zav cells.toList (off + k) new
  | [], cells, off, k, _ => by simp [zav]
  | v :: new, cells, off, k, h => by
    simp only [List.length_cons] at h
    simp only [List.zipIdx_cons, List.foldl_cons]
    rw [fold_splice new _ off (k + 1) (by simp; omega)]
    simp only [Array.toList_setIfInBounds]
    apply List.ext_getElem?
    intro j
    have h1 : off + (k + 1) + new.length ≤ (cells.toList.set (off + k) v).length := by simp; omega
    have h2 : off + k + (v :: new).length ≤ cells.toList.length := by simp; omega
    rw [splice_getElem? h1, splice_getElem? h2]
    simp only [List.length_cons]
    by_cases e1 : j < off + k
    · rw [if_pos (by omega), if_pos e1, List.getElem?_set_ne (by omega)]
    · by_cases e2 : j = off + k
      · subst e2
        rw [if_pos (by omega), if_neg (by omega), if_pos (by omega), List.getElem?_set_self (by simp; omega)]
        simp
      · by_cases e3 : j < off + (k + 1) + new.length
        · rw [if_neg (by omega), if_pos e3, if_neg e1, if_pos (by omega)]
          rw [show j - (off + k) = (j - (off + (k + 1))) + 1 by omega]
          simp
        · rw [if_neg (by omega), if_neg e3, if_neg e1, if_neg (by omega), List.getElem?_set_ne (by omega)]
theorem fill_step {place : Nat → Option (Nat × Nat)} {cells : Array Value} {i off size : Nat} {v : Value} {rest : List (Nat × Value)} (hp : place i = some (off, size)) (hs : v.cells.size = size) (hb : off + size ≤ cells.size) :
    ∃ cells' : Array Value, cells'.toList = zav cells.toList off v.cells.toList ∧ Instr.fill place cells ((i, v) :: rest) = Instr.fill place cells' rest := by
  refine ⟨v.cells.zipIdx.foldl (fun cs (x : Value × Nat) => cs.setIfInBounds (off + x.2) x.1) cells, ?_, ?_⟩
  · rw [← Array.foldl_toList, Array.toList_zipIdx]
    have := fold_splice v.cells.toList cells off 0 (by simp; omega)
    simpa using this
  · simp only [Instr.fill, hp, hs, ne_eq, not_true_eq_false, decide_false, Bool.false_or, gt_iff_lt, decide_eq_true_eq]
    rw [if_neg (by omega)]
theorem fill_agg (hP : WF P) {c : Cx} {T : TypeId} {ty : Nat → Option TypeId} {place : Nat → Option (Nat × Nat)}
    (hty : ∀ i F, ty i = some F → ∃ o, za9 P T [i] = some (F, o) ∧ place i = some (o, P.cellsOf F)) : ∀ (ps : List (Nat × AV)) (vs : List (Nat × Value)) (zs us : List AV) (cells : Array Value),
    ps.map (·.1) = vs.map (·.1) → (∀ (k : Nat) (p : Nat × AV) (v : Nat × Value), ps[k]? = some p → vs[k]? = some v → VV P c p.2 v.2) → Rep P c (.agg T zs) cells.toList → qca P ty ps zs = some us →
    ∃ cells', Instr.fill place cells vs = some cells' ∧ Rep P c (.agg T us) cells'.toList
  | [], vs, zs, us, cells, hl, _, hr, hf => by
    cases vs with
    | cons _ _ => simp at hl
    | nil => simp only [qca, Option.some.injEq] at hf; subst hf; exact ⟨cells, rfl, hr⟩
  | p :: ps, vs, zs, us, cells, hl, hv, hr, hf => by
    cases vs with
    | nil => simp at hl
    | cons v vs =>
      simp only [List.map_cons, List.cons.injEq] at hl
      simp only [qca] at hf
      cases hF : ty p.1 with
      | none => simp [hF] at hf
      | some F =>
        simp only [hF] at hf
        split at hf
        · rename_i hc
          obtain ⟨hlt, htb⟩ := hc
          have ht := tyB_ok htb
          obtain ⟨o, hpath, hplace⟩ := hty p.1 F hF
          have hvv := hv 0 p v rfl rfl
          have hrep := zbf ht hvv
          have hlen := yao hP ht hrep
          have hb := zaw hP hpath
          have hcl : cells.toList.length = P.cellsOf T := by simp only [Rep] at hr; exact hr.1
          obtain ⟨cells', h1, h2⟩ := fill_step (cells := cells) (rest := vs) (v := v.2) hplace (by simpa using hlen) (by simp at hcl; omega)
          have hset : setP (.agg T zs) [p.1] p.2 = some (.agg T (zs.set p.1 p.2)) := by
            simp only [setP, List.getElem?_eq_getElem hlt, Option.map_eq_some_iff]
            exact ⟨p.2, by cases zs[p.1] <;> rfl, rfl⟩
          have := (setP_rep hP (a := .agg T zs) (T := T) (by simp only [yaz]) hr hpath ht hrep hset).2
          rw [← h1] at this
          obtain ⟨c2, h3, h4⟩ := fill_agg hP hty ps vs (zs.set p.1 p.2) us cells' hl.2 (fun k q u hq hu => hv (k + 1) q u (by simpa using hq) (by simpa using hu)) this hf
          refine ⟨c2, ?_, h4⟩
          have e : v = (p.1, v.2) := by rw [hl.1]
          rw [e, h2]
          exact h3
        · cases hf
theorem build_sound (hP : WF P) {c : Cx} {T : TypeId} {ps : List (Nat × AV)} {vs : Array (Nat × Value)} {r : AV} {wr : List (Nat × Entry)} (hl : ps.map (·.1) = vs.toList.map (·.1))
    (hv : ∀ (k : Nat) (p : Nat × AV) (v : Nat × Value), ps[k]? = some p → vs.toList[k]? = some v → VV P c p.2 v.2) (h : (zct P T ps).run c.h = some (r, wr)) :
    wr = [] ∧ ∃ z, (Instr.build T vs).run P c.w = .ok z c.w ∧ VV P c r z := by
  unfold zct at h
  cases hzv : qai P T <;> rw [hzv] at h <;> try exact (yae h).elim
  rename_i T' zs
  replace h := qaf h; obtain ⟨⟨rfl, hz, hpo⟩, h⟩ := h
  obtain ⟨z, h1, h2, h3, _⟩ := zbn hP c hz c.w
  rw [hzv] at h2
  obtain ⟨zc, rfl, hrep⟩ := vv_agg h2
  have hrep' := hrep
  simp only [Rep] at hrep'
  cases hs : zab P T' <;> rw [hs] at hrep' <;> simp only [and_false] at hrep'
  case struct =>
    simp only [hs] at h
    obtain ⟨fs, hu⟩ := ycd hs
    cases hf : qca P (fun i => ((qaj P T')[i]?).map (·.1)) ps zs with
    | none => rw [hf] at h; exact (yae h).elim
    | some us =>
      rw [hf] at h
      obtain ⟨rfl, rfl⟩ := yaf h
      simp only [ya9, hs, List.all_eq_true] at hpo
      have hft : qaj P T' = fs.toList.map fun f => (f.type, f.offset) := by simp [qaj, hu]
      have hplaces : (fs.mapM (fun f => (do pure (f.offset, ← sizeOf f.type) : Sem (Nat × Nat)))).run P c.w = .ok (fs.map fun f => (f.offset, P.cellsOf f.type)) c.w := by
        rw [Array.mapM_eq_mapM_toList]
        have : ∀ (l : List Field), (∀ f ∈ l, okT P f.type = true) → (l.mapM (fun f => (do pure (f.offset, ← sizeOf f.type) : Sem (Nat × Nat)))).run P c.w = .ok (l.map fun f => (f.offset, P.cellsOf f.type)) c.w := by
          intro l
          induction l with
          | nil => intro _; simp
          | cons f l ih =>
            intro hl
            have h5 := qak (yai (hl f (by simp))).1 c.w
            simp only [List.mapM_cons, Sem.run_bind, h5, Result.andThen_ok, Sem.run_pure, ih (fun g hg => hl g (by simp [hg])), List.map_cons]
        have hall : ∀ f ∈ fs.toList, okT P f.type = true := fun f hf => hpo (f.type, f.offset) (by rw [hft]; exact List.mem_map.2 ⟨f, hf, rfl⟩)
        rw [map_eq_pure_bind, Sem.run_bind, this fs.toList hall]
        simp only [Result.andThen_ok, Sem.run_pure]
        refine congrArg (fun x => Result.ok x c.w) ?_
        apply Array.ext'
        simp
      obtain ⟨cells', h6, h7⟩ := fill_agg hP (T := T') (ty := fun i => ((qaj P T')[i]?).map (·.1)) (place := fun i => (fs.map fun f => (f.offset, P.cellsOf f.type))[i]?) (by
        intro i F hF
        simp only [Option.map_eq_some_iff] at hF
        obtain ⟨⟨F', o⟩, hg, rfl⟩ := hF
        refine ⟨o, by simp [za9, hs, hg], ?_⟩
        rw [hft] at hg
        simp only [List.getElem?_map, Option.map_eq_some_iff, Prod.mk.injEq] at hg
        obtain ⟨f, hf2, rfl, rfl⟩ := hg
        simp only [Array.getElem?_map, Option.map_eq_some_iff]
        exact ⟨f, by simpa using hf2, rfl⟩) ps vs.toList zs us zc hl hv hrep hf
      refine ⟨rfl, .agg cells', ?_, vv_agg_mk h7⟩
      simp only [Instr.build, Sem.run_bind, h1, Result.andThen_ok, run_underlying hu, Value.cells, hplaces, h6, Sem.run_pure]
  case arr n e =>
    simp only [hs] at h
    cases hf : qca P (fun i => some e) ps zs with
    | none => rw [hf] at h; exact (yae h).elim
    | some us =>
      rw [hf] at h
      obtain ⟨rfl, rfl⟩ := yaf h
      simp only [ya9, hs] at hpo
      obtain ⟨cells', h6, h7⟩ := fill_agg hP (T := T') (ty := fun i => if i < n then some e else none) (place := fun i => some (i * P.cellsOf e, P.cellsOf e)) (by
        intro i F hF
        split at hF
        · rename_i hin
          simp only [Option.some.injEq] at hF
          subst hF
          exact ⟨i * P.cellsOf e, by simp [za9, hs, hin], rfl⟩
        · cases hF) ps vs.toList zs us zc hl hv hrep (by
          rw [← hf]
          have hzl : zs.length = n := hrep'.2.1
          clear hf hl hv hrep hrep' hzv h h2 h3
          revert hzl
          generalize zs = zs
          induction ps generalizing zs with
          | nil => intro _; rfl
          | cons p ps ih =>
            intro hzl
            simp only [qca]
            by_cases hp : p.1 < n
            · rw [if_pos hp]
              simp only
              split
              · rw [ih _ (by simpa using hzl)]
              · rfl
            · rw [if_neg hp]
              simp only
              rw [if_neg (by rw [hzl]; intro h; exact hp h.1)])
      refine ⟨rfl, .agg cells', ?_, vv_agg_mk h7⟩
      simp only [Instr.build, Sem.run_bind, h1, Result.andThen_ok, run_underlying (yb3 hs), Value.cells, qak (yai hpo).1, h6, Sem.run_pure]
theorem zeroRow_chunk {z : Array Value} {size n i : Nat} (hs : z.size = size) (h0 : 0 < size) (hi : i < n) :
    ((((Array.range (n * size)).map fun j => z[j % z.size]!).toList.drop (i * size)).take size) = z.toList := by
  apply List.ext_getElem?
  intro j
  have hmul : (i + 1) * size ≤ n * size := Nat.mul_le_mul_right _ hi
  rw [Nat.add_mul] at hmul
  simp only [List.getElem?_take, List.getElem?_drop, Array.getElem?_toList, Array.getElem?_map]
  by_cases hj : j < size
  · rw [if_pos hj]
    have hlt : i * size + j < n * size := by omega
    simp only [Array.getElem?_range, hlt, if_true, Option.map_some]
    have hm : (i * size + j) % z.size = j := by
      rw [hs, Nat.mul_comm, Nat.mul_add_mod]
      exact Nat.mod_eq_of_lt hj
    rw [hm, getElem!_pos z j (by omega), Array.getElem?_eq_getElem (by omega)]
  · rw [if_neg hj, Array.getElem?_eq_none (by omega)]
theorem qch (hP : WF P) {c : Cx} {e : TypeId} {a : AV} {z : Value} (ht : yaz P a e) (hv : VV P c a z) (h0 : P.cellsOf e ≠ 0) (n m : Nat) (hnm : n ≤ m) :
    qa0 P c (List.replicate n a) e ((Array.range (m * P.cellsOf e)).map fun j => z.cells[j % z.cells.size]!).toList := by
  have hrep := zbf ht hv
  have hl := yao hP ht hrep
  refine repE_iff.2 fun i v hi => ?_
  have hin : i < n := by have := (List.getElem?_eq_some_iff.1 hi).1; simpa using this
  rw [List.getElem?_replicate, if_pos hin] at hi
  cases hi
  refine ⟨ht, ?_⟩
  rw [zeroRow_chunk (by simpa using hl) (by omega) (by omega)]
  exact hrep
theorem fill_row (hP : WF P) {c : Cx} {e : TypeId} : ∀ (ps : List (Nat × AV)) (vs : List (Nat × Value)) (zs us : List AV) (cells : Array Value),
    ps.map (·.1) = vs.map (·.1) → (∀ (k : Nat) (p : Nat × AV) (v : Nat × Value), ps[k]? = some p → vs[k]? = some v → VV P c p.2 v.2) → qa0 P c zs e cells.toList → zs.length * P.cellsOf e ≤ cells.size →
    qca P (fun _ => some e) ps zs = some us →
    ∃ cells', Instr.fill (fun i => some (i * P.cellsOf e, P.cellsOf e)) cells vs = some cells' ∧ qa0 P c us e cells'.toList ∧ cells'.size = cells.size ∧ us.length = zs.length
  | [], vs, zs, us, cells, hl, _, hr, _, hf => by
    cases vs with
    | cons _ _ => simp at hl
    | nil => simp only [qca, Option.some.injEq] at hf; subst hf; exact ⟨cells, rfl, hr, rfl, rfl⟩
  | p :: ps, vs, zs, us, cells, hl, hv, hr, hsz, hf => by
    cases vs with
    | nil => simp at hl
    | cons v vs =>
      simp only [List.map_cons, List.cons.injEq] at hl
      simp only [qca] at hf
      split at hf
      · rename_i hc
        obtain ⟨hlt, htb⟩ := hc
        have ht := tyB_ok htb
        have hvv := hv 0 p v rfl rfl
        have hrep := zbf ht hvv
        have hlen := yao hP ht hrep
        have hmul : (p.1 + 1) * P.cellsOf e ≤ zs.length * P.cellsOf e := Nat.mul_le_mul_right _ hlt
        rw [Nat.add_mul] at hmul
        obtain ⟨cells', h1, h2⟩ := fill_step (place := fun i => some (i * P.cellsOf e, P.cellsOf e)) (cells := cells) (i := p.1) (rest := vs) (v := v.2) rfl (by simpa using hlen) (by omega)
        have hoff : qbc P e [p.1] = some (e, p.1 * P.cellsOf e) := by simp [qbc, za9]
        have hset : setE zs p.2 [p.1] = some (zs.set p.1 p.2) := by
          simp only [setE, List.getElem?_eq_getElem hlt, Option.map_eq_some_iff]
          exact ⟨p.2, by cases zs[p.1] <;> rfl, rfl⟩
        obtain ⟨h3, h4, _⟩ := setE_rep hP hr (by simpa using hsz) hoff ht hrep hset
        rw [← h1] at h4
        have hsz' : cells'.size = cells.size := by
          have := congrArg List.length h1
          rw [za0 (by simp at hlen ⊢; omega)] at this
          simpa using this
        obtain ⟨c2, h5, h6, h7, h8⟩ := fill_row hP ps vs (zs.set p.1 p.2) us cells' hl.2 (fun k q u hq hu => hv (k + 1) q u (by simpa using hq) (by simpa using hu)) h4 (by simpa [hsz'] using hsz) hf
        refine ⟨c2, ?_, h6, by omega, by simpa using h8⟩
        have e1 : v = (p.1, v.2) := by rw [hl.1]
        rw [e1, h2]
        exact h5
      · cases hf
theorem win_new {c : Cx} {s : Nat} {e0 : Entry} (hs : c.h[s]? = some e0) {e : TypeId} {es : List AV} {C : Array Value} {n lo cap : Nat} (hlo : lo ≤ cap) (hn : n ≤ cap) (hc : cap * P.cellsOf e ≤ C.size) :
    VV P (za7 c s e es C) (.win s [] e 0 n lo) (.slice (some ⟨c.w.heap.size, 0, none⟩) n cap) := by
  refine qbp (e := ⟨e, es, .own⟩) (zdl hs _) (by simp) hlo hn (fun _ => rfl) fun _ => ?_
  exact ⟨c.w.heap.size, 0, C, (0, 0), by simp [za7], rfl, heap_alloc_new _ _, fun _ => mOK.zero, by simp, by simpa using hc, by simp [ycr]⟩
theorem buildSlice_sound (hP : WF P) {c : Cx} (hr : HR P c) {s : Nat} {e0 : Entry} (hs : c.h[s]? = some e0) (h0 : e0.st = .hole) {T : TypeId} {n : Nat} {ps : List (Nat × AV)} {vs : Array (Nat × Value)} {r : AV} {wr : List (Nat × Entry)}
    (hl : ps.map (·.1) = vs.toList.map (·.1)) (hv : ∀ (k : Nat) (p : Nat × AV) (v : Nat × Value), ps[k]? = some p → vs.toList[k]? = some v → VV P c p.2 v.2) (h : (qbn P T n ps s).run c.h = some (r, wr)) :
    ∃ z w', (Instr.buildSlice T n vs).run P c.w = .ok z w' ∧ Done P c r wr z w' := by
  unfold qbn at h
  cases hsh : zab P T <;> rw [hsh] at h <;> try exact (yae h).elim
  rename_i e
  replace h := qaf h; obtain ⟨⟨hn, hz⟩, h⟩ := h
  obtain ⟨z, h1, h2, h3, hok⟩ := zbn hP c hz c.w
  obtain ⟨hne, hc0⟩ := yai hok
  cases hf : qca P (fun _ => some e) ps (List.replicate n (qai P e)) with
  | none => rw [hf] at h; exact (yae h).elim
  | some us =>
    rw [hf] at h
    obtain ⟨rfl, rfl⟩ := yaf h
    have hrow := qch hP h3 h2 hc0 n n (Nat.le_refl _)
    obtain ⟨cells', h5, h6, h7, h8⟩ := fill_row hP ps vs.toList _ us ((Array.range (n * P.cellsOf e)).map fun j => z.cells[j % z.cells.size]!) hl hv hrow (by simp) hf
    simp only [Array.size_map, Array.size_range] at h7
    simp only [List.length_replicate] at h8
    refine ⟨.slice (some ⟨c.w.heap.size, 0, none⟩) n n, c.w.alloc (.cells cells' e), ?_, _, zc3 (C := cells') hr hs h0 (by rw [h8]; omega) h6, zb7 hs h0, win_new hs (Nat.le_refl _) (Nat.le_refl _) (by omega)⟩
    have hnn : ¬ (n * P.cellsOf e > 2 ^ 24) := by omega
    by_cases hz0 : n * P.cellsOf e = 0
    · simp only [Instr.buildSlice, Sem.run_bind, run_underlying (qah hsh), Result.andThen_ok, qak hne, Sem.run_ite, hz0, if_true, Sem.run_pure]
      rw [hz0] at h5
      simp only [Array.range_zero', Array.map_empty] at h5 ⊢
      rw [h5]
      simp [newRow]
    · simp only [Instr.buildSlice, Sem.run_bind, run_underlying (qah hsh), Result.andThen_ok, qak hne, Sem.run_ite, hnn, if_false, hz0, h1, Sem.run_pure, h5]
      simp [newRow]
end
end Go.Abs
set_option linter.all false
namespace Go.Abs
open Go
section
variable {P : Program}
theorem wrap_i64_of {n : Int} (h0 : -9223372036854775808 ≤ n) (h1 : n ≤ 9223372036854775807) : IntKind.i64.wrap n = n := by
  rw [IntKind.wrap_i64]
  omega
theorem zdh {T : TypeId} (h : zab P T ≠ .other) (w : World) : ∃ i, (typeInfo T).run P w = .ok i w ∧ i.bytes = P.bytesOf T ∧ P.info? T = some i := by
  obtain ⟨i, hi⟩ := zbi h
  exact ⟨i, by simp [typeInfo, hi], by simp [Program.bytesOf, hi], hi⟩
theorem makeSlice_sound (hP : WF P) {c : Cx} (hr : HR P c) {s : Nat} {e0 : Entry} (hs : c.h[s]? = some e0) (h0 : e0.st = .hole) {T : TypeId} {l k r : AV} {wr : List (Nat × Entry)} {v u : Value}
    (hv : VV P c l v) (hu : VV P c k u) (h : (zbt P T l k s).run c.h = some (r, wr)) : ∃ z w', (Instr.makeSlice T v u).run P c.w = .ok z w' ∧ Done P c r wr z w' := by
  cases l <;> cases k <;> simp only [zbt] at h <;> try exact (yae h).elim
  rename_i kl a kc b
  cases hsh : zab P T <;> rw [hsh] at h <;> simp only at h <;> try exact (yae h).elim
  rename_i e
  replace h := qaf h; obtain ⟨⟨ha, hab, hbb, hmax, hz⟩, h⟩ := h
  obtain ⟨rfl, rfl⟩ := yaf h
  obtain rfl := zbc hv
  obtain rfl := zbc hu
  obtain ⟨z, h1, h2, h3, hok⟩ := zbn hP c hz c.w
  obtain ⟨hne, hc0⟩ := yai hok
  obtain ⟨i, hi, hib, _⟩ := zdh hne c.w
  have w1 : IntKind.i64.wrap a = a := wrap_i64_of (by omega) (by omega)
  have w2 : IntKind.i64.wrap b = b := wrap_i64_of (by omega) (by omega)
  have hrow := qch hP h3 h2 hc0 a.toNat b.toNat (by omega)
  let C := (Array.range (b.toNat * P.cellsOf e)).map fun j => z.cells[j % z.cells.size]!
  have hC : C.size = b.toNat * P.cellsOf e := by simp [C]
  have hle : a.toNat * P.cellsOf e ≤ b.toNat * P.cellsOf e := Nat.mul_le_mul_right _ (by omega)
  refine ⟨.slice (some ⟨c.w.heap.size, 0, none⟩) a.toNat b.toNat, c.w.alloc (.cells C e), ?_, _, zc3 (C := C) hr hs h0 (by simp only [List.length_replicate]; omega) hrow, zb7 hs h0,
    win_new hs (Nat.le_refl _) (by omega) (by omega)⟩
  have hask : (askRoom (b.toNat * P.bytesOf e)).run P c.w = .ok () c.w := run_askRoom P c.w _
  have c1' : (decide (b < 0) || decide ((P.bytesOf e : Int) * b > 2 ^ 48) || decide (a < 0) || decide (a > b)) = false := by
    simp only [Bool.or_eq_false_iff, decide_eq_false_iff_not]
    have h48 : (2 : Int) ^ 48 = 281474976710656 := by decide
    exact ⟨⟨⟨by omega, by omega⟩, by omega⟩, by omega⟩
  simp only [Instr.makeSlice, Sem.run_bind, run_underlying (qah hsh), Result.andThen_ok, asInt, asIntOf, Sem.run_pure, hi, hib, w1, w2]
  simp only [c1', Bool.false_eq_true, if_false, Sem.run_bind, hask, Result.andThen_ok, qak hne]
  by_cases hz0 : b.toNat * P.cellsOf e = 0
  · have : C = #[] := Array.eq_empty_of_size_eq_zero (by omega)
    rw [this]
    simp [hz0, newRow, Array.range_zero']
  · simp [hz0, h1, newRow, C]
theorem zbq {k : IntKind} {n : Int} {y : Nat} {code : BoundsCode} (h0 : 0 ≤ n) (h1 : n ≤ y) (w : World) : (Instr.sliceBound (.int k n) y code).run P w = .ok n.toNat w := by
  simp [Instr.sliceBound, asIntOf, h0, h1]
inductive Bnd (P : Program) (c : Cx) : Option AV → Option Value → Nat → Int → Prop
  | none (d : Nat) : Bnd P c none none d d
  | some (k : IntKind) (n : Int) (v : Value) (d : Nat) : VV P c (.int k n) v → Bnd P c (some (.int k n)) (some v) d n
theorem zce {c : Cx} {is : Bool} {len cap : Nat} {lo hi : Option AV} {vlo vhi : Option Value} {l h : Int} (hl : Bnd P c lo vlo 0 l) (hh : Bnd P c hi vhi len h) (h0 : 0 ≤ l) (h1 : l ≤ h) (h2 : h ≤ cap) (w : World) :
    (Instr.sliceBounds is len cap vlo vhi none).run P w = .ok (l.toNat, h.toNat, cap) w := by
  unfold Instr.sliceBounds
  cases hl with
  | none =>
    cases hh with
    | none => simp
    | some k n v _ hv =>
      obtain rfl := zbc hv
      simp [zbq (by omega) h2]
  | some k n v _ hv =>
    obtain rfl := zbc hv
    cases hh with
    | none => simp [zbq h0 h1]
    | some k2 n2 v2 _ hv2 =>
      obtain rfl := zbc hv2
      simp [zbq (by omega) h2, zbq h0 (show l ≤ (h.toNat : Int) by omega)]
theorem yda {c : Cx} {is : Bool} {len cap : Nat} {lo hi : Option AV} {vlo vhi : Option Value} {l h m : Int} {km : IntKind} (hl : Bnd P c lo vlo 0 l) (hh : Bnd P c hi vhi len h) (hne : vhi ≠ none) (h0 : 0 ≤ l) (h1 : l ≤ h) (h2 : h ≤ m) (h3 : m ≤ cap) (w : World) :
    (Instr.sliceBounds is len cap vlo vhi (some (.int km m))).run P w = .ok (l.toNat, h.toNat, m.toNat) w := by
  unfold Instr.sliceBounds
  cases hl with
  | none =>
    cases hh with
    | none => exact absurd rfl hne
    | some k n v _ hv =>
      obtain rfl := zbc hv
      simp [zbq (by omega : 0 ≤ m) h3, zbq (by omega : 0 ≤ h) (show h ≤ (m.toNat : Int) by omega)]
  | some k n v _ hv =>
    obtain rfl := zbc hv
    cases hh with
    | none => exact absurd rfl hne
    | some k2 n2 v2 _ hv2 =>
      obtain rfl := zbc hv2
      simp [zbq (by omega : 0 ≤ m) h3, zbq (by omega : 0 ≤ h) (show h ≤ (m.toNat : Int) by omega), zbq h0 (show l ≤ (h.toNat : Int) by omega)]
def OV (P : Program) (c : Cx) : Option AV → Option Value → Prop
  | none, none => True
  | some a, some v => VV P c a v
  | _, _ => False
theorem zbz {c : Cx} {o : Option AV} {v : Option Value} {d : Nat} {n : Int} (h : OV P c o v) (hb : bnd o d = some n) : Bnd P c o v d n := by
  cases o with
  | none => cases v with
    | none => simp [bnd] at hb; subst hb; exact .none d
    | some _ => exact h.elim
  | some a => cases v with
    | none => exact h.elim
    | some v =>
      cases a <;> simp [bnd] at hb
      subst hb
      exact .some _ _ _ _ h
theorem bnd_some {c : Cx} {o : Option AV} {v : Option Value} (h : OV P c o v) (ho : o ≠ none) : v ≠ none := by
  cases o <;> cases v <;> simp_all [OV]
theorem zbu {c : Cx} {es : List AV} {T : TypeId} {cs : List Value} (l h : Nat) (hr : qa0 P c es T cs) : qa0 P c ((es.take h).drop l) T (cs.drop (l * P.cellsOf T)) := by
  refine repE_iff.2 fun i v hi => ?_
  rw [List.getElem?_drop, List.getElem?_take] at hi
  split at hi
  · have := qa7 hr hi
    rw [List.drop_drop]
    rwa [show l * P.cellsOf T + i * P.cellsOf T = (l + i) * P.cellsOf T by rw [Nat.add_mul]]
  · cases hi
theorem slice_sound (hP : WF P) {c : Cx} (hr : HR P c) {T : TypeId} {x r : AV} {lo hi mx : Option AV} {vlo vhi vmx : Option Value} {wr : List (Nat × Entry)} {v : Value} (hv : VV P c x v) (hlo : OV P c lo vlo) (hhi : OV P c hi vhi) (hmx : OV P c mx vmx)
    (hmh : mx ≠ none → hi ≠ none) (h : (zdr P T x lo hi mx).run c.h = some (r, wr)) : wr = [] ∧ ∃ z, (Instr.sliceAt T v vlo vhi vmx).run P c.w = .ok z c.w ∧ VV P c r z := by
  cases x <;> simp only [zdr] at h <;> try exact (yae h).elim
  case str s =>
    replace h := qaf h; obtain ⟨hs, h⟩ := h
    split at h
    · rename_i l hh h1 h2
      replace h := qaf h; obtain ⟨⟨g0, g1, g2⟩, h⟩ := h
      obtain ⟨rfl, rfl⟩ := yaf h
      obtain rfl := qc5 hv
      cases vmx with
      | some _ => exact hmx.elim
      | none =>
        have hrn := zce (P := P) (is := false) (zbz hlo h1) (zbz hhi h2) g0 g1 g2 c.w
        exact ⟨rfl, .string (s.extract l.toNat hh.toNat), by simp [Instr.sliceAt, Instr.slice, run_underlying (yba hs), hrn], zcd⟩
    · exact (yae h).elim
  case list e es =>
    replace h := qaf h; obtain ⟨⟨hs, hok⟩, h⟩ := h
    obtain ⟨a, cap, rfl, hcap, hne⟩ := zda hv
    have key : ∀ (l hh m : Nat), l ≤ hh → hh ≤ es.length → hh ≤ m → m ≤ cap → VV P c (.list e ((es.take hh).drop l)) (.slice (if m = l then a else a.map (·.add (l * P.cellsOf e))) (hh - l) (m - l)) := by
      intro l hh m k1 k2 k3 k4
      refine vv_list_mk (by simp; omega) (by simp; omega) fun hn => ?_
      have hes : es ≠ [] := by rintro rfl; simp at hn
      obtain ⟨b, off, C, Te, mk, rfl, hbk, hO, hE⟩ := hne hes
      have hlt : l < hh := by
        rcases Nat.lt_or_ge l hh with h | h
        · exact h
        · exfalso; apply hn; apply List.eq_nil_of_length_eq_zero; simp; omega
      refine ⟨b, off + l * P.cellsOf e, C, Te, mk, ?_, hbk, hO, ?_⟩
      · rw [if_neg (by omega)]
        simp [zbm]
      · have := zbu l hh hE
        rwa [List.drop_drop] at this
    split at h
    · rename_i l hh h1 h2
      replace h := qaf h; obtain ⟨⟨g0, g1, g2⟩, h⟩ := h
      obtain ⟨rfl, rfl⟩ := yaf h
      cases vmx with
      | some _ => exact hmx.elim
      | none =>
        have hrn := zce (P := P) (is := true) (cap := cap) (zbz hlo h1) (zbz hhi h2) g0 g1 (by omega) c.w
        refine ⟨rfl, _, ?_, key l.toNat hh.toNat cap (by omega) (by omega) (by omega) (Nat.le_refl _)⟩
        simp [Instr.sliceAt, Instr.slice, run_underlying (qah hs), hrn, qak (yai hok).1]
    · rename_i km m l hh h1 h2
      replace h := qaf h; obtain ⟨⟨g0, g1, g2, g3⟩, h⟩ := h
      obtain ⟨rfl, rfl⟩ := yaf h
      cases vmx with
      | none => exact hmx.elim
      | some vm =>
        obtain rfl := zbc hmx
        have hrn := yda (P := P) (is := true) (cap := cap) (km := km) (zbz hlo h1) (zbz hhi h2) (bnd_some hhi (hmh (by simp))) g0 g1 g2 (by omega) c.w
        refine ⟨rfl, _, ?_, key l.toNat hh.toNat m.toNat (by omega) (by omega) (by omega) (by omega)⟩
        simp [Instr.sliceAt, Instr.slice, run_underlying (qah hs), hrn, qak (yai hok).1]
    · exact (yae h).elim
  case win k p e fr n lo' =>
    replace h := qaf h; obtain ⟨⟨hs, hok⟩, h⟩ := h
    obtain ⟨en, cap, a, hk, hne, rfl, hlc, hnc, hpe, hc⟩ := yby hv
    have key : ∀ (l hh m q : Nat), l ≤ hh → hh ≤ m → m ≤ cap → q ≤ m → VV P c (.win k p e (fr + l) (hh - l) (q - l)) (.slice (if m = l then a else a.map (·.add (l * P.cellsOf e))) (hh - l) (m - l)) := by
      intro l hh m q k1 k2 k3 k4
      refine qbp hk hne (by omega) (by omega) hpe fun hn => ?_
      obtain ⟨b, off, C, mk, g1, g2, g3, g4, rfl, g6, g7⟩ := hc (by omega)
      refine ⟨b, off, C, mk, g1, g2, g3, g4, ?_, ?_, fun z hz => by have := g7 z hz; omega⟩
      · rw [if_neg (by omega)]
        simp only [Option.map_some, zbm, Nat.add_mul, Nat.add_assoc]
      · have : (fr + l + (m - l)) * P.cellsOf e ≤ (fr + cap) * P.cellsOf e := Nat.mul_le_mul_right _ (by omega)
        omega
    split at h
    · rename_i l hh h1 h2
      replace h := qaf h; obtain ⟨⟨g0, g1, g2⟩, h⟩ := h
      obtain ⟨rfl, rfl⟩ := yaf h
      cases vmx with
      | some _ => exact hmx.elim
      | none =>
        have hrn := zce (P := P) (is := true) (cap := cap) (zbz hlo h1) (zbz hhi h2) g0 g1 (by omega) c.w
        refine ⟨rfl, _, ?_, key l.toNat hh.toNat cap (max n lo') (by omega) (by omega) (Nat.le_refl _) (by omega)⟩
        simp [Instr.sliceAt, Instr.slice, run_underlying (qah hs), hrn, qak (yai hok).1]
    · rename_i km m l hh h1 h2
      replace h := qaf h; obtain ⟨⟨g0, g1, g2, g3⟩, h⟩ := h
      obtain ⟨rfl, rfl⟩ := yaf h
      cases vmx with
      | none => exact hmx.elim
      | some vm =>
        obtain rfl := zbc hmx
        have hrn := yda (P := P) (is := true) (cap := cap) (km := km) (zbz hlo h1) (zbz hhi h2) (bnd_some hhi (hmh (by simp))) g0 g1 g2 (by omega) c.w
        refine ⟨rfl, _, ?_, key l.toNat hh.toNat m.toNat m.toNat (by omega) (by omega) (by omega) (Nat.le_refl _)⟩
        simp [Instr.sliceAt, Instr.slice, run_underlying (qah hs), hrn, qak (yai hok).1]
    · exact (yae h).elim
  case nils =>
    replace h := qaf h; obtain ⟨hs, h⟩ := h
    obtain ⟨e, hsh, hok⟩ : ∃ e, zab P T = .slice e ∧ okT P e = true := by
      unfold isSliceOK at hs
      split at hs
      · exact ⟨_, ‹_›, hs⟩
      · cases hs
    obtain rfl := zb3 hv
    split at h
    · rename_i l hh h1 h2
      replace h := qaf h; obtain ⟨⟨g0, g1⟩, h⟩ := h
      obtain ⟨rfl, rfl⟩ := yaf h
      subst g0; subst g1
      cases vmx with
      | some _ => exact hmx.elim
      | none =>
        have hrn := zce (P := P) (is := true) (cap := 0) (zbz hlo h1) (zbz hhi h2) (by omega) (by omega) (by omega) c.w
        exact ⟨rfl, .slice none 0 0, by simp [Instr.sliceAt, Instr.slice, run_underlying (qah hsh), hrn, qak (yai hok).1], vv_nils_mk⟩
    · exact (yae h).elim
  case ref k p T' =>
    replace h := qaf h; obtain ⟨rfl, h⟩ := h
    cases hs : zab P T' <;> rw [hs] at h <;> simp only at h <;> try exact (yae h).elim
    rename_i m e
    split at h
    · rename_i l hh h1 h2
      replace h := qaf h; obtain ⟨⟨hok, g0, g1, g2⟩, h⟩ := h
      obtain ⟨en, he, h⟩ := zcs h
      replace h := qaf h; obtain ⟨⟨hlv, hpin⟩, h⟩ := h
      obtain ⟨rfl, rfl⟩ := yaf h
      obtain ⟨en', b, off, hk, hne, hkb, ho, rfl⟩ := ydx hv
      rw [he] at hk
      cases hk
      obtain ⟨C, mk, hbk, hm, _, hle, _⟩ := hr.block he (qas hlv) hkb
      cases vmx with
      | some _ => exact hmx.elim
      | none =>
        have hrn := zce (P := P) (is := false) (cap := m) (zbz hlo h1) (zbz hhi h2) g0 g1 g2 c.w
        refine ⟨rfl, .slice (some (if m = l.toNat then ⟨b, off, none⟩ else ⟨b, off + l.toNat * P.cellsOf e, none⟩)) (hh.toNat - l.toNat) (m - l.toNat), ?_, ?_⟩
        · simp [Instr.sliceAt, run_underlying (yb3 hs), Instr.sureAddr, hrn, qak (yai hok).1, zbm]
        · cases p with
          | nil => simp [pIn] at hpin
          | cons i q =>
            simp only [pIn, decide_eq_true_eq] at hpin
            simp only [qbc, Option.map_eq_some_iff] at ho
            obtain ⟨⟨A, o⟩, hpt, hq⟩ := ho
            simp only [Prod.mk.injEq] at hq
            obtain ⟨rfl, rfl⟩ := hq
            have hbd := zaw hP hpt
            have harr := hP.arr hs
            have hmul : (i + 1) * P.cellsOf en.T ≤ en.es.length * P.cellsOf en.T := Nat.mul_le_mul_right _ hpin
            rw [Nat.add_mul] at hmul
            refine qbp he hne (Nat.le_refl _) (by omega) (by simp) fun hn => ?_
            refine ⟨b, i * P.cellsOf en.T + o, C, mk, hkb, by simp [zby, hpt, hs], hbk, hm, ?_, ?_, ?_⟩
            · rw [if_neg (by omega)]
            · rw [show l.toNat + (m - l.toNat) = m by omega]
              omega
            · intro z hz
              simp [ycr, hpt, hs] at hz
              omega
    · rename_i km M l hh h1 h2
      replace h := qaf h; obtain ⟨⟨hok, g0, g1, g2, g3⟩, h⟩ := h
      obtain ⟨en, he, h⟩ := zcs h
      replace h := qaf h; obtain ⟨⟨hlv, hpin⟩, h⟩ := h
      obtain ⟨rfl, rfl⟩ := yaf h
      obtain ⟨en', b, off, hk, hne, hkb, ho, rfl⟩ := ydx hv
      rw [he] at hk
      cases hk
      obtain ⟨C, mk, hbk, hm, _, hle, _⟩ := hr.block he (qas hlv) hkb
      cases vmx with
      | none => exact hmx.elim
      | some vm =>
        obtain rfl := zbc hmx
        have hrn := yda (P := P) (is := false) (cap := m) (km := km) (zbz hlo h1) (zbz hhi h2) (bnd_some hhi (hmh (by simp))) g0 g1 g2 g3 c.w
        refine ⟨rfl, .slice (some (if M.toNat = l.toNat then ⟨b, off, none⟩ else ⟨b, off + l.toNat * P.cellsOf e, none⟩)) (hh.toNat - l.toNat) (M.toNat - l.toNat), ?_, ?_⟩
        · simp [Instr.sliceAt, run_underlying (yb3 hs), Instr.sureAddr, hrn, qak (yai hok).1, zbm]
        · cases p with
          | nil => simp [pIn] at hpin
          | cons i q =>
            simp only [pIn, decide_eq_true_eq] at hpin
            simp only [qbc, Option.map_eq_some_iff] at ho
            obtain ⟨⟨A, o⟩, hpt, hq⟩ := ho
            simp only [Prod.mk.injEq] at hq
            obtain ⟨rfl, rfl⟩ := hq
            have hbd := zaw hP hpt
            have harr := hP.arr hs
            have hmul : (i + 1) * P.cellsOf en.T ≤ en.es.length * P.cellsOf en.T := Nat.mul_le_mul_right _ hpin
            rw [Nat.add_mul] at hmul
            have hM : M.toNat * P.cellsOf e ≤ m * P.cellsOf e := Nat.mul_le_mul_right _ (by omega)
            refine qbp he hne (Nat.le_refl _) (by omega) (by simp) fun hn => ?_
            refine ⟨b, i * P.cellsOf en.T + o, C, mk, hkb, by simp [zby, hpt, hs], hbk, hm, ?_, ?_, ?_⟩
            · rw [if_neg (by omega)]
            · rw [show l.toNat + (M.toNat - l.toNat) = M.toNat by omega]
              omega
            · intro z hz
              simp [ycr, hpt, hs] at hz
              omega
    · exact (yae h).elim
end
end Go.Abs
