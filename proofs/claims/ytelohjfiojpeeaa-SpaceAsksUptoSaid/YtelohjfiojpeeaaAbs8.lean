/- Abs8: a part of the proofs about the tuple space (layer 8). -/
import Derived.Test.YtelohjfiojpeeaaAbs7
set_option linter.all false
namespace Go.Abs
open Go
section
variable {P : Program}

theorem wrap_i64_of {n : Int} (h0 : -9223372036854775808 ≤ n) (h1 : n ≤ 9223372036854775807) : IntKind.i64.wrap n = n := by
  rw [IntKind.wrap_i64]
  omega

theorem run_typeInfo_bytes {T : TypeId} (h : shapeT P T ≠ .other) (w : World) : ∃ i, (typeInfo T).run P w = .ok i w ∧ i.bytes = P.bytesOf T ∧ P.info? T = some i := by
  obtain ⟨i, hi⟩ := info_of_shape h
  exact ⟨i, by simp [typeInfo, hi], by simp [Program.bytesOf, hi], hi⟩

theorem makeSlice_sound (hP : WF P) {c : Cx} (hr : HR P c) {s : Nat} {e0 : Entry} (hs : c.h[s]? = some e0) (h0 : e0.st = .hole) {T : TypeId} {l k r : AV} {wr : List (Nat × Entry)} {v u : Value}
    (hv : VV P c l v) (hu : VV P c k u) (h : (stMakeSlice P T l k s).run c.h = some (r, wr)) : ∃ z w', (Instr.makeSlice T v u).run P c.w = .ok z w' ∧ Done P c r wr z w' := by
  cases l <;> cases k <;> simp only [stMakeSlice] at h <;> try exact (stp_fail h).elim
  rename_i kl a kc b
  cases hsh : shapeT P T <;> rw [hsh] at h <;> simp only at h <;> try exact (stp_fail h).elim
  rename_i e
  replace h := stp_ite h; obtain ⟨⟨ha, hab, hbb, hmax, hz⟩, h⟩ := h
  obtain ⟨rfl, rfl⟩ := stp_ret h
  obtain rfl := vv_int hv
  obtain rfl := vv_int hu
  obtain ⟨z, h1, h2, h3, hok⟩ := zero_sound hP c hz c.w
  obtain ⟨hne, hc0⟩ := okT_spec hok
  obtain ⟨i, hi, hib, _⟩ := run_typeInfo_bytes hne c.w
  have w1 : IntKind.i64.wrap a = a := wrap_i64_of (by omega) (by omega)
  have w2 : IntKind.i64.wrap b = b := wrap_i64_of (by omega) (by omega)
  have hrow := zeroRow_rep hP h3 h2 hc0 a.toNat b.toNat (by omega)
  let C := (Array.range (b.toNat * P.cellsOf e)).map fun j => z.cells[j % z.cells.size]!
  have hC : C.size = b.toNat * P.cellsOf e := by simp [C]
  have hle : a.toNat * P.cellsOf e ≤ b.toNat * P.cellsOf e := Nat.mul_le_mul_right _ (by omega)
  refine ⟨.slice (some ⟨c.w.heap.size, 0, none⟩) a.toNat b.toNat, c.w.alloc (.cells C e), ?_, _, hr_alloc (C := C) hr hs h0 (by simp only [List.length_replicate]; omega) hrow, ext_alloc hs h0,
    win_new hs (Nat.le_refl _) (by omega) (by omega)⟩
  have hask : (askRoom (b.toNat * P.bytesOf e)).run P c.w = .ok () c.w := run_askRoom P c.w _
  have c1' : (decide (b < 0) || decide ((P.bytesOf e : Int) * b > 2 ^ 48) || decide (a < 0) || decide (a > b)) = false := by
    simp only [Bool.or_eq_false_iff, decide_eq_false_iff_not]
    have h48 : (2 : Int) ^ 48 = 281474976710656 := by decide
    exact ⟨⟨⟨by omega, by omega⟩, by omega⟩, by omega⟩
  simp only [Instr.makeSlice, Sem.run_bind, run_underlying (und_slice hsh), Result.andThen_ok, asInt, asIntOf, Sem.run_pure, hi, hib, w1, w2]
  simp only [c1', Bool.false_eq_true, if_false, Sem.run_bind, hask, Result.andThen_ok, run_sizeT hne]
  by_cases hz0 : b.toNat * P.cellsOf e = 0
  · have : C = #[] := Array.eq_empty_of_size_eq_zero (by omega)
    rw [this]
    simp [hz0, newRow, Array.range_zero']
  · simp [hz0, h1, newRow, C]

theorem run_bound {k : IntKind} {n : Int} {y : Nat} {code : BoundsCode} (h0 : 0 ≤ n) (h1 : n ≤ y) (w : World) : (Instr.sliceBound (.int k n) y code).run P w = .ok n.toNat w := by
  simp [Instr.sliceBound, asIntOf, h0, h1]

/-- The bounds that are asked for, as they are reckoned. -/
inductive Bnd (P : Program) (c : Cx) : Option AV → Option Value → Nat → Int → Prop
  | none (d : Nat) : Bnd P c none none d d
  | some (k : IntKind) (n : Int) (v : Value) (d : Nat) : VV P c (.int k n) v → Bnd P c (some (.int k n)) (some v) d n

theorem run_bounds {c : Cx} {is : Bool} {len cap : Nat} {lo hi : Option AV} {vlo vhi : Option Value} {l h : Int} (hl : Bnd P c lo vlo 0 l) (hh : Bnd P c hi vhi len h) (h0 : 0 ≤ l) (h1 : l ≤ h) (h2 : h ≤ cap) (w : World) :
    (Instr.sliceBounds is len cap vlo vhi none).run P w = .ok (l.toNat, h.toNat, cap) w := by
  unfold Instr.sliceBounds
  cases hl with
  | none =>
    cases hh with
    | none => simp
    | some k n v _ hv =>
      obtain rfl := vv_int hv
      simp [run_bound (by omega) h2]
  | some k n v _ hv =>
    obtain rfl := vv_int hv
    cases hh with
    | none => simp [run_bound h0 h1]
    | some k2 n2 v2 _ hv2 =>
      obtain rfl := vv_int hv2
      simp [run_bound (by omega) h2, run_bound h0 (show l ≤ (h.toNat : Int) by omega)]

theorem run_bounds3 {c : Cx} {is : Bool} {len cap : Nat} {lo hi : Option AV} {vlo vhi : Option Value} {l h m : Int} {km : IntKind} (hl : Bnd P c lo vlo 0 l) (hh : Bnd P c hi vhi len h) (hne : vhi ≠ none) (h0 : 0 ≤ l) (h1 : l ≤ h) (h2 : h ≤ m) (h3 : m ≤ cap) (w : World) :
    (Instr.sliceBounds is len cap vlo vhi (some (.int km m))).run P w = .ok (l.toNat, h.toNat, m.toNat) w := by
  unfold Instr.sliceBounds
  cases hl with
  | none =>
    cases hh with
    | none => exact absurd rfl hne
    | some k n v _ hv =>
      obtain rfl := vv_int hv
      simp [run_bound (by omega : 0 ≤ m) h3, run_bound (by omega : 0 ≤ h) (show h ≤ (m.toNat : Int) by omega)]
  | some k n v _ hv =>
    obtain rfl := vv_int hv
    cases hh with
    | none => exact absurd rfl hne
    | some k2 n2 v2 _ hv2 =>
      obtain rfl := vv_int hv2
      simp [run_bound (by omega : 0 ≤ m) h3, run_bound (by omega : 0 ≤ h) (show h ≤ (m.toNat : Int) by omega), run_bound h0 (show l ≤ (h.toNat : Int) by omega)]

/-- An optional bound and its value. -/
def OV (P : Program) (c : Cx) : Option AV → Option Value → Prop
  | none, none => True
  | some a, some v => VV P c a v
  | _, _ => False

theorem bnd_ok {c : Cx} {o : Option AV} {v : Option Value} {d : Nat} {n : Int} (h : OV P c o v) (hb : bnd o d = some n) : Bnd P c o v d n := by
  cases o with
  | none => cases v with
    | none => simp [bnd] at hb; subst hb; exact .none d
    | some _ => exact h.elim
  | some a => cases v with
    | none => exact h.elim
    | some v =>
      cases a <;> simp [bnd] at hb
      subst hb
      exact .some _ _ _ _ h

theorem bnd_some {c : Cx} {o : Option AV} {v : Option Value} (h : OV P c o v) (ho : o ≠ none) : v ≠ none := by
  cases o <;> cases v <;> simp_all [OV]

theorem repE_sub {c : Cx} {es : List AV} {T : TypeId} {cs : List Value} (l h : Nat) (hr : RepE P c es T cs) : RepE P c ((es.take h).drop l) T (cs.drop (l * P.cellsOf T)) := by
  refine repE_iff.2 fun i v hi => ?_
  rw [List.getElem?_drop, List.getElem?_take] at hi
  split at hi
  · have := repE_get hr hi
    rw [List.drop_drop]
    rwa [show l * P.cellsOf T + i * P.cellsOf T = (l + i) * P.cellsOf T by rw [Nat.add_mul]]
  · cases hi

theorem slice_sound (hP : WF P) {c : Cx} (hr : HR P c) {T : TypeId} {x r : AV} {lo hi mx : Option AV} {vlo vhi vmx : Option Value} {wr : List (Nat × Entry)} {v : Value} (hv : VV P c x v) (hlo : OV P c lo vlo) (hhi : OV P c hi vhi) (hmx : OV P c mx vmx)
    (hmh : mx ≠ none → hi ≠ none) (h : (stSlice P T x lo hi mx).run c.h = some (r, wr)) : wr = [] ∧ ∃ z, (Instr.sliceAt T v vlo vhi vmx).run P c.w = .ok z c.w ∧ VV P c r z := by
  cases x <;> simp only [stSlice] at h <;> try exact (stp_fail h).elim
  case str s =>
    replace h := stp_ite h; obtain ⟨hs, h⟩ := h
    split at h
    · rename_i l hh h1 h2
      replace h := stp_ite h; obtain ⟨⟨g0, g1, g2⟩, h⟩ := h
      obtain ⟨rfl, rfl⟩ := stp_ret h
      obtain rfl := vv_str hv
      cases vmx with
      | some _ => exact hmx.elim
      | none =>
        have hrn := run_bounds (P := P) (is := false) (bnd_ok hlo h1) (bnd_ok hhi h2) g0 g1 g2 c.w
        exact ⟨rfl, .string (s.extract l.toNat hh.toNat), by simp [Instr.sliceAt, Instr.slice, run_underlying (und_str hs), hrn], vv_str_mk⟩
    · exact (stp_fail h).elim
  case list e es =>
    replace h := stp_ite h; obtain ⟨⟨hs, hok⟩, h⟩ := h
    obtain ⟨a, cap, rfl, hcap, hne⟩ := vv_list hv
    have key : ∀ (l hh m : Nat), l ≤ hh → hh ≤ es.length → hh ≤ m → m ≤ cap → VV P c (.list e ((es.take hh).drop l)) (.slice (if m = l then a else a.map (·.add (l * P.cellsOf e))) (hh - l) (m - l)) := by
      intro l hh m k1 k2 k3 k4
      refine vv_list_mk (by simp; omega) (by simp; omega) fun hn => ?_
      have hes : es ≠ [] := by rintro rfl; simp at hn
      obtain ⟨b, off, C, Te, mk, rfl, hbk, hO, hE⟩ := hne hes
      have hlt : l < hh := by
        rcases Nat.lt_or_ge l hh with h | h
        · exact h
        · exfalso; apply hn; apply List.eq_nil_of_length_eq_zero; simp; omega
      refine ⟨b, off + l * P.cellsOf e, C, Te, mk, ?_, hbk, hO, ?_⟩
      · rw [if_neg (by omega)]
        simp [addr_add]
      · have := repE_sub l hh hE
        rwa [List.drop_drop] at this
    split at h
    · rename_i l hh h1 h2
      replace h := stp_ite h; obtain ⟨⟨g0, g1, g2⟩, h⟩ := h
      obtain ⟨rfl, rfl⟩ := stp_ret h
      cases vmx with
      | some _ => exact hmx.elim
      | none =>
        have hrn := run_bounds (P := P) (is := true) (cap := cap) (bnd_ok hlo h1) (bnd_ok hhi h2) g0 g1 (by omega) c.w
        refine ⟨rfl, _, ?_, key l.toNat hh.toNat cap (by omega) (by omega) (by omega) (Nat.le_refl _)⟩
        simp [Instr.sliceAt, Instr.slice, run_underlying (und_slice hs), hrn, run_sizeT (okT_spec hok).1]
    · rename_i km m l hh h1 h2
      replace h := stp_ite h; obtain ⟨⟨g0, g1, g2, g3⟩, h⟩ := h
      obtain ⟨rfl, rfl⟩ := stp_ret h
      cases vmx with
      | none => exact hmx.elim
      | some vm =>
        obtain rfl := vv_int hmx
        have hrn := run_bounds3 (P := P) (is := true) (cap := cap) (km := km) (bnd_ok hlo h1) (bnd_ok hhi h2) (bnd_some hhi (hmh (by simp))) g0 g1 g2 (by omega) c.w
        refine ⟨rfl, _, ?_, key l.toNat hh.toNat m.toNat (by omega) (by omega) (by omega) (by omega)⟩
        simp [Instr.sliceAt, Instr.slice, run_underlying (und_slice hs), hrn, run_sizeT (okT_spec hok).1]
    · exact (stp_fail h).elim
  case win k p e fr n lo' =>
    replace h := stp_ite h; obtain ⟨⟨hs, hok⟩, h⟩ := h
    obtain ⟨en, cap, a, hk, hne, rfl, hlc, hnc, hpe, hc⟩ := vv_win hv
    have key : ∀ (l hh m q : Nat), l ≤ hh → hh ≤ m → m ≤ cap → q ≤ m → VV P c (.win k p e (fr + l) (hh - l) (q - l)) (.slice (if m = l then a else a.map (·.add (l * P.cellsOf e))) (hh - l) (m - l)) := by
      intro l hh m q k1 k2 k3 k4
      refine vv_win_mk hk hne (by omega) (by omega) hpe fun hn => ?_
      obtain ⟨b, off, C, mk, g1, g2, g3, g4, rfl, g6, g7⟩ := hc (by omega)
      refine ⟨b, off, C, mk, g1, g2, g3, g4, ?_, ?_, fun z hz => by have := g7 z hz; omega⟩
      · rw [if_neg (by omega)]
        simp only [Option.map_some, addr_add, Nat.add_mul, Nat.add_assoc]
      · have : (fr + l + (m - l)) * P.cellsOf e ≤ (fr + cap) * P.cellsOf e := Nat.mul_le_mul_right _ (by omega)
        omega
    split at h
    · rename_i l hh h1 h2
      replace h := stp_ite h; obtain ⟨⟨g0, g1, g2⟩, h⟩ := h
      obtain ⟨rfl, rfl⟩ := stp_ret h
      cases vmx with
      | some _ => exact hmx.elim
      | none =>
        have hrn := run_bounds (P := P) (is := true) (cap := cap) (bnd_ok hlo h1) (bnd_ok hhi h2) g0 g1 (by omega) c.w
        refine ⟨rfl, _, ?_, key l.toNat hh.toNat cap (max n lo') (by omega) (by omega) (Nat.le_refl _) (by omega)⟩
        simp [Instr.sliceAt, Instr.slice, run_underlying (und_slice hs), hrn, run_sizeT (okT_spec hok).1]
    · rename_i km m l hh h1 h2
      replace h := stp_ite h; obtain ⟨⟨g0, g1, g2, g3⟩, h⟩ := h
      obtain ⟨rfl, rfl⟩ := stp_ret h
      cases vmx with
      | none => exact hmx.elim
      | some vm =>
        obtain rfl := vv_int hmx
        have hrn := run_bounds3 (P := P) (is := true) (cap := cap) (km := km) (bnd_ok hlo h1) (bnd_ok hhi h2) (bnd_some hhi (hmh (by simp))) g0 g1 g2 (by omega) c.w
        refine ⟨rfl, _, ?_, key l.toNat hh.toNat m.toNat m.toNat (by omega) (by omega) (by omega) (Nat.le_refl _)⟩
        simp [Instr.sliceAt, Instr.slice, run_underlying (und_slice hs), hrn, run_sizeT (okT_spec hok).1]
    · exact (stp_fail h).elim
  case nils =>
    replace h := stp_ite h; obtain ⟨hs, h⟩ := h
    obtain ⟨e, hsh, hok⟩ : ∃ e, shapeT P T = .slice e ∧ okT P e = true := by
      unfold isSliceOK at hs
      split at hs
      · exact ⟨_, ‹_›, hs⟩
      · cases hs
    obtain rfl := vv_nils hv
    split at h
    · rename_i l hh h1 h2
      replace h := stp_ite h; obtain ⟨⟨g0, g1⟩, h⟩ := h
      obtain ⟨rfl, rfl⟩ := stp_ret h
      subst g0; subst g1
      cases vmx with
      | some _ => exact hmx.elim
      | none =>
        have hrn := run_bounds (P := P) (is := true) (cap := 0) (bnd_ok hlo h1) (bnd_ok hhi h2) (by omega) (by omega) (by omega) c.w
        exact ⟨rfl, .slice none 0 0, by simp [Instr.sliceAt, Instr.slice, run_underlying (und_slice hsh), hrn, run_sizeT (okT_spec hok).1], vv_nils_mk⟩
    · exact (stp_fail h).elim
  case ref k p T' =>
    replace h := stp_ite h; obtain ⟨rfl, h⟩ := h
    cases hs : shapeT P T' <;> rw [hs] at h <;> simp only at h <;> try exact (stp_fail h).elim
    rename_i m e
    split at h
    · rename_i l hh h1 h2
      replace h := stp_ite h; obtain ⟨⟨hok, g0, g1, g2⟩, h⟩ := h
      obtain ⟨en, he, h⟩ := stp_rd h
      replace h := stp_ite h; obtain ⟨⟨hlv, hpin⟩, h⟩ := h
      obtain ⟨rfl, rfl⟩ := stp_ret h
      obtain ⟨en', b, off, hk, hne, hkb, ho, rfl⟩ := vv_ref hv
      rw [he] at hk
      cases hk
      obtain ⟨C, mk, hbk, hm, _, hle, _⟩ := hr.block he (live_of_liveB hlv) hkb
      cases vmx with
      | some _ => exact hmx.elim
      | none =>
        have hrn := run_bounds (P := P) (is := false) (cap := m) (bnd_ok hlo h1) (bnd_ok hhi h2) g0 g1 g2 c.w
        refine ⟨rfl, .slice (some (if m = l.toNat then ⟨b, off, none⟩ else ⟨b, off + l.toNat * P.cellsOf e, none⟩)) (hh.toNat - l.toNat) (m - l.toNat), ?_, ?_⟩
        · simp [Instr.sliceAt, run_underlying (und_arr hs), Instr.sureAddr, hrn, run_sizeT (okT_spec hok).1, addr_add]
        · cases p with
          | nil => simp [pIn] at hpin
          | cons i q =>
            simp only [pIn, decide_eq_true_eq] at hpin
            simp only [refOff, Option.map_eq_some_iff] at ho
            obtain ⟨⟨A, o⟩, hpt, hq⟩ := ho
            simp only [Prod.mk.injEq] at hq
            obtain ⟨rfl, rfl⟩ := hq
            have hbd := pathT_bound hP hpt
            have harr := hP.arr hs
            have hmul : (i + 1) * P.cellsOf en.T ≤ en.es.length * P.cellsOf en.T := Nat.mul_le_mul_right _ hpin
            rw [Nat.add_mul] at hmul
            refine vv_win_mk he hne (Nat.le_refl _) (by omega) (by simp) fun hn => ?_
            refine ⟨b, i * P.cellsOf en.T + o, C, mk, hkb, by simp [winOff, hpt, hs], hbk, hm, ?_, ?_, ?_⟩
            · rw [if_neg (by omega)]
            · rw [show l.toNat + (m - l.toNat) = m by omega]
              omega
            · intro z hz
              simp [winLim, hpt, hs] at hz
              omega
    · exact (stp_fail h).elim
end
end Go.Abs
