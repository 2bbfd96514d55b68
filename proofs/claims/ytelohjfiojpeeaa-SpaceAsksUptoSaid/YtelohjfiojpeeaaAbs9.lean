/- Abs9: a part of the proofs about the tuple space (layer 8). -/
import Derived.Test.YtelohjfiojpeeaaAbs8
set_option linter.all false
namespace Go.Abs
open Go
section
variable {P : Program}

theorem repE_append {c : Cx} {T : TypeId} : ∀ {xs ys : List AV} {cs : List Value}, RepE P c (xs ++ ys) T cs ↔ RepE P c xs T cs ∧ RepE P c ys T (cs.drop (xs.length * P.cellsOf T))
  | [], ys, cs => by simp [RepE]
  | x :: xs, ys, cs => by
    simp only [List.cons_append, RepE, List.length_cons, repE_append (xs := xs), List.drop_drop, and_assoc]
    rw [show (xs.length + 1) * P.cellsOf T = P.cellsOf T + xs.length * P.cellsOf T by rw [Nat.add_mul]; omega]

theorem repE_congr {c : Cx} {T : TypeId} {es : List AV} {cs cs' : List Value} (h : ∀ j, j < es.length * P.cellsOf T → cs[j]? = cs'[j]?) (hr : RepE P c es T cs) : RepE P c es T cs' := by
  refine repE_iff.2 fun i v hi => ?_
  obtain ⟨h1, h2⟩ := repE_get hr hi
  refine ⟨h1, ?_⟩
  have hlt := (List.getElem?_eq_some_iff.1 hi).1
  have hmul : (i + 1) * P.cellsOf T ≤ es.length * P.cellsOf T := Nat.mul_le_mul_right _ hlt
  rw [Nat.add_mul] at hmul
  have : (cs.drop (i * P.cellsOf T)).take (P.cellsOf T) = (cs'.drop (i * P.cellsOf T)).take (P.cellsOf T) := by
    apply List.ext_getElem?
    intro j
    simp only [List.getElem?_take, List.getElem?_drop]
    split
    · exact h _ (by omega)
    · rfl
  rw [← this]
  exact h2

/-- What an append takes its new elements from. -/
def Src (P : Program) (c : Cx) (size : Nat) (v : Value) (e : TypeId) (ys : List AV) : Prop :=
  (Builtin.lenOf v).run P c.w = .ok ys.length c.w ∧ ∃ new : Array Value, (Builtin.firstCells size ys.length v).run P c.w = .ok new c.w ∧ new.size = ys.length * size ∧ RepE P c ys e new.toList ∧ ∀ x ∈ new.toList, x.oneCell' = true

theorem repE_one (hP : WF P) {c : Cx} {T : TypeId} {es : List AV} {cs : List Value} (hr : RepE P c es T cs) (hl : cs.length = es.length * P.cellsOf T) (h0 : P.cellsOf T ≠ 0) : ∀ x ∈ cs, x.oneCell' = true := by
  intro x hx
  obtain ⟨j, hj, rfl⟩ := List.mem_iff_getElem.1 hx
  have hd : j / P.cellsOf T < es.length := Nat.div_lt_of_lt_mul (by rw [Nat.mul_comm]; omega)
  refine rep_oneE hP c es T cs hr (j / P.cellsOf T) _ (List.getElem?_eq_getElem hd) _ ?_
  refine List.mem_of_getElem? (i := j % P.cellsOf T) ?_
  rw [List.getElem?_take, if_pos (Nat.mod_lt _ (by omega)), List.getElem?_drop]
  rw [show j / P.cellsOf T * P.cellsOf T + j % P.cellsOf T = j by rw [Nat.mul_comm]; exact Nat.div_add_mod _ _]
  exact List.getElem?_eq_getElem hj

theorem src_row (hP : WF P) {c : Cx} {e : TypeId} {ys : List AV} {b off cap : Nat} {C : Array Value} {Te : TypeId} {m : Nat × Nat} (hok : okT P e = true) (hb : c.w.heap[b]? = some (.cells C Te m)) (hE : RepE P c ys e (C.toList.drop off))
    (hl : off + ys.length * P.cellsOf e ≤ C.size) : Src P c (P.cellsOf e) (.slice (some ⟨b, off, none⟩) ys.length cap) e ys := by
  have hlen : ((C.toList.drop off).take (ys.length * P.cellsOf e)).length = ys.length * P.cellsOf e := by simp; omega
  have hE2 : RepE P c ys e ((C.toList.drop off).take (ys.length * P.cellsOf e)) := repE_congr (fun j hj => by rw [List.getElem?_take, if_pos hj]) hE
  refine ⟨rfl, ((C.toList.drop off).take (ys.length * P.cellsOf e)).toArray, ?_, by simpa using hlen, by simpa using hE2, ?_⟩
  · simp only [Builtin.firstCells]
    exact run_loadCells_at hb hl
  · simpa using repE_one hP hE2 hlen (okT_spec hok).2

theorem repE_len (hP : WF P) {c : Cx} {T : TypeId} {es : List AV} {cs : List Value} (hr : RepE P c es T cs) (h0 : P.cellsOf T ≠ 0) : es.length * P.cellsOf T ≤ cs.length := by
  rcases Nat.eq_zero_or_pos es.length with h | h
  · rw [h]; omega
  · have hlast : es[es.length - 1]? = some (es.getD (es.length - 1) .junk) := getD_getElem? (by omega)
    obtain ⟨h1, h2⟩ := repE_get hr hlast
    have := rep_length hP h1 h2
    simp only [List.length_take, List.length_drop] at this
    have : (es.length - 1) * P.cellsOf T + P.cellsOf T = es.length * P.cellsOf T := by
      rw [← Nat.succ_mul]; congr 1; omega
    omega

theorem src_list (hP : WF P) {c : Cx} {e : TypeId} {ys : List AV} {v : Value} (hok : okT P e = true) (hv : VV P c (.list e ys) v) : Src P c (P.cellsOf e) v e ys := by
  obtain ⟨a, cap, rfl, hcap, hne⟩ := vv_list hv
  by_cases hy : ys = []
  · subst hy
    refine ⟨rfl, #[], ?_, by simp, by simp [RepE], by simp⟩
    cases a with
    | none => rfl
    | some a => simp [Builtin.firstCells, loadCells, loadCellsFrom]
  · obtain ⟨b, off, C, Te, m, rfl, hb, hO, hE⟩ := hne hy
    have := repE_len hP hE (okT_spec hok).2
    simp only [List.length_drop, Array.length_toList] at this
    have h0 : 0 < ys.length * P.cellsOf e := Nat.mul_pos (List.length_pos_iff.2 hy) (by have := (okT_spec hok).2; omega)
    exact src_row hP hok hb hE (by omega)

theorem src_nil (hP : WF P) {c : Cx} {e : TypeId} {v : Value} (hv : VV P c .nils v) : Src P c (P.cellsOf e) v e [] := by
  obtain rfl := vv_nils hv
  exact ⟨rfl, #[], rfl, by simp, by simp [RepE], by simp⟩

theorem src_str (hP : WF P) {c : Cx} {e : TypeId} {b : ByteArray} {v : Value} (he : shapeT P e = .int .u8) (hv : VV P c (.str b) v) : Src P c (P.cellsOf e) v e (u8s b) := by
  obtain rfl := vv_str hv
  have h1 := hP.scalar (T := e) (by rw [he]; rfl)
  have hl : (u8s b).length = b.size := by simp [u8s]
  refine ⟨by rw [hl]; rfl, ((b.extract 0 b.size).data.map fun x => .int .u8 x.toNat), by rw [hl]; rfl, ?_, ?_, ?_⟩
  · rw [hl, h1]; simp
  · have hex : b.extract 0 b.size = b := by simp
    rw [hex]
    refine repE_iff.2 fun i v hi => ?_
    simp only [u8s, List.getElem?_map, Option.map_eq_some_iff] at hi
    obtain ⟨x, hx, rfl⟩ := hi
    refine ⟨by simp only [tyOK]; exact he, ?_⟩
    simp only [Rep, h1, Nat.mul_one, Array.toList_map]
    rw [List.take_one, List.head?_drop]
    simp [hx]
  · simp only [Array.toList_map, List.mem_map]
    rintro x ⟨y, _, rfl⟩
    rfl

theorem pathless {p : List Nat} (h : isNilB p = true) : p = [] := by cases p <;> simp_all [isNilB]

/-- What a window shows, read off its block. -/
theorem win_read (hP : WF P) {c : Cx} (hr : HR P c) {k : Nat} {p : List Nat} {e : TypeId} {fr n lo : Nat} {v : Value} {en : Entry} {ys : List AV} (hv : VV P c (.win k p e fr n lo) v) (hk : c.h[k]? = some en) (hl : Live en)
    (hg : winGet en.es p fr n = some ys) : ys.length = n ∧ (n ≠ 0 → ∃ b off C m cap, v = .slice (some ⟨b, off + fr * P.cellsOf e, none⟩) n cap ∧ c.κ k = some b ∧ c.w.heap[b]? = some (.cells C en.T m) ∧ winOff P en.T p = some (e, off) ∧
      off + (fr + n) * P.cellsOf e ≤ C.size ∧ (en.st = .own → m = (0, 0)) ∧ (en.st = .fz → ¬ c.O b) ∧ RepE P c ys e (C.toList.drop (off + fr * P.cellsOf e))) := by
  have hlen : ys.length = n := by
    unfold winGet at hg
    split at hg
    · split at hg
      · simp only [Option.some.injEq] at hg; subst hg; simp; omega
      · cases hg
    · split at hg
      · split at hg
        · simp only [Option.some.injEq] at hg; subst hg; simp; omega
        · cases hg
      · cases hg
  refine ⟨hlen, fun hn0 => ?_⟩
  obtain ⟨en', cap, a, hk', hne, rfl, hlo, hn, hpe, hc⟩ := vv_win hv
  rw [hk] at hk'
  cases hk'
  obtain ⟨b, off, C, m, hkb, hw, hb, hm, rfl, hbd, hlim⟩ := hc (by omega)
  obtain ⟨C', m', hb', hm', hf', hle, hes⟩ := hr.block hk hl hkb
  rw [hb] at hb'
  cases hb'
  have hmul : (fr + n) * P.cellsOf e ≤ (fr + cap) * P.cellsOf e := Nat.mul_le_mul_right _ (by omega)
  refine ⟨b, off, C, m, cap, rfl, hkb, hb, hw, by omega, hm, hf', ?_⟩
  cases p with
  | nil =>
    simp only [winOff, Option.some.injEq, Prod.mk.injEq] at hw
    obtain ⟨rfl, rfl⟩ := hw
    simp only [winGet] at hg
    split at hg
    · simp only [Option.some.injEq] at hg
      subst hg
      have := repE_sub fr (fr + n) hes
      rw [List.drop_take, Nat.add_sub_cancel_left] at this
      simpa using this
    · cases hg
  | cons i q =>
    simp only [winGet] at hg
    cases hge : getE en.es (i :: q) with
    | none => simp [hge] at hg
    | some u =>
      rw [hge] at hg
      cases u <;> simp only [reduceCtorEq] at hg
      rename_i A vs
      split at hg
      · simp only [Option.some.injEq] at hg
        subst hg
        simp only [winOff] at hw
        cases hpt : pathT P en.T q with
        | none => simp [hpt] at hw
        | some x =>
          obtain ⟨A', o⟩ := x
          simp only [hpt] at hw
          cases hs : shapeT P A' <;> simp [hs] at hw
          rename_i sz e'
          obtain ⟨rfl, rfl⟩ := hw
          have hro : refOff P en.T (i :: q) = some (A', i * P.cellsOf en.T + o) := by simp [refOff, hpt]
          obtain ⟨t1, t2, t3⟩ := getE_rep hP hes hro hge
          simp only [tyOK] at t1
          subst t1
          simp only [Rep, hs] at t2
          have h3 := repE_sub fr (fr + n) t2.2.2
          rw [List.drop_take, Nat.add_sub_cancel_left] at h3
          refine repE_congr (fun j hj => ?_) h3
          simp only [List.getElem?_drop, List.getElem?_take]
          have harr := hP.arr hs
          have hvl := t2.2.1
          have hbnd : (fr + n) * P.cellsOf e' ≤ sz * P.cellsOf e' := Nat.mul_le_mul_right _ (by omega)
          have hjb : j < n * P.cellsOf e' := by
            have : (List.take n (List.drop fr vs)).length ≤ n := by simp; omega
            exact Nat.lt_of_lt_of_le hj (Nat.mul_le_mul_right _ this)
          rw [Nat.add_mul] at hbnd
          rw [if_pos (by omega)]
          congr 1
          omega
      · cases hg

theorem src_win (hP : WF P) {c : Cx} (hr : HR P c) {k : Nat} {p : List Nat} {e : TypeId} {fr n lo : Nat} {v : Value} {en : Entry} {ys : List AV} (hok : okT P e = true) (hv : VV P c (.win k p e fr n lo) v) (hk : c.h[k]? = some en) (hl : Live en)
    (hg : winGet en.es p fr n = some ys) : Src P c (P.cellsOf e) v e ys := by
  obtain ⟨hlen, hread⟩ := win_read hP hr hv hk hl hg
  by_cases hn : n = 0
  · subst hn
    have hy : ys = [] := List.eq_nil_of_length_eq_zero hlen
    subst hy
    obtain ⟨_, cap, a, _, _, rfl, _⟩ := vv_win hv
    refine ⟨rfl, #[], ?_, by simp, by simp [RepE], by simp⟩
    cases a with
    | none => rfl
    | some a => simp [Builtin.firstCells, loadCells, loadCellsFrom]
  · obtain ⟨b, off, C, m, cap, rfl, _, hb, _, hbd, _, _, hE⟩ := hread hn
    rw [Nat.add_mul] at hbd
    have := src_row hP (cap := cap) hok hb hE (by rw [hlen]; omega)
    rwa [hlen] at this

/-! ### append -/
theorem growBy_le (need : Nat) : ∀ (r c : Nat), c ≤ 2 * need + 1024 → Builtin.growBy need r c ≤ 2 * need + 1024
  | 0, c, h => by simpa [Builtin.growBy] using h
  | r + 1, c, h => by
    simp only [Builtin.growBy]
    split
    · exact h
    · exact growBy_le need r _ (by omega)

theorem nextcap_le {need cap : Nat} (h : cap < need) : Builtin.nextslicecap need cap ≤ 2 * need + 1024 := by
  unfold Builtin.nextslicecap
  split
  · omega
  · split
    · omega
    · exact growBy_le need 4 cap (by omega)

theorem cap_cut {w : World} {need cap : Nat} {e : TypeId} : need ≤ (Question.appendCap need cap e).cut (w.tape w.drawn (.appendCap need cap e)) := by
  simp only [Question.cut]
  omega

theorem size_zeroCells' (z : Array Value) (n : Nat) : (Builtin.zeroCells z n).size = n * z.size := by simp [Builtin.zeroCells]

/-- The run of append where the room does. -/
theorem run_append_fits {w w' : World} {T T2 ty e : TypeId} {a : Option Addr} {n cap m : Nat} {v : Value} {new : Array Value} (hT : shapeT P T = .slice e) (hT2 : isSlice (shapeT P T2) = true ∨ shapeT P T2 = .str) (hok : okT P e = true)
    (hl : (Builtin.lenOf v).run P w = .ok m w) (hf : (Builtin.firstCells (P.cellsOf e) m v).run P w = .ok new w) (hfit : n + m ≤ cap)
    (hst : ∀ x, a = some x → (storeCells (x.add (n * P.cellsOf e)) new.toList).run P w = .ok () w') (hnone : a = none → w' = w) :
    (Builtin.append_ #[T, T2] ty #[.slice a n cap, v]).run P w = .ok (.slice a (n + m) cap) w' := by
  have hs := run_sizeT (P := P) (okT_spec hok).1 w
  rcases hT2 with h | h
  · obtain ⟨e2, h⟩ := isSlice_spec h
    cases a with
    | none =>
      have := hnone rfl
      subst this
      simp [Builtin.append_, run_underlying (und_slice hT), run_underlying (und_slice h), hs, hl, hfit, hf]
    | some x =>
      simp [Builtin.append_, run_underlying (und_slice hT), run_underlying (und_slice h), hs, hl, hfit, hf, hst x rfl]
  · cases a with
    | none =>
      have := hnone rfl
      subst this
      simp [Builtin.append_, run_underlying (und_slice hT), run_underlying (und_str h), hs, hl, hfit, hf]
    | some x =>
      simp [Builtin.append_, run_underlying (und_slice hT), run_underlying (und_str h), hs, hl, hfit, hf, hst x rfl]

theorem bytes_info {e : TypeId} {i : TypeInfo} (hi : P.info? e = some i) : i.bytes = P.bytesOf e := by simp [Program.bytesOf, hi]

/-- The run of append where it grows. -/
theorem run_append_grows {w : World} {T T2 ty e : TypeId} {a : Option Addr} {n cap m : Nat} {v z : Value} {old new : Array Value} (hT : shapeT P T = .slice e) (hT2 : isSlice (shapeT P T2) = true ∨ shapeT P T2 = .str) (hok : okT P e = true)
    (hl : (Builtin.lenOf v).run P w = .ok m w) (hf1 : (Builtin.firstCells (P.cellsOf e) m v).run P w.drew = .ok new w.drew)
    (ho : (Builtin.firstCells (P.cellsOf e) n (.slice a n cap)).run P w.drew = .ok old w.drew) (hz : ∀ w, (zeroValue e).run P w = .ok z w) (hroom : roomOK P e (n + m) = true) (hbig : cap < n + m) :
    ∃ newCap, n + m ≤ newCap ∧ (Builtin.append_ #[T, T2] ty #[.slice a n cap, v]).run P w =
      .ok (.slice (some ⟨w.heap.size, 0, none⟩) (n + m) newCap) (w.drew.alloc (.cells (old ++ new ++ Builtin.zeroCells z.cells (newCap - (n + m))) e)) := by
  have hs := run_sizeT (P := P) (okT_spec hok).1
  obtain ⟨i, hi⟩ := info_of_shape (okT_spec hok).1
  have hb := bytes_info hi
  simp only [roomOK, Bool.and_eq_true, decide_eq_true_eq] at hroom
  obtain ⟨⟨r1, r2⟩, _⟩ := hroom
  have hnc := nextcap_le hbig
  have hprod : Builtin.nextslicecap (n + m) cap * i.bytes ≤ 2 ^ 48 := by
    have : Builtin.nextslicecap (n + m) cap * i.bytes ≤ 8589935616 * 16384 := Nat.mul_le_mul (by omega) (by omega)
    omega
  have h0 : i.bytes ≠ 0 ∨ (n : Int) + (m : Int) ≤ 9223372036854775807 := by right; omega
  refine ⟨(Question.appendCap (n + m) cap e).cut (w.tape w.drawn (.appendCap (n + m) cap e)), cap_cut, ?_⟩
  have hle : ¬ n + m ≤ cap := by omega
  have hneg : ¬ (9223372036854775807 : Int) < (n : Int) + (m : Int) := by omega
  have hnp : ¬ (281474976710656 < Builtin.nextslicecap (n + m) cap * i.bytes) := by
    have : (2 : Nat) ^ 48 = 281474976710656 := by decide
    omega
  rcases hT2 with h | h
  · obtain ⟨e2, h⟩ := isSlice_spec h
    simp [Builtin.append_, run_underlying (und_slice hT), run_underlying (und_slice h), hs, hl, hle, typeInfo, hi, Question.forced, ho, hf1, hz, newRow, hneg, hnp]
  · simp [Builtin.append_, run_underlying (und_slice hT), run_underlying (und_str h), hs, hl, hle, typeInfo, hi, Question.forced, ho, hf1, hz, newRow, hneg, hnp]
end
end Go.Abs
