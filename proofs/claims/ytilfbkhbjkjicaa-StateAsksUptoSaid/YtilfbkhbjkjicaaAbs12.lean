/- Abs12: a part of the proofs about the tuple space and its bytes. -/
import Derived.Test.YtilfbkhbjkjicaaAbs8
import Derived.Laws.BytesString
import Derived.Lib.ConvBytes
import Derived.Lib.SliceRun
import Derived.OrdersIn
import Derived.RangeFuncLeaves
import Derived.TacticsIn
set_option linter.all false
namespace Go.Abs
open Go
section
variable {P : Program}
theorem repE_append {c : Cx} {T : TypeId} : ∀ {xs ys : List AV} {cs : List Value}, qa0 P c (xs ++ ys) T cs ↔ qa0 P c xs T cs ∧ qa0 P c ys T (cs.drop (xs.length * P.cellsOf T))
  | [], ys, cs => by simp [qa0]
  | x :: xs, ys, cs => by
    simp only [List.cons_append, qa0, List.length_cons, repE_append (xs := xs), List.drop_drop, and_assoc]
    rw [show (xs.length + 1) * P.cellsOf T = P.cellsOf T + xs.length * P.cellsOf T by rw [Nat.add_mul]; omega]
theorem qaw {c : Cx} {T : TypeId} {es : List AV} {cs cs' : List Value} (h : ∀ j, j < es.length * P.cellsOf T → cs[j]? = cs'[j]?) (hr : qa0 P c es T cs) : qa0 P c es T cs' := by
  refine repE_iff.2 fun i v hi => ?_
  obtain ⟨h1, h2⟩ := qa7 hr hi
  refine ⟨h1, ?_⟩
  have hlt := (List.getElem?_eq_some_iff.1 hi).1
  have hmul : (i + 1) * P.cellsOf T ≤ es.length * P.cellsOf T := Nat.mul_le_mul_right _ hlt
  rw [Nat.add_mul] at hmul
  have : (cs.drop (i * P.cellsOf T)).take (P.cellsOf T) = (cs'.drop (i * P.cellsOf T)).take (P.cellsOf T) := by
    apply List.ext_getElem?
    intro j
    simp only [List.getElem?_take, List.getElem?_drop]
    split
    · exact h _ (by omega)
    · rfl
  rw [← this]
  exact h2
def Src (P : Program) (c : Cx) (size : Nat) (v : Value) (e : TypeId) (ys : List AV) : Prop :=
  (Builtin.lenOf v).run P c.w = .ok ys.length c.w ∧ ∃ new : Array Value, (Builtin.firstCells size ys.length v).run P c.w = .ok new c.w ∧ new.size = ys.length * size ∧ qa0 P c ys e new.toList ∧ ∀ x ∈ new.toList, x.oneCell' = true
theorem repE_one (hP : WF P) {c : Cx} {T : TypeId} {es : List AV} {cs : List Value} (hr : qa0 P c es T cs) (hl : cs.length = es.length * P.cellsOf T) (h0 : P.cellsOf T ≠ 0) : ∀ x ∈ cs, x.oneCell' = true := by
  intro x hx
  obtain ⟨j, hj, rfl⟩ := List.mem_iff_getElem.1 hx
  have hd : j / P.cellsOf T < es.length := Nat.div_lt_of_lt_mul (by rw [Nat.mul_comm]; omega)
  refine rep_oneE hP c es T cs hr (j / P.cellsOf T) _ (List.getElem?_eq_getElem hd) _ ?_
  refine List.mem_of_getElem? (i := j % P.cellsOf T) ?_
  rw [List.getElem?_take, if_pos (Nat.mod_lt _ (by omega)), List.getElem?_drop]
  rw [show j / P.cellsOf T * P.cellsOf T + j % P.cellsOf T = j by rw [Nat.mul_comm]; exact Nat.div_add_mod _ _]
  exact List.getElem?_eq_getElem hj
theorem src_row (hP : WF P) {c : Cx} {e : TypeId} {ys : List AV} {b off cap : Nat} {C : Array Value} {Te : TypeId} {m : Nat × Nat} (hok : okT P e = true) (hb : c.w.heap[b]? = some (.cells C Te m)) (hE : qa0 P c ys e (C.toList.drop off))
    (hl : off + ys.length * P.cellsOf e ≤ C.size) : Src P c (P.cellsOf e) (.slice (some ⟨b, off, none⟩) ys.length cap) e ys := by
  have hlen : ((C.toList.drop off).take (ys.length * P.cellsOf e)).length = ys.length * P.cellsOf e := by simp; omega
  have hE2 : qa0 P c ys e ((C.toList.drop off).take (ys.length * P.cellsOf e)) := qaw (fun j hj => by rw [List.getElem?_take, if_pos hj]) hE
  refine ⟨rfl, ((C.toList.drop off).take (ys.length * P.cellsOf e)).toArray, ?_, by simpa using hlen, by simpa using hE2, ?_⟩
  · simp only [Builtin.firstCells]
    exact qbl hb hl
  · simpa using repE_one hP hE2 hlen (yai hok).2
theorem repE_len (hP : WF P) {c : Cx} {T : TypeId} {es : List AV} {cs : List Value} (hr : qa0 P c es T cs) (h0 : P.cellsOf T ≠ 0) : es.length * P.cellsOf T ≤ cs.length := by
  rcases Nat.eq_zero_or_pos es.length with h | h
  · rw [h]; omega
  · have hlast : es[es.length - 1]? = some (es.getD (es.length - 1) .junk) := getD_getElem? (by omega)
    obtain ⟨h1, h2⟩ := qa7 hr hlast
    have := yao hP h1 h2
    simp only [List.length_take, List.length_drop] at this
    have : (es.length - 1) * P.cellsOf T + P.cellsOf T = es.length * P.cellsOf T := by
      rw [← Nat.succ_mul]; congr 1; omega
    omega
theorem src_list (hP : WF P) {c : Cx} {e : TypeId} {ys : List AV} {v : Value} (hok : okT P e = true) (hv : VV P c (.list e ys) v) : Src P c (P.cellsOf e) v e ys := by
  obtain ⟨a, cap, rfl, hcap, hne⟩ := zda hv
  by_cases hy : ys = []
  · subst hy
    refine ⟨rfl, #[], ?_, by simp, by simp [qa0], by simp⟩
    cases a with
    | none => rfl
    | some a => simp [Builtin.firstCells, loadCells, loadCellsFrom]
  · obtain ⟨b, off, C, Te, m, rfl, hb, hO, hE⟩ := hne hy
    have := repE_len hP hE (yai hok).2
    simp only [List.length_drop, Array.length_toList] at this
    have h0 : 0 < ys.length * P.cellsOf e := Nat.mul_pos (List.length_pos_iff.2 hy) (by have := (yai hok).2; omega)
    exact src_row hP hok hb hE (by omega)
theorem src_nil (hP : WF P) {c : Cx} {e : TypeId} {v : Value} (hv : VV P c .nils v) : Src P c (P.cellsOf e) v e [] := by
  obtain rfl := zb3 hv
  exact ⟨rfl, #[], rfl, by simp, by simp [qa0], by simp⟩
theorem src_str (hP : WF P) {c : Cx} {e : TypeId} {b : ByteArray} {v : Value} (he : zab P e = .int .u8) (hv : VV P c (.str b) v) : Src P c (P.cellsOf e) v e (u8s b) := by
  obtain rfl := qc5 hv
  have h1 := hP.scalar (T := e) (by rw [he]; rfl)
  have hl : (u8s b).length = b.size := by simp [u8s]
  refine ⟨by rw [hl]; rfl, ((b.extract 0 b.size).data.map fun x => .int .u8 x.toNat), by rw [hl]; rfl, ?_, ?_, ?_⟩
  · rw [hl, h1]; simp
  · have hex : b.extract 0 b.size = b := by simp
    rw [hex]
    refine repE_iff.2 fun i v hi => ?_
    simp only [u8s, List.getElem?_map, Option.map_eq_some_iff] at hi
    obtain ⟨x, hx, rfl⟩ := hi
    refine ⟨by simp only [yaz]; exact he, ?_⟩
    simp only [Rep, h1, Nat.mul_one, Array.toList_map]
    rw [List.take_one, List.head?_drop]
    simp [hx]
  · simp only [Array.toList_map, List.mem_map]
    rintro x ⟨y, _, rfl⟩
    rfl
theorem pathless {p : List Nat} (h : yco p = true) : p = [] := by cases p <;> simp_all [yco]
theorem zb9 (hP : WF P) {c : Cx} (hr : HR P c) {k : Nat} {p : List Nat} {e : TypeId} {fr n lo : Nat} {v : Value} {en : Entry} {ys : List AV} (hv : VV P c (.win k p e fr n lo) v) (hk : c.h[k]? = some en) (hl : Live en)
    (hg : qaq en.es p fr n = some ys) : ys.length = n ∧ (n ≠ 0 → ∃ b off C m cap, v = .slice (some ⟨b, off + fr * P.cellsOf e, none⟩) n cap ∧ c.κ k = some b ∧ c.w.heap[b]? = some (.cells C en.T m) ∧ zby P en.T p = some (e, off) ∧
      off + (fr + n) * P.cellsOf e ≤ C.size ∧ (en.st = .own → mOK C m) ∧ (en.st = .fz → ¬ c.O b) ∧ qa0 P c ys e (C.toList.drop (off + fr * P.cellsOf e))) := by
  have hlen : ys.length = n := by
    unfold qaq at hg
    split at hg
    · split at hg
      · simp only [Option.some.injEq] at hg; subst hg; simp; omega
      · cases hg
    · split at hg
      · split at hg
        · simp only [Option.some.injEq] at hg; subst hg; simp; omega
        · cases hg
      · cases hg
  refine ⟨hlen, fun hn0 => ?_⟩
  obtain ⟨en', cap, a, hk', hne, rfl, hlo, hn, hpe, hc⟩ := yby hv
  rw [hk] at hk'
  cases hk'
  obtain ⟨b, off, C, m, hkb, hw, hb, hm, rfl, hbd, hlim⟩ := hc (by omega)
  obtain ⟨C', m', hb', hm', hf', hle, hes⟩ := hr.block hk hl hkb
  rw [hb] at hb'
  cases hb'
  have hmul : (fr + n) * P.cellsOf e ≤ (fr + cap) * P.cellsOf e := Nat.mul_le_mul_right _ (by omega)
  refine ⟨b, off, C, m, cap, rfl, hkb, hb, hw, by omega, hm, hf', ?_⟩
  cases p with
  | nil =>
    simp only [zby, Option.some.injEq, Prod.mk.injEq] at hw
    obtain ⟨rfl, rfl⟩ := hw
    simp only [qaq] at hg
    split at hg
    · simp only [Option.some.injEq] at hg
      subst hg
      have := zbu fr (fr + n) hes
      rw [List.drop_take, Nat.add_sub_cancel_left] at this
      simpa using this
    · cases hg
  | cons i q =>
    simp only [qaq] at hg
    cases hge : getE en.es (i :: q) with
    | none => simp [hge] at hg
    | some u =>
      rw [hge] at hg
      cases u <;> simp only [reduceCtorEq] at hg
      rename_i A vs
      split at hg
      · simp only [Option.some.injEq] at hg
        subst hg
        simp only [zby] at hw
        cases hpt : za9 P en.T q with
        | none => simp [hpt] at hw
        | some x =>
          obtain ⟨A', o⟩ := x
          simp only [hpt] at hw
          cases hs : zab P A' <;> simp [hs] at hw
          rename_i sz e'
          obtain ⟨rfl, rfl⟩ := hw
          have hro : qbc P en.T (i :: q) = some (A', i * P.cellsOf en.T + o) := by simp [qbc, hpt]
          obtain ⟨t1, t2, t3⟩ := getE_rep hP hes hro hge
          simp only [yaz] at t1
          subst t1
          simp only [Rep, hs] at t2
          have h3 := zbu fr (fr + n) t2.2.2
          rw [List.drop_take, Nat.add_sub_cancel_left] at h3
          refine qaw (fun j hj => ?_) h3
          simp only [List.getElem?_drop, List.getElem?_take]
          have harr := hP.arr hs
          have hvl := t2.2.1
          have hbnd : (fr + n) * P.cellsOf e' ≤ sz * P.cellsOf e' := Nat.mul_le_mul_right _ (by omega)
          have hjb : j < n * P.cellsOf e' := by
            have : (List.take n (List.drop fr vs)).length ≤ n := by simp; omega
            exact Nat.lt_of_lt_of_le hj (Nat.mul_le_mul_right _ this)
          rw [Nat.add_mul] at hbnd
          rw [if_pos (by omega)]
          congr 1
          omega
      · cases hg
theorem src_win (hP : WF P) {c : Cx} (hr : HR P c) {k : Nat} {p : List Nat} {e : TypeId} {fr n lo : Nat} {v : Value} {en : Entry} {ys : List AV} (hok : okT P e = true) (hv : VV P c (.win k p e fr n lo) v) (hk : c.h[k]? = some en) (hl : Live en)
    (hg : qaq en.es p fr n = some ys) : Src P c (P.cellsOf e) v e ys := by
  obtain ⟨hlen, hread⟩ := zb9 hP hr hv hk hl hg
  by_cases hn : n = 0
  · subst hn
    have hy : ys = [] := List.eq_nil_of_length_eq_zero hlen
    subst hy
    obtain ⟨_, cap, a, _, _, rfl, _⟩ := yby hv
    refine ⟨rfl, #[], ?_, by simp, by simp [qa0], by simp⟩
    cases a with
    | none => rfl
    | some a => simp [Builtin.firstCells, loadCells, loadCellsFrom]
  · obtain ⟨b, off, C, m, cap, rfl, _, hb, _, hbd, _, _, hE⟩ := hread hn
    rw [Nat.add_mul] at hbd
    have := src_row hP (cap := cap) hok hb hE (by rw [hlen]; omega)
    rwa [hlen] at this
theorem growBy_le (need : Nat) : ∀ (r c : Nat), c ≤ 2 * need + 1024 → Builtin.growBy need r c ≤ 2 * need + 1024
  | 0, c, h => by simpa [Builtin.growBy] using h
  | r + 1, c, h => by
    simp only [Builtin.growBy]
    split
    · exact h
    · exact growBy_le need r _ (by omega)
theorem nextcap_le {need cap : Nat} (h : cap < need) : Builtin.nextslicecap need cap ≤ 2 * need + 1024 := by
  unfold Builtin.nextslicecap
  split
  · omega
  · split
    · omega
    · exact growBy_le need 4 cap (by omega)
theorem cap_cut {w : World} {need cap : Nat} {e : TypeId} : need ≤ (Question.appendCap need cap e).cut (w.tape w.drawn (.appendCap need cap e)) := by
  simp only [Question.cut]
  omega
theorem qbe (z : Array Value) (n : Nat) : (Builtin.zeroCells z n).size = n * z.size := by simp [Builtin.zeroCells]
theorem zb4 {w w' : World} {T T2 ty e : TypeId} {a : Option Addr} {n cap m : Nat} {v : Value} {new : Array Value} (hT : zab P T = .slice e) (hT2 : qay (zab P T2) = true ∨ zab P T2 = .str) (hok : okT P e = true)
    (hl : (Builtin.lenOf v).run P w = .ok m w) (hf : (Builtin.firstCells (P.cellsOf e) m v).run P w = .ok new w) (hfit : n + m ≤ cap)
    (hst : ∀ x, a = some x → (storeCells (x.add (n * P.cellsOf e)) new.toList).run P w = .ok () w') (hnone : a = none → w' = w) :
    (Builtin.append_ #[T, T2] ty #[.slice a n cap, v]).run P w = .ok (.slice a (n + m) cap) w' := by
  have hs := qak (P := P) (yai hok).1 w
  rcases hT2 with h | h
  · obtain ⟨e2, h⟩ := qa6 h
    cases a with
    | none =>
      have := hnone rfl
      subst this
      simp [Builtin.append_, run_underlying (qah hT), run_underlying (qah h), hs, hl, hfit, hf]
    | some x =>
      simp [Builtin.append_, run_underlying (qah hT), run_underlying (qah h), hs, hl, hfit, hf, hst x rfl]
  · cases a with
    | none =>
      have := hnone rfl
      subst this
      simp [Builtin.append_, run_underlying (qah hT), run_underlying (yba h), hs, hl, hfit, hf]
    | some x =>
      simp [Builtin.append_, run_underlying (qah hT), run_underlying (yba h), hs, hl, hfit, hf, hst x rfl]
theorem bytes_info {e : TypeId} {i : TypeInfo} (hi : P.info? e = some i) : i.bytes = P.bytesOf e := by simp [Program.bytesOf, hi]
theorem ycn {w : World} {T T2 ty e : TypeId} {a : Option Addr} {n cap m : Nat} {v z : Value} {old new : Array Value} (hT : zab P T = .slice e) (hT2 : qay (zab P T2) = true ∨ zab P T2 = .str) (hok : okT P e = true)
    (hl : (Builtin.lenOf v).run P w = .ok m w) (hf1 : (Builtin.firstCells (P.cellsOf e) m v).run P w.drew = .ok new w.drew)
    (ho : (Builtin.firstCells (P.cellsOf e) n (.slice a n cap)).run P w.drew = .ok old w.drew) (hz : ∀ w, (zeroValue e).run P w = .ok z w) (hroom : yam P e (n + m) = true) (hbig : cap < n + m) :
    ∃ newCap, n + m ≤ newCap ∧ (Builtin.append_ #[T, T2] ty #[.slice a n cap, v]).run P w =
      .ok (.slice (some ⟨w.heap.size, 0, none⟩) (n + m) newCap) (w.drew.alloc (.cells (old ++ new ++ Builtin.zeroCells z.cells (newCap - (n + m))) e)) := by
  have hs := qak (P := P) (yai hok).1
  obtain ⟨i, hi⟩ := zbi (yai hok).1
  have hb := bytes_info hi
  simp only [yam, Bool.and_eq_true, decide_eq_true_eq] at hroom
  obtain ⟨⟨r1, r2⟩, _⟩ := hroom
  have hnc := nextcap_le hbig
  have hprod : Builtin.nextslicecap (n + m) cap * i.bytes ≤ 2 ^ 48 := by
    have : Builtin.nextslicecap (n + m) cap * i.bytes ≤ 8589935616 * 16384 := Nat.mul_le_mul (by omega) (by omega)
    omega
  have h0 : i.bytes ≠ 0 ∨ (n : Int) + (m : Int) ≤ 9223372036854775807 := by right; omega
  refine ⟨(Question.appendCap (n + m) cap e).cut (w.tape w.drawn (.appendCap (n + m) cap e)), cap_cut, ?_⟩
  have hle : ¬ n + m ≤ cap := by omega
  have hneg : ¬ (9223372036854775807 : Int) < (n : Int) + (m : Int) := by omega
  have hnp : ¬ (281474976710656 < Builtin.nextslicecap (n + m) cap * i.bytes) := by
    have : (2 : Nat) ^ 48 = 281474976710656 := by decide
    omega
  rcases hT2 with h | h
  · obtain ⟨e2, h⟩ := qa6 h
    simp [Builtin.append_, run_underlying (qah hT), run_underlying (qah h), hs, hl, hle, typeInfo, hi, Question.forced, ho, hf1, hz, newRow, hneg, hnp]
  · simp [Builtin.append_, run_underlying (qah hT), run_underlying (yba h), hs, hl, hle, typeInfo, hi, Question.forced, ho, hf1, hz, newRow, hneg, hnp]
theorem run_appendN {w : World} {T T2 ty e : TypeId} {k ki : IntKind} {n : Nat} {z : Value} (hT : zab P T = .slice e) (hT2 : zab P T2 = .int k) (hok : okT P e = true) (hz : ∀ w, (zeroValue e).run P w = .ok z w) (hroom : yam P e n = true) (hn : n ≠ 0) :
    ∃ newCap, n ≤ newCap ∧ (Builtin.append_ #[T, T2] ty #[.slice none 0 0, .int ki n]).run P w =
      .ok (.slice (some ⟨w.heap.size, 0, none⟩) n newCap) (w.drew.alloc (.cells (#[] ++ Builtin.zeroCells z.cells n ++ Builtin.zeroCells z.cells (newCap - n)) e)) := by
  have hs := qak (P := P) (yai hok).1
  have hs0 := (yai hok).2
  obtain ⟨i, hi⟩ := zbi (yai hok).1
  have hb := bytes_info hi
  simp only [yam, Bool.and_eq_true, decide_eq_true_eq] at hroom
  obtain ⟨⟨r1, r2⟩, _⟩ := hroom
  have hnc := nextcap_le (need := n) (cap := 0) (by omega)
  have hprod : Builtin.nextslicecap n 0 * i.bytes ≤ 2 ^ 48 := by
    have : Builtin.nextslicecap n 0 * i.bytes ≤ 8589935616 * 16384 := Nat.mul_le_mul (by omega) (by omega)
    omega
  refine ⟨(Question.appendCap n 0 e).cut (w.tape w.drawn (.appendCap n 0 e)), cap_cut, ?_⟩
  have hw : IntKind.i64.wrap (n : Int) = n := by simp [IntKind.wrap, IntKind.bits, IntKind.signed]; omega
  have hneg : ¬ (9223372036854775807 : Int) < (n : Int) := by omega
  have hnp : ¬ (281474976710656 < Builtin.nextslicecap n 0 * i.bytes) := by
    have : (2 : Nat) ^ 48 = 281474976710656 := by decide
    omega
  have hnb : ¬ ((281474976710656 : Int) < (n : Int) * (i.bytes : Int)) := by
    have : n * i.bytes ≤ 4294967296 * 16384 := Nat.mul_le_mul (by omega) (by omega)
    have h2 : ((n * i.bytes : Nat) : Int) ≤ 4294967296 * 16384 := by omega
    push_cast at h2
    omega
  have hnn : ¬ ((n : Int) < 0) := by omega
  have hne : ¬ (n * P.cellsOf e = 0) := by
    intro h
    rcases Nat.mul_eq_zero.1 h with h | h
    · exact hn h
    · exact hs0 h
  simp [Builtin.append_, Builtin.firstCells, run_underlying (qah hT), run_underlying (qbs hT2), hs, asInt, asIntOf, hw, hnn, hnb, hn, hne, hs0, typeInfo, hi, Question.forced, hz, newRow, hneg, hnp]
theorem run_appendN0 {w : World} {T T2 ty e : TypeId} {k ki : IntKind} (hT : zab P T = .slice e) (hT2 : zab P T2 = .int k) (hok : okT P e = true) :
    (Builtin.append_ #[T, T2] ty #[.slice none 0 0, .int ki 0]).run P w = .ok (.slice none 0 0) w := by
  have hs := qak (P := P) (yai hok).1
  obtain ⟨i, hi⟩ := zbi (yai hok).1
  have hw : IntKind.i64.wrap (0 : Int) = 0 := by decide
  simp [Builtin.append_, run_underlying (qah hT), run_underlying (qbs hT2), hs, asInt, asIntOf, hw, typeInfo, hi]
end
end Go.Abs
set_option linter.all false
namespace Go.Abs
open Go
section
variable {P : Program}
def zbr (c : Cx) : Cx := { c with w := c.w.drew }
theorem ycy (c : Cx) : Ext c (zbr c) := ext_drew (c := c) 1
theorem hr_drew1 {c : Cx} (h : HR P c) : HR P (zbr c) := hr_drew h 1
def qbb (c : Cx) (k s b : Nat) (d : Entry) (e : TypeId) (es : List AV) (C : Array Value) (m : Nat × Nat) : Cx :=
  { κ := fun j => if j = s then some b else c.κ j, h := (c.h.set k d).set s ⟨e, es, .own⟩, w := ya0 c.w b (.cells C e m) }
theorem O_adopt {c : Cx} {k s b : Nat} {d en e0 : Entry} {e : TypeId} {es : List AV} {C : Array Value} {m0 : Nat × Nat} (hk : c.h[k]? = some en) (ho : en.st = .own) (hd : d.st = .dead) (hb : c.κ k = some b)
    (hs : c.h[s]? = some e0) (h0 : e0.st = .hole) {b' : Nat} : (qbb c k s b d e es C m0).O b' ↔ c.O b' := by
  have hks : k ≠ s := by rintro rfl; rw [hk] at hs; cases hs; rw [ho] at h0; cases h0
  have hkl := (List.getElem?_eq_some_iff.1 hk).1
  have hsl := (List.getElem?_eq_some_iff.1 hs).1
  constructor
  · rintro ⟨j, x, hx, hst, hj⟩
    rcases qav hx with ⟨rfl, rfl, _⟩ | ⟨hne, hx⟩
    · simp only [qbb, if_true, Option.some.injEq] at hj
      subst hj
      exact ⟨k, en, hk, ho, hb⟩
    · rcases qav hx with ⟨rfl, rfl, _⟩ | ⟨hne2, hx⟩
      · rw [hd] at hst; cases hst
      · simp only [qbb, hne, if_false] at hj
        exact ⟨j, x, hx, hst, hj⟩
  · rintro ⟨j, x, hx, hst, hj⟩
    by_cases hjk : j = k
    · subst hjk
      rw [hb] at hj
      cases hj
      exact ⟨s, ⟨e, es, .own⟩, by simp only [qbb]; rw [List.getElem?_set_self (by simpa using hsl)], rfl, by simp [qbb]⟩
    · have hjs : j ≠ s := by rintro rfl; rw [hs] at hx; cases hx; rw [h0] at hst; cases hst
      exact ⟨j, x, by simp only [qbb]; rw [List.getElem?_set_ne (by omega), List.getElem?_set_ne (by omega)]; exact hx, hst, by simpa [qbb, hjs] using hj⟩
theorem ext_adopt {c : Cx} {k s b : Nat} {d en e0 : Entry} {es : List AV} {C C0 : Array Value} {m0 : Nat × Nat} (hk : c.h[k]? = some en) (ho : en.st = .own) (hd : d.st = .dead) (hdT : d.T = en.T) (hb : c.κ k = some b)
    (hs : c.h[s]? = some e0) (h0 : e0.st = .hole) (hc : c.w.heap[b]? = some (.cells C0 en.T m0)) (hsz : C.size = C0.size) : Ext c (qbb c k s b d en.T es C m0) where
  os := rfl
  tape := rfl
  output := rfl
  size := by simp [qbb, ya0]
  frozen b' hb' hO := yan (by rintro rfl; exact hO ⟨k, en, hk, ho, hb⟩)
  shape b' C1 T m h := by
    by_cases hbb : b' = b
    · subst hbb
      rw [hc] at h
      cases h
      exact ⟨C, m0, zbb (qag hc), hsz, fun h => h.size hsz⟩
    · exact ⟨C1, m, (yan hbb).trans h, rfl, id⟩
  own b' hb' h := (O_adopt hk ho hd hb hs h0).1 h
  names j x hx hn := by
    have hjs : j ≠ s := by rintro rfl; rw [hs] at hx; cases hx; exact hn h0
    refine ⟨by simp [qbb, hjs], ?_⟩
    by_cases hjk : j = k
    · subst hjk
      rw [hk] at hx
      cases hx
      exact ⟨d, by simp only [qbb]; rw [List.getElem?_set_ne (by omega), List.getElem?_set_self (List.getElem?_eq_some_iff.1 hk).1], hdT, by rw [hd]; simp, by rw [hd]; simp⟩
    · exact ⟨x, by simp only [qbb]; rw [List.getElem?_set_ne (by omega), List.getElem?_set_ne (by omega)]; exact hx, rfl, hn, id⟩
theorem hr_adopt {c : Cx} (hr : HR P c) {k s b : Nat} {d en e0 : Entry} {es : List AV} {C C0 : Array Value} {m0 : Nat × Nat} (hk : c.h[k]? = some en) (ho : en.st = .own) (hd : d.st = .dead) (hdT : d.T = en.T) (hb : c.κ k = some b)
    (hs : c.h[s]? = some e0) (h0 : e0.st = .hole) (hc : c.w.heap[b]? = some (.cells C0 en.T m0)) (hsz : C.size = C0.size) (hm0 : mOK C0 m0) (hl : es.length * P.cellsOf en.T ≤ C.size) (hes : qa0 P c es en.T C.toList) :
    HR P (qbb c k s b d en.T es C m0) where
  blk j x hx hlv := by
    have xx := ext_adopt (es := es) (C := C) hk ho hd hdT hb hs h0 hc hsz
    rcases qav hx with ⟨rfl, rfl, _⟩ | ⟨hne, hx⟩
    · exact .inr ⟨b, C, m0, by simp [qbb], zbb (qag hc), fun _ => hm0.size hsz, fun h => (by cases h), hl, ybc xx _ _ _ hes⟩
    · rcases qav hx with ⟨rfl, rfl, _⟩ | ⟨hne2, hx⟩
      · rcases hlv with h | h <;> rw [hd] at h <;> cases h
      · have hbk := hr.blk j x hx hlv
        have hx2 := hx
        have hne3 : ∀ b', c.κ j = some b' → b' ≠ b := by
          intro b' hbj hbb
          rcases hlv with hown | hfz
          · exact hne2 (hr.apart j k x en b' hx2 hk hown ho hbj (hbb ▸ hb))
          · exact hbk.fz hbj hfz ⟨k, en, hk, ho, hbb ▸ hb⟩
        exact hbk.keep xx (by simp [qbb, hne]) (fun b' hbj => yan (hne3 b' hbj)) fun b' hbj hf hO => hbk.fz hbj hf ((O_adopt hk ho hd hb hs h0).1 hO)
  apart j j' x x' b' hx hx' hst hst' hj hj' := by
    have key : ∀ j x b', (qbb c k s b d en.T es C m0).h[j]? = some x → x.st = .own → (qbb c k s b d en.T es C m0).κ j = some b' → ∃ i y, c.h[i]? = some y ∧ y.st = .own ∧ c.κ i = some b' ∧ ((j = s ∧ i = k) ∨ (j ≠ s ∧ j ≠ k ∧ i = j)) := by
      intro j x b' hx hst hj
      rcases qav hx with ⟨rfl, rfl, _⟩ | ⟨hne, hx⟩
      · simp only [qbb, if_true, Option.some.injEq] at hj
        subst hj
        exact ⟨k, en, hk, ho, hb, .inl ⟨rfl, rfl⟩⟩
      · rcases qav hx with ⟨rfl, rfl, _⟩ | ⟨hne2, hx⟩
        · rw [hd] at hst; cases hst
        · simp only [qbb, hne, if_false] at hj
          exact ⟨j, x, hx, hst, hj, .inr ⟨hne, hne2, rfl⟩⟩
    obtain ⟨i, y, a1, a2, a3, a4⟩ := key j x b' hx hst hj
    obtain ⟨i', y', b1, b2, b3, b4⟩ := key j' x' b' hx' hst' hj'
    have := hr.apart i i' y y' b' a1 b1 a2 b2 a3 b3
    omega
theorem ybu (hP : WF P) {c : Cx} (hr : HR P c) {s : Nat} {e0 : Entry} (hs : c.h[s]? = some e0) (h0 : e0.st = .hole) {T T2 ty e : TypeId} {x r : AV} {ys : List AV} {wr : List (Nat × Entry)} {v u : Value}
    (hT : zab P T = .slice e) (hT2 : qay (zab P T2) = true ∨ zab P T2 = .str) (hroom : yam P e (lenAV x + ys.length) = true) (hv : VV P c x v) (hsrc : Src P c (P.cellsOf e) u e ys) (hsrc2 : Src P (zbr c) (P.cellsOf e) u e ys)
    (h : (zap e ys s x).run c.h = some (r, wr)) : ∃ z w', (Builtin.append_ #[T, T2] ty #[v, u]).run P c.w = .ok z w' ∧ Done P c r wr z w' := by
  have hr1 := hr_drew1 hr
  have hz : zOK P e = true := by
    simp only [yam, Bool.and_eq_true] at hroom
    exact hroom.2
  have hzs : ∃ z, ∀ w, (zeroValue e).run P w = .ok z w := by
    obtain ⟨z, hz1, _⟩ := zbn hP c hz c.w
    unfold zOK at hz
    simp only [Bool.and_eq_true] at hz
    obtain ⟨_, h2⟩ := hz
    split at h2
    · rename_i i hi
      split at h2
      · rename_i z' hz'
        exact ⟨z', fun w => by simp [zeroValue, typeInfo, hi, hz']⟩
      · cases h2
    · cases h2
  obtain ⟨zv, hzv⟩ := hzs
  obtain ⟨z1, hz1, hz2, hz3, hok⟩ := zbn hP c hz c.w
  have hzc : zv.cells.size = P.cellsOf e := by
    rw [hzv] at hz1
    cases hz1
    have := yao hP hz3 (zbf hz3 hz2)
    simpa using this
  obtain ⟨hl1, new1, hn1, hs1, hE1, ho1⟩ := hsrc
  obtain ⟨hl2, new2, hn2, hs2, hE2, ho2⟩ := hsrc2
  cases x <;> simp only [zap] at h <;> try exact (yae h).elim
  case nils =>
    obtain ⟨rfl, rfl⟩ := yaf h
    obtain rfl := zb3 hv
    by_cases hm : ys.length = 0
    · have hy : ys = [] := List.eq_nil_of_length_eq_zero hm
      subst hy
      refine ⟨.slice none 0 0, c.w, ?_, _, hr_ghost hr hs h0, ext_ghost (T := e) hs h0, ?_⟩
      · have := zb4 (P := P) (w := c.w) (w' := c.w) (ty := ty) (a := none) (n := 0) (cap := 0) hT hT2 hok hl1 hn1 (by simp) (by simp) (fun _ => rfl)
        simpa using this
      · exact qbp (e := ⟨e, [], .own⟩) (zdl hs _) (by simp) (Nat.le_refl _) (Nat.le_refl _) (fun _ => rfl) (fun h => absurd rfl h)
    · simp only [lenAV, Nat.zero_add] at hroom
      obtain ⟨nc, hnc, hrun⟩ := ycn (P := P) (w := c.w) (ty := ty) (a := none) (n := 0) (cap := 0) (old := #[]) hT hT2 hok hl1 hn2 rfl hzv (by simpa using hroom) (by omega)
      simp only [Nat.zero_add] at hrun hnc
      have hC : (#[] ++ new2 ++ Builtin.zeroCells zv.cells (nc - ys.length)).size = nc * P.cellsOf e := by
        have : ys.length * P.cellsOf e + (nc - ys.length) * P.cellsOf e = nc * P.cellsOf e := by rw [← Nat.add_mul]; congr 1; omega
        simp only [Array.size_append, qbe, hzc, hs2, List.size_toArray, List.length_nil, Nat.zero_add]
        exact this
      have hle : ys.length * P.cellsOf e ≤ nc * P.cellsOf e := Nat.mul_le_mul_right _ (by omega)
      have hE : qa0 P (zbr c) ys e (#[] ++ new2 ++ Builtin.zeroCells zv.cells (nc - ys.length)).toList := by
        refine qaw (fun j hj => ?_) hE2
        simp only [Array.toList_append, List.nil_append]
        rw [List.getElem?_append_left (by simp [hs2]; exact hj)]
      refine ⟨_, _, hrun, _, zc3 (c := zbr c) hr1 hs h0 (by omega) hE, (ycy c).trans (zb7 (c := zbr c) hs h0), ?_⟩
      exact win_new (P := P) (c := zbr c) hs (by omega) (by omega) (by omega)
  case win k p e' fr n lo =>
    replace h := qaf h; obtain ⟨⟨rfl, hp, rfl⟩, h⟩ := h
    obtain rfl := pathless hp
    obtain ⟨en, he, h⟩ := zcs h
    replace h := qaf h; obtain ⟨⟨ho, hnl⟩, h⟩ := h
    have hwg : qaq en.es [] 0 n = some (en.es.take n) := by simp [qaq, hnl]
    have hv1 := qc9 (ycy c) hv
    obtain ⟨so1, old1, sn1, ss1, sE1, _⟩ := src_win hP hr hok hv he (.inl ho) hwg
    obtain ⟨so2, old2, sn2, ss2, sE2, _⟩ := src_win hP hr1 hok hv1 he (.inl ho) hwg
    have htl : (en.es.take n).length = n := by simp; omega
    rw [htl] at sn1 ss1 sn2 ss2
    obtain ⟨en', cap, a, he', hne, rfl, hlo, hn, hpe, hc⟩ := yby hv
    rw [he] at he'
    cases he'
    have heT : en.T = e' := hpe rfl
    subst heT
    simp only [lenAV] at hroom
    have fits : n + ys.length ≤ cap → ∀ (hcap : cap ≠ 0), ∃ b C0 m0, c.κ k = some b ∧ c.w.heap[b]? = some (.cells C0 en.T m0) ∧ mOK C0 m0 ∧ a = some ⟨b, 0, none⟩ ∧ cap * P.cellsOf en.T ≤ C0.size ∧ qa0 P c en.es en.T C0.toList ∧ en.es.length * P.cellsOf en.T ≤ C0.size ∧
        (Builtin.append_ #[T, T2] ty #[.slice a n cap, u]).run P c.w = .ok (.slice a (n + ys.length) cap) (ya0 c.w b (.cells (zav C0.toList (n * P.cellsOf en.T) new1.toList).toArray en.T m0)) := by
      intro hfit hcap
      obtain ⟨b, off, C0, m, g1, g2, g3, g4, rfl, g6, _⟩ := hc hcap
      simp only [zby, Option.some.injEq, Prod.mk.injEq, true_and] at g2
      subst g2
      obtain ⟨C1, m1, q1, _, _, q2, q3⟩ := hr.block he (.inl ho) g1
      rw [g3] at q1
      cases q1
      have hmk := g4 ho
      simp only [Nat.zero_mul, Nat.add_zero, Nat.zero_add] at g6 ⊢
      have hmul : (n + ys.length) * P.cellsOf en.T ≤ cap * P.cellsOf en.T := Nat.mul_le_mul_right _ hfit
      rw [Nat.add_mul] at hmul
      refine ⟨b, C0, m, g1, g3, hmk, rfl, g6, q3, q2, ?_⟩
      have hst := ya8 (P := P) (T := en.T) (b := b) (off := n * P.cellsOf en.T) new1.toList 0 c.w C0 m g3 hmk ho1 (by simp [hs1]; omega)
      refine zb4 hT hT2 hok hl1 hn1 hfit ?_ (by simp)
      intro x hx
      cases hx
      simp only [zbm, Nat.zero_add]
      simpa using hst
    have spliced : ∀ {C0 : Array Value}, qa0 P c en.es en.T C0.toList → n * P.cellsOf en.T + ys.length * P.cellsOf en.T ≤ C0.size →
        qa0 P c (en.es.take n ++ ys) en.T (zav C0.toList (n * P.cellsOf en.T) new1.toList) := by
      intro C0 hE hb
      have hsl : n * P.cellsOf en.T + new1.toList.length ≤ C0.toList.length := by simp [hs1]; omega
      refine repE_append.2 ⟨?_, ?_⟩
      · have := zbu 0 n hE
        simp only [List.drop_zero, Nat.zero_mul] at this
        refine qaw (fun j hj => ?_) this
        rw [htl] at hj
        rw [splice_getElem? hsl, if_pos hj]
      · rw [htl]
        refine qaw (fun j hj => ?_) hE1
        rw [List.getElem?_drop, splice_getElem? hsl, if_neg (by omega), if_pos (by simp [hs1]; omega)]
        congr 1; omega
    split at h
    · rename_i hin
      obtain ⟨rfl, rfl⟩ := yaf h
      by_cases hcap : cap = 0
      · have hy : ys = [] := List.eq_nil_of_length_eq_zero (by omega)
        have hn0 : n = 0 := by omega
        subst hy; subst hn0; subst hcap
        have hnew : new1 = #[] := Array.eq_empty_of_size_eq_zero (by simpa using hs1)
        have hrun := zb4 (P := P) (w := c.w) (w' := c.w) (ty := ty) (a := a) (n := 0) (cap := 0) hT hT2 hok hl1 hn1 (by simp) (by intro x hx; simp [hnew, storeCells]) (fun _ => rfl)
        have hself : yay c.h [(k, { en with es := en.es.take 0 ++ [] ++ en.es.drop (0 + ([] : List AV).length) })] = c.h := by
          simp only [yay, List.take_zero, List.nil_append, List.length_nil, Nat.add_zero, List.drop_zero]
          apply List.ext_getElem?
          intro j
          by_cases hj : j = k
          · subst hj; rw [List.getElem?_set_self (List.getElem?_eq_some_iff.1 he).1, he]
          · rw [List.getElem?_set_ne (by omega)]
        refine ⟨_, c.w, by simpa using hrun, c.κ, ?_, ?_, ?_⟩
        · rw [hself]; exact hr
        · rw [hself]; exact Ext.refl c
        · rw [hself]; simpa using hv
      · obtain ⟨b, C0, m0, g1, g3, hmk, rfl, g6, q3, q2, hrun⟩ := fits (by omega) hcap
        have hmul : (n + ys.length) * P.cellsOf en.T ≤ cap * P.cellsOf en.T := Nat.mul_le_mul_right _ (by omega)
        rw [Nat.add_mul] at hmul
        have hsl : n * P.cellsOf en.T + new1.toList.length ≤ C0.toList.length := by simp [hs1]; omega
        have hsz : (zav C0.toList (n * P.cellsOf en.T) new1.toList).toArray.size = C0.size := by simpa using za0 hsl
        have hE := spliced q3 (by omega)
        have hEall : qa0 P c (en.es.take n ++ ys ++ en.es.drop (n + ys.length)) en.T (zav C0.toList (n * P.cellsOf en.T) new1.toList) := by
          refine repE_append.2 ⟨hE, ?_⟩
          have h3 := zbu (n + ys.length) en.es.length q3
          rw [List.take_length] at h3
          have : (en.es.take n ++ ys).length = n + ys.length := by simp; omega
          rw [this]
          refine qaw (fun j hj => ?_) h3
          rw [List.getElem?_drop, List.getElem?_drop, splice_getElem? hsl, if_neg (by rw [Nat.add_mul]; omega), if_neg (by rw [Nat.add_mul]; simp [hs1] <;> omega)]
        have hlen : (en.es.take n ++ ys ++ en.es.drop (n + ys.length)).length * P.cellsOf en.T ≤ C0.size := by
          have e1 : (en.es.take n ++ ys ++ en.es.drop (n + ys.length)).length = max (n + ys.length) en.es.length := by simp; omega
          rw [e1]
          rcases Nat.le_total (n + ys.length) en.es.length with hh | hh
          · rw [Nat.max_eq_right hh]; exact q2
          · rw [Nat.max_eq_left hh, Nat.add_mul]; omega
        have xw := zcy (es := en.es.take n ++ ys ++ en.es.drop (n + ys.length)) (C := (zav C0.toList (n * P.cellsOf en.T) new1.toList).toArray) he ho g1 g3 hsz
        refine ⟨_, _, hrun, c.κ, hr_write hr he ho g1 g3 hsz hmk (by rw [hsz]; exact hlen) (by simpa using hEall), xw, ?_⟩
        refine qbp (e := { en with es := en.es.take n ++ ys ++ en.es.drop (n + ys.length) }) (by simp only [yay]; rw [List.getElem?_set_self (List.getElem?_eq_some_iff.1 he).1]) hne hlo (by omega) (fun _ => rfl) fun _ => ?_
        exact ⟨b, 0, (zav C0.toList (n * P.cellsOf en.T) new1.toList).toArray, m0, g1, rfl, zbb (qag g3), fun _ => hmk.size hsz, by simp, by rw [hsz]; simpa using g6, by simp [ycr]⟩
    · rename_i hin
      obtain ⟨rfl, rfl⟩ := yaf h
      by_cases hfit : n + ys.length ≤ cap
      · obtain ⟨b, C0, m0, g1, g3, hmk, rfl, g6, q3, q2, hrun⟩ := fits hfit (by omega)
        have hmul : (n + ys.length) * P.cellsOf en.T ≤ cap * P.cellsOf en.T := Nat.mul_le_mul_right _ (by omega)
        rw [Nat.add_mul] at hmul
        have hsl : n * P.cellsOf en.T + new1.toList.length ≤ C0.toList.length := by simp [hs1]; omega
        have hsz : (zav C0.toList (n * P.cellsOf en.T) new1.toList).toArray.size = C0.size := by simpa using za0 hsl
        have hE := spliced q3 (by omega)
        have hlen : (en.es.take n ++ ys).length * P.cellsOf en.T ≤ (zav C0.toList (n * P.cellsOf en.T) new1.toList).toArray.size := by
          rw [hsz, List.length_append, htl, Nat.add_mul]; omega
        refine ⟨_, _, hrun, _, hr_adopt (d := { en with es := [], st := .dead }) hr he ho rfl rfl g1 hs h0 g3 hsz hmk hlen (by simpa using hE), ext_adopt (d := { en with es := [], st := .dead }) he ho rfl rfl g1 hs h0 g3 hsz, ?_⟩
        have hsl2 := (List.getElem?_eq_some_iff.1 hs).1
        refine qbp (e := ⟨en.T, en.es.take n ++ ys, .own⟩) (by simp only [yay]; rw [List.getElem?_set_self (by simpa using hsl2)]) (by simp) (by omega) (by omega) (fun _ => rfl) fun _ => ?_
        exact ⟨b, 0, (zav C0.toList (n * P.cellsOf en.T) new1.toList).toArray, m0, by simp, rfl, zbb (qag g3), fun _ => hmk.size hsz, by simp, by rw [hsz]; simpa using g6, by simp [ycr]⟩
      · obtain ⟨nc, hnc, hrun⟩ := ycn (P := P) (w := c.w) (ty := ty) (a := a) (n := n) (cap := cap) (old := old2) hT hT2 hok hl1 hn2 sn2 hzv hroom (by omega)
        have hsz : (old2 ++ new2 ++ Builtin.zeroCells zv.cells (nc - (n + ys.length))).size = nc * P.cellsOf en.T := by
          simp only [Array.size_append, qbe, hzc, hs2, ss2, ← Nat.add_mul]
          congr 1; omega
        have hks : k ≠ s := by rintro rfl; rw [he] at hs; cases hs; rw [ho] at h0; cases h0
        have hr2 := hr_dim (e' := { en with es := [], st := .dead }) hr1 he rfl (by simp) (by simp) (by simp)
        have x2 := (ycy c).trans (ext_dim (c := zbr c) (e' := { en with es := [], st := .dead }) he rfl (by simp) (by simp))
        have hs2' : (c.h.set k { en with es := [], st := .dead })[s]? = some e0 := by rw [List.getElem?_set_ne (by omega)]; exact hs
        have x3 := ext_dim (c := zbr c) (e' := { en with es := [], st := .dead }) he rfl (by simp) (by simp)
        have hE : qa0 P (zbr c) (en.es.take n ++ ys) en.T (old2 ++ new2 ++ Builtin.zeroCells zv.cells (nc - (n + ys.length))).toList := by
          refine repE_append.2 ⟨?_, ?_⟩
          · refine qaw (fun j hj => ?_) sE2
            rw [htl] at hj
            simp only [Array.toList_append, List.append_assoc]
            rw [List.getElem?_append_left (by simp [ss2]; exact hj)]
          · rw [htl]
            refine qaw (fun j hj => ?_) hE2
            simp only [Array.toList_append, List.append_assoc, List.getElem?_drop]
            rw [List.getElem?_append_right (by simp [ss2]), List.getElem?_append_left (by simp [ss2, hs2]; omega)]
            congr 1; simp [ss2]
        have hlen : (en.es.take n ++ ys).length * P.cellsOf en.T ≤ (old2 ++ new2 ++ Builtin.zeroCells zv.cells (nc - (n + ys.length))).size := by
          rw [hsz, List.length_append, htl]
          exact Nat.mul_le_mul_right _ hnc
        refine ⟨_, _, hrun, _, zc3 (c := { zbr c with h := c.h.set k { en with es := [], st := .dead } }) hr2 hs2' h0 hlen (ybc x3 _ _ _ hE), x2.trans (zb7 hs2' h0), ?_⟩
        exact win_new (P := P) (c := { zbr c with h := c.h.set k { en with es := [], st := .dead } }) hs2' (by omega) (by omega) (by omega)
theorem append_sound (hP : WF P) {c : Cx} (hr : HR P c) {s : Nat} {e0 : Entry} (hs : c.h[s]? = some e0) (h0 : e0.st = .hole) {T T2 ty : TypeId} {x y r : AV} {wr : List (Nat × Entry)} {v u : Value}
    (hT2 : qay (zab P T2) = true ∨ zab P T2 = .str) (hv : VV P c x v) (hu : VV P c y u) (h : (stAppend P T x y s lenAV).run c.h = some (r, wr)) :
    ∃ z w', (Builtin.append_ #[T, T2] ty #[v, u]).run P c.w = .ok z w' ∧ Done P c r wr z w' := by
  unfold stAppend at h
  cases hT : zab P T <;> rw [hT] at h <;> simp only at h <;> try exact (yae h).elim
  rename_i e
  replace h := qaf h; obtain ⟨hroom, h⟩ := h
  have hok : okT P e = true := by
    simp only [yam, zOK, Bool.and_eq_true] at hroom
    exact hroom.2.1.2
  have hu1 := qc9 (ycy c) hu
  have hr1 := hr_drew1 hr
  cases y <;> simp only at h <;> try exact (yae h).elim
  case list e' es =>
    replace h := qaf h; obtain ⟨rfl, h⟩ := h
    exact ybu hP hr hs h0 hT hT2 hroom hv (src_list hP hok hu) (src_list hP hok hu1) h
  case str b =>
    replace h := qaf h; obtain ⟨hb, h⟩ := h
    exact ybu hP hr hs h0 hT hT2 (by simpa [lenAV, u8s] using hroom) hv (src_str hP hb hu) (src_str hP hb hu1) h
  case nils => exact ybu hP hr hs h0 hT hT2 hroom hv (src_nil hP hu) (src_nil hP hu1) h
  case win k p e' fr n lo =>
    replace h := qaf h; obtain ⟨rfl, h⟩ := h
    obtain ⟨en, he, h⟩ := zcs h
    replace h := qaf h; obtain ⟨hlv, h⟩ := h
    cases hg : qaq en.es p fr n with
    | none => rw [hg] at h; exact (yae h).elim
    | some ys =>
      rw [hg] at h
      have hyl := (zb9 hP hr hu he (qas hlv) hg).1
      simp only at h
      refine ybu hP hr hs h0 hT hT2 (by rw [hyl]; exact hroom) hv (src_win hP hr hok hu he (qas hlv) hg) (src_win hP hr1 hok hu1 he (qas hlv) hg) h
theorem appendN_sound (hP : WF P) {c : Cx} (hr : HR P c) {s : Nat} {e0 : Entry} (hs : c.h[s]? = some e0) (h0 : e0.st = .hole) {T T2 ty : TypeId} {k ki : IntKind} {x r : AV} {n : Int} {wr : List (Nat × Entry)} {v u : Value}
    (hT2 : zab P T2 = .int k) (hv : VV P c x v) (hu : VV P c (.int ki n) u) (h : (qdg P T x n s).run c.h = some (r, wr)) :
    ∃ z w', (Builtin.append_ #[T, T2] ty #[v, u]).run P c.w = .ok z w' ∧ Done P c r wr z w' := by
  cases x <;> simp only [qdg] at h <;> try exact (yae h).elim
  cases hT : zab P T <;> rw [hT] at h <;> simp only at h <;> try exact (yae h).elim
  rename_i e
  replace h := qaf h; obtain ⟨⟨hn0, hroom⟩, h⟩ := h
  obtain ⟨rfl, rfl⟩ := yaf h
  obtain rfl := zb3 hv
  obtain rfl := zbc hu
  obtain ⟨m, rfl⟩ : ∃ m : Nat, n = m := ⟨n.toNat, by omega⟩
  simp only [Int.toNat_natCast] at hroom ⊢
  have hok : okT P e = true := by
    simp only [yam, zOK, Bool.and_eq_true] at hroom
    exact hroom.2.1.2
  have hc0 : P.cellsOf e ≠ 0 := (yai hok).2
  by_cases hm : m = 0
  · subst hm
    simp only [List.replicate_zero]
    refine ⟨.slice none 0 0, c.w, run_appendN0 hT hT2 hok, _, hr_ghost hr hs h0, ext_ghost (T := e) hs h0, ?_⟩
    exact qbp (e := ⟨e, [], .own⟩) (zdl hs _) (by simp) (Nat.le_refl _) (Nat.le_refl _) (fun _ => rfl) (fun h => absurd rfl h)
  · have hr1 := hr_drew1 hr
    have hz : zOK P e = true := by
      simp only [yam, Bool.and_eq_true] at hroom
      exact hroom.2
    have hzs : ∃ z, ∀ w, (zeroValue e).run P w = .ok z w := by
      unfold zOK at hz
      simp only [Bool.and_eq_true] at hz
      obtain ⟨_, h2⟩ := hz
      split at h2
      · rename_i i hi
        split at h2
        · rename_i z' hz'
          exact ⟨z', fun w => by simp [zeroValue, typeInfo, hi, hz']⟩
        · cases h2
      · cases h2
    obtain ⟨zv, hzv⟩ := hzs
    obtain ⟨z1, hz1, hz2, hz3, _⟩ := zbn hP (zbr c) hz (zbr c).w
    rw [hzv] at hz1
    cases hz1
    have hzc : zv.cells.size = P.cellsOf e := by
      have := yao hP hz3 (zbf hz3 hz2)
      simpa using this
    obtain ⟨nc, hnc, hrun⟩ := run_appendN (P := P) (w := c.w) (ty := ty) (ki := ki) hT hT2 hok hzv hroom hm
    have hrow := qch hP (c := zbr c) hz3 hz2 hc0 m m (Nat.le_refl _)
    have heq : Builtin.zeroCells zv.cells m = (Array.range (m * P.cellsOf e)).map fun j => zv.cells[j % zv.cells.size]! := by rw [Builtin.zeroCells, hzc]
    rw [← heq] at hrow
    have hsz : (Builtin.zeroCells zv.cells m).size = m * P.cellsOf e := by rw [qbe, hzc]
    have hC : (#[] ++ Builtin.zeroCells zv.cells m ++ Builtin.zeroCells zv.cells (nc - m)).size = nc * P.cellsOf e := by
      have : m * P.cellsOf e + (nc - m) * P.cellsOf e = nc * P.cellsOf e := by rw [← Nat.add_mul]; congr 1; omega
      simp only [Array.size_append, qbe, hzc, List.size_toArray, List.length_nil, Nat.zero_add]
      exact this
    have hle : m * P.cellsOf e ≤ nc * P.cellsOf e := Nat.mul_le_mul_right _ (by omega)
    have hE : qa0 P (zbr c) (List.replicate m (qai P e)) e (#[] ++ Builtin.zeroCells zv.cells m ++ Builtin.zeroCells zv.cells (nc - m)).toList := by
      refine qaw (fun j hj => ?_) hrow
      simp only [Array.toList_append, List.nil_append]
      rw [List.getElem?_append_left (by simp [hsz] at hj ⊢; exact hj)]
    refine ⟨_, _, hrun, _, zc3 (c := zbr c) hr1 hs h0 (by simp; omega) hE, (ycy c).trans (zb7 (c := zbr c) hs h0), ?_⟩
    exact win_new (P := P) (c := zbr c) hs (by omega) (by omega) (by omega)
theorem vv_tupN {c : Cx} : VV P c (.tup []) (.tuple #[]) := ⟨[], rfl, rfl⟩
theorem clear_sound (hP : WF P) {c : Cx} (hr : HR P c) {T ty : TypeId} {ts : Array TypeId} {x r : AV} {wr : List (Nat × Entry)} {v : Value} (hts : ts[0]? = some T) (hv : VV P c x v) (h : (stClear P T x).run c.h = some (r, wr)) :
    ∃ z w', (Builtin.clear_ ts ty #[v]).run P c.w = .ok z w' ∧ Done P c r wr z w' := by
  cases x <;> simp only [stClear] at h <;> try exact (yae h).elim
  case nils =>
    replace h := qaf h; obtain ⟨hT, h⟩ := h
    obtain ⟨e, hT⟩ := qa6 hT
    obtain ⟨rfl, rfl⟩ := yaf h
    obtain rfl := zb3 hv
    refine ⟨.tuple #[], c.w, ?_, zam hr vv_tupN⟩
    simp [Builtin.clear_, hts, run_underlying (qah hT)]
  case win k p e fr n lo =>
    replace h := qaf h; obtain ⟨⟨hT, hz, hp⟩, h⟩ := h
    obtain rfl := pathless hp
    obtain ⟨en, he, h⟩ := zcs h
    replace h := qaf h; obtain ⟨⟨ho, hnl⟩, h⟩ := h
    obtain ⟨rfl, rfl⟩ := yaf h
    obtain ⟨en', cap, a, he', hne, rfl, hlo, hn, hpe, hc⟩ := yby hv
    rw [he] at he'
    cases he'
    have heT : en.T = e := hpe rfl
    subst heT
    obtain ⟨z0, hz1, hz2, hz3, hok⟩ := zbn hP c hz c.w
    by_cases hn0 : n = 0
    · subst hn0
      have hself : yay c.h [(k, { en with es := en.es.take fr ++ List.replicate 0 (qai P en.T) ++ en.es.drop (fr + 0) })] = c.h := by
        simp only [yay, List.replicate_zero, List.append_nil, Nat.add_zero, List.take_append_drop]
        apply List.ext_getElem?
        intro j
        by_cases hj : j = k
        · subst hj; rw [List.getElem?_set_self (List.getElem?_eq_some_iff.1 he).1, he]
        · rw [List.getElem?_set_ne (by omega)]
      refine ⟨.tuple #[], c.w, ?_, c.κ, ?_, ?_, ?_⟩
      · cases a <;> simp [Builtin.clear_, hts, run_underlying (qah hT)]
      · rw [hself]; exact hr
      · rw [hself]; exact Ext.refl c
      · rw [hself]; exact vv_tupN
    · obtain ⟨b, off, C0, m, g1, g2, g3, g4, rfl, g6, _⟩ := hc (by omega)
      simp only [zby, Option.some.injEq, Prod.mk.injEq, true_and] at g2
      subst g2
      obtain ⟨C1, m1, q1, _, _, q2, q3⟩ := hr.block he (.inl ho) g1
      rw [g3] at q1
      cases q1
      have hmk := g4 ho
      simp only [Nat.zero_add] at g6 ⊢
      have hrep := zbf hz3 hz2
      have hl := yao hP hz3 hrep
      have hc0 : P.cellsOf en.T ≠ 0 := (yai hok).2
      have hrow := qch hP (c := c) hz3 hz2 hc0 n n (Nat.le_refl _)
      have hzc : z0.cells.size = P.cellsOf en.T := by simpa using hl
      have heq : Builtin.zeroCells z0.cells n = (Array.range (n * P.cellsOf en.T)).map fun j => z0.cells[j % z0.cells.size]! := by rw [Builtin.zeroCells, hzc]
      have hsz : (Builtin.zeroCells z0.cells n).size = n * P.cellsOf en.T := by rw [qbe, hzc]
      rw [← heq] at hrow
      have hone : ∀ y ∈ (Builtin.zeroCells z0.cells n).toList, y.oneCell' = true := repE_one hP hrow (by simp [hsz]) hc0
      have hmul : (fr + n) * P.cellsOf en.T ≤ en.es.length * P.cellsOf en.T := Nat.mul_le_mul_right _ hnl
      rw [Nat.add_mul] at hmul
      have hsl : fr * P.cellsOf en.T + (Builtin.zeroCells z0.cells n).toList.length ≤ C0.toList.length := by simp [hsz]; omega
      have hst := ya8 (P := P) (T := en.T) (b := b) (off := fr * P.cellsOf en.T) (Builtin.zeroCells z0.cells n).toList 0 c.w C0 m g3 hmk hone (by simp [hsz]; omega)
      have hss : (zav C0.toList (fr * P.cellsOf en.T) (Builtin.zeroCells z0.cells n).toList).toArray.size = C0.size := by simpa using za0 hsl
      have hlen : (en.es.take fr ++ List.replicate n (qai P en.T) ++ en.es.drop (fr + n)).length = en.es.length := by simp; omega
      have hE : qa0 P c (en.es.take fr ++ List.replicate n (qai P en.T) ++ en.es.drop (fr + n)) en.T (zav C0.toList (fr * P.cellsOf en.T) (Builtin.zeroCells z0.cells n).toList) := by
        refine repE_append.2 ⟨repE_append.2 ⟨?_, ?_⟩, ?_⟩
        · have h3 := zbu 0 fr q3
          simp only [List.drop_zero, Nat.zero_mul] at h3
          have htl : (en.es.take fr).length = fr := by simp; omega
          refine qaw (fun j hj => ?_) h3
          rw [htl] at hj
          rw [splice_getElem? hsl, if_pos hj]
        · have htl : (en.es.take fr).length = fr := by simp; omega
          rw [htl]
          refine qaw (fun j hj => ?_) hrow
          rw [List.length_replicate] at hj
          rw [List.getElem?_drop, splice_getElem? hsl, if_neg (by omega), if_pos (by simp [hsz]; omega)]
          congr 1; omega
        · have htl : (en.es.take fr ++ List.replicate n (qai P en.T)).length = fr + n := by simp; omega
          rw [htl]
          have h3 := zbu (fr + n) en.es.length q3
          rw [List.take_length] at h3
          refine qaw (fun j hj => ?_) h3
          rw [List.getElem?_drop, List.getElem?_drop, splice_getElem? hsl, if_neg (by rw [Nat.add_mul]; omega), if_neg (by rw [Nat.add_mul]; simp [hsz] <;> omega)]
      refine ⟨.tuple #[], _, ?_, c.κ, hr_write hr he ho g1 g3 hss hmk (by rw [hlen, hss]; exact q2) (by simpa using hE), zcy he ho g1 g3 hss, vv_tupN⟩
      obtain ⟨m', rfl⟩ : ∃ m', n = m' + 1 := ⟨n - 1, by omega⟩
      simp only [Nat.add_zero, Nat.zero_add] at hst
      simp [Builtin.clear_, hts, run_underlying (qah hT), hz1, hst]
def SrcM (P : Program) (c : Cx) (size : Nat) (v : Value) (e : TypeId) (ys : List AV) : Prop :=
  (Builtin.lenOf v).run P c.w = .ok ys.length c.w ∧ ∀ m, m ≤ ys.length → ∃ new : Array Value, (Builtin.firstCells size m v).run P c.w = .ok new c.w ∧ new.size = m * size ∧ qa0 P c (ys.take m) e new.toList ∧ ∀ x ∈ new.toList, x.oneCell' = true
theorem repE_take {c : Cx} {T : TypeId} {es : List AV} {cs : List Value} (m : Nat) (h : qa0 P c es T cs) : qa0 P c (es.take m) T cs := by
  have := zbu 0 m h
  simpa using this
theorem srcM_row (hP : WF P) {c : Cx} {e : TypeId} {ys : List AV} {b off cap : Nat} {C : Array Value} {Te : TypeId} {m : Nat × Nat} (hok : okT P e = true) (hb : c.w.heap[b]? = some (.cells C Te m)) (hE : qa0 P c ys e (C.toList.drop off))
    (hl : off + ys.length * P.cellsOf e ≤ C.size) : SrcM P c (P.cellsOf e) (.slice (some ⟨b, off, none⟩) ys.length cap) e ys := by
  refine ⟨rfl, fun m hm => ?_⟩
  have hml : (ys.take m).length = m := by simp; omega
  have hmul : m * P.cellsOf e ≤ ys.length * P.cellsOf e := Nat.mul_le_mul_right _ hm
  obtain ⟨_, new, h1, h2, h3, h4⟩ := src_row hP (ys := ys.take m) (cap := cap) hok hb (repE_take m hE) (by rw [hml]; omega)
  rw [hml] at h1 h2
  exact ⟨new, h1, h2, h3, h4⟩
theorem srcM_list (hP : WF P) {c : Cx} {e : TypeId} {ys : List AV} {v : Value} (hok : okT P e = true) (hv : VV P c (.list e ys) v) : SrcM P c (P.cellsOf e) v e ys := by
  obtain ⟨a, cap, rfl, hcap, hne⟩ := zda hv
  by_cases hy : ys = []
  · subst hy
    refine ⟨rfl, fun m hm => ⟨#[], ?_, by simp at hm; simp [hm], by simp [qa0], by simp⟩⟩
    obtain rfl : m = 0 := by simpa using hm
    cases a with
    | none => rfl
    | some a => simp [Builtin.firstCells, loadCells, loadCellsFrom]
  · obtain ⟨b, off, C, Te, m, rfl, hb, hO, hE⟩ := hne hy
    have := repE_len hP hE (yai hok).2
    simp only [List.length_drop, Array.length_toList] at this
    have h0 : 0 < ys.length * P.cellsOf e := Nat.mul_pos (List.length_pos_iff.2 hy) (by have := (yai hok).2; omega)
    exact srcM_row hP hok hb hE (by omega)
theorem srcM_nil (hP : WF P) {c : Cx} {e : TypeId} {v : Value} (hv : VV P c .nils v) : SrcM P c (P.cellsOf e) v e [] := by
  obtain rfl := zb3 hv
  exact ⟨rfl, fun m hm => ⟨#[], rfl, by simp at hm; simp [hm], by simp [qa0], by simp⟩⟩
theorem srcM_str (hP : WF P) {c : Cx} {e : TypeId} {b : ByteArray} {v : Value} (he : zab P e = .int .u8) (hv : VV P c (.str b) v) : SrcM P c (P.cellsOf e) v e (u8s b) := by
  obtain rfl := qc5 hv
  have h1 := hP.scalar (T := e) (by rw [he]; rfl)
  have hl : (u8s b).length = b.size := by simp [u8s]
  refine ⟨by rw [hl]; rfl, fun m hm => ⟨((b.extract 0 m).data.map fun x => .int .u8 x.toNat), rfl, ?_, ?_, ?_⟩⟩
  · rw [h1]; simp; omega
  · refine repE_iff.2 fun i v hi => ?_
    simp only [u8s, List.getElem?_take, List.getElem?_map] at hi
    split at hi
    · rename_i him
      rw [Option.map_eq_some_iff] at hi
      obtain ⟨x, hx, rfl⟩ := hi
      refine ⟨by simp only [yaz]; exact he, ?_⟩
      simp only [Rep, h1, Nat.mul_one, Array.toList_map]
      rw [List.take_one, List.head?_drop]
      simp only [ByteArray.data_extract, Array.toList_extract, List.getElem?_map]
      rw [List.extract_eq_take_drop]
      simp only [List.drop_zero, Nat.sub_zero, List.getElem?_take, him, if_true, hx, Option.map_some, Option.toList_some]
    · cases hi
  · simp only [Array.toList_map, List.mem_map]
    rintro x ⟨y, _, rfl⟩
    rfl
theorem srcM_win (hP : WF P) {c : Cx} (hr : HR P c) {k : Nat} {p : List Nat} {e : TypeId} {fr n lo : Nat} {v : Value} {en : Entry} {ys : List AV} (hok : okT P e = true) (hv : VV P c (.win k p e fr n lo) v) (hk : c.h[k]? = some en) (hl : Live en)
    (hg : qaq en.es p fr n = some ys) : SrcM P c (P.cellsOf e) v e ys := by
  obtain ⟨hlen, hread⟩ := zb9 hP hr hv hk hl hg
  by_cases hn : n = 0
  · subst hn
    have hy : ys = [] := List.eq_nil_of_length_eq_zero hlen
    subst hy
    obtain ⟨_, cap, a, _, _, rfl, _⟩ := yby hv
    refine ⟨rfl, fun m hm => ⟨#[], ?_, by simp at hm; simp [hm], by simp [qa0], by simp⟩⟩
    obtain rfl : m = 0 := by simpa using hm
    cases a with
    | none => rfl
    | some a => simp [Builtin.firstCells, loadCells, loadCellsFrom]
  · obtain ⟨b, off, C, m, cap, rfl, _, hb, _, hbd, _, _, hE⟩ := hread hn
    rw [Nat.add_mul] at hbd
    have := srcM_row hP (cap := cap) hok hb hE (by rw [hlen]; omega)
    rwa [hlen] at this
theorem repE_splice {c : Cx} {e : TypeId} {es ys : List AV} {cs new : List Value} {fr : Nat} (hE : qa0 P c es e cs) (hl : es.length * P.cellsOf e ≤ cs.length) (hn : qa0 P c ys e new) (hnl : new.length = ys.length * P.cellsOf e)
    (hfr : fr + ys.length ≤ es.length) : qa0 P c (es.take fr ++ ys ++ es.drop (fr + ys.length)) e (zav cs (fr * P.cellsOf e) new) := by
  have hmul : (fr + ys.length) * P.cellsOf e ≤ es.length * P.cellsOf e := Nat.mul_le_mul_right _ hfr
  rw [Nat.add_mul] at hmul
  have hsl : fr * P.cellsOf e + new.length ≤ cs.length := by rw [hnl]; omega
  have htl : (es.take fr).length = fr := by simp; omega
  refine repE_append.2 ⟨repE_append.2 ⟨?_, ?_⟩, ?_⟩
  · have h3 := zbu 0 fr hE
    simp only [List.drop_zero, Nat.zero_mul] at h3
    refine qaw (fun j hj => ?_) h3
    rw [htl] at hj
    rw [splice_getElem? hsl, if_pos hj]
  · rw [htl]
    refine qaw (fun j hj => ?_) hn
    rw [List.getElem?_drop, splice_getElem? hsl, if_neg (by omega), if_pos (by rw [hnl]; omega)]
    congr 1; omega
  · have htl2 : (es.take fr ++ ys).length = fr + ys.length := by simp; omega
    rw [htl2]
    have h3 := zbu (fr + ys.length) es.length hE
    rw [List.take_length] at h3
    refine qaw (fun j hj => ?_) h3
    rw [List.getElem?_drop, List.getElem?_drop, splice_getElem? hsl, if_neg (by rw [Nat.add_mul]; omega), if_neg (by rw [Nat.add_mul, hnl]; omega)]
theorem ybl {α : Type} {l : List α} {i : Nat} {v : α} (h : l[i]? = some v) : l.set i v = l := by
  apply List.ext_getElem?
  intro j
  by_cases hj : i = j
  · subst hj; rw [List.getElem?_set_self (List.getElem?_eq_some_iff.1 h).1, h]
  · rw [List.getElem?_set_ne hj]
theorem setP_self {u : AV} : ∀ {p : List Nat} {v x : AV}, qbg v p = some u → setP v p u = some x → x = v
  | [], v, x, hg, hs => by
    have h1 : v = u := by cases v <;> simpa [qbg] using hg
    have h2 : u = x := by cases v <;> simpa [setP] using hs
    rw [← h2, h1]
  | i :: r, v, x, hg, hs => by
    cases v <;> simp only [qbg, setP, reduceCtorEq] at hg hs
    rename_i T vs
    cases hi : vs[i]? with
    | none => simp [hi] at hg
    | some w =>
      simp only [hi, Option.map_eq_some_iff] at hg hs
      obtain ⟨y, hy, rfl⟩ := hs
      rw [setP_self hg hy, ybl hi]
theorem setE_self {es es' : List AV} {u : AV} {p : List Nat} (hg : getE es p = some u) (hs : setE es u p = some es') : es' = es := by
  cases p with
  | nil => simp [getE] at hg
  | cons i r =>
    simp only [getE, setE] at hg hs
    cases hi : es[i]? with
    | none => simp [hi] at hg
    | some w =>
      simp only [hi, Option.map_eq_some_iff] at hg hs
      obtain ⟨y, hy, rfl⟩ := hs
      rw [setP_self hg hy, ybl hi]
theorem winSet_rep (hP : WF P) {c : Cx} {es es' ys : List AV} {T0 e : TypeId} {p : List Nat} {fr off : Nat} {cs new : List Value} (hE : qa0 P c es T0 cs) (hl : es.length * P.cellsOf T0 ≤ cs.length) (hw : zby P T0 p = some (e, off))
    (hs : zdf es p fr ys = some es') (hn : qa0 P c ys e new) (hnl : new.length = ys.length * P.cellsOf e) :
    es'.length = es.length ∧ qa0 P c es' T0 (zav cs (off + fr * P.cellsOf e) new) ∧ off + fr * P.cellsOf e + new.length ≤ cs.length := by
  cases p with
  | nil =>
    simp only [zby, Option.some.injEq, Prod.mk.injEq] at hw
    obtain ⟨rfl, rfl⟩ := hw
    simp only [zdf] at hs
    split at hs
    · rename_i hfr
      cases hs
      have hmul : (fr + ys.length) * P.cellsOf T0 ≤ es.length * P.cellsOf T0 := Nat.mul_le_mul_right _ hfr
      rw [Nat.add_mul] at hmul
      rw [Nat.zero_add]
      exact ⟨by simp; omega, repE_splice hE hl hn hnl hfr, by rw [hnl]; omega⟩
    · cases hs
  | cons i q =>
    simp only [zdf] at hs
    cases hge : getE es (i :: q) with
    | none => simp [hge] at hs
    | some u =>
      rw [hge] at hs
      cases u <;> simp only [reduceCtorEq] at hs
      rename_i A vs
      split at hs
      · rename_i hfr
        simp only [zby] at hw
        cases hpt : za9 P T0 q with
        | none => simp [hpt] at hw
        | some x =>
          obtain ⟨A', o⟩ := x
          simp only [hpt] at hw
          cases hsh : zab P A' <;> simp [hsh] at hw
          rename_i sz e'
          obtain ⟨rfl, rfl⟩ := hw
          have hro : qbc P T0 (i :: q) = some (A', i * P.cellsOf T0 + o) := by simp [qbc, hpt]
          obtain ⟨t1, t2, t3⟩ := getE_rep hP hE hro hge
          simp only [yaz] at t1
          subst t1
          simp only [Rep, hsh] at t2
          obtain ⟨t4, t5, t6⟩ := t2
          have harr := hP.arr hsh
          have hmul : (fr + ys.length) * P.cellsOf e' ≤ vs.length * P.cellsOf e' := Nat.mul_le_mul_right _ hfr
          rw [Nat.add_mul] at hmul
          generalize hA : (cs.drop (i * P.cellsOf T0 + o)).take (P.cellsOf A) = ac at t4 t6
          have hsl : fr * P.cellsOf e' + new.length ≤ ac.length := by rw [hnl, t4, harr, ← t5]; omega
          have hsp := repE_splice (fr := fr) t6 (by rw [t4, harr, t5]; exact Nat.le_refl _) hn hnl hfr
          have hrep : Rep P c (.agg A (vs.take fr ++ ys ++ vs.drop (fr + ys.length))) (zav ac (fr * P.cellsOf e') new) := by
            simp only [Rep, hsh]
            exact ⟨by rw [za0 hsl]; exact t4, by simp; omega, hsp⟩
          obtain ⟨s1, s2, s3⟩ := setE_rep hP hE hl hro (u := .agg A (vs.take fr ++ ys ++ vs.drop (fr + ys.length))) (by simp only [yaz]) hrep hs
          have hal : (zav ac (fr * P.cellsOf e') new).length = P.cellsOf A := by rw [za0 hsl]; exact t4
          refine ⟨s1, ?_, ?_⟩
          · have : zav cs (i * P.cellsOf T0 + o) (zav ac (fr * P.cellsOf e') new) = zav cs (i * P.cellsOf T0 + o + fr * P.cellsOf e') new := by
              apply List.ext_getElem?
              intro j
              have hcl : es.length * P.cellsOf T0 ≤ cs.length := hl
              have hsl2 := hsl
              rw [t4] at hsl2
              rw [splice_getElem? (by rw [hal]; omega), splice_getElem? (o := i * P.cellsOf T0 + o + fr * P.cellsOf e') (by omega), hal]
              by_cases h0 : j < i * P.cellsOf T0 + o
              · rw [if_pos h0, if_pos (by omega)]
              · rw [if_neg h0]
                by_cases h3 : j < i * P.cellsOf T0 + o + P.cellsOf A
                · rw [if_pos h3, splice_getElem? hsl]
                  by_cases h1 : j < i * P.cellsOf T0 + o + fr * P.cellsOf e'
                  · rw [if_pos (by omega), if_pos h1, ← hA, List.getElem?_take, if_pos (by omega), List.getElem?_drop]
                    congr 1; omega
                  · rw [if_neg (by omega), if_neg h1]
                    by_cases h2 : j < i * P.cellsOf T0 + o + fr * P.cellsOf e' + new.length
                    · rw [if_pos (by omega), if_pos h2]
                      congr 1; omega
                    · rw [if_neg (by omega), if_neg h2, ← hA, List.getElem?_take, if_pos (by omega), List.getElem?_drop]
                      congr 1; omega
                · rw [if_neg h3, if_neg (by omega), if_neg (by omega)]
            rw [← this]
            exact s2
          · rw [t4] at hsl; omega
      · cases hs
theorem run_copy {w w' : World} {T ty e : TypeId} {ts : Array TypeId} {a : Option Addr} {n cap l : Nat} {v : Value} {new : Array Value} (hts : ts[0]? = some T) (hT : zab P T = .slice e) (hok : okT P e = true)
    (hl : (Builtin.lenOf v).run P w = .ok l w) (hf : (Builtin.firstCells (P.cellsOf e) (min l n) v).run P w = .ok new w)
    (hst : ∀ x, a = some x → (storeCells x new.toList).run P w = .ok () w') (hnone : a = none → w' = w) :
    (Builtin.copy_ ts ty #[.slice a n cap, v]).run P w = .ok (.int .i64 (min l n : Nat)) w' := by
  have hs := qak (P := P) (yai hok).1 w
  have hf' : (Builtin.firstCells (P.cellsOf e) (Nat.min l n) v).run P w = .ok new w := hf
  cases a with
  | none =>
    have := hnone rfl
    subst this
    simp [Builtin.copy_, hts, run_underlying (qah hT), hs, hl, hf', goInt]
  | some x =>
    simp [Builtin.copy_, hts, run_underlying (qah hT), hs, hl, hf', hst x rfl, goInt]
theorem zcb (hP : WF P) {c : Cx} (hr : HR P c) {T ty e : TypeId} {ts : Array TypeId} {x r : AV} {ys : List AV} {wr : List (Nat × Entry)} {v u : Value} (hts : ts[0]? = some T) (hT : zab P T = .slice e) (hok : okT P e = true)
    (hv : VV P c x v) (hsrc : SrcM P c (P.cellsOf e) u e ys) (h : (yb9 e ys x).run c.h = some (r, wr)) :
    ∃ z w', (Builtin.copy_ ts ty #[v, u]).run P c.w = .ok z w' ∧ Done P c r wr z w' := by
  obtain ⟨hl, hsrc⟩ := hsrc
  cases x <;> simp only [yb9] at h <;> try exact (yae h).elim
  case nils =>
    obtain ⟨rfl, rfl⟩ := yaf h
    obtain rfl := zb3 hv
    obtain ⟨new, h1, _⟩ := hsrc (min ys.length 0) (by omega)
    refine ⟨_, c.w, run_copy hts hT hok hl h1 (by simp) (fun _ => rfl), ?_⟩
    rw [Nat.min_zero]
    exact zam hr qao
  case win k p e' fr n lo =>
    replace h := qaf h; obtain ⟨rfl, h⟩ := h
    obtain ⟨en, he, h⟩ := zcs h
    replace h := qaf h; obtain ⟨ho, h⟩ := h
    cases hg : zdf en.es p fr (ys.take n) with
    | none => rw [hg] at h; exact (yae h).elim
    | some es' =>
      rw [hg] at h
      obtain ⟨rfl, rfl⟩ := yaf h
      obtain ⟨en', cap, a, he', hne, rfl, hlo, hn, hpe, hc⟩ := yby hv
      rw [he] at he'
      cases he'
      obtain ⟨new, h1, h2, h3, h4⟩ := hsrc (min ys.length n) (by omega)
      have hyt : ys.take (min ys.length n) = ys.take n := by rw [Nat.min_comm, ← List.take_take, List.take_length]
      rw [hyt] at h3
      have hyl : (ys.take n).length = min ys.length n := by simp; omega
      by_cases hcap : cap = 0
      · have hn0 : n = 0 := by omega
        subst hn0
        rw [List.take_zero] at hg
        have hes : es' = en.es := by
          cases p with
          | nil =>
            simp only [zdf] at hg
            split at hg
            · cases hg; simp
            · cases hg
          | cons i q =>
            simp only [zdf] at hg
            split at hg
            · rename_i A vs hge
              split at hg
              · simp only [List.append_nil, List.length_nil, Nat.add_zero, List.take_append_drop] at hg
                exact setE_self hge hg
              · cases hg
            · cases hg
        have hself : yay c.h [(k, { en with es := es' })] = c.h := by
          rw [hes]
          simp only [yay]
          apply List.ext_getElem?
          intro j
          by_cases hj : j = k
          · subst hj; rw [List.getElem?_set_self (List.getElem?_eq_some_iff.1 he).1, he]
          · rw [List.getElem?_set_ne (by omega)]
        have hnew : new = #[] := Array.eq_empty_of_size_eq_zero (by simpa using h2)
        refine ⟨_, c.w, run_copy (w' := c.w) hts hT hok hl h1 (fun x _ => by simp [hnew, storeCells]) (fun _ => rfl), c.κ, ?_, ?_, ?_⟩
        · rw [hself]; exact hr
        · rw [hself]; exact Ext.refl c
        · rw [hself]; exact qao
      · obtain ⟨b, off, C0, m, g1, g2, g3, g4, rfl, g6, _⟩ := hc hcap
        obtain ⟨C1, m1, q1, q5, _, q2, q3⟩ := hr.block he (.inl ho) g1
        rw [g3] at q1
        cases q1
        have hmk := g4 ho
        obtain ⟨s1, s2, s3⟩ := winSet_rep hP q3 (by simpa using q2) g2 hg h3 (by rw [hyl]; simpa using h2)
        have hss : (zav C0.toList (off + fr * P.cellsOf e') new.toList).toArray.size = C0.size := by simpa using za0 s3
        have hst := ya8 (P := P) (T := en.T) (b := b) (off := off + fr * P.cellsOf e') new.toList 0 c.w C0 m g3 hmk h4 (by simpa using s3)
        refine ⟨_, _, run_copy hts hT hok hl h1 (fun x hx => by cases hx; simpa using hst) (by simp), c.κ, hr_write hr he ho g1 g3 hss hmk (by rw [s1, hss]; exact q2) (by simpa using s2), zcy he ho g1 g3 hss, qao⟩
theorem copy_sound (hP : WF P) {c : Cx} (hr : HR P c) {T ty : TypeId} {ts : Array TypeId} {x y r : AV} {wr : List (Nat × Entry)} {v u : Value} (hts : ts[0]? = some T) (hv : VV P c x v) (hu : VV P c y u) (h : (stCopy P T x y).run c.h = some (r, wr)) :
    ∃ z w', (Builtin.copy_ ts ty #[v, u]).run P c.w = .ok z w' ∧ Done P c r wr z w' := by
  unfold stCopy at h
  cases hT : zab P T <;> rw [hT] at h <;> simp only at h <;> try exact (yae h).elim
  rename_i e
  replace h := qaf h; obtain ⟨hok, h⟩ := h
  cases y <;> simp only at h <;> try exact (yae h).elim
  case list e' es =>
    replace h := qaf h; obtain ⟨rfl, h⟩ := h
    exact zcb hP hr hts hT hok hv (srcM_list hP hok hu) h
  case str b =>
    replace h := qaf h; obtain ⟨hb, h⟩ := h
    exact zcb hP hr hts hT hok hv (srcM_str hP hb hu) h
  case nils => exact zcb hP hr hts hT hok hv (srcM_nil hP hu) h
  case win k p e' fr n lo =>
    replace h := qaf h; obtain ⟨rfl, h⟩ := h
    obtain ⟨en, he, h⟩ := zcs h
    replace h := qaf h; obtain ⟨hlv, h⟩ := h
    cases hg : qaq en.es p fr n with
    | none => rw [hg] at h; exact (yae h).elim
    | some ys =>
      rw [hg] at h
      exact zcb hP hr hts hT hok hv (srcM_win hP hr hok hu he (qas hlv) hg) h
structure More (w w' : World) (T : TypeId) (C : Array Value) (m : Nat × Nat) : Prop where
  os : w'.os = w.os
  tape : w'.tape = w.tape
  output : w'.output = w.output
  size : w'.heap.size = w.heap.size + 1
  old : ∀ b, b < w.heap.size → w'.heap[b]? = w.heap[b]?
  new : w'.heap[w.heap.size]? = some (.cells C T m)
theorem more_bytes (w : World) (e : TypeId) (s : ByteArray) : More w (Go.Lib.bytesWorld w e s) e (Go.Lib.bytesCells w e s) ((Go.Lib.bytesCells w e s).size, (Go.Lib.bytesCells w e s).size + 1) where
  os := by simp [Go.Lib.bytesWorld, World.freeze, World.alloc, World.drew, -World.alloc_eq, -World.drew_eq]
  tape := by simp [Go.Lib.bytesWorld, World.freeze, World.alloc, World.drew, -World.alloc_eq, -World.drew_eq]
  output := by simp [Go.Lib.bytesWorld, World.freeze, World.alloc, World.drew, -World.alloc_eq, -World.drew_eq]
  size := Go.Lib.bytesWorld_size w e s
  old b hb := Go.Lib.bytesWorld_at_old w e s b hb
  new := Go.Lib.bytesWorld_at_new w e s
section more
variable {c : Cx} {w' : World} {T : TypeId} {C : Array Value} {m : Nat × Nat}
theorem ext_more (hw : More c.w w' T C m) : Ext c { c with w := w' } where
  os := hw.os
  tape := hw.tape
  output := hw.output
  size := by rw [hw.size]; exact Nat.le_succ _
  frozen b hb _ := hw.old b hb
  shape b C T m h := ⟨C, m, (hw.old b (qag h)).trans h, rfl, id⟩
  own b hb h := h
  names k e h hn := ⟨rfl, e, h, rfl, hn, id⟩
theorem hr_more (hr : HR P c) (hw : More c.w w' T C m) : HR P { c with w := w' } where
  blk k e he hlv := (hr.blk k e he hlv).keep (ext_more hw) rfl (fun b hb => by
    obtain ⟨C1, m1, h1, _⟩ := hr.block he hlv hb
    exact hw.old b (qag h1)) fun b hb hf => (hr.blk k e he hlv).fz hb hf
  apart := hr.apart
def qcj (c : Cx) (s : Nat) (T : TypeId) (es : List AV) (w' : World) : Cx :=
  { κ := fun k => if k = s then some c.w.heap.size else c.κ k, h := c.h.set s ⟨T, es, .own⟩, w := w' }
theorem O_new {s : Nat} {es : List AV} {e0 : Entry} (hs : c.h[s]? = some e0) (h0 : e0.st = .hole) {b : Nat} :
    (qcj c s T es w').O b ↔ c.O b ∨ b = c.w.heap.size := by
  have hl := (List.getElem?_eq_some_iff.1 hs).1
  constructor
  · rintro ⟨k, e, he, hst, hk⟩
    rcases qav he with ⟨rfl, rfl, _⟩ | ⟨hne, he⟩
    · exact .inr (by simpa [qcj] using hk.symm)
    · exact .inl ⟨k, e, he, hst, by simpa [qcj, hne] using hk⟩
  · rintro (⟨k, e, he, hst, hk⟩ | rfl)
    · have hne : k ≠ s := by rintro rfl; rw [hs] at he; cases he; rw [h0] at hst; cases hst
      exact ⟨k, e, by simp only [qcj]; rw [List.getElem?_set_ne (by omega)]; exact he, hst, by simpa [qcj, hne] using hk⟩
    · exact ⟨s, ⟨T, es, .own⟩, by simp only [qcj]; rw [List.getElem?_set_self hl], rfl, by simp [qcj]⟩
theorem ext_new {s : Nat} {es : List AV} {e0 : Entry} (hw : More c.w w' T C m) (hs : c.h[s]? = some e0) (h0 : e0.st = .hole) : Ext c (qcj c s T es w') where
  os := hw.os
  tape := hw.tape
  output := hw.output
  size := by simp only [qcj]; rw [hw.size]; exact Nat.le_succ _
  frozen b hb _ := hw.old b hb
  shape b C T m h := ⟨C, m, (hw.old b (qag h)).trans h, rfl, id⟩
  own b hb h := ((O_new hs h0).1 h).resolve_right (by omega)
  names k e he hn := by
    have hne : k ≠ s := by rintro rfl; rw [hs] at he; cases he; exact hn h0
    exact ⟨by simp [qcj, hne], e, by simp only [qcj]; rw [List.getElem?_set_ne (by omega)]; exact he, rfl, hn, id⟩
theorem hr_new (hr : HR P c) {s : Nat} {es : List AV} {e0 : Entry} (hw : More c.w w' T C m) (hs : c.h[s]? = some e0) (h0 : e0.st = .hole) (hm : mOK C m)
    (hl : es.length * P.cellsOf T ≤ C.size) (hes : qa0 P c es T C.toList) : HR P (qcj c s T es w') where
  blk k e he hlv := by
    have x := ext_new (es := es) hw hs h0
    rcases qav he with ⟨rfl, rfl, _⟩ | ⟨hne, he⟩
    · refine .inr ⟨c.w.heap.size, C, m, by simp [qcj], hw.new, fun _ => hm, fun h => (by cases h), hl, ybc x _ _ _ hes⟩
    · have hb := hr.blk k e he hlv
      have hlt : ∀ b, c.κ k = some b → b < c.w.heap.size := fun b hbk => by
        obtain ⟨C1, m1, h1, _⟩ := hr.block he hlv hbk
        exact qag h1
      refine hb.keep x (by simp [qcj, hne]) (fun b hbk => hw.old b (hlt b hbk)) fun b hbk hf hO => ?_
      rcases (O_new hs h0).1 hO with hO | hO
      · exact hb.fz hbk hf hO
      · have := hlt b hbk; omega
  apart k k' e e' b he he' hst hst' hk hk' := by
    by_cases h1 : k = s
    · by_cases h2 : k' = s
      · rw [h1, h2]
      · rcases qav he' with ⟨h3, _, _⟩ | ⟨_, he'⟩
        · exact absurd h3 h2
        · simp only [qcj, h1, if_true, Option.some.injEq] at hk
          simp only [qcj, h2, if_false] at hk'
          obtain ⟨_, _, h5, _⟩ := hr.block he' (.inl hst') hk'
          have := qag h5
          omega
    · rcases qav he with ⟨h3, _, _⟩ | ⟨_, he⟩
      · exact absurd h3 h1
      · simp only [qcj, h1, if_false] at hk
        by_cases h2 : k' = s
        · simp only [qcj, h2, if_true, Option.some.injEq] at hk'
          obtain ⟨_, _, h5, _⟩ := hr.block he (.inl hst) hk
          have := qag h5
          omega
        · rcases qav he' with ⟨h3, _, _⟩ | ⟨_, he'⟩
          · exact absurd h3 h2
          · simp only [qcj, h2, if_false] at hk'
            exact hr.apart k k' e e' b he he' hst hst' hk hk'
end more
theorem bytes_cells (hP : WF P) {c : Cx} {e : TypeId} (he : zab P e = .int .u8) : ∀ {es : List AV} {cs : List Value}, qa0 P c es e cs → cs.length = es.length →
    ∃ ns : List Int, cs = ns.map (Value.int .u8) ∧ (ns.map fun n => UInt8.ofNat n.toNat) = es.map u8A := by
  have h1 := hP.scalar (T := e) (by rw [he]; rfl)
  intro es
  induction es with
  | nil => intro cs _ hl; exact ⟨[], by simpa using List.eq_nil_of_length_eq_zero hl, rfl⟩
  | cons a es ih =>
    intro cs h hl
    simp only [qa0, h1] at h
    obtain ⟨ht, hr, h⟩ := h
    cases cs with
    | nil => simp at hl
    | cons v cs =>
      simp only [List.take_succ_cons, List.take_zero, List.drop_succ_cons, List.drop_zero] at hr h
      obtain ⟨ns, e1, e2⟩ := ih h (by simpa using hl)
      cases a <;> simp only [yaz, he, reduceCtorEq, Shape.int.injEq, exists_false, false_and] at ht
      case int k n =>
        subst ht
        simp only [Rep, List.cons.injEq, and_true] at hr
        subst hr
        exact ⟨n :: ns, by simp [e1], by simp [u8A, e2]⟩
      case agg T' vs =>
        subst ht
        simp only [Rep, he, and_false] at hr
theorem push_all : ∀ (ns : List Int) (r : ByteArray), ns.foldl (fun r n => r.push (UInt8.ofNat n.toNat)) r = ⟨(r.data.toList ++ ns.map fun n => UInt8.ofNat n.toNat).toArray⟩
  | [], r => by simp
  | n :: ns, r => by
    rw [List.foldl_cons, push_all ns]
    simp [ByteArray.push]
theorem text_of (hP : WF P) {c : Cx} {e : TypeId} {es : List AV} {C : Array Value} {Te : TypeId} {m : Nat × Nat} {b off cap n : Nat} (he : zab P e = .int .u8) (hok : okT P e = true) (hb : c.w.heap[b]? = some (.cells C Te m))
    (hE : qa0 P c es e (C.toList.drop off)) (hn : es.length = n) (hl : off + n ≤ C.size) : (Conv.bytesToString (.slice (some ⟨b, off, none⟩) n cap)).run P c.w = .ok (.string (strA es)) c.w := by
  have h1 := hP.scalar (T := e) (by rw [he]; rfl)
  have hlen : ((C.toList.drop off).take n).length = es.length := by simp; omega
  have hE2 : qa0 P c es e ((C.toList.drop off).take n) := qaw (fun j hj => by rw [h1, Nat.mul_one] at hj; rw [List.getElem?_take, if_pos (by omega)]) hE
  obtain ⟨ns, e1, e2⟩ := bytes_cells hP he hE2 hlen
  have := qbl (P := P) (w := c.w) hb hl
  rw [e1] at this
  rw [run_bytesToString c.w _ n cap ns this, push_all]
  congr 2
  simp only [strA, e2]
  rfl
theorem okT_u8 (hP : WF P) {e : TypeId} (he : zab P e = .int .u8) : okT P e = true := by
  have h1 := hP.scalar (T := e) (by rw [he]; rfl)
  simp [okT, he, h1]
theorem repE_u8s (hP : WF P) {c : Cx} {e : TypeId} (he : zab P e = .int .u8) (w : World) (b : ByteArray) : qa0 P c (u8s b) e (Go.Lib.bytesCells w e b).toList := by
  have h1 := hP.scalar (T := e) (by rw [he]; rfl)
  refine repE_iff.2 fun i v hi => ?_
  simp only [u8s, List.getElem?_map, Option.map_eq_some_iff] at hi
  obtain ⟨x, hx, rfl⟩ := hi
  have hil : i < b.data.toList.length := (List.getElem?_eq_some_iff.1 hx).1
  refine ⟨by simp only [yaz]; exact he, ?_⟩
  simp only [Rep, h1, Nat.mul_one, Go.Lib.bytesCells, Array.toList_append, Array.toList_map]
  rw [List.take_one, List.head?_drop, List.getElem?_append_left (by simpa using hil), List.getElem?_map, hx]
  rfl
theorem size_bytesCells (w : World) (e : TypeId) (b : ByteArray) : b.size ≤ (Go.Lib.bytesCells w e b).size ∧ grownCap w b.size 0 e ≤ (Go.Lib.bytesCells w e b).size := by
  have : b.data.size = b.size := rfl
  simp [Go.Lib.bytesCells, this]
  omega
theorem grown_le (w : World) (e : TypeId) (n : Nat) : n ≤ grownCap w n 0 e := by
  unfold grownCap
  simp only [Question.cut]
  omega
def markM (C : Array Value) (m : Nat × Nat) : Nat × Nat := if m.1 == m.2 then (C.size, C.size + 1) else (min m.1 C.size, max m.2 (C.size + 1))
theorem mOK_mark {C : Array Value} {m : Nat × Nat} (h : mOK C m) : mOK C (markM C m) := by
  unfold markM
  by_cases he : m.1 = m.2
  · rw [if_pos (by simpa using he)]; exact .inr (Nat.le_refl _)
  · rw [if_neg (by simpa using he)]
    rcases h with h | h
    · exact absurd h he
    · exact .inr (by simp only; omega)
theorem run_convert_mark (w : World) (S e : TypeId) (a : Addr) (n cap : Nat) {C : Array Value} {Te : TypeId} {m : Nat × Nat} (hS : P.underlying S = some (.slice e)) (he : P.underlying e = some (.int .u8)) (hb : w.heap[a.block]? = some (.cells C Te m)) :
    (convert S S (.slice (some a) n cap)).run P w = .ok (.slice (some a) n cap) (ya0 w a.block (.cells C Te (markM C m))) := by
  have hsh : w.shape? a.block = some (Te, C.size) := by simp [World.shape?, hb]
  have hfr : w.freeze ⟨a.block, C.size, none⟩ 1 = ya0 w a.block (.cells C Te (markM C m)) := by
    unfold World.freeze ya0
    rw [if_neg (by decide)]
    congr 1
    apply Array.ext_getElem?
    intro i
    rw [Array.getElem?_modify, Array.getElem?_setIfInBounds]
    by_cases hi : a.block = i
    · subst hi
      rw [if_pos rfl, if_pos rfl, if_pos (qag hb), hb]
      simp only [Option.map_some, markM]
    · rw [if_neg hi, if_neg hi]
  simp [convert, run_underlying hS, run_underlying he, markStringish, run_shape, hsh, hfr]
theorem conv_sound (hP : WF P) {c : Cx} (hr : HR P c) {S T : TypeId} {x r : AV} {wr : List (Nat × Entry)} {v : Value} (hv : VV P c x v) (h : (qbk P S T x).run c.h = some (r, wr)) :
    ∃ z w', (convert S T v).run P c.w = .ok z w' ∧ Done P c r wr z w' := by
  cases x <;> simp only [qbk, stConvB] at h <;> try exact (yae h).elim
  case int k n =>
    obtain ⟨rfl, z, h1, h2⟩ := conv_int_sound (S := S) (T := T) hv (by simpa only [qbk] using h)
    exact ⟨z, c.w, h1, zam hr h2⟩
  case str b =>
    obtain rfl := qc5 hv
    cases hT : zab P T <;> rw [hT] at h <;> simp only at h <;> try exact (yae h).elim
    · replace h := qaf h; obtain ⟨hS, h⟩ := h
      obtain ⟨rfl, rfl⟩ := yaf h
      refine ⟨_, c.w, ?_, zam hr zcd⟩
      simp [convert, run_underlying (yba hS), run_underlying (yba hT)]
    · rename_i e
      replace h := qaf h; obtain ⟨⟨he, hS⟩, h⟩ := h
      obtain ⟨rfl, rfl⟩ := yaf h
      have hw := more_bytes c.w e b
      have hlt : ¬ Cx.O { c with w := Go.Lib.bytesWorld c.w e b } c.w.heap.size := fun hO => by have := Cx.O.lt hr (b := c.w.heap.size) hO; omega
      have hul : (u8s b).length = b.size := by simp [u8s]
      refine ⟨_, _, Go.Lib.run_convert_string_bytes c.w S T e b (yba hS) (qah hT) (qbs he), c.κ, hr_more hr hw, ext_more hw, ?_⟩
      exact vv_list_mk hul.symm (by rw [hul]; exact grown_le ..) fun _ => ⟨c.w.heap.size, 0, _, e, _, rfl, hw.new, hlt, by simpa using repE_u8s hP he c.w b⟩
  case list e es =>
    replace h := qaf h; obtain ⟨⟨hS, he, hT⟩, h⟩ := h
    obtain ⟨rfl, rfl⟩ := yaf h
    obtain ⟨a, cap, rfl, hcap, hne⟩ := zda hv
    refine ⟨.string (strA es), c.w, ?_, zam hr zcd⟩
    rw [run_convert_bytes_string c.w S T e a es.length cap (qah hS) (qbs he) (yba hT)]
    by_cases hy : es = []
    · subst hy
      cases a with
      | none => rfl
      | some a => simp [Conv.bytesToString, loadCells, loadCellsFrom]; rfl
    · obtain ⟨b, off, C, Te, m, rfl, hb, hO, hE⟩ := hne hy
      have := repE_len hP hE (yai (okT_u8 hP he)).2
      rw [hP.scalar (T := e) (by rw [he]; rfl), Nat.mul_one] at this
      simp only [List.length_drop, Array.length_toList] at this
      have h0 : 0 < es.length := List.length_pos_iff.2 hy
      exact text_of hP he (okT_u8 hP he) hb hE rfl (by omega)
  case nils =>
    cases hS : zab P S <;> rw [hS] at h <;> simp only at h <;> try exact (yae h).elim
    rename_i e
    replace h := qaf h; obtain ⟨⟨he, hT⟩, h⟩ := h
    obtain ⟨rfl, rfl⟩ := yaf h
    obtain rfl := zb3 hv
    refine ⟨.string ByteArray.empty, c.w, ?_, zam hr zcd⟩
    rw [run_convert_bytes_string c.w S T e none 0 0 (qah hS) (qbs he) (yba hT)]
    rfl
  case win k p e fr n lo =>
    by_cases hst : zab P S = .slice e ∧ zab P e = .int .u8 ∧ zab P T = .str
    case neg =>
      rw [if_neg hst] at h
      replace h := qaf h; obtain ⟨⟨rfl, hS, he, hn⟩, h⟩ := h
      obtain ⟨en, hk, h⟩ := zcs h
      replace h := qaf h; obtain ⟨ho, h⟩ := h
      obtain ⟨rfl, rfl⟩ := yaf h
      obtain ⟨en', cap, a, hk', hne, rfl, hlo, hcap, hp, hrest⟩ := yby hv
      rw [hk] at hk'; cases hk'
      obtain ⟨b, off, C, m, h1, h2, h3, h4, rfl, h6, h7⟩ := hrest (by omega)
      have ho : en.st = .own := by simpa using ho
      have hm := mOK_mark (h4 ho)
      refine ⟨_, _, run_convert_mark c.w S e _ n cap (qah hS) (qbs he) h3, c.κ, hr_mark hr hk ho h1 h3 hm, ext_mark hk ho h1 h3 hm, ?_⟩
      exact qc9 (ext_mark hk ho h1 h3 hm) hv
    rw [if_pos hst] at h
    obtain ⟨hS, he, hT⟩ := hst
    obtain ⟨en, hk, h⟩ := zcs h
    replace h := qaf h; obtain ⟨hlv, h⟩ := h
    cases hg : qaq en.es p fr n with
    | none => rw [hg] at h; exact (yae h).elim
    | some ys =>
      rw [hg] at h
      obtain ⟨rfl, rfl⟩ := yaf h
      obtain ⟨hlen, hread⟩ := zb9 hP hr hv hk (qas hlv) hg
      obtain ⟨_, cap, a, _, _, rfl, _⟩ := yby hv
      refine ⟨.string (strA ys), c.w, ?_, zam hr zcd⟩
      rw [run_convert_bytes_string c.w S T e a n cap (qah hS) (qbs he) (yba hT)]
      by_cases hn : n = 0
      · subst hn
        obtain rfl : ys = [] := List.eq_nil_of_length_eq_zero hlen
        cases a with
        | none => rfl
        | some a => simp [Conv.bytesToString, loadCells, loadCellsFrom]; rfl
      · obtain ⟨b, off, C, m, cap', hveq, _, hb, _, hbd, _, _, hE⟩ := hread hn
        simp only [Value.slice.injEq] at hveq
        obtain ⟨rfl, _, rfl⟩ := hveq
        have h1 := hP.scalar (T := e) (by rw [he]; rfl)
        rw [h1, Nat.mul_one] at hbd hE
        rw [h1, Nat.mul_one]
        exact text_of hP he (okT_u8 hP he) hb hE hlen (by omega)
theorem convS_sound (hP : WF P) {c : Cx} (hr : HR P c) {S T : TypeId} {s : Nat} {e0 : Entry} (hs : c.h[s]? = some e0) (h0 : e0.st = .hole) {b : ByteArray} {r : AV} {wr : List (Nat × Entry)} (h : (ydr P S T b s).run c.h = some (r, wr)) :
    ∃ z w', (convert S T (.string b)).run P c.w = .ok z w' ∧ Done P c r wr z w' := by
  unfold ydr at h
  cases hT : zab P T <;> rw [hT] at h <;> simp only at h <;> try exact (yae h).elim
  · replace h := qaf h; obtain ⟨hS, h⟩ := h
    obtain ⟨rfl, rfl⟩ := yaf h
    refine ⟨_, c.w, ?_, zam hr zcd⟩
    simp [convert, run_underlying (yba hS), run_underlying (yba hT)]
  · rename_i e
    replace h := qaf h; obtain ⟨⟨he, hS⟩, h⟩ := h
    obtain ⟨rfl, rfl⟩ := yaf h
    have hw := more_bytes c.w e b
    have h1 := hP.scalar (T := e) (by rw [he]; rfl)
    have hul : (u8s b).length = b.size := by simp [u8s]
    have hsz := size_bytesCells c.w e b
    have hm : mOK (Go.Lib.bytesCells c.w e b) ((Go.Lib.bytesCells c.w e b).size, (Go.Lib.bytesCells c.w e b).size + 1) := .inr (Nat.le_refl _)
    refine ⟨_, _, Go.Lib.run_convert_string_bytes c.w S T e b (yba hS) (qah hT) (qbs he), _, hr_new (es := u8s b) hr hw hs h0 hm (by rw [hul, h1, Nat.mul_one]; exact hsz.1) (repE_u8s hP he c.w b), ext_new hw hs h0, ?_⟩
    refine qbp (e := ⟨e, u8s b, .own⟩) (zdl hs _) (by simp) (grown_le ..) (grown_le ..) (fun _ => rfl) fun _ => ?_
    exact ⟨c.w.heap.size, 0, _, _, by simp, rfl, hw.new, fun _ => hm, by simp, by rw [h1]; simpa using hsz.2, by simp [ycr]⟩
end
end Go.Abs
set_option linter.all false
namespace Go.Abs
open Go
section
variable {P : Program}
theorem qb4 {c : Cx} {a : AV} {v : Value} (h : VV P c a v) (hp : zah a = true) : isAgg a = Value.isAgg v ∧ Rep P c a v.cells.toList := by
  cases a <;> first | exact h | (simp [zah] at hp)
theorem plain_notY {a : AV} (h : zah a = true) : notY a = true := by
  cases a <;> first | rfl | exact h
theorem plain_notYs {l : List AV} (h : l.all zah = true) : l.all notY = true := by
  rw [List.all_eq_true] at h ⊢
  exact fun x hx => plain_notY (h x hx)
theorem plain_isY {l : List AV} (h : l.all zah = true) : isY l = false := by
  cases l with
  | nil => rfl
  | cons x r =>
    cases x <;> try rfl
    simp [zah] at h
theorem repV_map {c : Cx} {env : List (Nat × AV)} {a : Act} (he : ER P c env a.tmps) : ∀ (xs : List Operand), (xs.map (ev env)).all zah = true → ya2 P c (xs.map (ev env)) (xs.map a.eval)
  | [], _ => by simp only [List.map_nil, ya2]
  | x :: xs, h => by
    simp only [List.map_cons, List.all_cons, Bool.and_eq_true] at h
    simp only [List.map_cons, ya2]
    obtain ⟨h1, h2⟩ := qb4 (za2 he x) h.1
    exact ⟨_, _, rfl, h1, h2, repV_map he xs h.2⟩
theorem pairs_keys {env : List (Nat × AV)} {a : Act} (ps : Array (Nat × Operand)) : (ydj env ps).map (·.1) = (ps.map fun (x : Nat × Operand) => (x.1, a.eval x.2)).toList.map (·.1) := by
  simp [ydj]
theorem pairs_vv {c : Cx} {env : List (Nat × AV)} {a : Act} (he : ER P c env a.tmps) (ps : Array (Nat × Operand)) : ∀ (k : Nat) (p : Nat × AV) (v : Nat × Value), (ydj env ps)[k]? = some p →
    (ps.map fun (x : Nat × Operand) => (x.1, a.eval x.2)).toList[k]? = some v → VV P c p.2 v.2 := by
  intro k p v hp hv
  simp only [ydj, List.getElem?_map, Option.map_eq_some_iff, Array.toList_map] at hp hv
  obtain ⟨x, hx, rfl⟩ := hp
  obtain ⟨y, hy, rfl⟩ := hv
  rw [hx] at hy
  cases hy
  exact za2 he x.2
theorem ov_map {c : Cx} {env : List (Nat × AV)} {a : Act} (he : ER P c env a.tmps) (o : Option Operand) : OV P c (o.map (ev env)) (o.map a.eval) := by
  cases o with
  | none => exact trivial
  | some x => exact za2 he x
theorem ydq (hP : WF P) {c : Cx} (hr : HR P c) {env : List (Nat × AV)} {a : Act} (he : ER P c env a.tmps) {s : Nat} (o : Oper) (hh : qa2 o.op = true → ∃ e0, c.h[s]? = some e0 ∧ e0.st = .hole) {r : AV} {wr : List (Nat × Entry)}
    (h : (step P env s o.op).run c.h = some (r, wr)) : ROK P c r wr ((execOp a.eval o).run P c.w) := by
  cases hop : o.op <;> rw [hop] at h <;> simp only [step] at h <;> try exact (yae h).elim
  case move x => obtain ⟨rfl, rfl⟩ := yaf h; simp only [execOp, hop, Sem.run_pure, ROK]; exact zam hr (za2 he x)
  case assign x => obtain ⟨rfl, rfl⟩ := yaf h; simp only [execOp, hop, Sem.run_pure, ROK]; exact zam hr (za2 he x)
  case pick x y z =>
    have hx := za2 he x
    cases hb : ev env x <;> rw [hb] at h <;> try exact (yae h).elim
    rename_i b
    rw [hb] at hx
    have hx := ybs hx
    cases b
    · obtain ⟨rfl, rfl⟩ := yaf h
      simp only [execOp, hop, hx, asBool, Sem.run_bind, Sem.run_pure, Result.andThen_ok, ROK]
      exact zam hr (za2 he z)
    · obtain ⟨rfl, rfl⟩ := yaf h
      simp only [execOp, hop, hx, asBool, Sem.run_bind, Sem.run_pure, Result.andThen_ok, ROK]
      exact zam hr (za2 he y)
  case alloc T =>
    obtain ⟨e0, hs, h0⟩ := hh (by rw [hop]; rfl)
    replace h := qaf h; obtain ⟨hz, h⟩ := h
    obtain ⟨rfl, rfl⟩ := yaf h
    obtain ⟨v, w', h1, h2⟩ := alloc_sound hP hr hs h0 hz
    simp only [execOp, hop]
    exact zao h1 h2
  case box T x =>
    obtain ⟨e0, hs, h0⟩ := hh (by rw [hop]; rfl)
    replace h := qaf h; obtain ⟨ht, h⟩ := h
    obtain ⟨rfl, rfl⟩ := yaf h
    obtain ⟨v, w', h1, h2⟩ := box_sound hP hr hs h0 ht (za2 he x)
    simp only [execOp, hop]
    exact zao h1 h2
  case build T ps =>
    obtain ⟨rfl, z, h1, h2⟩ := build_sound hP (pairs_keys ps) (pairs_vv he ps) h
    simp only [execOp, hop]
    exact zao h1 (zam hr h2)
  case buildSlice T n ps =>
    obtain ⟨e0, hs, h0⟩ := hh (by rw [hop]; rfl)
    obtain ⟨z, w', h1, h2⟩ := buildSlice_sound hP hr hs h0 (pairs_keys ps) (pairs_vv he ps) h
    simp only [execOp, hop]
    exact zao h1 h2
  case load T x =>
    obtain ⟨rfl, z, h1, h2⟩ := load_sound hP hr (za2 he x) h
    simp only [execOp, hop]
    exact zao h1 (zam hr h2)
  case store T x y =>
    obtain ⟨w', h1, h2⟩ := store_sound hP hr (za2 he x) (za2 he y) h
    simp only [execOp, hop]
    exact rok_unit h1 h2
  case nilCheck x =>
    obtain ⟨rfl, h1, h2, h3, h4, h5⟩ := nilCheck_sound (za2 he x) h
    simp only [execOp, hop]
    have : ROK P c r [] (Result.ok (Next.value (a.eval x)) c.w) := zam hr h5
    cases hx : a.eval x <;> rw [hx] at h1 h2 h3 h4 this <;> (try simp only [Sem.run_pure]) <;> try exact this
    case nilIface => exact absurd rfl h3
    case nilFunc => exact absurd rfl h4
    case func fn first caps =>
      rcases h1 fn first caps rfl with ⟨f, rfl⟩ | ⟨f, rfl⟩
      · exact this
      · exact this
  case binOp op T x y T2 =>
    obtain ⟨rfl, z, h1, h2⟩ := bin_sound (xo := x) (yo := y) hP (za2 he x) (za2 he y) h
    simp only [execOp, hop]
    exact zao h1 (zam hr h2)
  case unOp op T x =>
    obtain ⟨rfl, z, h1, h2⟩ := un_sound (za2 he x) h
    simp only [execOp, hop]
    exact zao h1 (zam hr h2)
  case convert S T x =>
    by_cases hx : qa5 x = true
    · rw [if_pos hx] at h
      obtain ⟨e0, hs, h0⟩ := hh (by rw [hop]; exact hx)
      obtain ⟨z, w', h1, h2⟩ := convS_sound hP hr hs h0 h
      have hxe : a.eval x = .string (constStr x) := by
        cases x <;> simp only [qa5, Bool.false_eq_true] at hx
        rename_i v
        cases v <;> simp only [qa5, Bool.false_eq_true] at hx
        rfl
      simp only [execOp, hop, hxe]
      exact zao h1 h2
    · rw [if_neg hx] at h
      obtain ⟨z, w', h1, h2⟩ := conv_sound hP hr (za2 he x) h
      simp only [execOp, hop]
      exact zao h1 h2
  case makeFunc fn first caps =>
    cases fn <;> (try simp only at h) <;> try exact (yae h).elim
    rename_i f
    replace h := qaf h; obtain ⟨⟨hf, hc⟩, h⟩ := h
    obtain ⟨rfl, rfl⟩ := yaf h
    subst hf
    simp only [execOp, hop]
    refine zao (v := .func (.func f) #[] (caps.map a.eval)) (by simp [Instr.makeFunc]) (zam hr ?_)
    refine (zba rfl (by simp) (by simp)).2 ⟨rfl, ?_⟩
    simp only [Rep]
    exact .inl ⟨plain_isY hc, plain_notYs hc, caps.toList.map a.eval, by simp [← Array.toList_map], repV_map he caps.toList hc⟩
  case makeSlice T l k =>
    obtain ⟨e0, hs, h0⟩ := hh (by rw [hop]; rfl)
    obtain ⟨z, w', h1, h2⟩ := makeSlice_sound hP hr hs h0 (za2 he l) (za2 he k) h
    simp only [execOp, hop]
    exact zao h1 h2
  case slice T x lo hi mx =>
    replace h := qaf h; obtain ⟨hm, h⟩ := h
    obtain ⟨rfl, z, h1, h2⟩ := slice_sound hP hr (za2 he x) (ov_map he lo) (ov_map he hi) (ov_map he mx) (by cases mx <;> cases hi <;> simp_all) h
    simp only [execOp, hop]
    exact zao h1 (zam hr h2)
  case fieldAddr T x i =>
    replace h := qaf h; obtain ⟨hT, h⟩ := h
    obtain ⟨rfl, z, h1, h2⟩ := fieldAddr_sound hP hr hT (za2 he x) h
    simp only [execOp, hop]
    exact zao h1 (zam hr h2)
  case field T x i =>
    replace h := qaf h; obtain ⟨hT, h⟩ := h
    obtain ⟨rfl, z, h1, h2⟩ := field_sound hP hT (za2 he x) h
    simp only [execOp, hop]
    exact zao h1 (zam hr h2)
  case indexAddr T x i =>
    obtain ⟨rfl, z, h1, h2⟩ := indexAddr_sound hP (za2 he x) (za2 he i) h
    simp only [execOp, hop]
    exact zao h1 (zam hr h2)
  case index T x i =>
    obtain ⟨rfl, z, h1, h2⟩ := index_sound hP (za2 he x) (za2 he i) h
    simp only [execOp, hop]
    exact zao h1 (zam hr h2)
  case extract x i =>
    obtain ⟨rfl, z, h1, h2⟩ := extract_sound (za2 he x) h
    simp only [execOp, hop]
    exact zao h1 (zam hr h2)
  case call cl =>
    obtain ⟨cal, args, ats⟩ := cl
    cases cal <;> (try simp only at h) <;> try exact (yae h).elim
    rename_i b
    have hex : execOp a.eval o = builtin b ats o.type (args.map fun | .const _ => true | _ => false) (args.map a.eval) := by
      unfold execOp
      rw [hop]
      rfl
    rw [hex]
    simp only [evs] at h
    have hargs : args.map a.eval = (args.toList.map a.eval).toArray := by rw [← Array.toList_map]
    rw [hargs]
    generalize hal : args.toList = al at h ⊢
    unfold qa3 at h
    split at h
    · rename_i T ts x e1 e2
      match al, e2 with
      | [x0], e2 =>
        simp only [List.map_cons, List.map_nil, List.cons.injEq, and_true] at e2
        subst e2
        obtain ⟨rfl, z, h1, h2⟩ := len_sound (ts := ats) (ty := o.type) (by rw [← Array.getElem?_toList, e1]; rfl) (za2 he x0) h
        simp only [builtin, List.map_cons, List.map_nil]
        exact zao h1 (zam hr h2)
    · rename_i ts x y e2
      match al, e2 with
      | [x0, y0], e2 =>
        simp only [List.map_cons, List.map_nil, List.cons.injEq, and_true] at e2
        obtain ⟨rfl, rfl⟩ := e2
        obtain ⟨rfl, z, h1, h2⟩ := min_sound (ts := ats) (ty := o.type) (za2 he x0) (za2 he y0) h
        simp only [builtin, List.map_cons, List.map_nil]
        exact zao h1 (zam hr h2)
    · rename_i ts x y e2
      match al, e2 with
      | [x0, y0], e2 =>
        simp only [List.map_cons, List.map_nil, List.cons.injEq, and_true] at e2
        obtain ⟨rfl, rfl⟩ := e2
        obtain ⟨rfl, z, h1, h2⟩ := max_sound (ts := ats) (ty := o.type) (za2 he x0) (za2 he y0) h
        simp only [builtin, List.map_cons, List.map_nil]
        exact zao h1 (zam hr h2)
    · rename_i T ts x e1 e2
      match al, e2 with
      | [x0], e2 =>
        simp only [List.map_cons, List.map_nil, List.cons.injEq, and_true] at e2
        subst e2
        obtain ⟨z, w', h1, h2⟩ := clear_sound (ts := ats) (ty := o.type) hP hr (by rw [← Array.getElem?_toList, e1]; rfl) (za2 he x0) h
        simp only [builtin, List.map_cons, List.map_nil]
        exact zao h1 h2
    · rename_i T ts x y e1 e2
      match al, e2 with
      | [x0, y0], e2 =>
        simp only [List.map_cons, List.map_nil, List.cons.injEq, and_true] at e2
        obtain ⟨rfl, rfl⟩ := e2
        obtain ⟨z, w', h1, h2⟩ := copy_sound (ts := ats) (ty := o.type) hP hr (by rw [← Array.getElem?_toList, e1]; rfl) (za2 he x0) (za2 he y0) h
        simp only [builtin, List.map_cons, List.map_nil]
        exact zao h1 h2
    · rename_i T T2 x y e1 e2
      match al, e2 with
      | [x0, y0], e2 =>
        simp only [List.map_cons, List.map_nil, List.cons.injEq, and_true] at e2
        obtain ⟨rfl, rfl⟩ := e2
        obtain ⟨e0, hs, h0⟩ := hh (by rw [hop]; rfl)
        have hats : ats = #[T, T2] := by apply Array.ext'; simpa using e1
        split at h
        · rename_i hT2
          obtain ⟨z, w', h1, h2⟩ := append_sound (ty := o.type) hP hr hs h0 hT2 (za2 he x0) (za2 he y0) h
          simp only [builtin, List.map_cons, List.map_nil, hats]
          exact zao h1 h2
        · cases hS : zab P T2 <;> rw [hS] at h <;> simp only [stAppendI] at h <;> try exact (yae h).elim
          cases hy : ev env y0 <;> rw [hy] at h <;> simp only at h <;> try exact (yae h).elim
          have hyv := za2 he y0
          rw [hy] at hyv
          obtain ⟨z, w', h1, h2⟩ := appendN_sound (ty := o.type) hP hr hs h0 hS (za2 he x0) hyv h
          simp only [builtin, List.map_cons, List.map_nil, hats]
          exact zao h1 h2
    · rename_i T ts x e1 e2
      match al, e2 with
      | [x0], e2 =>
        simp only [List.map_cons, List.map_nil, List.cons.injEq, and_true] at e2
        subst e2
        obtain ⟨rfl, z, h1, h2⟩ := cap_sound (ts := ats) (ty := o.type) (by rw [← Array.getElem?_toList, e1]; rfl) (za2 he x0) h
        simp only [builtin, List.map_cons, List.map_nil]
        exact zao h1 (zam hr h2)
    · exact (yae h).elim
end
end Go.Abs
set_option linter.all false
namespace Go.Abs
open Go
section
variable {P : Program}
def ycb (P : Program) (f : FuncId) : Bool := match P.funcs[f]? with
  | some fn => fn.name != "runtime.NumGoroutine" && fn.body.isSome
  | none => false
def FSpec (P : Program) (f : FuncId) (args : List AV) (h : List Entry) (K : AV → List Entry → Prop) : Prop :=
  ycb P f = true ∧ ∀ (κ : Nat → Option Nat) (w : World) (vs : List Value), HR P ⟨κ, h, w⟩ → ya2 P ⟨κ, h, w⟩ args vs → Calls P f vs.toArray w fun e w' =>
    ∃ (v : Value) (r : AV) (h' : List Entry) (κ' : Nat → Option Nat), e = .returned v ∧ HR P ⟨κ', h', w'⟩ ∧ Ext ⟨κ, h, w⟩ ⟨κ', h', w'⟩ ∧ VV P ⟨κ', h', w'⟩ r v ∧ K r h'
theorem FSpec.mono {f : FuncId} {args : List AV} {h : List Entry} {K K' : AV → List Entry → Prop} (hs : FSpec P f args h K) (hk : ∀ r h', K r h' → K' r h') : FSpec P f args h K' :=
  ⟨hs.1, fun κ w vs hr hv => (hs.2 κ w vs hr hv).mono fun e w' ⟨v, r, h', κ', h1, h2, h3, h4, h5⟩ => ⟨v, r, h', κ', h1, h2, h3, h4, hk _ _ h5⟩⟩
def wk (P : Program) : Nat → TypeId → AV → AV
  | 0, _, a => a
  | n + 1, T, a => match a with
    | .nils => match zab P T with
      | .slice e => .list e []
      | _ => .nils
    | .agg T' vs => if T' = T then (match zab P T with
      | .struct => .agg T (List.zipWith (fun (f : TypeId × Nat) v => wk P n f.1 v) (qaj P T) vs)
      | .arr _ e => .agg T (vs.map (wk P n e))
      | _ => .agg T vs) else .agg T' vs
    | a => a
theorem wk_agg {n : Nat} {T : TypeId} {a : AV} : isAgg (wk P n T a) = isAgg a := by
  cases n with
  | zero => rfl
  | succ n =>
    cases a <;> simp only [wk]
    case nils => split <;> rfl
    case agg T' vs =>
      split
      · split <;> rfl
      · rfl
theorem wk_rep {c : Cx} : ∀ (n : Nat) (T : TypeId) (a : AV) (cs : List Value), yaz P a T → Rep P c a cs → yaz P (wk P n T a) T ∧ Rep P c (wk P n T a) cs
  | 0, T, a, cs, ht, h => ⟨ht, h⟩
  | n + 1, T, a, cs, ht, h => by
    have IH := wk_rep (c := c) n
    cases a <;> simp only [wk] <;> try exact ⟨ht, h⟩
    case nils =>
      simp only [yaz] at ht
      obtain ⟨e, hs⟩ := ht
      rw [hs]
      simp only [Rep] at h
      subst h
      refine ⟨by simp only [yaz]; exact hs, ?_⟩
      simp only [Rep]
      exact ⟨none, 0, rfl, Nat.le_refl _, fun h => absurd rfl h⟩
    case agg T' vs =>
      simp only [yaz] at ht
      subst ht
      rw [if_pos rfl]
      have h' := h
      simp only [Rep] at h'
      cases hs : zab P T' <;> rw [hs] at h' <;> simp only [and_false] at h'
      case struct =>
        refine ⟨by simp only [yaz], ?_⟩
        simp only [Rep, hs]
        refine ⟨h'.1, ?_⟩
        obtain ⟨hl, hall⟩ := repF_iff.1 h'.2
        refine repF_iff.2 ⟨by simp [hl], fun i v f hv hf => ?_⟩
        rw [List.getElem?_zipWith] at hv
        simp only [hf] at hv
        cases hvi : vs[i]? with
        | none => simp [hvi] at hv
        | some u =>
          simp only [hvi, Option.some.injEq] at hv
          subst hv
          obtain ⟨h1, h2⟩ := hall i u f hvi hf
          exact IH f.1 u _ h1 h2
      case arr m e =>
        refine ⟨by simp only [yaz], ?_⟩
        simp only [Rep, hs]
        refine ⟨h'.1, by simpa using h'.2.1, repE_iff.2 fun i v hv => ?_⟩
        rw [List.getElem?_map, Option.map_eq_some_iff] at hv
        obtain ⟨u, hu, rfl⟩ := hv
        obtain ⟨h1, h2⟩ := qa7 h'.2.2 hu
        exact IH e u _ h1 h2
def argsOK (P : Program) : List TypeId → List AV → Prop
  | [], [] => True
  | T :: ts, a :: as => tyB P a T = true ∧ argsOK P ts as
  | _, _ => False
def wks (P : Program) : List TypeId → List AV → List AV
  | T :: ts, a :: as => wk P 6 T a :: wks P ts as
  | _, as => as
theorem wks_rep {c : Cx} : ∀ (ts : List TypeId) (as : List AV) (vs : List Value), argsOK P ts as → ya2 P c as vs → ya2 P c (wks P ts as) vs
  | [], [], vs, _, h => by simpa only [wks] using h
  | [], _ :: _, vs, ho, h => ho.elim
  | _ :: _, [], vs, ho, h => ho.elim
  | T :: ts, a :: as, vs, ho, h => by
    simp only [ya2] at h
    obtain ⟨v, r, rfl, h1, h2, h3⟩ := h
    simp only [wks, ya2]
    refine ⟨v, r, rfl, by rw [wk_agg]; exact h1, (wk_rep 6 T a _ (tyB_ok ho.1) h2).2, wks_rep ts as r ho.2 h3⟩
def isRefA : AV → Bool
  | .ref .. => true
  | .eref .. => true
  | _ => false
def argsR (P : Program) : List TypeId → List AV → Prop
  | [], [] => True
  | T :: ts, a :: as => (tyB P a T || isRefA a) = true ∧ argsR P ts as
  | _, _ => False
theorem wks_repR {c : Cx} : ∀ (ts : List TypeId) (as : List AV) (vs : List Value), argsR P ts as → ya2 P c as vs → ya2 P c (wks P ts as) vs
  | [], [], vs, _, h => by simpa only [wks] using h
  | [], _ :: _, vs, ho, h => ho.elim
  | _ :: _, [], vs, ho, h => ho.elim
  | T :: ts, a :: as, vs, ho, h => by
    simp only [ya2] at h
    obtain ⟨v, r, rfl, h1, h2, h3⟩ := h
    simp only [wks, ya2]
    refine ⟨v, r, rfl, by rw [wk_agg]; exact h1, ?_, wks_repR ts as r ho.2 h3⟩
    rcases Bool.or_eq_true _ _ ▸ ho.1 with ht | hr
    · exact (wk_rep 6 T a _ (tyB_ok ht) h2).2
    · cases a <;> simp only [isRefA, Bool.false_eq_true] at hr <;> exact h2
theorem ydb {c : Cx} : ∀ {as bs : List AV} {vs us : List Value}, ya2 P c as vs → ya2 P c bs us → ya2 P c (as ++ bs) (vs ++ us)
  | [], bs, vs, us, h, h' => by simp only [ya2] at h; subst h; simpa using h'
  | a :: as, bs, vs, us, h, h' => by
    simp only [ya2] at h
    obtain ⟨v, r, rfl, h1, h2, h3⟩ := h
    simp only [List.cons_append, ya2]
    exact ⟨v, r ++ us, rfl, h1, h2, ydb h3 h'⟩
def Fr (r : Option Nat) : Fence := { fn := fun _ => True, depth := none, alive := false, round := r }
theorem room_fr {r : Option Nat} (n : Nat) : (Fr r).room n := fun _ h => by simp [Fr] at h
theorem comesIn_fr {r : Option Nat} {m m' : Machine} {e : Ending} (h : Go.Comes P m m' e) : ComesIn (Machine.fenced P (Fr r)) P m m' e := comesIn_wide.2 h
theorem callsIn_fr {r : Option Nat} {n : Nat} {f : FuncId} {args : Array Value} {w : World} {R : Ending → World → Prop} (h : Calls P f args w R) : CallsIn (Fr r) n P f args w R :=
  ⟨trivial, fun cs _ => let ⟨e, w', fr, q, s, x⟩ := h cs; ⟨e, w', fr, q, comesIn_fr s, x⟩⟩
theorem calls_fr {r : Option Nat} {n : Nat} {f : FuncId} {args : Array Value} {w : World} {R : Ending → World → Prop} (h : CallsIn (Fr r) n P f args w R) : Calls P f args w R :=
  h.calls room_fr
def YSpec (P : Program) (f : FuncId) (caps args : List AV) (h : List Entry) (K : AV → List Entry → Prop) : Prop :=
  ∀ (κ : Nat → Option Nat) (w : World) (vs : List Value) (l : Nat) (L : Loop), HR P ⟨κ, h, w⟩ → ya2 P ⟨κ, h, w⟩ args vs → w.heap[l]? = some (.loop L) → ¬ (⟨κ, h, w⟩ : Cx).O l → L.state = .ready → L.pending = none →
    loopOf P f = some (L.params, L.assign, L.body) → zdx P ⟨κ, h, w⟩ caps (.tuple #[] :: L.tmps.toList) →
    ∃ tmps, (Instr.yield l vs.toArray).run P w = .ok (.round l L.fn tmps L.assign L.body) w ∧ ∀ r n, RoundIn (Fr r) n P l L.fn tmps L.assign L.body w fun e w' =>
      ∃ (v : Value) (x : AV) (h' : List Entry) (κ' : Nat → Option Nat), e = .returned v ∧ HR P ⟨κ', h', w'⟩ ∧ Ext ⟨κ, h, w⟩ ⟨κ', h', w'⟩ ∧ VV P ⟨κ', h', w'⟩ x v ∧ K x h'
theorem YSpec.mono {f : FuncId} {caps args : List AV} {h : List Entry} {K K' : AV → List Entry → Prop} (hs : YSpec P f caps args h K) (hk : ∀ r h', K r h' → K' r h') : YSpec P f caps args h K' := by
  intro κ w vs l L h1 h2 h3 h4 h5 h6 h7 h8
  obtain ⟨tmps, e, g⟩ := hs κ w vs l L h1 h2 h3 h4 h5 h6 h7 h8
  exact ⟨tmps, e, fun r n => (g r n).mono fun e w' ⟨v, x, h', κ', a1, a2, a3, a4, a5⟩ => ⟨v, x, h', κ', a1, a2, a3, a4, hk _ _ a5⟩⟩
theorem tyB_plain {r : AV} {T : TypeId} (ht : tyB P r T = true) : zah r = true := by
  cases r <;> first | rfl | (simp only [tyB, Bool.and_eq_true] at ht; exact ht.2) | simp [tyB] at ht
def Stp.wp (h : List Entry) (K : AV → List Entry → Prop) : Stp → Prop
  | .fail => False
  | .ret v wr => K v (yay h wr)
  | .rd k f => match h[k]? with
    | some e => (f e).wp h K
    | none => False
theorem Stp.wp_run {h : List Entry} {K : AV → List Entry → Prop} : ∀ {s : Stp}, s.wp h K → ∃ v wr, s.run h = some (v, wr) ∧ K v (yay h wr)
  | .fail, hw => hw.elim
  | .ret v wr, hw => ⟨v, wr, rfl, hw⟩
  | .rd k f, hw => by
    simp only [Stp.wp, Stp.run] at hw ⊢
    cases he : h[k]? with
    | none => simp [he] at hw
    | some e => simp only [he] at hw ⊢; exact Stp.wp_run hw
def nilEq : AV → Option (Bool → Prop)
  | .nils => some fun b => b = true
  | .list _ es => some fun b => es ≠ [] → b = false
  | .win _ _ _ _ n _ => some fun b => n ≠ 0 → b = false
  | _ => none
def za6 : Operand → Bool
  | .const (.slice none _ _) => true
  | _ => false
def opwp (P : Program) (env : List (Nat × AV)) (h : List Entry) (o : Op) (K : AV → List Entry → Prop) : Prop :=
  match o with
  | .call { callee := .value f, args, argTypes } => match ev env f with
    | .fn g caps => argsR P argTypes.toList (evs env args) ∧ (evs env args).all zah = true ∧ ((isY caps = false ∧ (FSpec P g (wks P argTypes.toList (evs env args) ++ caps) h K ∨ FSpec P g (evs env args ++ caps) h K)) ∨
        (isY caps = true ∧ YSpec P g caps (evs env args) h K))
    | _ => False
  | .pick c a b => match ev env c with
    | .bool t => (t = true → K (ev env a) h) ∧ (t = false → K (ev env b) h)
    | _ => False
  | .binOp op T x y T2 => if za6 y = true then (match nilEq (ev env x), op with
      | some p, .eql => qay (zab P T) = true ∧ ∀ b, p b → K (.bool b) h
      | some p, .neq => qay (zab P T) = true ∧ ∀ b, p b → K (.bool (!b)) h
      | _, _ => False)
    else (stBin P op T (ev env x) (ev env y)).wp h K
  | o => if qa2 o = true then (step P env h.length o).wp (h ++ [⟨0, [], .hole⟩]) K else (step P env 0 o).wp h K
theorem ydo {f : FuncId} (h : ycb P f = true) (args : Array Value) (w : World) : (callFunc f args).run P w = .ok (.enter f args) w := by
  unfold ycb at h
  cases hf : P.funcs[f]? with
  | none => rw [hf] at h; cases h
  | some fn =>
    rw [hf] at h
    simp only [Bool.and_eq_true, bne_iff_ne, ne_eq] at h
    have h1 : (fn.name == "runtime.NumGoroutine") = false := by simpa using h.1
    have h2 : fn.body.isNone = false := by simpa using h.2
    simp only [callFunc, Sem.run_bind, run_program, Result.andThen_ok, hf, h1, h2, Bool.false_eq_true, if_false, Sem.run_pure]
theorem fn_vv {c : Cx} {f : FuncId} {caps : List AV} {v : Value} (hy : isY caps = false) (h : VV P c (.fn f caps) v) : ∃ vs : List Value, v = .func (.func f) #[] vs.toArray ∧ ya2 P c caps vs := by
  obtain ⟨_, h⟩ := (zba rfl (by simp) (by simp)).1 h
  simp only [Rep] at h
  rcases h with ⟨_, _, vs, h1, h2⟩ | ⟨h0, _⟩
  · exact ⟨vs, by simpa using h1, h2⟩
  · rw [hy] at h0; cases h0
theorem fn_yv {c : Cx} {f : FuncId} {caps : List AV} {v : Value} (hy : isY caps = true) (h : VV P c (.fn f caps) v) : ∃ (l : Nat) (L : Loop), v = .func (.yield l) #[] #[] ∧ c.w.heap[l]? = some (.loop L) ∧ ¬ c.O l ∧ L.state = .ready ∧ L.pending = none ∧
    loopOf P f = some (L.params, L.assign, L.body) ∧ zdx P c caps (.tuple #[] :: L.tmps.toList) := by
  obtain ⟨_, h⟩ := (zba rfl (by simp) (by simp)).1 h
  simp only [Rep] at h
  rcases h with ⟨h0, _⟩ | ⟨_, l, L, h1, h2⟩
  · rw [hy] at h0; cases h0
  · exact ⟨l, L, by simpa using h1, h2⟩
theorem notDefer_call {o : Oper} {c : Call} (h : o.op = .call c) : ∀ c', o.op ≠ .defer c' := fun c' => by rw [h]; simp
theorem zci {r : Option Nat} {o : Oper} {a : Act} {w : World} {next : Act → World → Prop} {Q : Exit → Act → World → Prop} (hd : ∀ c, o.op ≠ .defer c) (h : o.uponIn (Fr r) 0 P a next Q ((execOp a.eval o).run P w)) : o.wpIn (Fr r) 0 P a w next Q :=
  ⟨fun _ _ => trivial, by rw [Oper.semAt_eq _ _ _ hd]; exact h⟩
theorem nilEq_spec {c : Cx} {x : AV} {v : Value} {p : Bool → Prop} (hv : VV P c x v) (hp : nilEq x = some p) : ∃ a n k, v = .slice a n k ∧ p a.isNone := by
  cases x <;> simp only [nilEq, reduceCtorEq, Option.some.injEq] at hp
  case nils => subst hp; obtain rfl := zb3 hv; exact ⟨none, 0, 0, rfl, rfl⟩
  case list T es =>
    subst hp
    obtain ⟨a, cap, rfl, hc, hne⟩ := zda hv
    refine ⟨a, _, cap, rfl, fun h => ?_⟩
    obtain ⟨b, off, C, Te, m, rfl, _⟩ := hne h
    rfl
  case win k q T fr n lo =>
    subst hp
    obtain ⟨e, cap, a, _, _, rfl, _, hn, _, hc⟩ := yby hv
    refine ⟨a, n, cap, rfl, fun h => ?_⟩
    obtain ⟨b, off, C, m, _, _, _, _, rfl, _⟩ := hc (by omega)
    rfl
theorem upon_rok {ro : Option Nat} {c : Cx} {o : Oper} {a : Act} {next : Act → World → Prop} {Q : Exit → Act → World → Prop} {r : AV} {wr : List (Nat × Entry)} {x : Result Next} (h : ROK P c r wr x)
    (hn : ∀ v w', Done P c r wr v w' → next (a.put o.dst v) w') : o.uponIn (Fr ro) 0 P a next Q x := by
  cases x with
  | ok n w' =>
    cases n <;> simp only [ROK] at h <;> try exact h.elim
    · exact hn _ _ h
    · exact hn _ _ h
  | halt _ _ => exact h.elim
def Next1 (P : Program) (c : Cx) (o : Oper) (a : Act) (K : AV → List Entry → Prop) (next : Act → World → Prop) : Prop :=
  ∀ (v : Value) (c' : Cx) (r : AV), HR P c' → Ext c c' → VV P c' r v → K r c'.h → next (a.put o.dst v) c'.w
theorem stp_sound {ro : Option Nat} (hP : WF P) {c : Cx} (hr : HR P c) {env : List (Nat × AV)} {a : Act} (he : ER P c env a.tmps) (o : Oper) {K : AV → List Entry → Prop} {next : Act → World → Prop} {Q : Exit → Act → World → Prop}
    {s : Nat} (hm : qa2 o.op = false) (hw : (step P env s o.op).wp c.h K) (hn : Next1 P c o a K next) : o.wpIn (Fr ro) 0 P a c.w next Q := by
  have hd : ∀ c, o.op ≠ .defer c := fun c h => by rw [h] at hw; simp [step, Stp.wp] at hw
  obtain ⟨r, wr, h1, h2⟩ := Stp.wp_run hw
  refine zci hd ?_
  refine upon_rok (ydq hP hr he o (by rw [hm]; intro h; cases h) h1) fun v w' ⟨κ', d1, d2, d3⟩ => ?_
  exact hn v ⟨κ', yay c.h wr, w'⟩ r d1 d2 d3 h2
theorem zc2 {ro : Option Nat} (hP : WF P) {c : Cx} (hr : HR P c) {env : List (Nat × AV)} {a : Act} (he : ER P c env a.tmps) (o : Oper) {K : AV → List Entry → Prop} {next : Act → World → Prop} {Q : Exit → Act → World → Prop}
    (hw : opwp P env c.h o.op K) (hn : Next1 P c o a K next) : o.wpIn (Fr ro) 0 P a c.w next Q := by
  by_cases hm : qa2 o.op = true
  · have hw' : (step P env c.h.length o.op).wp (c.h ++ [⟨0, [], .hole⟩]) K := by
      unfold opwp at hw
      split at hw
      · rename_i h1; rw [h1] at hm; simp [qa2] at hm
      · rename_i h1; rw [h1] at hm; simp [qa2] at hm
      · rename_i h1; rw [h1] at hm; simp [qa2] at hm
      · rw [if_pos hm] at hw; exact hw
    have x1 := ext_holes (c := c) 1
    have hr1 := hr_holes hr 1
    obtain ⟨r, wr, h1, h2⟩ := Stp.wp_run hw'
    have he1 : ER P { c with h := c.h ++ zdc 1 } env a.tmps := fun t => qc9 x1 (he t)
    refine zci (fun c h => by rw [h] at hm; simp [qa2] at hm) ?_
    refine upon_rok (ydq (c := { c with h := c.h ++ zdc 1 }) (s := c.h.length) hP hr1 he1 o (fun _ => ⟨⟨0, [], .hole⟩, by simp [zdc], rfl⟩) h1) fun v w' ⟨κ', d1, d2, d3⟩ => ?_
    exact hn v ⟨κ', yay (c.h ++ zdc 1) wr, w'⟩ r d1 (x1.trans d2) d3 h2
  · have hm : qa2 o.op = false := by simpa using hm
    unfold opwp at hw
    split at hw
    · rename_i f args argTypes hop
      have hf := za2 he f
      cases hg : ev env f <;> rw [hg] at hw hf <;> try exact hw.elim
      rename_i g caps
      obtain ⟨ha, hpl, hs⟩ := hw
      have hdf := notDefer_call hop
      have hav := repV_map he args.toList (by simpa [evs] using hpl)
      rcases hs with ⟨hy, hs⟩ | ⟨hy, hs⟩
      rotate_left
      · obtain ⟨l, L, hfv, g1, g2, g3, g4, g5, g6⟩ := fn_yv hy hf
        obtain ⟨tmps, k1, k2⟩ := hs c.κ c.w _ l L hr hav g1 g2 g3 g4 g5 g6
        have hex : (execOp a.eval o).run P c.w = .ok (.round l L.fn tmps L.assign L.body) c.w := by
          simp only [execOp, hop, resolve, hfv, Deferred.ofValue, Sem.run_bind, Sem.run_pure, Result.andThen_ok, invoke]
          rw [← k1]
          congr 2
          apply Array.ext'
          simp
        refine zci hdf ?_
        rw [hex, Oper.uponIn_round]
        refine ⟨fun h => by simp [Fr] at h, (k2 ro _).mono ?_⟩
        rintro e w'' ⟨v, r, h', κ', rfl, q1, q2, q3, q4⟩
        exact hn v ⟨κ', h', w''⟩ r q1 q2 q3 q4
      obtain ⟨cvs, hfv, hcv⟩ := fn_vv hy hf
      have hex : (execOp a.eval o).run P c.w = .ok (.enter g (args.map a.eval ++ cvs.toArray)) c.w := by
        simp only [execOp, hop, resolve, hfv, Deferred.ofValue, Sem.run_bind, Sem.run_pure, Result.andThen_ok, invoke]
        rw [ydo (hs.elim (fun h => h.1) fun h => h.1)]
        simp
      refine zci hdf ?_
      rw [hex, Oper.uponIn_enter]
      refine ⟨fun h => by simp [Fr] at h, callsIn_fr ?_⟩
      have hall := ydb (wks_repR argTypes.toList (evs env args) _ ha hav) hcv
      have hall2 := ydb hav hcv
      have hvs : (args.map a.eval ++ cvs.toArray) = (args.toList.map a.eval ++ cvs).toArray := by
        apply Array.ext'
        simp
      rw [hvs]
      rcases hs with hs | hs
      · refine (hs.2 c.κ c.w _ hr hall).mono ?_
        rintro e w'' ⟨v, r, h', κ', rfl, k1, k2, k3, k4⟩
        exact hn v ⟨κ', h', w''⟩ r k1 k2 k3 k4
      · refine (hs.2 c.κ c.w _ hr hall2).mono ?_
        rintro e w'' ⟨v, r, h', κ', rfl, k1, k2, k3, k4⟩
        exact hn v ⟨κ', h', w''⟩ r k1 k2 k3 k4
    · rename_i x y z hop
      have hx := za2 he x
      cases hb : ev env x <;> rw [hb] at hw hx <;> try exact hw.elim
      rename_i b
      have hx := ybs hx
      have hex : (execOp a.eval o).run P c.w = .ok (.value (if b then a.eval y else a.eval z)) c.w := by
        simp only [execOp, hop, hx, asBool, Sem.run_bind, Sem.run_pure, Result.andThen_ok]
      refine zci (fun c h => by rw [hop] at h; cases h) ?_
      rw [hex, Oper.uponIn_value]
      cases b
      · exact hn _ c _ hr (Ext.refl c) (za2 he z) (hw.2 rfl)
      · exact hn _ c _ hr (Ext.refl c) (za2 he y) (hw.1 rfl)
    · rename_i op T x y T2 hop
      split at hw
      · rename_i hy
        have hx := za2 he x
        obtain ⟨n', c', hyv⟩ : ∃ n' c', a.eval y = .slice none n' c' := by
          unfold za6 at hy
          split at hy
          · exact ⟨_, _, rfl⟩
          · cases hy
        split at hw
        · rename_i p hp
          obtain ⟨hs, hall⟩ := hw
          obtain ⟨e, hs⟩ := qa6 hs
          obtain ⟨s, n, k, hv, hpa⟩ := nilEq_spec hx hp
          have hex : (execOp a.eval o).run P c.w = .ok (.value (.bool s.isNone)) c.w := by
            simp only [execOp, hop, hyv, hv, Sem.run_bind, qbi (P := P) (a := Value.slice s n k) (by simp) (by simp), Result.andThen_ok, Lib.run_eql_slice_nil c.w T e s n k n' c' (qah hs), Sem.run_pure]
          refine zci (fun c h => by rw [hop] at h; cases h) ?_
          rw [hex, Oper.uponIn_value]
          exact hn _ c _ hr (Ext.refl c) yau (hall _ hpa)
        · rename_i p hp
          obtain ⟨hs, hall⟩ := hw
          obtain ⟨e, hs⟩ := qa6 hs
          obtain ⟨s, n, k, hv, hpa⟩ := nilEq_spec hx hp
          have hneq : (binOp .neq T (.slice s n k) (.slice none n' c')).run P c.w = .ok (.bool (!s.isNone)) c.w := by
            simp only [binOp]
            have := Lib.run_equalIn_slice_nil c.w 9999 T e s n k n' c' (qah hs)
            simp [Op.equal, Op.maxDepth, this]
          have hex : (execOp a.eval o).run P c.w = .ok (.value (.bool (!s.isNone))) c.w := by
            simp only [execOp, hop, hyv, hv, Sem.run_bind, qbi (P := P) (a := Value.slice s n k) (by simp) (by simp), Result.andThen_ok, hneq, Sem.run_pure]
          refine zci (fun c h => by rw [hop] at h; cases h) ?_
          rw [hex, Oper.uponIn_value]
          exact hn _ c _ hr (Ext.refl c) yau (hall _ hpa)
        · exact hw.elim
      · refine stp_sound (s := 0) hP hr he o hm ?_ hn
        rw [hop]
        exact hw
    · rw [if_neg (by rw [hm]; simp)] at hw
      exact stp_sound (s := 0) hP hr he o hm hw hn
end
end Go.Abs
