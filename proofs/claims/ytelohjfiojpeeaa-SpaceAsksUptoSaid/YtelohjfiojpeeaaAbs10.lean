/- Abs10: a part of the proofs about the tuple space (layer 8). -/
import Derived.Test.YtelohjfiojpeeaaAbs9
set_option linter.all false
namespace Go.Abs
open Go
section
variable {P : Program}

def drewCx (c : Cx) : Cx := { c with w := c.w.drew }
theorem ext_drew1 (c : Cx) : Ext c (drewCx c) := ext_drew (c := c) 1
theorem hr_drew1 {c : Cx} (h : HR P c) : HR P (drewCx c) := hr_drew h 1

/-- The block of one entry is taken over by another one. -/
def adoptCx (c : Cx) (k s b : Nat) (d : Entry) (e : TypeId) (es : List AV) (C : Array Value) : Cx :=
  { κ := fun j => if j = s then some b else c.κ j, h := (c.h.set k d).set s ⟨e, es, .own⟩, w := putBlk c.w b (.cells C e) }

theorem O_adopt {c : Cx} {k s b : Nat} {d en e0 : Entry} {e : TypeId} {es : List AV} {C : Array Value} (hk : c.h[k]? = some en) (ho : en.st = .own) (hd : d.st = .dead) (hb : c.κ k = some b)
    (hs : c.h[s]? = some e0) (h0 : e0.st = .hole) {b' : Nat} : (adoptCx c k s b d e es C).O b' ↔ c.O b' := by
  have hks : k ≠ s := by rintro rfl; rw [hk] at hs; cases hs; rw [ho] at h0; cases h0
  have hkl := (List.getElem?_eq_some_iff.1 hk).1
  have hsl := (List.getElem?_eq_some_iff.1 hs).1
  constructor
  · rintro ⟨j, x, hx, hst, hj⟩
    rcases set_get hx with ⟨rfl, rfl, _⟩ | ⟨hne, hx⟩
    · simp only [adoptCx, if_true, Option.some.injEq] at hj
      subst hj
      exact ⟨k, en, hk, ho, hb⟩
    · rcases set_get hx with ⟨rfl, rfl, _⟩ | ⟨hne2, hx⟩
      · rw [hd] at hst; cases hst
      · simp only [adoptCx, hne, if_false] at hj
        exact ⟨j, x, hx, hst, hj⟩
  · rintro ⟨j, x, hx, hst, hj⟩
    by_cases hjk : j = k
    · subst hjk
      rw [hb] at hj
      cases hj
      exact ⟨s, ⟨e, es, .own⟩, by simp only [adoptCx]; rw [List.getElem?_set_self (by simpa using hsl)], rfl, by simp [adoptCx]⟩
    · have hjs : j ≠ s := by rintro rfl; rw [hs] at hx; cases hx; rw [h0] at hst; cases hst
      exact ⟨j, x, by simp only [adoptCx]; rw [List.getElem?_set_ne (by omega), List.getElem?_set_ne (by omega)]; exact hx, hst, by simpa [adoptCx, hjs] using hj⟩

theorem ext_adopt {c : Cx} {k s b : Nat} {d en e0 : Entry} {es : List AV} {C C0 : Array Value} (hk : c.h[k]? = some en) (ho : en.st = .own) (hd : d.st = .dead) (hdT : d.T = en.T) (hb : c.κ k = some b)
    (hs : c.h[s]? = some e0) (h0 : e0.st = .hole) (hc : c.w.heap[b]? = some (.cells C0 en.T (0, 0))) (hsz : C.size = C0.size) : Ext c (adoptCx c k s b d en.T es C) where
  os := rfl
  tape := rfl
  output := rfl
  size := by simp [adoptCx, putBlk]
  frozen b' hb' hO := putBlk_other (by rintro rfl; exact hO ⟨k, en, hk, ho, hb⟩)
  shape b' C1 T m h := by
    by_cases hbb : b' = b
    · subst hbb
      rw [hc] at h
      cases h
      exact ⟨C, (0, 0), putBlk_same (lt_of_heap hc), hsz, id⟩
    · exact ⟨C1, m, (putBlk_other hbb).trans h, rfl, id⟩
  own b' hb' h := (O_adopt hk ho hd hb hs h0).1 h
  names j x hx hn := by
    have hjs : j ≠ s := by rintro rfl; rw [hs] at hx; cases hx; exact hn h0
    refine ⟨by simp [adoptCx, hjs], ?_⟩
    by_cases hjk : j = k
    · subst hjk
      rw [hk] at hx
      cases hx
      exact ⟨d, by simp only [adoptCx]; rw [List.getElem?_set_ne (by omega), List.getElem?_set_self (List.getElem?_eq_some_iff.1 hk).1], hdT, by rw [hd]; simp, by rw [hd]; simp⟩
    · exact ⟨x, by simp only [adoptCx]; rw [List.getElem?_set_ne (by omega), List.getElem?_set_ne (by omega)]; exact hx, rfl, hn, id⟩

theorem hr_adopt {c : Cx} (hr : HR P c) {k s b : Nat} {d en e0 : Entry} {es : List AV} {C C0 : Array Value} (hk : c.h[k]? = some en) (ho : en.st = .own) (hd : d.st = .dead) (hdT : d.T = en.T) (hb : c.κ k = some b)
    (hs : c.h[s]? = some e0) (h0 : e0.st = .hole) (hc : c.w.heap[b]? = some (.cells C0 en.T (0, 0))) (hsz : C.size = C0.size) (hl : es.length * P.cellsOf en.T ≤ C.size) (hes : RepE P c es en.T C.toList) :
    HR P (adoptCx c k s b d en.T es C) where
  blk j x hx hlv := by
    have xx := ext_adopt (es := es) (C := C) hk ho hd hdT hb hs h0 hc hsz
    rcases set_get hx with ⟨rfl, rfl, _⟩ | ⟨hne, hx⟩
    · exact .inr ⟨b, C, (0, 0), by simp [adoptCx], putBlk_same (lt_of_heap hc), fun _ => rfl, fun h => (by cases h), hl, repE_mono xx _ _ _ hes⟩
    · rcases set_get hx with ⟨rfl, rfl, _⟩ | ⟨hne2, hx⟩
      · rcases hlv with h | h <;> rw [hd] at h <;> cases h
      · have hbk := hr.blk j x hx hlv
        have hx2 := hx
        have hne3 : ∀ b', c.κ j = some b' → b' ≠ b := by
          intro b' hbj hbb
          rcases hlv with hown | hfz
          · exact hne2 (hr.apart j k x en b' hx2 hk hown ho hbj (hbb ▸ hb))
          · exact hbk.fz hbj hfz ⟨k, en, hk, ho, hbb ▸ hb⟩
        exact hbk.keep xx (by simp [adoptCx, hne]) (fun b' hbj => putBlk_other (hne3 b' hbj)) fun b' hbj hf hO => hbk.fz hbj hf ((O_adopt hk ho hd hb hs h0).1 hO)
  apart j j' x x' b' hx hx' hst hst' hj hj' := by
    have key : ∀ j x b', (adoptCx c k s b d en.T es C).h[j]? = some x → x.st = .own → (adoptCx c k s b d en.T es C).κ j = some b' → ∃ i y, c.h[i]? = some y ∧ y.st = .own ∧ c.κ i = some b' ∧ ((j = s ∧ i = k) ∨ (j ≠ s ∧ j ≠ k ∧ i = j)) := by
      intro j x b' hx hst hj
      rcases set_get hx with ⟨rfl, rfl, _⟩ | ⟨hne, hx⟩
      · simp only [adoptCx, if_true, Option.some.injEq] at hj
        subst hj
        exact ⟨k, en, hk, ho, hb, .inl ⟨rfl, rfl⟩⟩
      · rcases set_get hx with ⟨rfl, rfl, _⟩ | ⟨hne2, hx⟩
        · rw [hd] at hst; cases hst
        · simp only [adoptCx, hne, if_false] at hj
          exact ⟨j, x, hx, hst, hj, .inr ⟨hne, hne2, rfl⟩⟩
    obtain ⟨i, y, a1, a2, a3, a4⟩ := key j x b' hx hst hj
    obtain ⟨i', y', b1, b2, b3, b4⟩ := key j' x' b' hx' hst' hj'
    have := hr.apart i i' y y' b' a1 b1 a2 b2 a3 b3
    omega

theorem appendTo_sound (hP : WF P) {c : Cx} (hr : HR P c) {s : Nat} {e0 : Entry} (hs : c.h[s]? = some e0) (h0 : e0.st = .hole) {T T2 ty e : TypeId} {x r : AV} {ys : List AV} {wr : List (Nat × Entry)} {v u : Value}
    (hT : shapeT P T = .slice e) (hT2 : isSlice (shapeT P T2) = true ∨ shapeT P T2 = .str) (hroom : roomOK P e (lenAV x + ys.length) = true) (hv : VV P c x v) (hsrc : Src P c (P.cellsOf e) u e ys) (hsrc2 : Src P (drewCx c) (P.cellsOf e) u e ys)
    (h : (stAppendTo e ys s x).run c.h = some (r, wr)) : ∃ z w', (Builtin.append_ #[T, T2] ty #[v, u]).run P c.w = .ok z w' ∧ Done P c r wr z w' := by
  have hr1 := hr_drew1 hr
  have hz : zOK P e = true := by
    simp only [roomOK, Bool.and_eq_true] at hroom
    exact hroom.2
  have hzs : ∃ z, ∀ w, (zeroValue e).run P w = .ok z w := by
    obtain ⟨z, hz1, _⟩ := zero_sound hP c hz c.w
    unfold zOK at hz
    simp only [Bool.and_eq_true] at hz
    obtain ⟨_, h2⟩ := hz
    split at h2
    · rename_i i hi
      split at h2
      · rename_i z' hz'
        exact ⟨z', fun w => by simp [zeroValue, typeInfo, hi, hz']⟩
      · cases h2
    · cases h2
  obtain ⟨zv, hzv⟩ := hzs
  obtain ⟨z1, hz1, hz2, hz3, hok⟩ := zero_sound hP c hz c.w
  have hzc : zv.cells.size = P.cellsOf e := by
    rw [hzv] at hz1
    cases hz1
    have := rep_length hP hz3 (rep_of_vv hz3 hz2)
    simpa using this
  obtain ⟨hl1, new1, hn1, hs1, hE1, ho1⟩ := hsrc
  obtain ⟨hl2, new2, hn2, hs2, hE2, ho2⟩ := hsrc2
  cases x <;> simp only [stAppendTo] at h <;> try exact (stp_fail h).elim
  case nils =>
    obtain ⟨rfl, rfl⟩ := stp_ret h
    obtain rfl := vv_nils hv
    by_cases hm : ys.length = 0
    · have hy : ys = [] := List.eq_nil_of_length_eq_zero hm
      subst hy
      refine ⟨.slice none 0 0, c.w, ?_, _, hr_ghost hr hs h0, ext_ghost (T := e) hs h0, ?_⟩
      · have := run_append_fits (P := P) (w := c.w) (w' := c.w) (ty := ty) (a := none) (n := 0) (cap := 0) hT hT2 hok hl1 hn1 (by simp) (by simp) (fun _ => rfl)
        simpa using this
      · exact vv_win_mk (e := ⟨e, [], .own⟩) (hole_set hs _) (by simp) (Nat.le_refl _) (Nat.le_refl _) (fun _ => rfl) (fun h => absurd rfl h)
    · simp only [lenAV, Nat.zero_add] at hroom
      obtain ⟨nc, hnc, hrun⟩ := run_append_grows (P := P) (w := c.w) (ty := ty) (a := none) (n := 0) (cap := 0) (old := #[]) hT hT2 hok hl1 hn2 rfl hzv (by simpa using hroom) (by omega)
      simp only [Nat.zero_add] at hrun hnc
      have hC : (#[] ++ new2 ++ Builtin.zeroCells zv.cells (nc - ys.length)).size = nc * P.cellsOf e := by
        have : ys.length * P.cellsOf e + (nc - ys.length) * P.cellsOf e = nc * P.cellsOf e := by rw [← Nat.add_mul]; congr 1; omega
        simp only [Array.size_append, size_zeroCells', hzc, hs2, List.size_toArray, List.length_nil, Nat.zero_add]
        exact this
      have hle : ys.length * P.cellsOf e ≤ nc * P.cellsOf e := Nat.mul_le_mul_right _ (by omega)
      have hE : RepE P (drewCx c) ys e (#[] ++ new2 ++ Builtin.zeroCells zv.cells (nc - ys.length)).toList := by
        refine repE_congr (fun j hj => ?_) hE2
        simp only [Array.toList_append, List.nil_append]
        rw [List.getElem?_append_left (by simp [hs2]; exact hj)]
      refine ⟨_, _, hrun, _, hr_alloc (c := drewCx c) hr1 hs h0 (by omega) hE, (ext_drew1 c).trans (ext_alloc (c := drewCx c) hs h0), ?_⟩
      exact win_new (P := P) (c := drewCx c) hs (by omega) (by omega) (by omega)
  case win k p e' fr n lo =>
    replace h := stp_ite h; obtain ⟨⟨rfl, hp, rfl⟩, h⟩ := h
    obtain rfl := pathless hp
    obtain ⟨en, he, h⟩ := stp_rd h
    replace h := stp_ite h; obtain ⟨⟨ho, hnl⟩, h⟩ := h
    have hwg : winGet en.es [] 0 n = some (en.es.take n) := by simp [winGet, hnl]
    have hv1 := vv_mono (ext_drew1 c) hv
    obtain ⟨so1, old1, sn1, ss1, sE1, _⟩ := src_win hP hr hok hv he (.inl ho) hwg
    obtain ⟨so2, old2, sn2, ss2, sE2, _⟩ := src_win hP hr1 hok hv1 he (.inl ho) hwg
    have htl : (en.es.take n).length = n := by simp; omega
    rw [htl] at sn1 ss1 sn2 ss2
    obtain ⟨en', cap, a, he', hne, rfl, hlo, hn, hpe, hc⟩ := vv_win hv
    rw [he] at he'
    cases he'
    have heT : en.T = e' := hpe rfl
    subst heT
    simp only [lenAV] at hroom
    -- where the room does, on the spot
    have fits : n + ys.length ≤ cap → ∀ (hcap : cap ≠ 0), ∃ b C0, c.κ k = some b ∧ c.w.heap[b]? = some (.cells C0 en.T (0, 0)) ∧ a = some ⟨b, 0, none⟩ ∧ cap * P.cellsOf en.T ≤ C0.size ∧ RepE P c en.es en.T C0.toList ∧ en.es.length * P.cellsOf en.T ≤ C0.size ∧
        (Builtin.append_ #[T, T2] ty #[.slice a n cap, u]).run P c.w = .ok (.slice a (n + ys.length) cap) (putBlk c.w b (.cells (splice C0.toList (n * P.cellsOf en.T) new1.toList).toArray en.T)) := by
      intro hfit hcap
      obtain ⟨b, off, C0, m, g1, g2, g3, g4, rfl, g6, _⟩ := hc hcap
      simp only [winOff, Option.some.injEq, Prod.mk.injEq, true_and] at g2
      subst g2
      obtain ⟨C1, m1, q1, _, _, q2, q3⟩ := hr.block he (.inl ho) g1
      rw [g3] at q1
      cases q1
      rw [g4 ho] at g3
      simp only [Nat.zero_mul, Nat.add_zero, Nat.zero_add] at g6 ⊢
      have hmul : (n + ys.length) * P.cellsOf en.T ≤ cap * P.cellsOf en.T := Nat.mul_le_mul_right _ hfit
      rw [Nat.add_mul] at hmul
      refine ⟨b, C0, g1, g3, rfl, g6, q3, q2, ?_⟩
      have hst := run_storeCells_at (P := P) (T := en.T) (b := b) (off := n * P.cellsOf en.T) new1.toList 0 c.w C0 g3 ho1 (by simp [hs1]; omega)
      refine run_append_fits hT hT2 hok hl1 hn1 hfit ?_ (by simp)
      intro x hx
      cases hx
      simp only [addr_add, Nat.zero_add]
      simpa using hst
    have spliced : ∀ {C0 : Array Value}, RepE P c en.es en.T C0.toList → n * P.cellsOf en.T + ys.length * P.cellsOf en.T ≤ C0.size →
        RepE P c (en.es.take n ++ ys) en.T (splice C0.toList (n * P.cellsOf en.T) new1.toList) := by
      intro C0 hE hb
      have hsl : n * P.cellsOf en.T + new1.toList.length ≤ C0.toList.length := by simp [hs1]; omega
      refine repE_append.2 ⟨?_, ?_⟩
      · have := repE_sub 0 n hE
        simp only [List.drop_zero, Nat.zero_mul] at this
        refine repE_congr (fun j hj => ?_) this
        rw [htl] at hj
        rw [splice_getElem? hsl, if_pos hj]
      · rw [htl]
        refine repE_congr (fun j hj => ?_) hE1
        rw [List.getElem?_drop, splice_getElem? hsl, if_neg (by omega), if_pos (by simp [hs1]; omega)]
        congr 1; omega
    split at h
    · rename_i hin
      obtain ⟨rfl, rfl⟩ := stp_ret h
      by_cases hcap : cap = 0
      · have hy : ys = [] := List.eq_nil_of_length_eq_zero (by omega)
        have hn0 : n = 0 := by omega
        subst hy; subst hn0; subst hcap
        have hnew : new1 = #[] := Array.eq_empty_of_size_eq_zero (by simpa using hs1)
        have hrun := run_append_fits (P := P) (w := c.w) (w' := c.w) (ty := ty) (a := a) (n := 0) (cap := 0) hT hT2 hok hl1 hn1 (by simp) (by intro x hx; simp [hnew, storeCells]) (fun _ => rfl)
        have hself : wrAll c.h [(k, { en with es := en.es.take 0 ++ [] ++ en.es.drop (0 + ([] : List AV).length) })] = c.h := by
          simp only [wrAll, List.take_zero, List.nil_append, List.length_nil, Nat.add_zero, List.drop_zero]
          apply List.ext_getElem?
          intro j
          by_cases hj : j = k
          · subst hj; rw [List.getElem?_set_self (List.getElem?_eq_some_iff.1 he).1, he]
          · rw [List.getElem?_set_ne (by omega)]
        refine ⟨_, c.w, by simpa using hrun, c.κ, ?_, ?_, ?_⟩
        · rw [hself]; exact hr
        · rw [hself]; exact Ext.refl c
        · rw [hself]; simpa using hv
      · obtain ⟨b, C0, g1, g3, rfl, g6, q3, q2, hrun⟩ := fits (by omega) hcap
        have hmul : (n + ys.length) * P.cellsOf en.T ≤ cap * P.cellsOf en.T := Nat.mul_le_mul_right _ (by omega)
        rw [Nat.add_mul] at hmul
        have hsl : n * P.cellsOf en.T + new1.toList.length ≤ C0.toList.length := by simp [hs1]; omega
        have hsz : (splice C0.toList (n * P.cellsOf en.T) new1.toList).toArray.size = C0.size := by simpa using splice_length hsl
        have hE := spliced q3 (by omega)
        have hEall : RepE P c (en.es.take n ++ ys ++ en.es.drop (n + ys.length)) en.T (splice C0.toList (n * P.cellsOf en.T) new1.toList) := by
          refine repE_append.2 ⟨hE, ?_⟩
          have h3 := repE_sub (n + ys.length) en.es.length q3
          rw [List.take_length] at h3
          have : (en.es.take n ++ ys).length = n + ys.length := by simp; omega
          rw [this]
          refine repE_congr (fun j hj => ?_) h3
          rw [List.getElem?_drop, List.getElem?_drop, splice_getElem? hsl, if_neg (by rw [Nat.add_mul]; omega), if_neg (by rw [Nat.add_mul]; simp [hs1] <;> omega)]
        have hlen : (en.es.take n ++ ys ++ en.es.drop (n + ys.length)).length * P.cellsOf en.T ≤ C0.size := by
          have e1 : (en.es.take n ++ ys ++ en.es.drop (n + ys.length)).length = max (n + ys.length) en.es.length := by simp; omega
          rw [e1]
          rcases Nat.le_total (n + ys.length) en.es.length with hh | hh
          · rw [Nat.max_eq_right hh]; exact q2
          · rw [Nat.max_eq_left hh, Nat.add_mul]; omega
        have xw := ext_write (es := en.es.take n ++ ys ++ en.es.drop (n + ys.length)) (C := (splice C0.toList (n * P.cellsOf en.T) new1.toList).toArray) he ho g1 g3 hsz
        refine ⟨_, _, hrun, c.κ, hr_write hr he ho g1 g3 hsz (by rw [hsz]; exact hlen) (by simpa using hEall), xw, ?_⟩
        refine vv_win_mk (e := { en with es := en.es.take n ++ ys ++ en.es.drop (n + ys.length) }) (by simp only [wrAll]; rw [List.getElem?_set_self (List.getElem?_eq_some_iff.1 he).1]) hne hlo (by omega) (fun _ => rfl) fun _ => ?_
        exact ⟨b, 0, (splice C0.toList (n * P.cellsOf en.T) new1.toList).toArray, (0, 0), g1, rfl, putBlk_same (lt_of_heap g3), fun _ => rfl, by simp, by rw [hsz]; simpa using g6, by simp [winLim]⟩
    · rename_i hin
      obtain ⟨rfl, rfl⟩ := stp_ret h
      by_cases hfit : n + ys.length ≤ cap
      · obtain ⟨b, C0, g1, g3, rfl, g6, q3, q2, hrun⟩ := fits hfit (by omega)
        have hmul : (n + ys.length) * P.cellsOf en.T ≤ cap * P.cellsOf en.T := Nat.mul_le_mul_right _ (by omega)
        rw [Nat.add_mul] at hmul
        have hsl : n * P.cellsOf en.T + new1.toList.length ≤ C0.toList.length := by simp [hs1]; omega
        have hsz : (splice C0.toList (n * P.cellsOf en.T) new1.toList).toArray.size = C0.size := by simpa using splice_length hsl
        have hE := spliced q3 (by omega)
        have hlen : (en.es.take n ++ ys).length * P.cellsOf en.T ≤ (splice C0.toList (n * P.cellsOf en.T) new1.toList).toArray.size := by
          rw [hsz, List.length_append, htl, Nat.add_mul]; omega
        refine ⟨_, _, hrun, _, hr_adopt (d := { en with es := [], st := .dead }) hr he ho rfl rfl g1 hs h0 g3 hsz hlen (by simpa using hE), ext_adopt (d := { en with es := [], st := .dead }) he ho rfl rfl g1 hs h0 g3 hsz, ?_⟩
        have hsl2 := (List.getElem?_eq_some_iff.1 hs).1
        refine vv_win_mk (e := ⟨en.T, en.es.take n ++ ys, .own⟩) (by simp only [wrAll]; rw [List.getElem?_set_self (by simpa using hsl2)]) (by simp) (by omega) (by omega) (fun _ => rfl) fun _ => ?_
        exact ⟨b, 0, (splice C0.toList (n * P.cellsOf en.T) new1.toList).toArray, (0, 0), by simp, rfl, putBlk_same (lt_of_heap g3), fun _ => rfl, by simp, by rw [hsz]; simpa using g6, by simp [winLim]⟩
      · obtain ⟨nc, hnc, hrun⟩ := run_append_grows (P := P) (w := c.w) (ty := ty) (a := a) (n := n) (cap := cap) (old := old2) hT hT2 hok hl1 hn2 sn2 hzv hroom (by omega)
        have hsz : (old2 ++ new2 ++ Builtin.zeroCells zv.cells (nc - (n + ys.length))).size = nc * P.cellsOf en.T := by
          simp only [Array.size_append, size_zeroCells', hzc, hs2, ss2, ← Nat.add_mul]
          congr 1; omega
        have hks : k ≠ s := by rintro rfl; rw [he] at hs; cases hs; rw [ho] at h0; cases h0
        -- the old row is given up, then the new block laid
        have hr2 := hr_dim (e' := { en with es := [], st := .dead }) hr1 he rfl (by simp) (by simp) (by simp)
        have x2 := (ext_drew1 c).trans (ext_dim (c := drewCx c) (e' := { en with es := [], st := .dead }) he rfl (by simp) (by simp))
        have hs2' : (c.h.set k { en with es := [], st := .dead })[s]? = some e0 := by rw [List.getElem?_set_ne (by omega)]; exact hs
        have x3 := ext_dim (c := drewCx c) (e' := { en with es := [], st := .dead }) he rfl (by simp) (by simp)
        have hE : RepE P (drewCx c) (en.es.take n ++ ys) en.T (old2 ++ new2 ++ Builtin.zeroCells zv.cells (nc - (n + ys.length))).toList := by
          refine repE_append.2 ⟨?_, ?_⟩
          · refine repE_congr (fun j hj => ?_) sE2
            rw [htl] at hj
            simp only [Array.toList_append, List.append_assoc]
            rw [List.getElem?_append_left (by simp [ss2]; exact hj)]
          · rw [htl]
            refine repE_congr (fun j hj => ?_) hE2
            simp only [Array.toList_append, List.append_assoc, List.getElem?_drop]
            rw [List.getElem?_append_right (by simp [ss2]), List.getElem?_append_left (by simp [ss2, hs2]; omega)]
            congr 1; simp [ss2]
        have hlen : (en.es.take n ++ ys).length * P.cellsOf en.T ≤ (old2 ++ new2 ++ Builtin.zeroCells zv.cells (nc - (n + ys.length))).size := by
          rw [hsz, List.length_append, htl]
          exact Nat.mul_le_mul_right _ hnc
        refine ⟨_, _, hrun, _, hr_alloc (c := { drewCx c with h := c.h.set k { en with es := [], st := .dead } }) hr2 hs2' h0 hlen (repE_mono x3 _ _ _ hE), x2.trans (ext_alloc hs2' h0), ?_⟩
        exact win_new (P := P) (c := { drewCx c with h := c.h.set k { en with es := [], st := .dead } }) hs2' (by omega) (by omega) (by omega)

theorem append_sound (hP : WF P) {c : Cx} (hr : HR P c) {s : Nat} {e0 : Entry} (hs : c.h[s]? = some e0) (h0 : e0.st = .hole) {T T2 ty : TypeId} {x y r : AV} {wr : List (Nat × Entry)} {v u : Value}
    (hT2 : isSlice (shapeT P T2) = true ∨ shapeT P T2 = .str) (hv : VV P c x v) (hu : VV P c y u) (h : (stAppend P T x y s lenAV).run c.h = some (r, wr)) :
    ∃ z w', (Builtin.append_ #[T, T2] ty #[v, u]).run P c.w = .ok z w' ∧ Done P c r wr z w' := by
  unfold stAppend at h
  cases hT : shapeT P T <;> rw [hT] at h <;> simp only at h <;> try exact (stp_fail h).elim
  rename_i e
  replace h := stp_ite h; obtain ⟨hroom, h⟩ := h
  have hok : okT P e = true := by
    simp only [roomOK, zOK, Bool.and_eq_true] at hroom
    exact hroom.2.1.2
  have hu1 := vv_mono (ext_drew1 c) hu
  have hr1 := hr_drew1 hr
  cases y <;> simp only at h <;> try exact (stp_fail h).elim
  case list e' es =>
    replace h := stp_ite h; obtain ⟨rfl, h⟩ := h
    exact appendTo_sound hP hr hs h0 hT hT2 hroom hv (src_list hP hok hu) (src_list hP hok hu1) h
  case str b =>
    replace h := stp_ite h; obtain ⟨hb, h⟩ := h
    exact appendTo_sound hP hr hs h0 hT hT2 (by simpa [lenAV, u8s] using hroom) hv (src_str hP hb hu) (src_str hP hb hu1) h
  case nils => exact appendTo_sound hP hr hs h0 hT hT2 hroom hv (src_nil hP hu) (src_nil hP hu1) h
  case win k p e' fr n lo =>
    replace h := stp_ite h; obtain ⟨rfl, h⟩ := h
    obtain ⟨en, he, h⟩ := stp_rd h
    replace h := stp_ite h; obtain ⟨hlv, h⟩ := h
    cases hg : winGet en.es p fr n with
    | none => rw [hg] at h; exact (stp_fail h).elim
    | some ys =>
      rw [hg] at h
      have hyl := (win_read hP hr hu he (live_of_liveB hlv) hg).1
      simp only at h
      refine appendTo_sound hP hr hs h0 hT hT2 (by rw [hyl]; exact hroom) hv (src_win hP hr hok hu he (live_of_liveB hlv) hg) (src_win hP hr1 hok hu1 he (live_of_liveB hlv) hg) h

theorem vv_tupN {c : Cx} : VV P c (.tup []) (.tuple #[]) := ⟨[], rfl, rfl⟩
theorem clear_sound (hP : WF P) {c : Cx} (hr : HR P c) {T ty : TypeId} {ts : Array TypeId} {x r : AV} {wr : List (Nat × Entry)} {v : Value} (hts : ts[0]? = some T) (hv : VV P c x v) (h : (stClear P T x).run c.h = some (r, wr)) :
    ∃ z w', (Builtin.clear_ ts ty #[v]).run P c.w = .ok z w' ∧ Done P c r wr z w' := by
  cases x <;> simp only [stClear] at h <;> try exact (stp_fail h).elim
  case nils =>
    replace h := stp_ite h; obtain ⟨hT, h⟩ := h
    obtain ⟨e, hT⟩ := isSlice_spec hT
    obtain ⟨rfl, rfl⟩ := stp_ret h
    obtain rfl := vv_nils hv
    refine ⟨.tuple #[], c.w, ?_, done_pure hr vv_tupN⟩
    simp [Builtin.clear_, hts, run_underlying (und_slice hT)]
  case win k p e fr n lo =>
    replace h := stp_ite h; obtain ⟨⟨hT, hz, hp⟩, h⟩ := h
    obtain rfl := pathless hp
    obtain ⟨en, he, h⟩ := stp_rd h
    replace h := stp_ite h; obtain ⟨⟨ho, hnl⟩, h⟩ := h
    obtain ⟨rfl, rfl⟩ := stp_ret h
    obtain ⟨en', cap, a, he', hne, rfl, hlo, hn, hpe, hc⟩ := vv_win hv
    rw [he] at he'
    cases he'
    have heT : en.T = e := hpe rfl
    subst heT
    obtain ⟨z0, hz1, hz2, hz3, hok⟩ := zero_sound hP c hz c.w
    by_cases hn0 : n = 0
    · subst hn0
      have hself : wrAll c.h [(k, { en with es := en.es.take fr ++ List.replicate 0 (zeroAV P en.T) ++ en.es.drop (fr + 0) })] = c.h := by
        simp only [wrAll, List.replicate_zero, List.append_nil, Nat.add_zero, List.take_append_drop]
        apply List.ext_getElem?
        intro j
        by_cases hj : j = k
        · subst hj; rw [List.getElem?_set_self (List.getElem?_eq_some_iff.1 he).1, he]
        · rw [List.getElem?_set_ne (by omega)]
      refine ⟨.tuple #[], c.w, ?_, c.κ, ?_, ?_, ?_⟩
      · cases a <;> simp [Builtin.clear_, hts, run_underlying (und_slice hT)]
      · rw [hself]; exact hr
      · rw [hself]; exact Ext.refl c
      · rw [hself]; exact vv_tupN
    · obtain ⟨b, off, C0, m, g1, g2, g3, g4, rfl, g6, _⟩ := hc (by omega)
      simp only [winOff, Option.some.injEq, Prod.mk.injEq, true_and] at g2
      subst g2
      obtain ⟨C1, m1, q1, _, _, q2, q3⟩ := hr.block he (.inl ho) g1
      rw [g3] at q1
      cases q1
      rw [g4 ho] at g3
      simp only [Nat.zero_add] at g6 ⊢
      have hrep := rep_of_vv hz3 hz2
      have hl := rep_length hP hz3 hrep
      have hc0 : P.cellsOf en.T ≠ 0 := (okT_spec hok).2
      have hrow := zeroRow_rep hP (c := c) hz3 hz2 hc0 n n (Nat.le_refl _)
      have hzc : z0.cells.size = P.cellsOf en.T := by simpa using hl
      have heq : Builtin.zeroCells z0.cells n = (Array.range (n * P.cellsOf en.T)).map fun j => z0.cells[j % z0.cells.size]! := by rw [Builtin.zeroCells, hzc]
      have hsz : (Builtin.zeroCells z0.cells n).size = n * P.cellsOf en.T := by rw [size_zeroCells', hzc]
      rw [← heq] at hrow
      have hone : ∀ y ∈ (Builtin.zeroCells z0.cells n).toList, y.oneCell' = true := repE_one hP hrow (by simp [hsz]) hc0
      have hmul : (fr + n) * P.cellsOf en.T ≤ en.es.length * P.cellsOf en.T := Nat.mul_le_mul_right _ hnl
      rw [Nat.add_mul] at hmul
      have hsl : fr * P.cellsOf en.T + (Builtin.zeroCells z0.cells n).toList.length ≤ C0.toList.length := by simp [hsz]; omega
      have hst := run_storeCells_at (P := P) (T := en.T) (b := b) (off := fr * P.cellsOf en.T) (Builtin.zeroCells z0.cells n).toList 0 c.w C0 g3 hone (by simp [hsz]; omega)
      have hss : (splice C0.toList (fr * P.cellsOf en.T) (Builtin.zeroCells z0.cells n).toList).toArray.size = C0.size := by simpa using splice_length hsl
      have hlen : (en.es.take fr ++ List.replicate n (zeroAV P en.T) ++ en.es.drop (fr + n)).length = en.es.length := by simp; omega
      have hE : RepE P c (en.es.take fr ++ List.replicate n (zeroAV P en.T) ++ en.es.drop (fr + n)) en.T (splice C0.toList (fr * P.cellsOf en.T) (Builtin.zeroCells z0.cells n).toList) := by
        refine repE_append.2 ⟨repE_append.2 ⟨?_, ?_⟩, ?_⟩
        · have h3 := repE_sub 0 fr q3
          simp only [List.drop_zero, Nat.zero_mul] at h3
          have htl : (en.es.take fr).length = fr := by simp; omega
          refine repE_congr (fun j hj => ?_) h3
          rw [htl] at hj
          rw [splice_getElem? hsl, if_pos hj]
        · have htl : (en.es.take fr).length = fr := by simp; omega
          rw [htl]
          refine repE_congr (fun j hj => ?_) hrow
          rw [List.length_replicate] at hj
          rw [List.getElem?_drop, splice_getElem? hsl, if_neg (by omega), if_pos (by simp [hsz]; omega)]
          congr 1; omega
        · have htl : (en.es.take fr ++ List.replicate n (zeroAV P en.T)).length = fr + n := by simp; omega
          rw [htl]
          have h3 := repE_sub (fr + n) en.es.length q3
          rw [List.take_length] at h3
          refine repE_congr (fun j hj => ?_) h3
          rw [List.getElem?_drop, List.getElem?_drop, splice_getElem? hsl, if_neg (by rw [Nat.add_mul]; omega), if_neg (by rw [Nat.add_mul]; simp [hsz] <;> omega)]
      refine ⟨.tuple #[], _, ?_, c.κ, hr_write hr he ho g1 g3 hss (by rw [hlen, hss]; exact q2) (by simpa using hE), ext_write he ho g1 g3 hss, vv_tupN⟩
      obtain ⟨m', rfl⟩ : ∃ m', n = m' + 1 := ⟨n - 1, by omega⟩
      simp only [Nat.add_zero, Nat.zero_add] at hst
      simp [Builtin.clear_, hts, run_underlying (und_slice hT), hz1, hst]

end
end Go.Abs
