/- Oa: a part of the proofs about the tuple space (layer 8). -/
import Derived.Test.YtelohjfiojpeeaaAc
set_option linter.all false
set_option maxRecDepth 100000
set_option maxHeartbeats 0
namespace Go.Abs
open Go
open Go.Proofs.Try (prog)
/-! ### SpaceOldest: the pure part -/
def vO (l : List Int) (j : Nat) : Int := bits .and .i64 (l.getD j 0) 3
def itO (l : List Int) (j : Nat) : Itm := ⟨((j % 4 : Nat) : Int), 0, [nF (vO l j), nF j]⟩
def itsO (l : List Int) (g : List Bool) (n : Nat) : List Itm := ((List.range n).filter fun j => !g.getD j false).map (itO l)
theorem itO_T (l : List Int) (j : Nat) : mayT (itO l j).T = true := by
  simp [itO, mayT, nF_plain]
theorem itsO_new (l : List Int) (n : Nat) : itsO l (List.replicate n false) n = (List.range n).map (itO l) := by
  unfold itsO
  rw [List.filter_eq_self.2]
  intro j hj
  have : j < n := List.mem_range.1 hj
  simp [List.getD_eq_getElem?_getD, List.getElem?_replicate, this]
/-- the first stretch: one more is put -/
structure O1 (l : List Int) (i : Nat) (s : Spc) : Prop where
  c : Calm s i i
  w : s.Waiters = []
  it : s.Items = (List.range i).map (itO l)
theorem O1.new (l : List Int) : O1 l 0 (newS 15 15) := ⟨Calm.new, rfl, rfl⟩
def rqO (l : List Int) (i : Nat) : Req := ⟨((i % 4 : Nat) : Int), (i : Int) + 1, 1, [], [nF (vO l i), nF i], 0⟩
theorem rqO_may (l : List Int) (i : Nat) (hi : i < 24) : mayQ (rqO l i) = true := by
  have hp : putsK 1 = true := by kernel_rfl
  have hr : readsK 1 = false := by kernel_rfl
  simp only [mayQ, Bool.and_eq_true, decide_eq_true_eq]
  simp only [rqO, hp, hr, if_true]
  refine ⟨by omega, ?_, ?_⟩
  · rw [Bool.and_eq_true]
    exact ⟨itO_T l i, decide_eq_true (by omega)⟩
  · simp
theorem O1.step {l : List Int} {i : Nat} {s : Spc} (h : O1 l i s) (hi : i < 24) : O1 l (i + 1) (doS s i (rqO l i)).1 := by
  obtain ⟨e, hd, hc⟩ := h.c.do (now := i) (rqO_may l i hi) (Int.le_refl _) (by omega) (show (i : Int) < (i : Int) + 1 by omega) (Int.le_refl _)
  have hlen : s.Items.length = i := by rw [h.it]; simp
  have hcn : cnt s.Items ((i % 4 : Nat) : Int) ≤ s.Items.length := List.countP_le_length
  obtain ⟨_, h2, h3⟩ := do_out (s := { s with Now := (i : Int) }) (r := rqO l i) hd rfl h.w (Int.le_refl _) ⟨by show s.Items.length < 64; omega, by show cnt s.Items ((i % 4 : Nat) : Int) < 24; omega⟩
  refine ⟨?_, ?_, ?_⟩
  · have := hc.mono (t' := ((i + 1 : Nat) : Int)) (q' := ((i + 1 : Nat) : Int)) (by omega) (show (i : Int) + 1 ≤ _ by omega)
    exact this
  · rw [e]; exact h3
  · rw [e, h2]
    show s.Items ++ _ = _
    rw [h.it, List.range_succ, List.map_append]
    rfl
/-- the second stretch -/
structure O2 (l : List Int) (n : Nat) (g : List Bool) (i : Nat) (s : Spc) : Prop where
  c : Calm s 50 (99 + (i : Int))
  w : s.Waiters = []
  it : s.Items = itsO l g n
  len : g.length = n
theorem O1.o2 {l : List Int} {n : Nat} {s : Spc} (h : O1 l n s) (hn : n ≤ 24) : O2 l n (List.replicate n false) 0 s :=
  ⟨h.c.mono (by omega) (by omega), h.w, by rw [itsO_new]; exact h.it, by simp⟩
def cO (l : List Int) (g : List Bool) (i j : Nat) : Bool := !g.getD j false && (vO l j == ((i % 4 : Nat) : Int))
/-- the first of a row of numbers that is asked for, or -1 -/
def firstN (c : Nat → Bool) (R : List Nat) : Int := match R.find? c with | some k => (k : Int) | none => -1
theorem firstN_cons (c : Nat → Bool) (j : Nat) (R : List Nat) : firstN c (j :: R) = if c j = true then (j : Int) else firstN c R := by
  unfold firstN
  rw [List.find?_cons]
  cases c j <;> rfl
theorem range_drop {n m : Nat} (h : m < n) : (List.range n).drop (n - 1 - m) = (n - 1 - m) :: (List.range n).drop (n - m) := by
  have h1 : n - 1 - m < (List.range n).length := by simp; omega
  rw [List.drop_eq_getElem_cons h1]
  have : n - 1 - m + 1 = n - m := by omega
  simp [this]
def pO (i : Nat) : List Fld := [nF ((i % 4 : Nat) : Int), ⟨3, 0, ByteArray.empty⟩]
theorem pO_may (i : Nat) : mayP (pO i) = true := by
  have : (⟨3, 0, ByteArray.empty⟩ : Fld).asked = true := by kernel_rfl
  simp [pO, mayP, nF_asked, this]
theorem match_O (l : List Int) (i j : Nat) : matchT (pO i) (itO l j).T = (vO l j == ((i % 4 : Nat) : Int)) := by
  unfold matchT
  rw [pO_may, itO_T]
  simp only [Bool.true_and, pO, itO, all2, nF_fits, aF_fits, Bool.and_true]
  rw [Bool.eq_iff_iff]
  simp only [beq_iff_eq]
  exact eq_comm
def rlO (i : Nat) (k : Int) : Req := ⟨((i % 4 : Nat) : Int), 100 + (i : Int), k, pO i, [], 0⟩
theorem rlO_may (i : Nat) (hi : i < 30) (k : Int) (hk : k = 2 ∨ k = 3) : mayQ (rlO i k) = true := by
  have hp : putsK k = false := by rcases hk with rfl | rfl <;> kernel_rfl
  have hr : readsK k = true := by rcases hk with rfl | rfl <;> kernel_rfl
  simp only [mayQ, Bool.and_eq_true, decide_eq_true_eq]
  simp only [rlO, hp, hr, if_true]
  refine ⟨by omega, ?_, pO_may i⟩
  simp
theorem filter_none {l : List Int} {g : List Bool} {n i : Nat} (h : (List.range n).find? (cO l g i) = none) : findS ⟨0, itsO l g n, [], 0, 0, []⟩ (pO i) = -1 := by
  unfold findS
  refine fidx_none fun j y hj hy => ?_
  have hm : y ∈ itsO l g n := List.mem_of_getElem? hy
  obtain ⟨k, hk, rfl⟩ := List.mem_map.1 hm
  have hk2 := List.mem_filter.1 hk
  have := List.find?_eq_none.1 h k hk2.1
  rw [match_O]
  simp only [cO, hk2.2, Bool.true_and] at this
  simpa using this
/-- the first that is asked for in a filtered row; without it -/
theorem first_some {l : List Int} {g : List Bool} {i k : Nat} : ∀ {R : List Nat}, R.Nodup → R.find? (cO l g i) = some k → ∃ m, ((R.filter fun j => !g.getD j false).map (itO l))[m]? = some (itO l k) ∧
    (∀ j y, j < m → ((R.filter fun j => !g.getD j false).map (itO l))[j]? = some y → matchT (pO i) y.T = false) ∧
    ((R.filter fun j => !g.getD j false).map (itO l)).eraseIdx m = (R.filter fun j => (!g.getD j false) && !(j == k)).map (itO l)
  | [], _, h => by simp at h
  | a :: R, hn, h => by
    rw [List.find?_cons] at h
    obtain ⟨ha, hR⟩ := List.nodup_cons.1 hn
    cases hc : cO l g i a with
    | true =>
      rw [hc] at h
      simp only [Option.some.injEq] at h
      subst h
      simp only [cO, Bool.and_eq_true] at hc
      refine ⟨0, ?_, fun j y hj => absurd hj (Nat.not_lt_zero _), ?_⟩
      · rw [List.filter_cons_of_pos (by exact hc.1)]; rfl
      · rw [List.filter_cons_of_pos (by exact hc.1), List.filter_cons_of_neg (by simp)]
        simp only [List.map_cons, List.eraseIdx_cons_zero]
        congr 1
        refine List.filter_congr fun j hj => ?_
        have : (j == a) = false := by
          simp only [beq_eq_false_iff_ne]
          rintro rfl; exact ha hj
        rw [this]; simp
    | false =>
      rw [hc] at h
      simp only at h
      obtain ⟨m, h1, h2, h3⟩ := first_some hR h
      have hka : (a == k) = false := by
        simp only [beq_eq_false_iff_ne]
        rintro rfl
        have := List.find?_some h
        rw [hc] at this; cases this
      cases hg : (!g.getD a false) with
      | true =>
        have hv : matchT (pO i) (itO l a).T = false := by
          rw [match_O]
          simp only [cO, hg, Bool.true_and] at hc
          exact hc
        refine ⟨m + 1, ?_, ?_, ?_⟩
        · rw [List.filter_cons_of_pos (by exact hg)]
          simpa using h1
        · rw [List.filter_cons_of_pos (by exact hg)]
          rintro (_ | j) y hj hy
          · simp only [List.map_cons, List.getElem?_cons_zero, Option.some.injEq] at hy
            subst hy; exact hv
          · simp only [List.map_cons, List.getElem?_cons_succ] at hy
            exact h2 j y (by omega) hy
        · rw [List.filter_cons_of_pos (by exact hg), List.filter_cons_of_pos (by rw [hg, hka]; rfl)]
          simp only [List.map_cons, List.eraseIdx_cons_succ, h3]
      | false =>
        refine ⟨m, ?_, ?_, ?_⟩
        · rw [List.filter_cons_of_neg (by rw [hg]; decide)]; exact h1
        · rw [List.filter_cons_of_neg (by rw [hg]; decide)]; exact h2
        · rw [List.filter_cons_of_neg (by rw [hg]; decide), List.filter_cons_of_neg (by rw [hg, Bool.false_and]; decide)]; exact h3
theorem itsO_set {l : List Int} {g : List Bool} {n k : Nat} (hk : k < g.length) : ((List.range n).filter fun j => (!g.getD j false) && !(j == k)).map (itO l) = itsO l (g.set k true) n := by
  unfold itsO
  congr 1
  refine List.filter_congr fun j hj => ?_
  by_cases e : k = j
  · subst e
    simp [List.getD_eq_getElem?_getD, hk]
  · have : (j == k) = false := by simp only [beq_eq_false_iff_ne]; exact fun h => e h.symm
    rw [this, List.getD_eq_getElem?_getD, List.getD_eq_getElem?_getD, List.getElem?_set_ne e]
    simp
theorem find_lt {l : List Int} {g : List Bool} {n i k : Nat} (h : (List.range n).find? (cO l g i) = some k) : k < n := List.mem_range.1 (List.mem_of_find?_eq_some h)
/-- nothing matches -/
theorem O2.none {l : List Int} {n i : Nat} {g : List Bool} {s : Spc} (h : O2 l n g i s) (hi : i < 30) {kd : Int} (hk : kd = 2 ∨ kd = 3) (hf : (List.range n).find? (cO l g i) = none) :
    (doS s 50 (rlO i kd)).2 = [rep (rlO i kd) 3 []] ∧ O2 l n g (i + 1) (doS s 50 (rlO i kd)).1 := by
  obtain ⟨e, hd, hc⟩ := h.c.do (now := 50) (rlO_may i hi kd hk) (Int.le_refl _) (by omega) (show (99 + (i : Int)) < 100 + (i : Int) by omega) (Int.le_refl _)
  have hfs : findS { s with Now := 50 } (pO i) = -1 := by
    have := filter_none hf
    unfold findS at this ⊢
    show fidx _ s.Items = _
    rw [h.it]; exact this
  have e2 : doW { s with Now := 50 } (rlO i kd) [] = (tellS { s with Now := 50 } (rlO i kd) 3 [], [rep (rlO i kd) 3 []]) := by
    rw [do_look hd hk, findW]
    show (if 0 ≤ findS { s with Now := 50 } (pO i) then _ else _) = _
    rw [if_neg (by rw [hfs]; decide), if_pos rfl]; rfl
  refine ⟨by rw [e, e2], ?_, by rw [e, e2]; exact h.w, by rw [e, e2]; exact h.it, h.len⟩
  exact hc.mono (Int.le_refl _) (show (100 + (i : Int)) ≤ _ by omega)
/-- the oldest that matches -/
theorem O2.some {l : List Int} {n i k : Nat} {g : List Bool} {s : Spc} (h : O2 l n g i s) (hi : i < 30) {kd : Int} (hk : kd = 2 ∨ kd = 3) (hf : (List.range n).find? (cO l g i) = some k) :
    (doS s 50 (rlO i kd)).2 = [rep (rlO i kd) 2 [nF (vO l k), nF k]] ∧ O2 l n (if kd = 3 then g.set k true else g) (i + 1) (doS s 50 (rlO i kd)).1 := by
  obtain ⟨e, hd, hc⟩ := h.c.do (now := 50) (rlO_may i hi kd hk) (Int.le_refl _) (by omega) (show (99 + (i : Int)) < 100 + (i : Int) by omega) (Int.le_refl _)
  obtain ⟨m, h1, h2, h3⟩ := first_some (l := l) (g := g) (i := i) List.nodup_range hf
  have hkn := find_lt hf
  rw [itsO_set (by rw [h.len]; exact hkn)] at h3
  change (itsO l g n)[m]? = _ at h1
  change (itsO l g n).eraseIdx m = _ at h3
  have hv : matchT (pO i) (itO l k).T = true := by
    have := List.find?_some hf
    simp only [cO, Bool.and_eq_true] at this
    rw [match_O]; exact this.2
  have hfs : findS { s with Now := 50 } (pO i) = (m : Int) := by
    unfold findS
    show fidx _ s.Items = _
    rw [h.it]
    exact fidx_some h1 hv h2
  have hfs' : findS { s with Now := 50 } (rlO i kd).P = (m : Int) := hfs
  have hgd : ({ s with Now := 50 } : Spc).Items.getD m ⟨0, 0, []⟩ = itO l k := getD_some (by show s.Items[m]? = _; rw [h.it]; exact h1)
  have e2 : doW { s with Now := 50 } (rlO i kd) [] = (if (kd == 3) = true then { tellS { s with Now := 50 } (rlO i kd) 2 [nF (vO l k), nF k] with Items := s.Items.eraseIdx m } else tellS { s with Now := 50 } (rlO i kd) 2 [nF (vO l k), nF k], [rep (rlO i kd) 2 [nF (vO l k), nF k]]) := by
    rw [do_look hd hk, findW, hfs', if_pos (by omega), Int.toNat_natCast, hgd]
    rfl
  refine ⟨by rw [e, e2], hc.mono (Int.le_refl _) (show (100 + (i : Int)) ≤ _ by omega), ?_, ?_, ?_⟩
  · rw [e, e2]
    show (if (kd == 3) = true then _ else _ : Spc).Waiters = []
    split <;> exact h.w
  · rw [e, e2]
    show (if (kd == 3) = true then _ else _ : Spc).Items = _
    rcases hk with rfl | rfl
    · exact h.it
    · show s.Items.eraseIdx m = _
      rw [h.it]; exact h3
  · split
    · rw [List.length_set]; exact h.len
    · exact h.len

end Go.Abs
