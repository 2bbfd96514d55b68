/- Ca: a part of the proofs about the tuple space (layer 8). -/
import Derived.Test.YtelohjfiojpeeaaAc
set_option linter.all false
set_option maxRecDepth 100000
set_option maxHeartbeats 0
namespace Go.Abs
open Go
open Go.Proofs.Try (prog)
/-! ### SpaceCas: the pure part -/
def pC (v : Nat) : List Fld := [nF v, ⟨5, 0, ByteArray.empty⟩]
def tC (v i : Nat) : List Fld := [nF v, nF i]
theorem pC_may (v : Nat) : mayP (pC v) = true := by
  have : (⟨5, 0, ByteArray.empty⟩ : Fld).asked = true := by kernel_rfl
  simp [pC, mayP, nF_asked, this]
theorem tC_may (v i : Nat) : mayT (tC v i) = true := by simp [tC, mayT, nF_plain]
theorem tC_mayP (v i : Nat) : mayP (tC v i) = true := by simp [tC, mayP, nF_asked]
theorem match_pC (v w j : Nat) : matchT (pC v) (tC w j) = (v == w) := by
  unfold matchT
  rw [pC_may, tC_may]
  simp only [Bool.true_and, pC, tC, all2, nF_fits, yF_fits, Bool.and_true]
  rw [Bool.eq_iff_iff]
  simp only [beq_iff_eq]
  omega
theorem match_tC (v i w j : Nat) : matchT (tC v i) (tC w j) = (v == w && i == j) := by
  unfold matchT
  rw [tC_mayP, tC_may]
  simp only [Bool.true_and, tC, all2, nF_fits, Bool.and_true]
  rw [Bool.eq_iff_iff]
  simp only [Bool.and_eq_true, beq_iff_eq]
  omega
def rqC (v i : Nat) (kd : Int) : Req := ⟨3, (i : Int) + 1, kd, pC v, tC v i, 0⟩
theorem rqC_may (v i : Nat) (hi : i < 20) {kd : Int} (hk : kd = 6 ∨ kd = 7) : mayQ (rqC v i kd) = true := by
  have hp : putsK kd = true := by rcases hk with rfl | rfl <;> kernel_rfl
  have hr : readsK kd = true := by rcases hk with rfl | rfl <;> kernel_rfl
  simp only [mayQ, Bool.and_eq_true, decide_eq_true_eq]
  simp only [rqC, hp, hr, if_true, Bool.and_eq_true]
  exact ⟨by omega, ⟨tC_may v i, decide_eq_true (by omega)⟩, pC_may v⟩
structure C1 (has : List Bool) (i : Nat) (s : Spc) : Prop where
  c : Calm s i i
  w : s.Waiters = []
  len : s.Items.length ≤ i
  hl : has.length = 4
  fm : ∀ x ∈ s.Items, ∃ w j : Nat, j < i ∧ has.getD w false = true ∧ x.T = tC w j
  hs : ∀ w : Nat, has.getD w false = true → ∃ x ∈ s.Items, ∃ j : Nat, x.T = tC w j
theorem C1.new : C1 [false, false, false, false] 0 (newS 15 15) := by
  refine ⟨Calm.new, rfl, Nat.le_refl _, rfl, fun x hx => by simp [newS] at hx, fun w hw => ?_⟩
  match w with
  | 0 | 1 | 2 | 3 => cases hw
  | _ + 4 => cases hw
theorem C1.none {has : List Bool} {i v : Nat} {s : Spc} (h : C1 has i s) (hv : has.getD v false = false) : fidx (fun x : Itm => matchT (pC v) x.T) s.Items = -1 := by
  refine fidx_none fun j y hj hy => ?_
  obtain ⟨w, k, _, hw, e⟩ := h.fm y (List.mem_of_getElem? hy)
  show matchT (pC v) y.T = false
  rw [e, match_pC, beq_eq_false_iff_ne]
  rintro rfl
  rw [hv] at hw; cases hw
theorem C1.some {has : List Bool} {i v : Nat} {s : Spc} (h : C1 has i s) (hv : has.getD v false = true) : ∃ m x k, fidx (fun x : Itm => matchT (pC v) x.T) s.Items = (m : Nat) ∧ s.Items[m]? = some x ∧ m < s.Items.length ∧ x.T = tC v k := by
  rcases fidx_cases (fun x : Itm => matchT (pC v) x.T) s.Items with h0 | ⟨j, h0, _⟩
  · obtain ⟨x, hx, j, e⟩ := h.hs v hv
    have := fidx_none' h0 x hx
    change matchT (pC v) x.T = false at this
    rw [e, match_pC] at this
    simp at this
  · obtain ⟨m, x, h1, h2, h3, h4⟩ := fidx_get (p := fun x : Itm => matchT (pC v) x.T) (l := s.Items) (by omega)
    obtain ⟨w, k, _, _, e⟩ := h.fm x (List.mem_of_getElem? h2)
    change matchT (pC v) x.T = true at h4
    rw [e, match_pC, beq_iff_eq] at h4
    subst h4
    exact ⟨m, x, k, h1, h2, h3, e⟩
/-- the new tuple is nowhere, or last -/
theorem new_none {L : List Itm} {v i : Nat} (h : ∀ x ∈ L, ∃ w j : Nat, j < i ∧ x.T = tC w j) : fidx (fun x : Itm => matchT (tC v i) x.T) L = -1 := by
  refine fidx_none fun j y hj hy => ?_
  obtain ⟨w, k, hk, e⟩ := h y (List.mem_of_getElem? hy)
  show matchT (tC v i) y.T = false
  rw [e, match_tC]
  have : (i == k) = false := by simp only [beq_eq_false_iff_ne]; omega
  rw [this, Bool.and_false]
theorem new_last {L : List Itm} {v i : Nat} (h : ∀ x ∈ L, ∃ w j : Nat, j < i ∧ x.T = tC w j) : fidx (fun x : Itm => matchT (tC v i) x.T) (L ++ [⟨3, 0, tC v i⟩]) = (L.length : Int) := by
  refine fidx_some (x := ⟨3, 0, tC v i⟩) (by simp) ?_ fun j y hj hy => ?_
  · show matchT (tC v i) (tC v i) = true
    rw [match_tC]; simp
  · rw [List.getElem?_append_left hj] at hy
    obtain ⟨w, k, hk, e⟩ := h y (List.mem_of_getElem? hy)
    show matchT (tC v i) y.T = false
    rw [e, match_tC]
    have : (i == k) = false := by simp only [beq_eq_false_iff_ne]; omega
    rw [this, Bool.and_false]
theorem getD_set_true {l : List Bool} {v w : Nat} (h : (l.set v true).getD w false = true) : w = v ∨ l.getD w false = true := by
  rw [List.getD_eq_getElem?_getD, List.getElem?_set] at h
  split at h
  · rename_i e; exact .inl e.symm
  · right; rw [List.getD_eq_getElem?_getD]; exact h
theorem getD_set_mono {l : List Bool} {v w : Nat} (h : l.getD w false = true) : (l.set v true).getD w false = true := by
  rw [List.getD_eq_getElem?_getD, List.getElem?_set]
  rw [List.getD_eq_getElem?_getD] at h
  split
  · rename_i e
    subst e
    by_cases hl : v < l.length
    · rw [if_pos hl]; rfl
    · rw [List.getElem?_eq_none (by omega)] at h; cases h
  · exact h
theorem getD_set_self {l : List Bool} {v : Nat} (hv : v < l.length) : (l.set v true).getD v false = true := by
  rw [List.getD_eq_getElem?_getD, List.getElem?_set_self hv]; rfl
/-- what comes of a request: its reply's kind, the row, where the new tuple is -/
structure CR (has has' : List Bool) (v i : Nat) (s : Spc) (kd : Int) (n : Nat) (f : Int) (o : Spc × List Rpl) : Prop where
  rp : ∃ t, o.2 = [⟨3, (i : Int) + 1, kd, t, false⟩]
  ln : o.1.Items.length = n
  fd : findS o.1 (tC v i) = f
  c : C1 has' (i + 1) o.1
theorem C1.fm' {has : List Bool} {i : Nat} {s : Spc} (h : C1 has i s) : ∀ x ∈ s.Items, ∃ w j : Nat, j < i ∧ x.T = tC w j := fun x hx => by
  obtain ⟨w, j, hj, _, e⟩ := h.fm x hx
  exact ⟨w, j, hj, e⟩
/-- nothing is done -/
theorem C1.keep {has : List Bool} {v i : Nat} {s : Spc} {kd : Int} (h : C1 has i s) (hi : i < 20) (hk : kd = 6 ∨ kd = 7) (e : doW { s with Now := (i : Int) } (rqC v i kd) [] = (tellS { s with Now := (i : Int) } (rqC v i kd) 3 [], [rep (rqC v i kd) 3 []])) :
    CR has has v i s 3 s.Items.length (-1) (doS s i (rqC v i kd)) := by
  obtain ⟨e1, hd, hc⟩ := h.c.do (now := i) (rqC_may v i hi hk) (Int.le_refl _) (by omega) (show (i : Int) < (i : Int) + 1 by omega) (Int.le_refl _)
  have hc2 : Calm (doS s i (rqC v i kd)).1 ((i + 1 : Nat) : Int) ((i + 1 : Nat) : Int) := hc.mono (by omega) (show (i : Int) + 1 ≤ _ by omega)
  rw [e1, e] at hc2 ⊢
  refine ⟨⟨[], rfl⟩, rfl, new_none h.fm', hc2, h.w, by show s.Items.length ≤ _; have := h.len; omega, h.hl, fun x hx => ?_, h.hs⟩
  obtain ⟨w, j, hj, hw, e⟩ := h.fm x hx
  exact ⟨w, j, by omega, hw, e⟩
/-- something is put behind what stays -/
theorem C1.put {has has' : List Bool} {v i : Nat} {s : Spc} {kd k2 : Int} {L : List Itm} {t : List Fld} (h : C1 has i s) (hv : v < 4) (hi : i < 20) (hk : kd = 6 ∨ kd = 7) (hL : ∀ x ∈ L, x ∈ s.Items) (hn : L.length ≤ i) (hh : has' = has.set v true)
    (hst : ∀ w : Nat, w ≠ v → has.getD w false = true → ∃ x ∈ L, ∃ j : Nat, x.T = tC w j)
    (e2 : (doW { s with Now := (i : Int) } (rqC v i kd) []).2 = [rep (rqC v i kd) k2 t]) (e3 : (doW { s with Now := (i : Int) } (rqC v i kd) []).1.Items = L ++ [⟨3, 0, tC v i⟩]) (e4 : (doW { s with Now := (i : Int) } (rqC v i kd) []).1.Waiters = []) :
    CR has has' v i s k2 (L.length + 1) L.length (doS s i (rqC v i kd)) := by
  subst hh
  obtain ⟨e1, hd, hc⟩ := h.c.do (now := i) (rqC_may v i hi hk) (Int.le_refl _) (by omega) (show (i : Int) < (i : Int) + 1 by omega) (Int.le_refl _)
  have hc2 : Calm (doS s i (rqC v i kd)).1 ((i + 1 : Nat) : Int) ((i + 1 : Nat) : Int) := hc.mono (by omega) (show (i : Int) + 1 ≤ _ by omega)
  rw [e1] at hc2 ⊢
  have hfm : ∀ x ∈ L, ∃ w j : Nat, j < i ∧ x.T = tC w j := fun x hx => h.fm' x (hL x hx)
  have hv4 : v < has.length := by rw [h.hl]; exact hv
  refine ⟨⟨t, e2⟩, by rw [e3]; simp, by unfold findS; rw [e3]; exact new_last hfm, hc2, e4, by rw [e3]; simp; omega, by simp [h.hl], fun x hx => ?_, fun w hw => ?_⟩
  · rw [e3] at hx
    rcases List.mem_append.1 hx with hx | hx
    · obtain ⟨w, j, hj, hw, e⟩ := h.fm x (hL x hx)
      exact ⟨w, j, by omega, getD_set_mono hw, e⟩
    · simp only [List.mem_singleton] at hx
      subst hx
      exact ⟨v, i, by omega, getD_set_self hv4, rfl⟩
  · rw [e3]
    by_cases e : w = v
    · subst e
      exact ⟨⟨3, 0, tC w i⟩, List.mem_append.2 (.inr (by simp)), i, rfl⟩
    · rcases getD_set_true hw with h' | h'
      · exact absurd h' e
      · obtain ⟨x, hx, j, ej⟩ := hst w e h'
        exact ⟨x, List.mem_append.2 (.inl hx), j, ej⟩
theorem set_true_same {l : List Bool} {v : Nat} (h : l.getD v false = true) : l.set v true = l := by
  refine List.ext_getElem? fun j => ?_
  rw [List.getElem?_set]
  split
  · rename_i e
    subst e
    rw [List.getD_eq_getElem?_getD] at h
    split
    · rename_i hl
      rw [List.getElem?_eq_getElem hl] at h ⊢
      simp only [Option.getD_some] at h
      rw [h]
    · rename_i hl
      rw [List.getElem?_eq_none (by omega)]
  · rfl
theorem put_nil {r : Req} {s : Spc} {out : List Rpl} (hl : r.Lease = 0) : putGo r [] [] s out = ({ s with Waiters := [], Items := s.Items ++ [⟨r.Client, 0, r.T⟩] }, out) := by
  have hi : itmOf s r = ⟨r.Client, 0, r.T⟩ := by unfold itmOf; rw [if_neg (by omega)]
  simp only [putGo, hi]
/-- THE FOUR CASES -/
theorem C1.step {has : List Bool} {v i : Nat} {s : Spc} {b : Bool} (h : C1 has i s) (hv : v < 4) (hi : i < 20) :
    (has.getD v false = b → CR has has v i s (if b then 2 else 3) s.Items.length (if b then (s.Items.length : Int) - 1 else -1) (doS s i (rqC v i 7))) ∧
    (has.getD v false = true → CR has has v i s 3 s.Items.length (-1) (doS s i (rqC v i 6))) ∧
    (has.getD v false = false → CR has (has.set v true) v i s 1 (s.Items.length + 1) s.Items.length (doS s i (rqC v i 6))) := by
  have hlen := h.len
  have hcn : ∀ L : List Itm, cnt L 3 ≤ L.length := fun L => List.countP_le_length
  have hd6 : denyS { s with Now := (i : Int) } (rqC v i 6) = false := allow15 h.c.rd h.c.wr (by kernel_rfl)
  have hd7 : denyS { s with Now := (i : Int) } (rqC v i 7) = false := allow15 h.c.rd h.c.wr (by kernel_rfl)
  refine ⟨fun hb => ?_, fun hb => ?_, fun hb => ?_⟩
  · cases b with
    | false =>
      refine h.keep hi (.inr rfl) ?_
      have hf : findS { s with Now := (i : Int) } (rqC v i 7).P = -1 := h.none hb
      rw [do_replace hd7 rfl, turnW, if_pos (by rw [hf]; decide)]; rfl
    | true =>
      obtain ⟨m, x, k, h1, h2, h3, h4⟩ := h.some hb
      have hf : findS { s with Now := (i : Int) } (rqC v i 7).P = (m : Int) := h1
      have hel : (s.Items.eraseIdx m).length = s.Items.length - 1 := by rw [List.length_eraseIdx, if_pos h3]
      have hfu : fullS { s with Now := (i : Int) } (rqC v i 7) m = false := by
        have e : del ({ s with Now := (i : Int) } : Spc).Items m = s.Items.eraseIdx m := del_at _ _
        have := hcn (s.Items.eraseIdx m)
        simp only [fullS, e, Bool.or_eq_false_iff]
        exact ⟨decide_eq_false (by omega), decide_eq_false (show ¬ 24 ≤ cnt (s.Items.eraseIdx m) 3 by omega)⟩
      have e : doW { s with Now := (i : Int) } (rqC v i 7) [] = ({ tellS { s with Now := (i : Int) } (rqC v i 7) 2 (tC v k) with Waiters := [], Items := s.Items.eraseIdx m ++ [⟨3, 0, tC v i⟩] }, [rep (rqC v i 7) 2 (tC v k)]) := by
        rw [do_replace hd7 rfl, turnW, hf, if_neg (by omega), if_neg (by rw [hfu]; decide), Int.toNat_natCast]
        have hg : ({ s with Now := (i : Int) } : Spc).Items.getD m ⟨0, 0, []⟩ = x := getD_some h2
        have hw : ({ s with Now := (i : Int) } : Spc).Waiters = [] := h.w
        rw [hg, hw, put_nil rfl, h4]
        rfl
      have := h.put (has' := has) (kd := 7) (k2 := 2) (L := s.Items.eraseIdx m) (t := tC v k) hv hi (.inr rfl) (fun y hy => (List.eraseIdx_sublist ..).subset hy) (by omega) (set_true_same hb).symm ?_ (by rw [e]) (by rw [e]) (by rw [e])
      · rw [hel] at this
        have e1 : s.Items.length - 1 + 1 = s.Items.length := by omega
        have e2 : ((s.Items.length - 1 : Nat) : Int) = (s.Items.length : Int) - 1 := by omega
        rw [e1, e2] at this
        exact this
      · intro w hwv hw
        obtain ⟨y, hy, j, ej⟩ := h.hs w hw
        refine ⟨y, ?_, j, ej⟩
        rw [List.mem_eraseIdx_iff_getElem?]
        obtain ⟨n, hn⟩ := List.mem_iff_getElem?.1 hy
        refine ⟨n, ?_, hn⟩
        rintro rfl
        rw [h2] at hn
        simp only [Option.some.injEq] at hn
        subst hn
        rw [h4] at ej
        have := congrArg (fun l => (l.getD 0 (nF 0)).N) ej
        simp [tC, nF] at this
        omega
  · refine h.keep hi (.inl rfl) ?_
    obtain ⟨m, x, k, h1, h2, h3, h4⟩ := h.some hb
    have hf : findS { s with Now := (i : Int) } (rqC v i 6).P = (m : Int) := h1
    rw [do_cas hd6 rfl, if_pos (by rw [hf]; omega)]
  · have hf : findS { s with Now := (i : Int) } (rqC v i 6).P = -1 := h.none hb
    have hfu : fullS { s with Now := (i : Int) } (rqC v i 6) (-1) = false := by
      have := hcn s.Items
      simp only [fullS, del_all, Bool.or_eq_false_iff]
      exact ⟨decide_eq_false (show ¬ 64 ≤ s.Items.length by omega), decide_eq_false (show ¬ 24 ≤ cnt s.Items 3 by omega)⟩
    have e : doW { s with Now := (i : Int) } (rqC v i 6) [] = ({ tellS { s with Now := (i : Int) } (rqC v i 6) 1 [] with Waiters := [], Items := s.Items ++ [⟨3, 0, tC v i⟩] }, [rep (rqC v i 6) 1 []]) := by
      have hw : ({ s with Now := (i : Int) } : Spc).Waiters = [] := h.w
      rw [do_cas hd6 rfl, if_neg (by rw [hf]; decide), bringS, if_neg (by rw [hfu]; decide), hw, put_nil rfl]
      rfl
    exact h.put (has' := has.set v true) hv hi (.inl rfl) (fun y hy => hy) (by omega) rfl (fun w _ hw => h.hs w hw) (by rw [e]) (by rw [e]) (by rw [e])

end Go.Abs
