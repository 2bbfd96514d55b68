/- Fa: a part of the proofs about the tuple space (layer 8). -/
import Derived.Test.YtelohjfiojpeeaaAc
set_option linter.all false
set_option maxRecDepth 100000
set_option maxHeartbeats 0
namespace Go.Abs
open Go
open Go.Proofs.Try (prog)
/-! ### SpaceFull: the pure part -/
def cF (one : Bool) (i : Nat) : Int := if one = true then 1 else ((i % 4 : Nat) : Int)
def capF (one : Bool) : Nat := if one = true then 24 else 64
def rqF (one : Bool) (i : Nat) : Req := ⟨cF one i, (i : Int) + 1, 1, [], [nF i], 0⟩
theorem cF_ok (one : Bool) (i : Nat) : 0 ≤ cF one i ∧ cF one i < 4 := by
  unfold cF
  split <;> omega
theorem rqF_may (one : Bool) (i : Nat) (hi : i < 91) : mayQ (rqF one i) = true := by
  have hp : putsK 1 = true := by kernel_rfl
  have hr : readsK 1 = false := by kernel_rfl
  have hc := cF_ok one i
  simp only [mayQ, Bool.and_eq_true, decide_eq_true_eq]
  simp only [rqF, hp, hr, if_true]
  refine ⟨by omega, ?_, ?_⟩
  · rw [Bool.and_eq_true]
    exact ⟨by simp [mayT, nF_plain], decide_eq_true (by omega)⟩
  · simp
structure F1 (one : Bool) (i : Nat) (s : Spc) : Prop where
  c : Calm s 0 i
  w : s.Waiters = []
  len : s.Items.length = min i (capF one)
  cn1 : one = true → cnt s.Items 1 = min i 24
  cn0 : one = false → ∀ c : Nat, c < 4 → cnt s.Items (c : Int) = (min i 64 + 3 - c) / 4
  tx : ∀ x ∈ s.Items, ∃ n : Int, x.T = [nF n]
theorem F1.new (one : Bool) : F1 one 0 (newS 15 15) := by
  refine ⟨Calm.new, rfl, by simp [newS], fun _ => rfl, fun _ c hc => ?_, fun x hx => by simp [newS] at hx⟩
  show 0 = _
  omega
theorem F1.step {one : Bool} {i : Nat} {s : Spc} (h : F1 one i s) (hi : i < 91) :
    F1 one (i + 1) (doS s 0 (rqF one i)).1 ∧ (doS s 0 (rqF one i)).2 = [rep (rqF one i) (if i < capF one then 1 else 5) []] := by
  obtain ⟨e, hd, hc⟩ := h.c.do (now := 0) (rqF_may one i hi) (Int.le_refl _) (by omega) (show (i : Int) < (i : Int) + 1 by omega) (Int.le_refl _)
  have hc2 : Calm (doS s 0 (rqF one i)).1 0 ((i + 1 : Nat) : Int) := hc.mono (Int.le_refl _) (show (i : Int) + 1 ≤ _ by omega)
  have hlen := h.len
  have hcnt : i < capF one → cnt s.Items (cF one i) < 24 := fun hr => by
    cases one with
    | true =>
      have := h.cn1 rfl
      show cnt s.Items 1 < 24
      have hr : i < 24 := hr
      omega
    | false =>
      have := h.cn0 rfl (i % 4) (by omega)
      show cnt s.Items ((i % 4 : Nat) : Int) < 24
      have hr : i < 64 := hr
      omega
  by_cases hr : i < capF one
  · have hcap : capF one ≤ 64 := by unfold capF; split <;> omega
    obtain ⟨h1, h2, h3⟩ := do_out (s := { s with Now := 0 }) (r := rqF one i) hd rfl h.w (Int.le_refl _) ⟨by show s.Items.length < 64; omega, hcnt hr⟩
    rw [if_pos hr]
    rw [e] at hc2 ⊢
    have h2' : (doW { s with Now := 0 } (rqF one i) []).1.Items = s.Items ++ [⟨cF one i, 0, [nF i]⟩] := h2
    refine ⟨⟨hc2, h3, ?_, fun ho => ?_, fun ho c hc4 => ?_, fun x hx => ?_⟩, h1⟩
    · rw [h2', List.length_append]
      simp only [List.length_cons, List.length_nil]
      omega
    · subst ho
      have := h.cn1 rfl
      have hr : i < 24 := hr
      rw [h2', cnt_app]
      show cnt s.Items 1 + (if (1 : Int) = 1 then 1 else 0) = _
      rw [if_pos rfl]; omega
    · subst ho
      have := h.cn0 rfl c hc4
      have hr : i < 64 := hr
      rw [h2', cnt_app]
      show cnt s.Items (c : Int) + (if ((i % 4 : Nat) : Int) = (c : Int) then 1 else 0) = _
      split <;> omega
    · rw [h2'] at hx
      rcases List.mem_append.1 hx with hx | hx
      · exact h.tx x hx
      · simp only [List.mem_singleton] at hx
        subst hx
        exact ⟨i, rfl⟩
  · have hfull : 64 ≤ ({ s with Now := 0 } : Spc).Items.length ∨ 24 ≤ cnt ({ s with Now := 0 } : Spc).Items (rqF one i).Client := by
      cases one with
      | true =>
        right
        have := h.cn1 rfl
        show 24 ≤ cnt s.Items 1
        have hr : ¬ i < 24 := hr
        omega
      | false =>
        left
        show 64 ≤ s.Items.length
        have hr : ¬ i < 64 := hr
        have hl : s.Items.length = min i 64 := hlen
        omega
    have e2 := do_out_full (r := rqF one i) hd rfl hfull
    rw [if_neg hr]
    rw [e, e2] at hc2
    rw [e, e2]
    refine ⟨⟨hc2, h.w, ?_, fun ho => ?_, fun ho c hc4 => ?_, h.tx⟩, rfl⟩
    · show s.Items.length = _
      omega
    · subst ho
      have := h.cn1 rfl
      have hr : ¬ i < 24 := hr
      show cnt s.Items 1 = _
      omega
    · subst ho
      have := h.cn0 rfl c hc4
      have hr : ¬ i < 64 := hr
      show cnt s.Items (c : Int) = _
      rw [this]; congr 1; omega
def pT : List Fld := [⟨4, 0, ByteArray.empty⟩]
theorem pT_may : mayP pT = true := by
  have : (⟨4, 0, ByteArray.empty⟩ : Fld).asked = true := by kernel_rfl
  simp [pT, mayP, this]
theorem match_T (n : Int) : matchT pT [nF n] = false := by
  unfold matchT
  simp only [pT, all2, tF_fits, Bool.false_and, Bool.and_false]
def rqG (i : Nat) : Req := ⟨((i % 4 : Nat) : Int), 200 + (i : Int), 5, pT, [], 0⟩
theorem rqG_may (i : Nat) (hi : i < 21) : mayQ (rqG i) = true := by
  have hp : putsK 5 = false := by kernel_rfl
  have hr : readsK 5 = true := by kernel_rfl
  simp only [mayQ, Bool.and_eq_true, decide_eq_true_eq]
  simp only [rqG, hp, hr, if_true]
  refine ⟨by omega, ?_, pT_may⟩
  simp
structure F2 (i : Nat) (s : Spc) : Prop where
  c : Calm s 0 (199 + (i : Int))
  w : s.Waiters.length = min i 16
  tx : ∀ x ∈ s.Items, ∃ n : Int, x.T = [nF n]
theorem F1.f2 {one : Bool} {i : Nat} {s : Spc} (h : F1 one i s) (hi : i < 91) : F2 0 s := ⟨h.c.mono (Int.le_refl _) (by omega), by rw [h.w]; rfl, h.tx⟩
theorem F2.step {i : Nat} {s : Spc} (h : F2 i s) (hi : i < 21) : F2 (i + 1) (doS s 0 (rqG i)).1 ∧ (doS s 0 (rqG i)).2 = [rep (rqG i) (if i < 16 then 4 else 5) []] := by
  obtain ⟨e, hd, hc⟩ := h.c.do (now := 0) (rqG_may i hi) (Int.le_refl _) (by omega) (show 199 + (i : Int) < 200 + (i : Int) by omega) (Int.le_refl _)
  have hc2 : Calm (doS s 0 (rqG i)).1 0 (199 + ((i + 1 : Nat) : Int)) := hc.mono (Int.le_refl _) (show 200 + (i : Int) ≤ _ by omega)
  have hw := h.w
  have hf : findS { s with Now := 0 } (rqG i).P = -1 := by
    refine fidx_none fun j y hj hy => ?_
    obtain ⟨n, en⟩ := h.tx y (List.mem_of_getElem? hy)
    show matchT pT y.T = false
    rw [en]; exact match_T n
  by_cases h16 : i < 16
  · have e2 : doW { s with Now := 0 } (rqG i) [] = (tellS { s with Now := 0, Waiters := s.Waiters ++ [⟨((i % 4 : Nat) : Int), 200 + (i : Int), true, pT⟩] } (rqG i) 4 [], [rep (rqG i) 4 []]) := by
      rw [do_wait hd (.inr rfl), findW, hf, if_neg (by decide), if_neg (by decide), if_neg (show ¬ 16 ≤ s.Waiters.length by omega)]; rfl
    rw [e, e2] at hc2
    rw [e, e2, if_pos h16]
    refine ⟨⟨hc2, ?_, h.tx⟩, rfl⟩
    show (s.Waiters ++ [_]).length = _
    rw [List.length_append]
    simp only [List.length_cons, List.length_nil]
    omega
  · have e2 : doW { s with Now := 0 } (rqG i) [] = (tellS { s with Now := 0 } (rqG i) 5 [], [rep (rqG i) 5 []]) := by
      rw [do_wait hd (.inr rfl), findW, hf, if_neg (by decide), if_neg (by decide), if_pos (show 16 ≤ s.Waiters.length by omega)]; rfl
    rw [e, e2] at hc2
    rw [e, e2, if_neg h16]
    refine ⟨⟨hc2, ?_, h.tx⟩, rfl⟩
    show s.Waiters.length = _
    omega

end Go.Abs
