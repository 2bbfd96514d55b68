/- Gq: a part of the proofs about the tuple space and its bytes. -/
import Derived.Test.YtilfbkhbjkjicaaGg
set_option linter.all false
set_option maxRecDepth 100000
set_option maxHeartbeats 0
namespace Go.Abs
open Go
open Go.Proofs.Try (prog)
/-! ### a genesis comes back from its bytes -/
theorem mayG_parts {g : Gen} (h : mayG g = true) : (0 ≤ g.F ∧ g.F ≤ 2) ∧ (0 ≤ g.Read ∧ g.Read ≤ 15) ∧ (0 ≤ g.Write ∧ g.Write ≤ 15) ∧ (g.Keys.length : Int) = 3 * g.F + 1 ∧ (∀ x ∈ g.Keys, x.length = 56) ∧ g.Start.length ≤ 40000 := by
  simp only [mayG, headG, Bool.and_eq_true, decide_eq_true_eq, Bool.or_eq_true, List.all_eq_true] at h
  obtain ⟨⟨⟨⟨⟨h1, h2⟩, h3⟩, h4⟩, h5⟩, h6, h7⟩ := h
  refine ⟨⟨h1, h2⟩, fdiv16 h3, fdiv16 h4, h5, fun x hx => formK_len (h6 x hx), ?_⟩
  rcases h7 with h7 | h7
  · omega
  · cases hs : getS g.Start with
    | none =>
      have e : startG g = startO g none := congrArg (startO g) hs
      rw [e, startO] at h7
      cases h7
    | some s =>
      obtain ⟨hm, hp⟩ := getS_some hs
      rw [← hp]
      exact putS_len hm
theorem parseG_put {g : Gen} (h : mayG g = true) (t : List UInt8) : parseG ⟨putG g ++ t, false⟩ = (g, ⟨t, false⟩) := by
  obtain ⟨hF, hR, hW, hK, h56, hS⟩ := mayG_parts h
  have n1 := num_nb (n := 1) hF.1 (by show g.F < 256; omega) (by omega) (nb g.Read 1 ++ (nb g.Write 1 ++ (g.Keys.flatten ++ (textB g.Start ++ t))))
  have n2 := num_nb (n := 1) hR.1 (by show g.Read < 256; omega) (by omega) (nb g.Write 1 ++ (g.Keys.flatten ++ (textB g.Start ++ t)))
  have n3 := num_nb (n := 1) hW.1 (by show g.Write < 256; omega) (by omega) (g.Keys.flatten ++ (textB g.Start ++ t))
  have n4 := getMany_put (f := rawK) (g := fun x : List UInt8 => x) g.Keys (textB g.Start ++ t) fun x hx t => by
    have := RS.raw_app x t
    rw [h56 x hx] at this
    exact this
  have hfl : g.Keys.flatMap (fun x : List UInt8 => x) = g.Keys.flatten := by rw [List.flatMap_def]; simp
  rw [hfl] at n4
  have hn : nK g.F = g.Keys.length := by rw [nK]; omega
  have n5 := RS.text_put g.Start t 65536 (by omega) (by omega)
  simp only [parseG, putG, List.append_assoc, n1, n2, n3, hn, n4, n5]
theorem getG_put {g : Gen} (h : mayG g = true) : getG (putG g) = some g := by
  have := parseG_put h []
  rw [List.append_nil] at this
  rw [getG, this, if_pos ⟨rfl, h, rfl⟩]
theorem getG_some {b : List UInt8} {g : Gen} (h : getG b = some g) : mayG g = true ∧ putG g = b := by
  rw [getG] at h
  split at h
  · rename_i hc; cases h; exact ⟨hc.2.1, hc.2.2⟩
  · cases h
theorem all2_lb : ∀ {l m : List (List UInt8)}, all2 (fun x y : List UInt8 => x == y) l m = true → l = m
  | [], [], _ => rfl
  | [], _ :: _, h => by simp [all2] at h
  | _ :: _, [], h => by simp [all2] at h
  | x :: l, y :: m, h => by
    simp only [all2, Bool.and_eq_true] at h
    rw [eq_of_beq h.1, all2_lb h.2]
theorem sameG_eq {a b : Gen} (h : sameG a b = true) : a = b := by
  simp only [sameG, Bool.and_eq_true] at h
  obtain ⟨h1, h2, h3, h4, h5⟩ := h
  have h1 := eq_of_beq h1
  have h2 := eq_of_beq h2
  have h3 := eq_of_beq h3
  have h4 := all2_lb h4
  have h5 := eq_of_beq h5
  cases a; cases b; simp_all
theorem sameG_rfl (g : Gen) : sameG g g = true := by
  have : ∀ l : List (List UInt8), all2 (fun x y : List UInt8 => x == y) l l = true := fun l => by
    induction l with
    | nil => rfl
    | cons x l ih => simp only [all2, ih, beq_self_eq_true, Bool.and_self]
  simp [sameG, this]
/-- the same bytes just if the same genesis -/
theorem putG_same {a b : Gen} (ha : mayG a = true) (hb : mayG b = true) : (putG a == putG b) = sameG a b := by
  cases h : sameG a b with
  | true => rw [sameG_eq h]; simp
  | false =>
    rw [beq_eq_false_iff_ne]
    intro e
    have x := getG_put ha
    rw [e, getG_put hb] at x
    cases x
    rw [sameG_rfl] at h
    cases h

end Go.Abs
