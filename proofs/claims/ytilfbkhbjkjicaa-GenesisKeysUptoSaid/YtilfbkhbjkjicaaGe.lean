/- Ge: a part of the proofs about the tuple space and its bytes. -/
import Derived.Test.YtilfbkhbjkjicaaGd
set_option linter.all false
namespace Go.Abs
open Go
section
variable {P : Program}
/-! ### many rows given up at once -/
def frz (e : Entry) : Entry := if e.st = .own ∧ e.es.isEmpty = false then fzE e else e
theorem frz_frz (e : Entry) : frz (frz e) = frz e := by
  unfold frz
  split
  · simp [fzE]
  · rfl
def frzL : List Nat → List Entry → List Entry
  | [], h => h
  | k :: ks, h => frzL ks (match h[k]? with | some e => h.set k (frz e) | none => h)
theorem frz1_get (h : List Entry) (k j : Nat) : (match h[k]? with | some e => h.set k (frz e) | none => h)[j]? = if j = k then h[j]?.map frz else h[j]? := by
  cases hk : h[k]? with
  | none =>
    simp only
    split
    · rename_i e; subst e; rw [hk]; rfl
    · rfl
  | some e =>
    simp only
    by_cases e1 : j = k
    · subst e1; rw [if_pos rfl, List.getElem?_set_self (lt_some hk), hk]; rfl
    · rw [if_neg e1, List.getElem?_set_ne (Ne.symm e1)]
theorem frzL_get : ∀ (ks : List Nat) (h : List Entry) (j : Nat), (frzL ks h)[j]? = if j ∈ ks then h[j]?.map frz else h[j]?
  | [], h, j => by simp [frzL]
  | k :: ks, h, j => by
    rw [frzL, frzL_get ks, frz1_get]
    by_cases e1 : j = k
    · subst e1
      simp only [if_true, List.mem_cons, true_or]
      split
      · cases h[j]? with
        | none => rfl
        | some e => simp [frz_frz]
      · rfl
    · simp only [List.mem_cons, e1, false_or, if_false]
theorem FSpec.frzL (hP : WF P) {f : FuncId} {args : List AV} {K : AV → List Entry → Prop} : ∀ (ks : List Nat) (h : List Entry), FSpec P f args (Go.Abs.frzL ks h) K → FSpec P f args h K
  | [], h, hp => hp
  | k :: ks, h, hp => by
    rw [Go.Abs.frzL] at hp
    have hq := FSpec.frzL hP ks _ hp
    cases hk : h[k]? with
    | none => rw [hk] at hq; exact hq
    | some e =>
      rw [hk] at hq
      simp only at hq
      by_cases hc : e.st = .own ∧ e.es.isEmpty = false
      · rw [frz, if_pos hc] at hq
        exact FSpec.freeze hP hk hc.1 (by intro e0; rw [e0] at hc; simp at hc) hq
      · rw [frz, if_neg hc] at hq
        have : h.set k e = h := by
          apply List.ext_getElem?
          intro j
          by_cases e1 : j = k
          · subst e1; rw [List.getElem?_set_self (lt_some hk), hk]
          · rw [List.getElem?_set_ne (Ne.symm e1)]
        rwa [this] at hq
end
end Go.Abs
