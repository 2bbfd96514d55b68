/- Dz: a part of the proofs about the tuple space and its bytes. -/
import Derived.Test.YtilfbkhbjkjicaaWk6
set_option linter.all false
set_option maxRecDepth 100000
set_option maxHeartbeats 0
namespace Go.Abs
open Go
open Go.Proofs.Try (prog)
def expd (now : Int) (x : Itm) : Bool := x.Until != 0 && decide (x.Until ≤ now)
def live (now : Int) (l : List Itm) : List Itm := l.filter fun x => !expd now x
theorem fidx_none' {α : Type} {p : α → Bool} {l : List α} (h : fidx p l = -1) : ∀ x ∈ l, p x = false := by
  unfold fidx at h
  cases hf : l.findIdx? p with
  | none => rw [List.findIdx?_eq_none_iff] at hf; intro x hx; simpa using hf x hx
  | some j => rw [hf] at h; simp at h
theorem fidx_cases {α : Type} (p : α → Bool) (l : List α) : fidx p l = -1 ∨ ∃ i : Nat, fidx p l = i ∧ i < l.length := by
  by_cases h : 0 ≤ fidx p l
  · obtain ⟨i, x, hi, _, hl, _⟩ := fidx_get h
    exact .inr ⟨i, hi, hl⟩
  · left
    unfold fidx at h ⊢
    cases hf : l.findIdx? p with
    | none => rfl
    | some j => rw [hf] at h; simp at h
end Go.Abs
set_option linter.all false
set_option maxRecDepth 100000
set_option maxHeartbeats 0
namespace Go.Abs
open Go
open Go.Proofs.Try (prog)
def doOK (s : Spc) (now : Int) (r : Req) : Bool := zbw s && mayQ r && decide (s.Now ≤ now) && decide (now ≤ 1099511627776)
def aged (s : Spc) (now : Int) : Spc := { s with Now := now, Items := live now s.Items }
def doS (s : Spc) (now : Int) (r : Req) : Spc × List Rpl :=
  if doOK s now r = true then
    (if r.Seq < (lastOf s r.Client.toNat).Seq then (aged s now, [⟨r.Client, r.Seq, 7, [], false⟩])
     else if r.Seq = (lastOf s r.Client.toNat).Seq then (aged s now, [lastOf s r.Client.toNat])
     else doW (aged s now) r [])
  else (s, [])
end Go.Abs
