/- Wk6: a part of the proofs about the tuple space and its bytes. -/
import Derived.Test.YtilfbkhbjkjicaaWk4
set_option linter.all false
set_option maxRecDepth 100000
set_option maxHeartbeats 0
namespace Go.Abs
open Go
open Go.Proofs.Try (prog)
theorem fidx_get {α : Type} {p : α → Bool} {l : List α} (h : 0 ≤ fidx p l) : ∃ i x, fidx p l = (i : Nat) ∧ l[i]? = some x ∧ i < l.length ∧ p x = true := by
  unfold fidx at h ⊢
  cases hf : l.findIdx? p with
  | none => rw [hf] at h; simp at h
  | some j =>
    rw [List.findIdx?_eq_some_iff_getElem] at hf
    obtain ⟨hj, hp, _⟩ := hf
    exact ⟨j, l[j], rfl, List.getElem?_eq_getElem hj, hj, hp⟩
def findW (s : Spc) (r : Req) (out : List Rpl) (takes waits : Bool) : Spc × List Rpl :=
  if 0 ≤ ycl s r.P then
    (if takes = true then { qcr s r 2 (s.Items.getD (ycl s r.P).toNat ⟨0, 0, []⟩).T with Items := s.Items.eraseIdx (ycl s r.P).toNat } else qcr s r 2 (s.Items.getD (ycl s r.P).toNat ⟨0, 0, []⟩).T,
     out ++ [rep r 2 (s.Items.getD (ycl s r.P).toNat ⟨0, 0, []⟩).T])
  else if waits = false then (qcr s r 3 [], out ++ [rep r 3 []])
  else if 16 ≤ s.Waiters.length then (qcr s r 5 [], out ++ [rep r 5 []])
  else (qcr { s with Waiters := s.Waiters ++ [⟨r.Client, r.Seq, takes, r.P⟩] } r 4 [], out ++ [rep r 4 []])
theorem getD_some {α : Type} {l : List α} {i : Nat} {x d : α} (h : l[i]? = some x) : l.getD i d = x := by rw [List.getD_eq_getElem?_getD, h]; rfl
end Go.Abs
set_option linter.all false
set_option maxRecDepth 100000
set_option maxHeartbeats 0
namespace Go.Abs
open Go
open Go.Proofs.Try (prog)
def turnW (s : Spc) (r : Req) (out : List Rpl) : Spc × List Rpl :=
  if ycl s r.P < 0 then (qcr s r 3 [], out ++ [rep r 3 []])
  else if fullS s r (ycl s r.P) = true then (qcr s r 5 [], out ++ [rep r 5 []])
  else ycv r [] s.Waiters { qcr s r 2 (s.Items.getD (ycl s r.P).toNat ⟨0, 0, []⟩).T with Items := s.Items.eraseIdx (ycl s r.P).toNat } (out ++ [rep r 2 (s.Items.getD (ycl s r.P).toNat ⟨0, 0, []⟩).T])
def bitOf (v c : Int) : Bool := bits .and .i64 (v.fdiv (2 ^ (min (IntKind.wrap .u64 c).toNat IntKind.i64.bits))) 1 == 0
def denyS (s : Spc) (r : Req) : Bool := (readsK r.Kind && bitOf s.Read r.Client) || (writesK r.Kind && bitOf s.Write r.Client)
def doW (s : Spc) (r : Req) (out : List Rpl) : Spc × List Rpl :=
  if denyS s r = true then (qcr s r 6 [], out ++ [rep r 6 []])
  else if r.Kind = 1 then bringS s r out
  else if r.Kind = 2 then findW s r out false false
  else if r.Kind = 3 then findW s r out true false
  else if r.Kind = 4 then findW s r out false true
  else if r.Kind = 5 then findW s r out true true
  else if r.Kind = 6 then (if 0 ≤ ycl s r.P then (qcr s r 3 [], out ++ [rep r 3 []]) else bringS s r out)
  else if r.Kind = 7 then turnW s r out
  else (qcr s r 1 [], out ++ [rep r 1 []])
end Go.Abs
