/- Wk2: a part of the proofs about the tuple space and its bytes. -/
import Derived.Test.YtilfbkhbjkjicaaSl
import Derived.Test.YtilfbkhbjkjicaaSp3
set_option linter.all false
set_option maxRecDepth 100000
set_option maxHeartbeats 0
namespace Go.Abs
open Go
open Go.Proofs.Try (prog)
def wkE (s : Spc) (r : Req) (vi vw vo : AV) : Entry := ⟨148, [.agg 148 [.agg 29 [.int .i64 s.Now, vi, vw, .int .i64 s.Read, .int .i64 s.Write, eL s.Last], eQ r, vo]], .own⟩
structure WS (X : Nat → Prop) (k : Nat) (s : Spc) (r : Req) (out : List Rpl) (h : List Entry) : Prop where
  bd : ∀ j, X j → j < h.length
  own : X k
  ex : ∃ vi vw vo, h[k]? = some (wkE s r vi vw vo) ∧ View X h 87 vi (s.Items.map eI) ∧ View X h 89 vw (s.Waiters.map eW) ∧ View X h 26 vo (out.map eR)
theorem WS.up {X Y : Nat → Prop} {k : Nat} {s : Spc} {r : Req} {out : List Rpl} {h : List Entry} (hw : WS X k s r out h) (hX : ∀ j, X j → Y j) (hb : ∀ j, Y j → j < h.length) : WS Y k s r out h := by
  obtain ⟨b, o, vi, vw, vo, h1, h2, h3, h4⟩ := hw
  exact ⟨hb, hX _ o, vi, vw, vo, h1, h2.up hX, h3.up hX, h4.up hX⟩
theorem WS.app {X : Nat → Prop} {k : Nat} {s : Spc} {r : Req} {out : List Rpl} {h : List Entry} (hw : WS X k s r out h) (l : List Entry) : WS X k s r out (h ++ l) := by
  obtain ⟨b, o, vi, vw, vo, h1, h2, h3, h4⟩ := hw
  exact ⟨fun j hj => by have := b j hj; simp; omega, o, vi, vw, vo, by rw [List.getElem?_append_left (zac h1)]; exact h1, h2.app l, h3.app l, h4.app l⟩
theorem yaq {h l : List Entry} {k k' : Nat} {e e' : Entry} : ((h.set k e).set k' e' ++ l)[h.length]? = l[0]? := by
  have := zar ((h.set k e).set k' e') l
  simpa using this
theorem qdr {h l : List Entry} {k k' i : Nat} {e e' x : Entry} : ((h.set k e).set k' e' ++ l).set (h.length + i) x = (h.set k e).set k' e' ++ l.set i x := by
  have := set_at ((h.set k e).set k' e') l i x
  simpa using this
def Mth (f : FuncId) (args : List AV) (X : Nat → Prop) (k : Nat) (r : Req) (h : List Entry) (s' : Spc) (out' : List Rpl) : Prop :=
  ∃ h', WS (yc7 X h h') k s' r out' h' ∧ Keeps X h h' ∧ FSpec prog f (.ref k [0] 148 :: args) h fun r' h'' => r' = .tup [] ∧ h'' = h'
end Go.Abs
set_option linter.all false
set_option maxRecDepth 100000
set_option maxHeartbeats 0
namespace Go.Abs
open Go
open Go.Proofs.Try (prog)
def del (l : List Itm) (g : Int) : List Itm := if 0 ≤ g then l.eraseIdx g.toNat else l
theorem cnt_app (l : List Itm) (x : Itm) (c : Int) : cnt (l ++ [x]) c = cnt l c + if x.Owner = c then 1 else 0 := by
  rw [cnt, List.countP_append, List.countP_singleton]
  simp [cnt]
def fullS (s : Spc) (r : Req) (g : Int) : Bool := decide (64 ≤ (del s.Items g).length) || decide (24 ≤ cnt (del s.Items g) r.Client)
end Go.Abs
