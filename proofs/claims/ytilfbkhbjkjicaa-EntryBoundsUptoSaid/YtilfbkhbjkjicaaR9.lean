/- R9: a part of the proofs about the tuple space and its bytes. -/
import Derived.Test.YtilfbkhbjkjicaaR7
set_option linter.all false
set_option maxRecDepth 100000
set_option maxHeartbeats 0
namespace Go.Abs
open Go
open Go.Proofs.Try (prog)
end Go.Abs
set_option linter.all false
set_option maxRecDepth 100000
set_option maxHeartbeats 0
namespace Go.Abs
open Go
open Go.Proofs.Try (prog)
def Gtn (f : FuncId) (args : List AV) (X : Nat → Prop) (k : Nat) (h : List Entry) (s' : Spc) (out' : List Rpl) : Prop :=
  FSpec prog f (.ref k [0] 132 :: args) h fun r' h' => r' = .tup [] ∧ GS (ybh X h h') k s' out' h' ∧ Keeps X h h'
theorem Gth.n {f : FuncId} {args : List AV} {X : Nat → Prop} {k : Nat} {h : List Entry} {s' : Spc} {out' : List Rpl} (m : Gth f args X k h s' out') : Gtn f args X k h s' out' := by
  obtain ⟨h', w1, w2, w3⟩ := m
  exact w3.mono fun r' h'' ⟨e1, e2⟩ => by subst e2; exact ⟨e1, w1, w2⟩
theorem GS.up {X Y : Nat → Prop} {k : Nat} {s : Spc} {out : List Rpl} {h : List Entry} (hw : GS X k s out h) (hX : ∀ j, X j → Y j) (hb : ∀ j, Y j → j < h.length) : GS Y k s out h := by
  obtain ⟨b, o, vi, vw, vo, h1, h2, h3, h4⟩ := hw
  exact ⟨hb, hX _ o, vi, vw, vo, h1, h2.up hX, h3.up hX, h4.up hX⟩
theorem GS.app {X : Nat → Prop} {k : Nat} {s : Spc} {out : List Rpl} {h : List Entry} (hw : GS X k s out h) (l : List Entry) : GS X k s out (h ++ l) := by
  obtain ⟨b, o, vi, vw, vo, h1, h2, h3, h4⟩ := hw
  exact ⟨fun j hj => by have := b j hj; simp; omega, o, vi, vw, vo, by rw [List.getElem?_append_left (qab h1)]; exact h1, h2.app l, h3.app l, h4.app l⟩
theorem GS.seq {X : Nat → Prop} {h h1 h2 : List Entry} {k : Nat} {s : Spc} {out : List Rpl} (w : GS (ybh (ybh X h h1) h1 h2) k s out h2) (a : Keeps X h h1) (b : Keeps (ybh X h h1) h1 h2) : GS (ybh X h h2) k s out h2 := by
  rw [grow_grow a.len b.len] at w; exact w
end Go.Abs
