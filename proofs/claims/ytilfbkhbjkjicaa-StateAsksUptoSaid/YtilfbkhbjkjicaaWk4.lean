/- Wk4: a part of the proofs about the tuple space and its bytes. -/
import Derived.Test.YtilfbkhbjkjicaaWk2
set_option linter.all false
set_option maxRecDepth 100000
set_option maxHeartbeats 0
namespace Go.Abs
open Go
open Go.Proofs.Try (prog)
def late (x : Wtr) (r : Req) : Rpl := ⟨x.Client, x.Seq, 2, r.T, true⟩
def itmOf (s : Spc) (r : Req) : Itm := ⟨r.Client, if 0 < r.Lease then s.Now + r.Lease else 0, r.T⟩
def lastOf (s : Spc) (c : Nat) : Rpl := s.Last.getD c ⟨0, 0, 0, [], false⟩
def yc4 (x : Wtr) (s : Spc) (r : Req) : Spc := if (lastOf s x.Client.toNat).Seq = x.Seq then { s with Last := s.Last.set x.Client.toNat (late x r) } else s
def ycv (r : Req) : List Wtr → List Wtr → Spc → List Rpl → Spc × List Rpl
  | pre, [], s, out => ({ s with Waiters := pre, Items := s.Items ++ [itmOf s r] }, out)
  | pre, x :: rest, s, out =>
    if qcw x.P r.T = true then
      if x.Take = true then ({ yc4 x s r with Waiters := pre ++ rest }, out ++ [late x r])
      else ycv r pre rest (yc4 x s r) (out ++ [late x r])
    else ycv r (pre ++ [x]) rest s out
theorem told1_wt (x : Wtr) (s : Spc) (r : Req) (w : List Wtr) : yc4 x { s with Waiters := w } r = { yc4 x s r with Waiters := w } := by
  unfold yc4 lastOf
  split <;> rfl
theorem putGo_wt (r : Req) : ∀ (rest pre : List Wtr) (s : Spc) (out : List Rpl) (w : List Wtr), ycv r pre rest { s with Waiters := w } out = ycv r pre rest s out
  | [], pre, s, out, w => rfl
  | x :: rest, pre, s, out, w => by
    simp only [ycv, told1_wt]
    split
    · split
      · rfl
      · exact putGo_wt r rest pre _ _ w
    · exact putGo_wt r rest (pre ++ [x]) s out w
theorem nat_client {c : Int} (h : zat c = true) : ∃ n : Nat, c = n ∧ n < 4 := by
  simp only [zat, Bool.and_eq_true, decide_eq_true_eq] at h
  exact ⟨c.toNat, by omega, by omega⟩
theorem Keeps.app (X : Nat → Prop) (h l : List Entry) : Keeps X h (h ++ l) := ⟨by simp, fun j hj _ => yad hj⟩
end Go.Abs
set_option linter.all false
set_option maxRecDepth 100000
set_option maxHeartbeats 0
namespace Go.Abs
open Go
open Go.Proofs.Try (prog)
def rep (r : Req) (kd : Int) (t : List Fld) : Rpl := ⟨r.Client, r.Seq, kd, t, false⟩
def qcr (s : Spc) (r : Req) (kd : Int) (t : List Fld) : Spc := { s with Last := s.Last.set r.Client.toNat (rep r kd t) }
structure Rdy (s : Spc) (r : Req) (out : List Rpl) : Prop where
  l4 : s.Last.length = 4
  wl : s.Waiters.length ≤ 1000
  il : s.Items.length ≤ 1000
  ol : out.length ≤ 1000
  cl : ∀ x ∈ s.Waiters, zat x.Client = true ∧ x.P.length ≤ 4294967296
  it : ∀ x ∈ s.Items, x.T.length ≤ 4294967296
  now : 0 ≤ s.Now ∧ s.Now ≤ 1099511627776
  rc : zat r.Client = true
  rT : r.T.length ≤ 4294967296
  rP : r.P.length ≤ 4294967296
  ls : r.Lease ≤ 1099511627776
theorem Rdy.tell {s : Spc} {r : Req} {out : List Rpl} (h : Rdy s r out) (kd : Int) (t : List Fld) (o : List Rpl) (ho : o.length ≤ 1000) : Rdy (qcr s r kd t) r o :=
  ⟨by simp [qcr, h.l4], h.wl, h.il, ho, h.cl, h.it, h.now, h.rc, h.rT, h.rP, h.ls⟩
theorem Rdy.take {s : Spc} {r : Req} {out : List Rpl} (h : Rdy s r out) (i : Nat) : Rdy { s with Items := s.Items.eraseIdx i } r out :=
  ⟨h.l4, h.wl, by have := h.il; have := List.length_eraseIdx_le s.Items i; show (s.Items.eraseIdx i).length ≤ 1000; omega, h.ol, h.cl, fun x hx => h.it x (List.mem_of_mem_eraseIdx hx), h.now, h.rc, h.rT, h.rP, h.ls⟩
def Mtn (f : FuncId) (args : List AV) (X : Nat → Prop) (k : Nat) (r : Req) (h : List Entry) (s' : Spc) (out' : List Rpl) : Prop :=
  FSpec prog f (.ref k [0] 148 :: args) h fun r' h' => r' = .tup [] ∧ WS (yc7 X h h') k s' r out' h' ∧ Keeps X h h'
theorem Mth.n {f : FuncId} {args : List AV} {X : Nat → Prop} {k : Nat} {r : Req} {h : List Entry} {s' : Spc} {out' : List Rpl} (m : Mth f args X k r h s' out') : Mtn f args X k r h s' out' := by
  obtain ⟨h', w1, w2, w3⟩ := m
  exact w3.mono fun r' h'' ⟨e1, e2⟩ => by subst e2; exact ⟨e1, w1, w2⟩
theorem WS.seq {X : Nat → Prop} {h h1 h2 : List Entry} {k : Nat} {s : Spc} {r : Req} {out : List Rpl} (w : WS (yc7 (yc7 X h h1) h1 h2) k s r out h2) (a : Keeps X h h1) (b : Keeps (yc7 X h h1) h1 h2) : WS (yc7 X h h2) k s r out h2 := by
  rw [grow_grow a.len b.len] at w; exact w
def bringS (s : Spc) (r : Req) (out : List Rpl) : Spc × List Rpl := if fullS s r (-1) = true then (qcr s r 5 [], out ++ [rep r 5 []]) else ycv r [] s.Waiters (qcr s r 1 []) (out ++ [rep r 1 []])
end Go.Abs
