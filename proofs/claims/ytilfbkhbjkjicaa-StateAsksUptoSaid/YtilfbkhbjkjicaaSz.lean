/- Sz: a part of the proofs about the tuple space and its bytes. -/
import Derived.Test.YtilfbkhbjkjicaaDz
set_option linter.all false
set_option maxRecDepth 100000
set_option maxHeartbeats 0
namespace Go.Abs
open Go
open Go.Proofs.Try (prog)
structure Sz (n : Nat) (s : Spc) (out : List Rpl) : Prop where
  il : s.Items.length ≤ n
  it : ∀ x ∈ s.Items, x.T.length ≤ 4294967296
  wl : s.Waiters.length ≤ n
  wt : ∀ x ∈ s.Waiters, x.P.length ≤ 4294967296
  l4 : s.Last.length = 4
  lt : ∀ x ∈ s.Last, x.T.length ≤ 4294967296
  ol : out.length ≤ n
  ot : ∀ x ∈ out, x.T.length ≤ 4294967296
theorem Sz.up {n m : Nat} {s : Spc} {out : List Rpl} (h : Sz n s out) (hm : n ≤ m) : Sz m s out := ⟨Nat.le_trans h.il hm, h.it, Nat.le_trans h.wl hm, h.wt, h.l4, h.lt, Nat.le_trans h.ol hm, h.ot⟩
theorem mem_set' {α : Type} {l : List α} {i : Nat} {a x : α} (h : x ∈ l.set i a) : x ∈ l ∨ x = a := List.mem_or_eq_of_mem_set h
theorem Sz.last {n : Nat} {s : Spc} {out : List Rpl} (h : Sz n s out) {c : Nat} {x : Rpl} (hx : x.T.length ≤ 4294967296) : Sz n { s with Last := s.Last.set c x } out :=
  ⟨h.il, h.it, h.wl, h.wt, by simpa using h.l4, fun y hy => by rcases mem_set' hy with hy | rfl; exact h.lt y hy; exact hx, h.ol, h.ot⟩
theorem Sz.out {n : Nat} {s : Spc} {out : List Rpl} (h : Sz n s out) {x : Rpl} (hx : x.T.length ≤ 4294967296) : Sz (n + 1) s (out ++ [x]) :=
  ⟨by have := h.il; omega, h.it, by have := h.wl; omega, h.wt, h.l4, h.lt, by have := h.ol; simp; omega, fun y hy => by
    rcases List.mem_append.1 hy with hy | hy
    · exact h.ot y hy
    · rw [List.mem_singleton.1 hy]; exact hx⟩
theorem Sz.tell {n : Nat} {s : Spc} {out : List Rpl} {r : Req} {kd : Int} {t : List Fld} (h : Sz n s out) (ht : t.length ≤ 4294967296) : Sz (n + 1) (qcr s r kd t) (out ++ [rep r kd t]) := (h.last (x := rep r kd t) ht).out (x := rep r kd t) ht
theorem Sz.told {n : Nat} {s : Spc} {out : List Rpl} {r : Req} {x : Wtr} (h : Sz n s out) (hr : r.T.length ≤ 4294967296) : Sz (n + 1) (yc4 x s r) (out ++ [late x r]) := by
  unfold yc4
  split
  · exact (h.last (x := late x r) hr).out hr
  · exact h.out hr
theorem Sz.put {r : Req} (hr : r.T.length ≤ 4294967296) : ∀ (rest pre : List Wtr) (s : Spc) (out : List Rpl) (n : Nat), Sz n s out → (∀ x ∈ pre, x.P.length ≤ 4294967296) → (∀ x ∈ rest, x.P.length ≤ 4294967296) → pre.length + rest.length ≤ n →
    Sz (n + rest.length + 1) (ycv r pre rest s out).1 (ycv r pre rest s out).2
  | [], pre, s, out, n, h, hp, _, hl => by
    simp only [ycv]
    refine ⟨by have := h.il; simp; omega, fun x hx => ?_, by simp at hl ⊢; omega, hp, h.l4, h.lt, by have := h.ol; omega, h.ot⟩
    rcases List.mem_append.1 hx with hx | hx
    · exact h.it x hx
    · rw [List.mem_singleton.1 hx]; exact hr
  | x :: rest, pre, s, out, n, h, hp, hq, hl => by
    have hq2 : ∀ y ∈ rest, y.P.length ≤ 4294967296 := fun y hy => hq y (by simp [hy])
    simp only [List.length_cons] at hl ⊢
    simp only [ycv]
    split
    · have h1 := h.told (x := x) hr
      split
      · exact ⟨Nat.le_trans h1.il (by omega), h1.it, by simp; omega, fun y hy => (List.mem_append.1 hy).elim (hp y) (hq2 y), h1.l4, h1.lt, Nat.le_trans h1.ol (by omega), h1.ot⟩
      · exact (Sz.put hr rest pre _ _ (n + 1) h1 hp hq2 (by omega)).up (by omega)
    · refine (Sz.put hr rest (pre ++ [x]) s out n h (fun y hy => ?_) hq2 (by simp; omega)).up (by omega)
      rcases List.mem_append.1 hy with hy | hy
      · exact hp y hy
      · rw [List.mem_singleton.1 hy]; exact hq x (by simp)
theorem Sz.puts {r : Req} {s s1 : Spc} {out : List Rpl} {n : Nat} (h : Sz n s1 out) (hr : r.T.length ≤ 4294967296) (hw : ∀ x ∈ s.Waiters, x.P.length ≤ 4294967296) (hl : s.Waiters.length ≤ n) : Sz (n + n + 1) (ycv r [] s.Waiters s1 out).1 (ycv r [] s.Waiters s1 out).2 :=
  (Sz.put hr s.Waiters [] s1 out n h (fun x hx => by simp at hx) hw (by simpa using hl)).up (by omega)
theorem Sz.bring {n : Nat} {s : Spc} {out : List Rpl} {r : Req} (h : Sz n s out) (hr : r.T.length ≤ 4294967296) : Sz (n + n + 3) (bringS s r out).1 (bringS s r out).2 := by
  unfold bringS
  split
  · exact (h.tell (by simp)).up (by omega)
  · exact ((h.tell (r := r) (kd := 1) (t := []) (by simp)).puts hr h.wt (by have := h.wl; omega)).up (by omega)
theorem Sz.at {n : Nat} {s : Spc} {out : List Rpl} (h : Sz n s out) (i : Nat) : (s.Items.getD i ⟨0, 0, []⟩).T.length ≤ 4294967296 := by
  by_cases hi : i < s.Items.length
  · rw [List.getD_eq_getElem?_getD, List.getElem?_eq_getElem hi]; exact h.it _ (List.getElem_mem hi)
  · rw [List.getD_eq_getElem?_getD, List.getElem?_eq_none (by omega)]; simp
theorem Sz.items {n : Nat} {s : Spc} {out : List Rpl} (h : Sz n s out) {l : List Itm} (hs : List.Sublist l s.Items) : Sz n { s with Items := l } out :=
  ⟨Nat.le_trans hs.length_le h.il, fun x hx => h.it x (hs.subset hx), h.wl, h.wt, h.l4, h.lt, h.ol, h.ot⟩
theorem Sz.waits {n : Nat} {s : Spc} {out : List Rpl} (h : Sz n s out) {w : Wtr} (hw : w.P.length ≤ 4294967296) : Sz (n + 1) { s with Waiters := s.Waiters ++ [w] } out :=
  ⟨by have := h.il; show s.Items.length ≤ _; omega, h.it, by have := h.wl; simp; omega, fun x hx => by
    rcases List.mem_append.1 hx with hx | hx
    · exact h.wt x hx
    · rw [List.mem_singleton.1 hx]; exact hw, h.l4, h.lt, by have := h.ol; omega, h.ot⟩
theorem Sz.find {n : Nat} {s : Spc} {out : List Rpl} {r : Req} {tk wt : Bool} (h : Sz n s out) (hr : r.P.length ≤ 4294967296) : Sz (n + n + 3) (findW s r out tk wt).1 (findW s r out tk wt).2 := by
  unfold findW
  split
  · have h1 := h.tell (r := r) (kd := 2) (h.at (ycl s r.P).toNat)
    split
    · exact (h1.items (l := s.Items.eraseIdx (ycl s r.P).toNat) (List.eraseIdx_sublist ..)).up (by omega)
    · exact h1.up (by omega)
  · split
    · exact (h.tell (by simp)).up (by omega)
    · split
      · exact (h.tell (by simp)).up (by omega)
      · exact ((h.waits (w := ⟨r.Client, r.Seq, tk, r.P⟩) hr).tell (by simp)).up (by omega)
theorem Sz.turn {n : Nat} {s : Spc} {out : List Rpl} {r : Req} (h : Sz n s out) (hr : r.T.length ≤ 4294967296) : Sz (n + n + 3) (turnW s r out).1 (turnW s r out).2 := by
  unfold turnW
  split
  · exact (h.tell (by simp)).up (by omega)
  · split
    · exact (h.tell (by simp)).up (by omega)
    · have h1 := h.tell (r := r) (kd := 2) (h.at (ycl s r.P).toNat)
      have h2 := h1.items (l := s.Items.eraseIdx (ycl s r.P).toNat) (List.eraseIdx_sublist ..)
      exact (h2.puts hr h.wt (by have := h.wl; omega)).up (by omega)
theorem Sz.doW {n : Nat} {s : Spc} {r : Req} {out : List Rpl} (h : Sz n s out) (hr : r.Small) : Sz (n + n + 3) (doW s r out).1 (doW s r out).2 := by
  unfold Go.Abs.doW
  split
  · exact (h.tell (by simp)).up (by omega)
  split
  · exact h.bring hr.T
  split
  · exact h.find hr.P
  split
  · exact h.find hr.P
  split
  · exact h.find hr.P
  split
  · exact h.find hr.P
  split
  · split
    · exact (h.tell (by simp)).up (by omega)
    · exact h.bring hr.T
  split
  · exact h.turn hr.T
  · exact (h.tell (by simp)).up (by omega)
end Go.Abs
