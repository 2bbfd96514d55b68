/- Hp: a part of the proofs about the tuple space (layer 8). -/
import Derived.Test.YtelohjfiojpeeaaAbs28
set_option linter.all false
namespace Go.Abs
open Go
section
variable {P : Program}
/-! ### What lies at the beginning of the own heap stays -/
theorem tk_keep {H l h : List Entry} {e : Entry} (hT : H.take h.length = h) (hkl : h.length < H.length) : (H.set h.length e ++ l).take h.length = h := by
  rw [List.take_append_of_le_length (by rw [List.length_set]; omega), List.take_set_of_le (Nat.le_refl _)]; exact hT
theorem get_keep {H l h : List Entry} {e : Entry} (hkl : h.length < H.length) : (H.set h.length e ++ l)[h.length]? = some e := by
  rw [List.getElem?_append_left (by rw [List.length_set]; exact hkl), List.getElem?_set_self hkl]
theorem get_stay {H l : List Entry} {k j : Nat} {e x : Entry} (hj : H[j]? = some x) (hne : k ≠ j) : (H.set k e ++ l)[j]? = some x := by
  rw [List.getElem?_append_left (by rw [List.length_set]; exact lt_some hj), List.getElem?_set_ne hne]; exact hj
theorem tk_keep2 {H l h : List Entry} {e e' : Entry} {k : Nat} (hT : H.take h.length = h) (hkl : h.length < H.length) (hk : h.length < k) : ((H.set h.length e).set k e' ++ l).take h.length = h := by
  rw [List.take_append_of_le_length (by simp; omega), List.take_set_of_le (by omega), List.take_set_of_le (Nat.le_refl _)]; exact hT
theorem get_keep2 {H l h : List Entry} {e e' : Entry} {k : Nat} (hkl : h.length < H.length) (hk : h.length < k) : ((H.set h.length e).set k e' ++ l)[h.length]? = some e := by
  rw [List.getElem?_append_left (by simp; exact hkl), List.getElem?_set_ne (by omega), List.getElem?_set_self hkl]
theorem get_keep3 {H l h : List Entry} {e e' : Entry} {k : Nat} (hkl : k < H.length) : ((H.set h.length e).set k e' ++ l)[k]? = some e' := by
  rw [List.getElem?_append_left (by simp; exact hkl), List.getElem?_set_self (by simp; exact hkl)]
theorem tk_keep4 {H l h : List Entry} {e e' : Entry} {k : Nat} (hT : H.take h.length = h) (hkl : h.length < H.length) (hk : h.length < k) : ((H.set k e').set h.length e ++ l).take h.length = h := by
  rw [List.take_append_of_le_length (by simp; omega), List.take_set_of_le (Nat.le_refl _), List.take_set_of_le (by omega)]; exact hT
theorem get_keep5 {H l h : List Entry} {e e' : Entry} {k : Nat} (hkl : h.length < H.length) : ((H.set k e').set h.length e ++ l)[h.length]? = some e := by
  rw [List.getElem?_append_left (by simp; exact hkl), List.getElem?_set_self (by simp; exact hkl)]
theorem get_keep4 {H l h : List Entry} {e e' : Entry} {k : Nat} (hkl : k < H.length) (hk : h.length < k) : ((H.set k e').set h.length e ++ l)[k]? = some e' := by
  rw [List.getElem?_append_left (by simp; exact hkl), List.getElem?_set_ne (by omega), List.getElem?_set_self hkl]
theorem k_giveA (hP : WF P) {g : FuncId} {args args' raw : List AV} {r : AV} {k : Nat} {T : TypeId} {es : List AV} {st : Status} {env : Env} {h : List Entry} {s : List Ctl} {d : Option Tmp} {Q : APost} (hk : h[k]? = some ⟨T, es, st⟩) (ho : st = .own ∨ st = .fz) (hne : es ≠ []) (ha : args.map (bz (h.set k ⟨T, es, .fz⟩) 4) = args') (hp : Fn P g args' r)
    (hk2 : Rn P s .normal (putD env d r) (h.set k ⟨T, es, .fz⟩) Q) : Rk P g args raw d s env h Q := by
  rcases ho with rfl | rfl
  · exact k_give hP hk rfl hne ha hp hk2
  · have e : h.set k ⟨T, es, .fz⟩ = h := by
      refine List.ext_getElem? fun j => ?_
      rw [List.getElem?_set]
      split
      · rename_i e
        subst e
        rw [if_pos (lt_some hk), hk]
      · rfl
    rw [e] at ha hk2
    exact k_read hP ha hp hk2
/-- a loop that allocates: what lies at the beginning of the own heap stays -/
def GI1 (h : List Entry) (e0 : Entry) (p : Nat → Prop) (E : Nat → (Nat → AV) → Env) (i : Nat) (env : Env) (hh : List Entry) : Prop := p i ∧ hh.take h.length = h ∧ hh[h.length]? = some e0 ∧ env = E i (lk env)
theorem GI1.mk {h H l : List Entry} {e0 : Entry} {p : Nat → Prop} {E : Nat → (Nat → AV) → Env} {i : Nat} {env : Env} (hp : p i) (hT : H.take h.length = h) (h0 : H[h.length]? = some e0) (he : env = E i (lk env)) : GI1 h e0 p E i env (H ++ l) := by
  have := lt_some h0
  exact ⟨hp, by rw [List.take_append_of_le_length (by omega)]; exact hT, by rw [List.getElem?_append_left this]; exact h0, he⟩
theorem GI1.mk0 {h H : List Entry} {e0 : Entry} {p : Nat → Prop} {E : Nat → (Nat → AV) → Env} {i : Nat} {env : Env} (hp : p i) (hT : H.take h.length = h) (h0 : H[h.length]? = some e0) (he : env = E i (lk env)) : GI1 h e0 p E i env H := ⟨hp, hT, h0, he⟩
def GI2 (h : List Entry) (e0 e1 : Entry) (p : Nat → Prop) (E : Nat → (Nat → AV) → Env) (i : Nat) (env : Env) (hh : List Entry) : Prop := p i ∧ hh.take h.length = h ∧ hh[h.length]? = some e0 ∧ hh[h.length + 1]? = some e1 ∧ env = E i (lk env)
theorem GI2.mk {h H l : List Entry} {e0 e1 : Entry} {p : Nat → Prop} {E : Nat → (Nat → AV) → Env} {i : Nat} {env : Env} (hp : p i) (hT : H.take h.length = h) (h0 : H[h.length]? = some e0) (h1 : H[h.length + 1]? = some e1) (he : env = E i (lk env)) : GI2 h e0 e1 p E i env (H ++ l) := by
  have := lt_some h1
  exact ⟨hp, by rw [List.take_append_of_le_length (by omega)]; exact hT, by rw [List.getElem?_append_left (by omega)]; exact h0, by rw [List.getElem?_append_left this]; exact h1, he⟩
end
end Go.Abs
