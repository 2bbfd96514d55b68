/- Abs16: a part of the proofs about the tuple space (layer 8). -/
import Derived.Test.YtelohjfiojpeeaaAbs15
set_option linter.all false
namespace Go.Abs
open Go
section
variable {P : Program}

theorem comes_local {env env' : Env} {h h' : List Entry} {s : Nat} {o : Op} {x : Ev1} (hx : Comes P env h s o x) (he : agreeOn env env' o.operands.toList) (hh : ∀ k ∈ x.rd, h'[k]? = h[k]?)
    (hall : ∀ g, x.eff = .all g → h' = h) : Comes P env' h' s o x := by
  unfold agreeOn at he
  cases hx with
  | step h1 h2 h3 =>
    refine .step h1 (by rw [step_congr he]; exact out_local h2 fun k hk => hh k (by simp only; split <;> simp [hk])) fun hm => ?_
    obtain ⟨e, h4, h5⟩ := h3 hm
    exact ⟨e, by rw [hh s (by simp [hm])]; exact h4, h5⟩
  | pick hc =>
    rename_i c p q b
    have e1 := he c (by simp [Op.operands])
    have e2 := he p (by simp [Op.operands])
    have e3 := he q (by simp [Op.operands])
    rw [← e2, ← e3]
    exact .pick (by rw [e1]; exact hc)
  | pure hf ha hpl hp =>
    rename_i f args ts g caps r
    have e1 : ev env' f = ev env f := he f (by simp [Op.operands, Call.operands])
    have e2 : evs env' args = evs env args := evs_congr fun y hy => he y (by simp [Op.operands, Call.operands] at hy ⊢; exact .inr hy)
    exact .pure (by rw [e1]; exact hf) (by rw [e2]; exact ha) (by rw [e2]; exact hpl) (by rw [e2]; exact hp)
  | call hf ha hpl hp =>
    rename_i f args ts g caps r g'
    have e1 : ev env' f = ev env f := he f (by simp [Op.operands, Call.operands])
    have e2 : evs env' args = evs env args := evs_congr fun y hy => he y (by simp [Op.operands, Call.operands] at hy ⊢; exact .inr hy)
    have e3 := hall g' rfl
    exact .call (by rw [e1]; exact hf) (by rw [e2]; exact ha) (by rw [e2]; exact hpl) (by rw [e2, e3]; exact hp)

theorem gslot_looks {ops : Array Oper} {j : Nat} {o : Oper} {w : Bool} {t : Tmp} (hg : o.guard = some (j, w)) (ht : gslot ops.toList j = some t) : t ∈ o.looksAt ops := by
  simp only [Oper.looksAt, hg, List.mem_append]
  right
  simp only [gslot, Array.getElem?_toList] at ht
  simp [ht]

theorem operand_looks {ops : Array Oper} {o : Oper} {t : Tmp} (h : Operand.tmp t ∈ o.op.operands.toList) : t ∈ o.looksAt ops := by
  simp only [Oper.looksAt, List.mem_append]
  left
  exact List.mem_filterMap.2 ⟨_, h, rfl⟩

theorem co_local {ops : Array Oper} {env env' : Env} {h h' : List Entry} {s : Nat} {o : Oper} {x : Ev1} (hx : CO P ops.toList env h s o x) (he : ∀ t ∈ o.looksAt ops, lk env' t = lk env t) (hh : ∀ k ∈ x.rd, h'[k]? = h[k]?)
    (hall : ∀ g, x.eff = .all g → h' = h) : CO P ops.toList env' h' s o x := by
  have hg : gv ops.toList env' o = gv ops.toList env o := by
    unfold gv
    cases hgd : o.guard with
    | none => rfl
    | some g =>
      obtain ⟨j, w⟩ := g
      simp only
      cases ht : gslot ops.toList j with
      | none => rfl
      | some t => simp only [he t (gslot_looks hgd ht)]
  rcases hx with ⟨h1, h2⟩ | ⟨h1, h2⟩
  · refine .inl ⟨hg.trans h1, comes_local h2 (fun y hy => ev_congr fun t ht => he t (operand_looks (by rw [← ht]; exact hy))) hh hall⟩
  · exact .inr ⟨hg.trans h1, h2⟩

/-! ### What is asked of a region's text -/
def predsOf (o : Oper) : List Nat := (o.after.toList.filter (Region.binds .any)).map (·.on)
def maskOf (acc : List Nat) : List Nat → Nat
  | [] => 0
  | j :: r => (1 <<< j) ||| (acc.getD j 0 ||| maskOf acc r)
def ancs : List Oper → List Nat → List Nat
  | [], acc => acc
  | o :: r, acc => ancs r (acc ++ [maskOf acc (predsOf o)])
def bef (ops : List Oper) (i j : Nat) : Bool := ((ancs ops []).getD i 0).testBit j

/-- kinds of access: none, reading, all else -/
def hk : Op → Nat
  | .move _ | .assign _ | .pick .. | .build .. | .nilCheck _ | .binOp .. | .unOp .. | .convert .. | .makeFunc .. | .fieldAddr .. | .field .. | .indexAddr .. | .index .. | .extract .. => 0
  | .call { callee := .builtin .len, .. } | .call { callee := .builtin .min, .. } | .call { callee := .builtin .max, .. } => 0
  | .load .. => 1
  | _ => 2

def drawRow (ops : Array Oper) (masks : List Nat) (i : Nat) (o : Oper) : Bool :=
  (predsOf o).all (fun j => decide (j < i)) && (List.range i).all fun j => (masks.getD i 0).testBit j || (match ops[j]? with | some oj => oj.apart ops o | none => true)
def drawOK (ops : Array Oper) : Bool := (List.range ops.size).all fun i => match ops[i]? with | some o => drawRow ops (ancs ops.toList []) i o | none => true

/-- the earlier operations that are not ordered ahead of one, and that it could get in the way of -/
def unordRow (ops : List Oper) (masks : List Nat) (i : Nat) (o : Oper) : List Nat :=
  (List.range i).filter fun j => !(masks.getD i 0).testBit j && (match ops[j]? with | some oj => hk oj.op != 0 && hk o.op != 0 && !(hk oj.op == 1 && hk o.op == 1) | none => false)
def unords (ops : List Oper) : List (List Nat) := ops.zipIdx.map fun p => unordRow ops (ancs ops []) p.2 p.1

/-- Closed under what must come before. -/
def Down (ops : List Oper) (X : Nat → Bool) : Prop := ∀ i o, ops[i]? = some o → X i = true → ∀ j ∈ predsOf o, X j = true

theorem maskOf_bit {acc : List Nat} {j : Nat} : ∀ (l : List Nat), (maskOf acc l).testBit j = true → ∃ k ∈ l, j = k ∨ (acc.getD k 0).testBit j = true
  | [], h => by simp [maskOf] at h
  | k :: r, h => by
    simp only [maskOf, Nat.testBit_or, Bool.or_eq_true, Nat.one_shiftLeft, Nat.testBit_two_pow, decide_eq_true_eq] at h
    rcases h with h | h | h
    · exact ⟨k, by simp, .inl h.symm⟩
    · exact ⟨k, by simp, .inr h⟩
    · obtain ⟨k', h1, h2⟩ := maskOf_bit r h
      exact ⟨k', by simp [h1], h2⟩

/-- the masks say only what a down-closed set must contain -/
theorem ancs_spec {all : List Oper} {X : Nat → Bool} (hX : Down all X) : ∀ (l pre : List Oper) (acc : List Nat), all = pre ++ l → acc.length = pre.length →
    (∀ i j, (acc.getD i 0).testBit j = true → (X i = true → X j = true) ∧ ∀ o, all[i]? = some o → (∀ q ∈ predsOf o, X q = true) → X j = true) →
    ∀ i j, ((ancs l acc).getD i 0).testBit j = true → (X i = true → X j = true) ∧ ∀ o, all[i]? = some o → (∀ q ∈ predsOf o, X q = true) → X j = true
  | [], pre, acc, _, _, h => h
  | o :: r, pre, acc, hall, hlen, h => by
    simp only [ancs]
    refine ancs_spec hX r (pre ++ [o]) _ (by simp [hall]) (by simp [hlen]) ?_
    intro i j hij
    rw [List.getD_eq_getElem?_getD, List.getElem?_append] at hij
    split at hij
    · exact h i j (by rw [List.getD_eq_getElem?_getD]; exact hij)
    · rename_i hlt
      by_cases hi : i = acc.length
      · subst hi
        simp only [Nat.sub_self, List.getElem?_cons_zero, Option.getD_some] at hij
        have hget : all[acc.length]? = some o := by rw [hall, hlen]; simp
        obtain ⟨k, hk, hjk⟩ := maskOf_bit _ hij
        have key : (∀ q ∈ predsOf o, X q = true) → X j = true := by
          intro hq
          rcases hjk with rfl | hb
          · exact hq _ hk
          · exact (h k j hb).1 (hq k hk)
        refine ⟨fun hx => key (hX _ o hget hx), fun o' ho' hq => ?_⟩
        rw [hget] at ho'
        cases ho'
        exact key hq
      · have : i - acc.length ≠ 0 := by omega
        obtain ⟨m, hm⟩ : ∃ m, i - acc.length = m + 1 := ⟨i - acc.length - 1, by omega⟩
        rw [hm] at hij
        simp at hij

theorem bef_spec {all : List Oper} {X : Nat → Bool} (hX : Down all X) {i j : Nat} (hb : bef all i j = true) : (X i = true → X j = true) ∧ ∀ o, all[i]? = some o → (∀ q ∈ predsOf o, X q = true) → X j = true :=
  ancs_spec hX all [] [] (by simp) rfl (fun i j h => by simp at h) i j hb

theorem drawOK_spec {ops : Array Oper} (h : drawOK ops = true) {i : Nat} {o : Oper} (hi : ops[i]? = some o) : (∀ j ∈ predsOf o, j < i) ∧ ∀ j oj, j < i → ops[j]? = some oj → bef ops.toList i j = false → oj.apart ops o = true := by
  have hlt : i < ops.size := (Array.getElem?_eq_some_iff.1 hi).1
  simp only [drawOK, List.all_eq_true, List.mem_range] at h
  have h1 := h i hlt
  simp only [hi, drawRow, Bool.and_eq_true, List.all_eq_true, decide_eq_true_eq, List.mem_range, Bool.or_eq_true] at h1
  refine ⟨h1.1, fun j oj hj hoj hb => ?_⟩
  have h2 := h1.2 j hj
  simp only [hoj] at h2
  rcases h2 with h2 | h2
  · unfold bef at hb; rw [h2] at hb; cases hb
  · exact h2

/-! ### What operations touch -/
structure Tc where
  rd : List Nat
  wr : List Nat
  all : Bool

def Ev1.tch (x : Ev1) : Tc := match x.eff with
  | .wr l => ⟨x.rd, l.map (·.1), false⟩
  | .all _ => ⟨x.rd, [], true⟩

def Tc.none (a : Tc) : Prop := a.rd = [] ∧ a.wr = [] ∧ a.all = false
structure ApartT (a b : Tc) : Prop where
  wr : ∀ k ∈ a.wr, k ∉ b.rd ∧ k ∉ b.wr
  rd : ∀ k ∈ a.rd, k ∉ b.wr
  left : a.all = true → b.none
  right : b.all = true → a.none

theorem ApartT.symm {a b : Tc} (h : ApartT a b) : ApartT b a :=
  ⟨fun k hk => ⟨fun h1 => h.rd k h1 hk, fun h1 => (h.wr k h1).2 hk⟩, fun k hk h1 => (h.wr k h1).1 hk, h.right, h.left⟩

theorem at_id {x : Ev1} {k : Nat} (h1 : x.tch.all = false) (h2 : k ∉ x.tch.wr) : ∀ v, x.eff.at k v = v := by
  cases he : x.eff with
  | wr l =>
    simp only [Ev1.tch, he] at h2
    intro v
    exact wrAt_id l h2 v
  | all h => simp [Ev1.tch, he] at h1
end
end Go.Abs
