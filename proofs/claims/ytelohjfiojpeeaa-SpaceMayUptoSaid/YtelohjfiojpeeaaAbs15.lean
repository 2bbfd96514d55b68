/- Abs15: a part of the proofs about the tuple space (layer 8). -/
import Derived.Test.YtelohjfiojpeeaaAbs14
set_option linter.all false
namespace Go.Abs
open Go
section
variable {P : Program}

/-! ### Rows of updates, some of them done -/
def fold {V : Type} (sel : Nat → Bool) : List (V → V) → Nat → V → V
  | [], _, v => v
  | u :: us, k, v => fold sel us (k + 1) (if sel k = true then u v else v)

theorem fold_agree {V : Type} {sel sel' : Nat → Bool} : ∀ (us : List (V → V)) (k : Nat) (v : V), (∀ j u, us[j]? = some u → sel (k + j) ≠ sel' (k + j) → ∀ v, u v = v) → fold sel us k v = fold sel' us k v
  | [], k, v, _ => rfl
  | u :: us, k, v, h => by
    simp only [fold]
    have h0 := h 0 u (by simp)
    rw [Nat.add_zero] at h0
    have e : (if sel k = true then u v else v) = (if sel' k = true then u v else v) := by
      by_cases hs : sel k = sel' k
      · rw [hs]
      · have := h0 hs v
        cases h1 : sel k <;> cases h2 : sel' k <;> simp [h1, h2] at hs ⊢ <;> simp [this]
    rw [e]
    exact fold_agree us (k + 1) _ fun j u hj hne => h (j + 1) u (by simpa using hj) (by rw [show k + (j + 1) = k + 1 + j by omega]; exact hne)

theorem fold_id {V : Type} {sel : Nat → Bool} : ∀ (us : List (V → V)) (k : Nat) (v : V), (∀ j u, us[j]? = some u → sel (k + j) = true → ∀ v, u v = v) → fold sel us k v = v
  | [], k, v, _ => rfl
  | u :: us, k, v, h => by
    simp only [fold]
    have h0 := h 0 u (by simp)
    rw [Nat.add_zero] at h0
    have e : (if sel k = true then u v else v) = v := by
      split
      · exact h0 ‹_› v
      · rfl
    rw [e]
    exact fold_id us (k + 1) _ fun j u hj hs => h (j + 1) u (by simpa using hj) (by rw [show k + (j + 1) = k + 1 + j by omega]; exact hs)

def with1 (sel : Nat → Bool) (i : Nat) : Nat → Bool := fun j => if j = i then true else sel j

theorem fold_add {V : Type} {sel : Nat → Bool} {i : Nat} (hi : sel i = false) : ∀ (us : List (V → V)) (k : Nat) (v : V) (u : V → V), k ≤ i → us[i - k]? = some u →
    (∀ j u', us[j]? = some u' → i < k + j → sel (k + j) = true → ∀ v, u' v = v) → fold (with1 sel i) us k v = u (fold sel us k v)
  | [], k, v, u, _, h, _ => by simp at h
  | w :: us, k, v, u, hk, h, hl => by
    simp only [fold]
    by_cases hik : k = i
    · subst hik
      simp only [Nat.sub_self, List.getElem?_cons_zero, Option.some.injEq] at h
      subst h
      simp only [with1, if_true, hi]
      rw [fold_id us (k + 1) (w v) fun j u' hj hs => by
        have hne : ¬ k + 1 + j = k := by omega
        simp only [with1, if_neg hne] at hs
        exact hl (j + 1) u' (by simpa using hj) (by omega) (by rw [show k + (j + 1) = k + 1 + j by omega]; exact hs)]
      rw [fold_id us (k + 1) _ fun j u' hj hs => hl (j + 1) u' (by simpa using hj) (by omega) (by rw [show k + (j + 1) = k + 1 + j by omega]; exact hs)]
      simp
    · have hlt : k + 1 ≤ i := by omega
      have e : with1 sel i k = sel k := by simp [with1, hik]
      rw [e]
      refine fold_add hi us (k + 1) _ u hlt ?_ fun j u' hj hji hs => hl (j + 1) u' (by simpa using hj) (by omega) (by rw [show k + (j + 1) = k + 1 + j by omega]; exact hs)
      rw [show i - k = (i - (k + 1)) + 1 by omega] at h
      simpa using h

theorem fold_skip {V : Type} {sel : Nat → Bool} {i : Nat} (us : List (V → V)) (v : V) (h : ∀ u, us[i]? = some u → ∀ v, u v = v) : fold (with1 sel i) us 0 v = fold sel us 0 v :=
  fold_agree us 0 v fun j u hj hne => by
    rw [Nat.zero_add] at hne
    by_cases hji : j = i
    · subst hji; exact h u hj
    · exact absurd (by simp [with1, hji]) hne

theorem fold_append {V : Type} {sel : Nat → Bool} : ∀ (us ws : List (V → V)) (k : Nat) (v : V), fold sel (us ++ ws) k v = fold sel ws (k + us.length) (fold sel us k v)
  | [], ws, k, v => rfl
  | u :: us, ws, k, v => by
    simp only [List.cons_append, fold, List.length_cons]
    rw [fold_append us ws (k + 1)]
    rw [show k + 1 + us.length = k + (us.length + 1) by omega]

/-! ### What an operation does to one slot, and to one entry -/
def Eff.at (k : Nat) (v : Option Entry) : Eff → Option Entry
  | .wr l => wrAt k v l
  | .all h' => h'[k]?
where wrAt (k : Nat) (v : Option Entry) : List (Nat × Entry) → Option Entry
  | [] => v
  | x :: r => wrAt k (if x.1 = k then v.map fun _ => x.2 else v) r

theorem wrAll_at (k : Nat) : ∀ (l : List (Nat × Entry)) (h : List Entry), (wrAll h l)[k]? = Eff.at.wrAt k h[k]? l
  | [], h => rfl
  | x :: r, h => by
    simp only [wrAll, Eff.at.wrAt]
    rw [wrAll_at k r, List.getElem?_set]
    congr 1
    by_cases hx : x.1 = k
    · rw [if_pos hx, if_pos hx]
      subst hx
      by_cases hlt : x.1 < h.length
      · rw [if_pos hlt, List.getElem?_eq_getElem hlt]; rfl
      · rw [if_neg hlt, List.getElem?_eq_none (by omega)]; rfl
    · rw [if_neg hx, if_neg hx]

theorem ap_at (e : Eff) (h : List Entry) (k : Nat) : (e.ap h)[k]? = e.at k h[k]? := by
  cases e with
  | wr l => exact wrAll_at k l h
  | all h' => rfl

theorem wrAt_id {k : Nat} : ∀ (l : List (Nat × Entry)), k ∉ l.map (·.1) → ∀ v, Eff.at.wrAt k v l = v
  | [], _, v => rfl
  | x :: r, h, v => by
    simp only [List.map_cons, List.mem_cons, not_or] at h
    simp only [Eff.at.wrAt]
    rw [if_neg (fun e => h.1 e.symm), wrAt_id r h.2]

abbrev Row := List (Oper × Ev1)
def uE (L : Row) (t : Nat) : List (AV → AV) := L.map fun p v => if p.1.dst = some t then p.2.r else v
def uH (L : Row) (k : Nat) : List (Option Entry → Option Entry) := L.map fun p v => p.2.eff.at k v

theorem uE_get {L : Row} {t i : Nat} {u : AV → AV} (h : (uE L t)[i]? = some u) : ∃ p, L[i]? = some p ∧ u = fun v => if p.1.dst = some t then p.2.r else v := by
  simp only [uE, List.getElem?_map, Option.map_eq_some_iff] at h
  obtain ⟨p, h1, h2⟩ := h
  exact ⟨p, h1, h2.symm⟩
theorem uH_get {L : Row} {k i : Nat} {u : Option Entry → Option Entry} (h : (uH L k)[i]? = some u) : ∃ p, L[i]? = some p ∧ u = fun v => p.2.eff.at k v := by
  simp only [uH, List.getElem?_map, Option.map_eq_some_iff] at h
  obtain ⟨p, h1, h2⟩ := h
  exact ⟨p, h1, h2.symm⟩

theorem lk_putD (env : Env) (d : Option Tmp) (v : AV) (t : Nat) : lk (putD env d v) t = if d = some t then v else lk env t := by
  cases d with
  | none => simp [putD]
  | some s =>
    simp only [putD, lk_put, Option.some.injEq]
    by_cases h : t = s
    · rw [if_pos h, if_pos h.symm]
    · rw [if_neg h, if_neg fun e => h e.symm]

/-! ### An operation looks at its own slots alone -/
theorem ev_congr {env env' : Env} {x : Operand} (h : ∀ t, x = .tmp t → lk env' t = lk env t) : ev env' x = ev env x := by
  cases x <;> simp only [ev]
  exact h _ rfl

def agreeOn (env env' : Env) (xs : List Operand) : Prop := ∀ x ∈ xs, ev env' x = ev env x

theorem evs_congr {env env' : Env} {xs : Array Operand} (h : ∀ x ∈ xs.toList, ev env' x = ev env x) : evs env' xs = evs env xs := by
  simp only [evs]
  exact List.map_congr_left h

theorem pairs_congr {env env' : Env} {ps : Array (Nat × Operand)} (h : ∀ x ∈ ps.toList, ev env' x.2 = ev env x.2) : pairs env' ps = pairs env ps := by
  simp only [pairs]
  exact List.map_congr_left fun x hx => by rw [h x hx]

theorem optmap_congr {env env' : Env} {o : Option Operand} (h : ∀ x, o = some x → ev env' x = ev env x) : o.map (ev env') = o.map (ev env) := by
  cases o with
  | none => rfl
  | some x => simp [h x rfl]

theorem step_congr {env env' : Env} {s : Nat} {o : Op} (h : agreeOn env env' o.operands.toList) : step P env' s o = step P env s o := by
  unfold agreeOn at h
  cases o <;> simp only [Op.operands] at h <;> simp only [step] <;>
    (try rw [h _ (by simp)]) <;> (try rw [h _ (by simp)]) <;> (try rw [h _ (by simp)])
  case build ps => rw [pairs_congr fun x hx => h _ (List.mem_map.2 ⟨x, hx, rfl⟩)]
  case buildSlice ps => rw [pairs_congr fun x hx => h _ (List.mem_map.2 ⟨x, hx, rfl⟩)]
  case makeFunc f first caps =>
    cases f <;> simp only [step]
    rw [evs_congr fun x hx => h x (by simp at hx ⊢; exact .inr hx)]
  case slice T x lo hi mx =>
    rw [optmap_congr (o := lo) fun y hy => h y (by simp [hy]), optmap_congr (o := hi) fun y hy => h y (by simp [hy]), optmap_congr (o := mx) fun y hy => h y (by simp [hy])]
  case call c =>
    obtain ⟨callee, args, ts⟩ := c
    cases callee <;> simp only [step]
    rw [evs_congr fun x hx => h x (by simp [Call.operands] at hx ⊢; exact hx)]
end
end Go.Abs
