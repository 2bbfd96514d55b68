/- Abs13: a part of the proofs about the tuple space (layer 8). -/
import Derived.Test.YtelohjfiojpeeaaAbs12
set_option linter.all false
namespace Go.Abs
open Go
section
variable {P : Program}

def put : List (Nat × AV) → Nat → AV → List (Nat × AV)
  | [], t, v => [(t, v)]
  | x :: r, t, v => if x.1 = t then (t, v) :: r else x :: put r t v

def putD (env : List (Nat × AV)) (d : Option Tmp) (v : AV) : List (Nat × AV) := match d with
  | some t => put env t v
  | none => env

theorem lk_put (v : AV) : ∀ (env : List (Nat × AV)) (t s : Nat), lk (put env t v) s = if s = t then v else lk env s
  | [], t, s => by
    simp only [put, lk]
    by_cases h : t = s
    · rw [if_pos h, if_pos h.symm]
    · rw [if_neg h, if_neg (fun e => h e.symm)]
  | x :: r, t, s => by
    simp only [put]
    by_cases hx : x.1 = t
    · rw [if_pos hx]
      simp only [lk]
      by_cases hs : t = s
      · rw [if_pos hs, if_pos hs.symm]
      · rw [if_neg hs, if_neg (fun e => hs e.symm), if_neg (by rw [hx]; exact hs)]
    · rw [if_neg hx]
      simp only [lk, lk_put v r t s]
      by_cases h1 : x.1 = s
      · rw [if_pos h1, if_neg (by rintro rfl; exact hx h1), if_pos h1]
      · rw [if_neg h1, if_neg h1]

theorem lk_take : ∀ (n : Nat) (env : List (Nat × AV)) (t : Nat), lk (env.take n) t = lk env t ∨ lk (env.take n) t = .junk
  | 0, env, t => .inr (by simp [lk])
  | n + 1, [], t => .inl (by simp)
  | n + 1, x :: r, t => by
    simp only [List.take_succ_cons, lk]
    by_cases h : x.1 = t
    · rw [if_pos h, if_pos h]; exact .inl rfl
    · rw [if_neg h, if_neg h]; exact lk_take n r t

structure St (P : Program) (n : Nat) (c : Cx) (env : List (Nat × AV)) (a : Act) : Prop where
  hr : HR P c
  er : ER P c env a.tmps
  size : a.tmps.size = n
  defers : a.defers = []

theorem St.mono {n : Nat} {c c' : Cx} {env : List (Nat × AV)} {a : Act} (h : St P n c env a) (x : Ext c c') (hr : HR P c') : St P n c' env a :=
  ⟨hr, fun t => vv_mono x (h.er t), h.size, h.defers⟩

theorem St.put {n : Nat} {c : Cx} {env : List (Nat × AV)} {a : Act} (h : St P n c env a) {d : Option Tmp} (hd : ∀ t, d = some t → t < n) {r : AV} {v : Value} (hv : VV P c r v) : St P n c (putD env d r) (a.put d v) := by
  cases d with
  | none => exact h
  | some t =>
    refine ⟨h.hr, fun s => ?_, by simp [Act.put, h.size], by simp [Act.put, h.defers]⟩
    simp only [putD, lk_put, Act.put]
    by_cases hs : s = t
    · subst hs
      rw [if_pos rfl]
      have : s < a.tmps.size := by rw [h.size]; exact hd s rfl
      simpa [Array.getD, this] using hv
    · rw [if_neg hs]
      have := h.er s
      rwa [show (a.tmps.setIfInBounds t v).getD s undef = a.tmps.getD s undef by simp [Array.getD_eq_getD_getElem?, Array.getElem?_setIfInBounds_ne (Ne.symm hs)]]

/-- a slot's value is known to be so -/
theorem St.know {n : Nat} {c : Cx} {env : List (Nat × AV)} {a : Act} (h : St P n c env a) {t : Nat} {x : AV} (hx : lk env t = x) : St P n c (Abs.put env t x) a := by
  refine ⟨h.hr, fun s => ?_, h.size, h.defers⟩
  rw [lk_put]
  by_cases hs : s = t
  · subst hs; rw [if_pos rfl, ← hx]; exact h.er s
  · rw [if_neg hs]; exact h.er s

theorem vv_tup0 {c : Cx} : VV P c (.tup []) undef := by simp only [VV]; exact ⟨[], rfl, by simp only [RepV]⟩
theorem tup0_vv {c : Cx} {v : Value} (h : VV P c (.tup []) v) : v = undef := by
  simp only [VV, RepV] at h
  obtain ⟨l, rfl, rfl⟩ := h
  rfl

def gslot (ops : List Oper) (j : Nat) : Option Tmp := (ops[j]?).bind (·.dst)

/-- Operations one behind the other, in the order of the text. -/
def aops (P : Program) (ops : List Oper) : List Oper → List (Nat × AV) → List Entry → (List (Nat × AV) → List Entry → Prop) → Prop
  | [], env, h, K => K env h
  | o :: rest, env, h, K => match o.guard with
    | none => opwp P env h o.op fun r h' => aops P ops rest (putD env o.dst r) h' K
    | some g => match gslot ops g.1 with
      | none => False
      | some t => match lk env t with
        | .bool b => (b = g.2 → opwp P (put env t (.bool g.2)) h o.op fun r h' => aops P ops rest (putD (put env t (.bool g.2)) o.dst r) h' K) ∧
            (b = !g.2 → aops P ops rest (putD (put env t (.bool (!g.2))) o.dst (.tup [])) h K)
        | .tup [] => aops P ops rest (putD env o.dst (.tup [])) h K
        | _ => False

theorem yielded_of {n : Nat} {c : Cx} {env : List (Nat × AV)} {a : Act} (h : St P n c env a) {ops : Array Oper} {j : Nat} {t : Tmp} (ht : gslot ops.toList j = some t) (hn : t < n) :
    yielded ops a.tmps j = match a.tmps.getD t undef with | .bool b => some b | _ => none := by
  have hlt : t < a.tmps.size := by rw [h.size]; exact hn
  have hs : (ops[j]?).bind (·.dst) = some t := by simpa [gslot] using ht
  unfold yielded
  rw [hs]
  have hget : a.tmps.getD t undef = a.tmps[t] := by simp [Array.getD, hlt]
  simp only [Option.bind_some, Array.getElem?_eq_getElem hlt]
  rw [hget]
  cases a.tmps[t] <;> rfl

def dstOK (n : Nat) (o : Oper) : Bool := match o.dst with | some t => decide (t < n) | none => true

theorem gslot_lt {n : Nat} {ops : List Oper} (hall : ∀ o ∈ ops, dstOK n o = true) {j : Nat} {t : Tmp} (h : gslot ops j = some t) : t < n := by
  unfold gslot at h
  cases ho : ops[j]? with
  | none => simp [ho] at h
  | some o =>
    have h1 := hall o (List.mem_of_getElem? ho)
    simp only [ho, Option.bind_some] at h
    simpa [dstOK, h] using h1

theorem aops_sound (hP : WF P) {n : Nat} {ops : Array Oper} (hall : ∀ o ∈ ops.toList, dstOK n o = true) {Q : Exit → Act → World → Prop} {K : List (Nat × AV) → List Entry → Prop} :
    ∀ (l : List Oper) (c : Cx) (env : List (Nat × AV)) (a : Act), (∀ o ∈ l, dstOK n o = true) → St P n c env a → aops P ops.toList l env c.h K →
    (∀ a' c' env', St P n c' env' a' → Ext c c' → K env' c'.h → Q .normal a' c'.w) → wpList P ops Q l a c.w
  | [], c, env, a, _, hs, hw, hq => hq a c env hs (Ext.refl c) hw
  | o :: rest, c, env, a, hl, hs, hw, hq => by
    have hd : ∀ t, o.dst = some t → t < n := by
      intro t ht
      have := hl o (by simp)
      simpa [dstOK, ht] using this
    have hrest : ∀ x ∈ rest, dstOK n x = true := fun x hx => hl x (by simp [hx])
    have go : ∀ env, St P n c env a → opwp P env c.h o.op (fun r h' => aops P ops.toList rest (putD env o.dst r) h' K) → o.wp P a c.w (wpList P ops Q rest) Q := by
      intro env hs hw
      refine opwp_sound hP hs.hr hs.er o hw ?_
      intro v c' r h1 h2 h3 h4
      exact aops_sound hP hall rest c' _ _ hrest ((hs.mono h2 h1).put hd h3) h4 fun a' c'' env' s x k => hq a' c'' env' s (h2.trans x) k
    have skip : ∀ env, St P n c env a → aops P ops.toList rest (putD env o.dst (.tup [])) c.h K → wpList P ops Q rest (a.put o.dst undef) c.w := by
      intro env hs hw
      exact aops_sound hP hall rest c _ _ hrest (hs.put hd vv_tup0) hw hq
    simp only [aops] at hw
    simp only [wpList]
    cases hg : o.guard with
    | none =>
      simp only [hg] at hw
      rw [if_pos (by simp [Region.wanted, hg])]
      exact .inl (go env hs hw)
    | some g =>
      obtain ⟨j, want⟩ := g
      simp only [hg] at hw
      cases ht : gslot ops.toList j with
      | none => simp [ht] at hw
      | some t =>
        simp only [ht] at hw
        have hy := yielded_of hs ht (gslot_lt hall ht)
        have hvt := hs.er t
        cases hb : lk env t <;> rw [hb] at hw hvt <;> try exact hw.elim
        case bool b =>
          have hvb := vv_bool hvt
          rw [hvb] at hy
          simp only at hw hy
          by_cases hbw : b = want
          · subst hbw
            rw [if_pos (by simp [Region.wanted, hg, hy])]
            exact .inl (go _ (hs.know hb) (hw.1 rfl))
          · have hbn : b = !want := by cases b <;> cases want <;> simp_all
            rw [if_neg (by simp [Region.wanted, hg, hy, hbw])]
            rw [hbn] at hb
            exact skip _ (hs.know hb) (hw.2 hbn)
        case tup vs =>
          cases vs with
          | cons _ _ => exact hw.elim
          | nil =>
            have hvu := tup0_vv hvt
            rw [hvu] at hy
            simp only [undef] at hy
            rw [if_neg (by simp [Region.wanted, hg, hy])]
            exact skip env hs hw

end
end Go.Abs
