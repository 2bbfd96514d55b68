/- Gw: a part of the proofs about the tuple space and its bytes. -/
import Derived.Test.YtilfbkhbjkjicaaGd
set_option linter.all false
namespace Go.Abs
open Go
section
variable {P : Program}
def wkd (P : Program) : Nat → TypeId → AV → AV
  | 0, _, a => a
  | n + 1, T, a => match a with
    | .nils => match zab P T with
      | .slice e => .list e []
      | _ => .nils
    | .list e es => .list e (es.map (wkd P n e))
    | .agg T' vs => if T' = T then (match zab P T with
      | .struct => .agg T (List.zipWith (fun (f : TypeId × Nat) v => wkd P n f.1 v) (qaj P T) vs)
      | .arr _ e => .agg T (vs.map (wkd P n e))
      | _ => .agg T vs) else .agg T' vs
    | a => a
def wkdAgg (P : Program) (n : Nat) (T : TypeId) (vs : List AV) (s : Shape) : AV := match s with
  | .struct => .agg T (List.zipWith (fun (f : TypeId × Nat) v => wkd P n f.1 v) (qaj P T) vs)
  | .arr _ e => .agg T (vs.map (wkd P n e))
  | _ => .agg T vs
theorem wkd_aggE (n : Nat) (T U : TypeId) (vs : List AV) : wkd P (n + 1) T (.agg U vs) = if U = T then wkdAgg P n T vs (zab P T) else .agg U vs := rfl
theorem zb4 (n : Nat) (T : TypeId) (vs : List AV) : wkdAgg P n T vs .struct = .agg T (List.zipWith (fun (f : TypeId × Nat) v => wkd P n f.1 v) (qaj P T) vs) := rfl
theorem wkd_list (n : Nat) (T e : TypeId) (es : List AV) : wkd P (n + 1) T (.list e es) = .list e (es.map (wkd P n e)) := rfl
theorem wkd_nils (n : Nat) (T : TypeId) : wkd P (n + 1) T .nils = wkNil P (zab P T) := rfl
theorem wkd_int (n : Nat) (T : TypeId) (k : IntKind) (x : Int) : wkd P (n + 1) T (.int k x) = .int k x := rfl
theorem wkd_agg {n : Nat} {T : TypeId} {a : AV} : isAgg (wkd P n T a) = isAgg a := by
  cases n with
  | zero => rfl
  | succ n =>
    cases a <;> simp only [wkd]
    case nils => split <;> rfl
    case agg T' vs =>
      split
      · split <;> rfl
      · rfl
    case list => rfl
theorem wkd_rep {c : Cx} : ∀ (n : Nat) (T : TypeId) (a : AV) (cs : List Value), yaw P a T → Rep P c a cs → yaw P (wkd P n T a) T ∧ Rep P c (wkd P n T a) cs
  | 0, T, a, cs, ht, h => ⟨ht, h⟩
  | n + 1, T, a, cs, ht, h => by
    have IH := wkd_rep (c := c) n
    cases a <;> simp only [wkd] <;> try exact ⟨ht, h⟩
    case nils =>
      simp only [yaw] at ht
      obtain ⟨e, hs⟩ := ht
      rw [hs]
      simp only [Rep] at h
      subst h
      refine ⟨by simp only [yaw]; exact hs, ?_⟩
      simp only [Rep]
      exact ⟨none, 0, rfl, Nat.le_refl _, fun h => absurd rfl h⟩
    case list e es =>
      refine ⟨by simp only [yaw] at ht ⊢; exact ht, ?_⟩
      simp only [Rep] at h ⊢
      obtain ⟨a0, cap, h1, h2, h3⟩ := h
      refine ⟨a0, cap, by rw [List.length_map]; exact h1, by rw [List.length_map]; exact h2, fun hne => ?_⟩
      obtain ⟨b, off, C, Te, m, g1, g2, g3, g4⟩ := h3 (by rintro rfl; exact hne rfl)
      refine ⟨b, off, C, Te, m, g1, g2, g3, repE_iff.2 fun i v hv => ?_⟩
      rw [List.getElem?_map, Option.map_eq_some_iff] at hv
      obtain ⟨u, hu, rfl⟩ := hv
      obtain ⟨k1, k2⟩ := qa3 g4 hu
      exact IH e u _ k1 k2
    case agg T' vs =>
      simp only [yaw] at ht
      subst ht
      rw [if_pos rfl]
      have h' := h
      simp only [Rep] at h'
      cases hs : zab P T' <;> rw [hs] at h' <;> simp only [and_false] at h'
      case struct =>
        refine ⟨by simp only [yaw], ?_⟩
        simp only [Rep, hs]
        refine ⟨h'.1, ?_⟩
        obtain ⟨hl, hall⟩ := repF_iff.1 h'.2
        refine repF_iff.2 ⟨by simp [hl], fun i v f hv hf => ?_⟩
        rw [List.getElem?_zipWith] at hv
        simp only [hf] at hv
        cases hvi : vs[i]? with
        | none => simp [hvi] at hv
        | some u =>
          simp only [hvi, Option.some.injEq] at hv
          subst hv
          obtain ⟨h1, h2⟩ := hall i u f hvi hf
          exact IH f.1 u _ h1 h2
      case arr m e =>
        refine ⟨by simp only [yaw], ?_⟩
        simp only [Rep, hs]
        refine ⟨h'.1, by simpa using h'.2.1, repE_iff.2 fun i v hv => ?_⟩
        rw [List.getElem?_map, Option.map_eq_some_iff] at hv
        obtain ⟨u, hu, rfl⟩ := hv
        obtain ⟨h1, h2⟩ := qa3 h'.2.2 hu
        exact IH e u _ h1 h2
def wkds (P : Program) : List (Nat × TypeId) → List AV → List AV
  | T :: ts, a :: as => wkd P T.1 T.2 a :: wkds P ts as
  | _, as => as
theorem wkds_rep {c : Cx} : ∀ (ts : List (Nat × TypeId)) (as : List AV) (vs : List Value), zcf P (ts.map Prod.snd) as → yay P c as vs → yay P c (wkds P ts as) vs
  | [], [], vs, _, h => by simpa only [wkds] using h
  | [], _ :: _, vs, ho, h => ho.elim
  | _ :: _, [], vs, ho, h => ho.elim
  | T :: ts, a :: as, vs, ho, h => by
    simp only [yay] at h
    obtain ⟨v, r, rfl, h1, h2, h3⟩ := h
    simp only [wkds, yay]
    refine ⟨v, r, rfl, by rw [wkd_agg]; exact h1, (wkd_rep T.1 T.2 a _ (zdx ho.1) h2).2, wkds_rep ts as r ho.2 h3⟩
theorem FSpec.readw (hP : WF P) {g : FuncId} {args args1 args' : List AV} {r : AV} {h : List Entry} (n : Nat) (ts : List (Nat × TypeId)) (ha : args.map (Go.Abs.bzd h n) = args1) (ht : zcf P (ts.map Prod.snd) args1) (hw : wkds P ts args1 = args') (hp : Fn P g args' r) : FSpec P g args h fun r' h' => r' = r ∧ h' = h := by
  subst ha
  subst hw
  obtain ⟨hc, hs⟩ := hp h
  refine ⟨hc, fun κ w vs hr hv => (hs κ w vs hr (wkds_rep ts _ vs ht (repV_bzd hP hr n args vs hv))).mono ?_⟩
  rintro e' w' ⟨v, r', h', κ', rfl, h1, h2, h3, rfl, h4⟩
  exact ⟨v, r', h', κ', rfl, h1, h2, h3, h4, rfl⟩
theorem qdn {h : List Entry} : ∀ (n : Nat) (a : AV), dat a = true → bzd h n a = a
  | 0, a, _ => rfl
  | n + 1, a, hd => by
    cases a <;> simp only [Go.Abs.bzd] <;> try rfl
    case agg T vs =>
      rw [ybs] at hd
      congr 1
      have : ∀ l : List AV, qcy l = true → l.map (Go.Abs.bzd h n) = l := by
        intro l
        induction l with
        | nil => intro _; rfl
        | cons a l ih =>
          intro hl
          rw [qbs, Bool.and_eq_true] at hl
          rw [List.map_cons, qdn n a hl.1, ih hl.2]
      exact this vs hd
    case win => simp [dat] at hd
end
end Go.Abs
