/- Gd: a part of the proofs about the tuple space and its bytes. -/
import Derived.Test.YtilfbkhbjkjicaaGv
set_option linter.all false
namespace Go.Abs
open Go
section
variable {P : Program}
def bzdWin (f : AV → AV) (T : TypeId) (p : List Nat) (fr m : Nat) (a : AV) : Option Entry → AV
  | some e => if e.st = .fz then (match qaq e.es p fr m with | some ys => .list T (ys.map f) | none => a) else a
  | none => a
def bzd (h : List Entry) : Nat → AV → AV
  | 0, a => a
  | n + 1, a => match a with
    | .win k p T fr m lo => bzdWin (bzd h n) T p fr m (.win k p T fr m lo) h[k]?
    | .agg T vs => .agg T (vs.map (bzd h n))
    | a => a
theorem bzd_agg {h : List Entry} {n : Nat} {a : AV} : isAgg (bzd h n a) = isAgg a := by
  cases n with
  | zero => rfl
  | succ n =>
    cases a <;> simp only [bzd] <;> try rfl
    unfold bzdWin; (repeat' split) <;> rfl
theorem bzd_ty {h : List Entry} {n : Nat} {a : AV} {T : TypeId} (ht : yaz P a T) : yaz P (bzd h n a) T := by
  cases n with
  | zero => exact ht
  | succ n =>
    cases a <;> simp only [bzd] <;> try exact ht
    unfold bzdWin; (repeat' split) <;> first | exact ht | (simp only [yaz] at ht ⊢; exact ht)
theorem rep_bzd (hP : WF P) {c : Cx} (hr : HR P c) : ∀ (n : Nat) (a : AV) (cs : List Value), Rep P c a cs → Rep P c (bzd c.h n a) cs
  | 0, a, cs, h => h
  | n + 1, a, cs, h => by
    have IH := rep_bzd hP hr n
    cases a <;> simp only [bzd] <;> try exact h
    case agg T vs =>
      simp only [Rep] at h ⊢
      refine ⟨h.1, ?_⟩
      have h2 := h.2
      split at h2
      · obtain ⟨hl, hall⟩ := repF_iff.1 h2
        refine repF_iff.2 ⟨by simp [hl], fun i v f hv hf => ?_⟩
        rw [List.getElem?_map, Option.map_eq_some_iff] at hv
        obtain ⟨u, hu, rfl⟩ := hv
        obtain ⟨h3, h4⟩ := hall i u f hu hf
        exact ⟨bzd_ty h3, IH u _ h4⟩
      · refine ⟨by simpa using h2.1, repE_iff.2 fun i v hv => ?_⟩
        rw [List.getElem?_map, Option.map_eq_some_iff] at hv
        obtain ⟨u, hu, rfl⟩ := hv
        obtain ⟨h3, h4⟩ := qa7 h2.2 hu
        exact ⟨bzd_ty h3, IH u _ h4⟩
      · exact h2.elim
    case win k p T fr m lo =>
      unfold bzdWin
      split
      · rename_i e he
        split
        · rename_i hf
          split
          · rename_i ys hg
            have hvv : ∃ v, cs = [v] ∧ VV P c (.win k p T fr m lo) v := by
              have h' := h
              simp only [Rep] at h'
              obtain ⟨_, _, _, _, _, rfl, _⟩ := h'
              exact ⟨_, rfl, (zba rfl (by simp) (by simp)).2 ⟨rfl, h⟩⟩
            obtain ⟨v, rfl, hv⟩ := hvv
            obtain ⟨hlen, hread⟩ := zb9 hP hr hv he (.inr hf) hg
            obtain ⟨_, cap0, a0, _, _, rfl, _, hmc, _⟩ := yby hv
            simp only [Rep]
            refine ⟨a0, cap0, by rw [List.length_map, hlen], by rw [List.length_map]; omega, fun hne => ?_⟩
            have hm0 : m ≠ 0 := by rintro rfl; exact hne (by simp [List.eq_nil_of_length_eq_zero hlen])
            obtain ⟨b, off, C, mk, cap, hveq, hkb, hbk, _, _, _, _, hE⟩ := hread hm0
            simp only [Value.slice.injEq] at hveq
            obtain ⟨_, _, _, _, g4, _⟩ := hr.block he (.inr hf) hkb
            refine ⟨b, off + fr * P.cellsOf T, C, e.T, mk, hveq.1, hbk, g4 hf, repE_iff.2 fun i v hv => ?_⟩
            rw [List.getElem?_map, Option.map_eq_some_iff] at hv
            obtain ⟨u, hu, rfl⟩ := hv
            obtain ⟨h3, h4⟩ := qa7 hE hu
            exact ⟨bzd_ty h3, IH u _ h4⟩
          · exact h
        · exact h
      · exact h
theorem repV_bzd (hP : WF P) {κ : Nat → Option Nat} {h : List Entry} {w : World} (hr : HR P ⟨κ, h, w⟩) (n : Nat) : ∀ (args : List AV) (vs : List Value), ya2 P ⟨κ, h, w⟩ args vs → ya2 P ⟨κ, h, w⟩ (args.map (bzd h n)) vs
  | [], vs, hv => by simp only [ya2] at hv; subst hv; simp [ya2]
  | a :: as, vs, hv => by
    simp only [ya2] at hv
    obtain ⟨v, r, rfl, h1, h2, h3⟩ := hv
    simp only [List.map_cons, ya2]
    exact ⟨v, r, rfl, by rw [bzd_agg]; exact h1, rep_bzd (c := ⟨κ, h, w⟩) hP hr n a _ h2, repV_bzd hP hr n as r h3⟩
theorem FSpec.bzd (hP : WF P) {f : FuncId} {args args' : List AV} {h : List Entry} {K : AV → List Entry → Prop} (n : Nat) (ha : args.map (Go.Abs.bzd h n) = args') (hp : FSpec P f args' h K) : FSpec P f args h K := by
  subst ha
  exact ⟨hp.1, fun κ w vs hr hv => hp.2 κ w vs hr (repV_bzd hP hr n args vs hv)⟩
theorem FSpec.readd (hP : WF P) {g : FuncId} {args args' : List AV} {r : AV} {h : List Entry} (n : Nat) (ha : args.map (Go.Abs.bzd h n) = args') (hp : Fn P g args' r) : FSpec P g args h fun r' h' => r' = r ∧ h' = h := by
  subst ha
  obtain ⟨hc, hs⟩ := hp h
  refine ⟨hc, fun κ w vs hr hv => (hs κ w vs hr (repV_bzd hP hr n args vs hv)).mono ?_⟩
  rintro e' w' ⟨v, r', h', κ', rfl, h1, h2, h3, rfl, h4⟩
  exact ⟨v, r', h', κ', rfl, h1, h2, h3, h4, rfl⟩
theorem FSpec.wk1 {f : FuncId} {args : List AV} {h : List Entry} {K K' : AV → List Entry → Prop} (T : TypeId) (hs : FSpec P f args h K) (hk : ∀ r h', K r h' → tyB P r T = true ∧ K' (wk P 6 T r) h') : FSpec P f args h K' := by
  refine ⟨hs.1, fun κ w vs hr hv => (hs.2 κ w vs hr hv).mono ?_⟩
  rintro e w' ⟨v, r, h', κ', rfl, h1, h2, h3, h5⟩
  obtain ⟨ht, hw⟩ := hk r h' h5
  refine ⟨v, _, h', κ', rfl, h1, h2, wk_VV ht ?_ h3, hw⟩
  exact tyB_plain ht
end
end Go.Abs
