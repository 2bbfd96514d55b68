/- Abs27: a part of the proofs about the tuple space (layer 8). -/
import Derived.Test.YtelohjfiojpeeaaAbs26
set_option linter.all false
namespace Go.Abs
open Go
section
variable {P : Program}
/-! ### What the caller owns is given up to be read for good -/
def bzWin (T : TypeId) (p : List Nat) (fr m : Nat) (a : AV) : Option Entry → AV
  | some e => if e.st = .fz then (match winGet e.es p fr m with | some ys => .list T ys | none => a) else a
  | none => a
def bz (h : List Entry) : Nat → AV → AV
  | 0, a => a
  | n + 1, a => match a with
    | .win k p T fr m lo => bzWin T p fr m (.win k p T fr m lo) h[k]?
    | .agg T vs => .agg T (vs.map (bz h n))
    | a => a
theorem bz_agg {h : List Entry} {n : Nat} {a : AV} : isAgg (bz h n a) = isAgg a := by
  cases n with
  | zero => rfl
  | succ n =>
    cases a <;> simp only [bz] <;> try rfl
    unfold bzWin; (repeat' split) <;> rfl
theorem bz_ty {h : List Entry} {n : Nat} {a : AV} {T : TypeId} (ht : tyOK P a T) : tyOK P (bz h n a) T := by
  cases n with
  | zero => exact ht
  | succ n =>
    cases a <;> simp only [bz] <;> try exact ht
    unfold bzWin; (repeat' split) <;> first | exact ht | (simp only [tyOK] at ht ⊢; exact ht)
theorem rep_bz (hP : WF P) {c : Cx} (hr : HR P c) : ∀ (n : Nat) (a : AV) (cs : List Value), Rep P c a cs → Rep P c (bz c.h n a) cs
  | 0, a, cs, h => h
  | n + 1, a, cs, h => by
    have IH := rep_bz hP hr n
    cases a <;> simp only [bz] <;> try exact h
    case agg T vs =>
      simp only [Rep] at h ⊢
      refine ⟨h.1, ?_⟩
      have h2 := h.2
      split at h2
      · obtain ⟨hl, hall⟩ := repF_iff.1 h2
        refine repF_iff.2 ⟨by simp [hl], fun i v f hv hf => ?_⟩
        rw [List.getElem?_map, Option.map_eq_some_iff] at hv
        obtain ⟨u, hu, rfl⟩ := hv
        obtain ⟨h3, h4⟩ := hall i u f hu hf
        exact ⟨bz_ty h3, IH u _ h4⟩
      · refine ⟨by simpa using h2.1, repE_iff.2 fun i v hv => ?_⟩
        rw [List.getElem?_map, Option.map_eq_some_iff] at hv
        obtain ⟨u, hu, rfl⟩ := hv
        obtain ⟨h3, h4⟩ := repE_get h2.2 hu
        exact ⟨bz_ty h3, IH u _ h4⟩
      · exact h2.elim
    case win k p T fr m lo =>
      unfold bzWin
      split
      · rename_i e he
        split
        · rename_i hf
          split
          · rename_i ys hg
            have hvv : ∃ v, cs = [v] ∧ VV P c (.win k p T fr m lo) v := by
              have h' := h
              simp only [Rep] at h'
              obtain ⟨_, _, _, _, _, rfl, _⟩ := h'
              exact ⟨_, rfl, (vv_cell rfl (by simp) (by simp)).2 ⟨rfl, h⟩⟩
            obtain ⟨v, rfl, hv⟩ := hvv
            obtain ⟨hlen, hread⟩ := win_read hP hr hv he (.inr hf) hg
            obtain ⟨_, cap0, a0, _, _, rfl, _, hmc, _⟩ := vv_win hv
            simp only [Rep]
            refine ⟨a0, cap0, by rw [hlen], by omega, fun hne => ?_⟩
            have hm0 : m ≠ 0 := by rintro rfl; exact hne (by simp [List.eq_nil_of_length_eq_zero hlen])
            obtain ⟨b, off, C, mk, cap, hveq, hkb, hbk, _, _, _, _, hE⟩ := hread hm0
            simp only [Value.slice.injEq] at hveq
            obtain ⟨_, _, _, _, g4, _⟩ := hr.block he (.inr hf) hkb
            exact ⟨b, off + fr * P.cellsOf T, C, e.T, mk, hveq.1, hbk, g4 hf, hE⟩
          · exact h
        · exact h
      · exact h
def fzE (e : Entry) : Entry := { e with st := .fz }
theorem FSpec.give (hP : WF P) {f : FuncId} {args : List AV} {h : List Entry} {k : Nat} {e : Entry} {R : AV → Prop} (hk : h[k]? = some e) (ho : e.st = .own) (hne : e.es ≠ []) (hp : Pure P f (args.map (bz (h.set k (fzE e)) 4)) R) :
    FSpec P f args h fun r h' => h' = h.set k (fzE e) ∧ R r := by
  obtain ⟨hc, hs⟩ := hp (h.set k (fzE e))
  refine ⟨hc, fun κ w vs hr hv => ?_⟩
  have x := ext_dim (c := ⟨κ, h, w⟩) (e' := fzE e) hk rfl (by simp [fzE]) (by simp [fzE])
  have hκ : κ k ≠ none := by
    rcases hr.blk k e hk (.inl ho) with ⟨_, h2, _⟩ | ⟨b, _, _, h1, _⟩
    · exact absurd h2 hne
    · rw [show κ k = some b from h1]; simp
  have hr2 := hr_dim (c := ⟨κ, h, w⟩) (e' := fzE e) hr hk rfl (by simp [fzE]) (by simp [fzE]) (fun _ => ⟨.inl ho, hκ, e.es.length, by simp [fzE]⟩)
  have hv2 : RepV P ⟨κ, h.set k (fzE e), w⟩ (args.map (bz (h.set k (fzE e)) 4)) vs := by
    clear hs hp
    induction args generalizing vs with
    | nil => simp only [RepV] at hv; subst hv; simp [RepV]
    | cons a as ih =>
      simp only [RepV] at hv
      obtain ⟨v, r, rfl, h1, h2, h3⟩ := hv
      simp only [List.map_cons, RepV]
      exact ⟨v, r, rfl, by rw [bz_agg]; exact h1, rep_bz (c := ⟨κ, h.set k (fzE e), w⟩) hP hr2 4 a _ (rep_mono x _ _ h2), ih r h3⟩
  refine (hs κ w vs hr2 hv2).mono ?_
  rintro e' w' ⟨v, r, h', κ', rfl, h1, h2, h3, h4⟩
  exact ⟨v, r, h', κ', rfl, h1, x.trans h2, h3, h4⟩
theorem k_give (hP : WF P) {g : FuncId} {args args' raw : List AV} {r : AV} {k : Nat} {e : Entry} {env : Env} {h : List Entry} {s : List Ctl} {d : Option Tmp} {Q : APost} (hk : h[k]? = some e) (ho : e.st = .own) (hne : e.es ≠ []) (ha : args.map (bz (h.set k (fzE e)) 4) = args') (hp : Fn P g args' r)
    (hk2 : Rn P s .normal (putD env d r) (h.set k (fzE e)) Q) : Rk P g args raw d s env h Q := by
  subst ha
  refine .inl ((FSpec.give hP hk ho hne hp).mono ?_)
  rintro r' h' ⟨rfl, rfl⟩
  exact hk2
/-- what was given up before is read -/
theorem k_read (hP : WF P) {g : FuncId} {args args' raw : List AV} {r : AV} {env : Env} {h : List Entry} {s : List Ctl} {d : Option Tmp} {Q : APost} (ha : args.map (bz h 4) = args') (hp : Fn P g args' r) (hk2 : Rn P s .normal (putD env d r) h Q) : Rk P g args raw d s env h Q := by
  subst ha
  obtain ⟨hc, hs⟩ := hp h
  refine .inl ⟨hc, fun κ w vs hr hv => ?_⟩
  have hv2 : RepV P ⟨κ, h, w⟩ (args.map (bz h 4)) vs := by
    clear hs hp
    induction args generalizing vs with
    | nil => simp only [RepV] at hv; subst hv; simp [RepV]
    | cons a as ih =>
      simp only [RepV] at hv
      obtain ⟨v, r, rfl, h1, h2, h3⟩ := hv
      simp only [List.map_cons, RepV]
      exact ⟨v, r, rfl, by rw [bz_agg]; exact h1, rep_bz (c := ⟨κ, h, w⟩) hP hr 4 a _ h2, ih r h3⟩
  refine (hs κ w vs hr hv2).mono ?_
  rintro e' w' ⟨v, r', h', κ', rfl, h1, h2, h3, rfl, h4⟩
  exact ⟨v, r', h', κ', rfl, h1, h2, h3, by rw [h4]; exact hk2⟩
end
end Go.Abs
