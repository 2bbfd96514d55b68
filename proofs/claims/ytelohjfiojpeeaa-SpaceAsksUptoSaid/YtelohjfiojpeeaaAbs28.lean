/- Abs28: a part of the proofs about the tuple space (layer 8). -/
import Derived.Test.YtelohjfiojpeeaaAbs27
set_option linter.all false
namespace Go.Abs
open Go
section
variable {P : Program}
/-! ### One more row is given up ahead of a call -/
theorem FSpec.freeze (hP : WF P) {f : FuncId} {args : List AV} {h : List Entry} {k : Nat} {e : Entry} {K : AV → List Entry → Prop} (hk : h[k]? = some e) (ho : e.st = .own) (hne : e.es ≠ []) (hp : FSpec P f args (h.set k (fzE e)) K) :
    FSpec P f args h K := by
  obtain ⟨hc, hs⟩ := hp
  refine ⟨hc, fun κ w vs hr hv => ?_⟩
  have x := ext_dim (c := ⟨κ, h, w⟩) (e' := fzE e) hk rfl (by simp [fzE]) (by simp [fzE])
  have hκ : κ k ≠ none := by
    rcases hr.blk k e hk (.inl ho) with ⟨_, h2, _⟩ | ⟨b, _, _, h1, _⟩
    · exact absurd h2 hne
    · rw [show κ k = some b from h1]; simp
  have hr2 := hr_dim (c := ⟨κ, h, w⟩) (e' := fzE e) hr hk rfl (by simp [fzE]) (by simp [fzE]) (fun _ => ⟨.inl ho, hκ, e.es.length, by simp [fzE]⟩)
  have hv2 : RepV P ⟨κ, h.set k (fzE e), w⟩ args vs := by
    clear hs
    induction args generalizing vs with
    | nil => simp only [RepV] at hv; subst hv; simp [RepV]
    | cons a as ih =>
      simp only [RepV] at hv
      obtain ⟨v, r, rfl, h1, h2, h3⟩ := hv
      simp only [RepV]
      exact ⟨v, r, rfl, h1, rep_mono x _ _ h2, ih r h3⟩
  refine (hs κ w vs hr2 hv2).mono ?_
  rintro e' w' ⟨v, r, h', κ', rfl, h1, h2, h3, h4⟩
  exact ⟨v, r, h', κ', rfl, h1, x.trans h2, h3, h4⟩
theorem k_fz (hP : WF P) {g : FuncId} {args raw : List AV} {k : Nat} {e : Entry} {env : Env} {h : List Entry} {s : List Ctl} {d : Option Tmp} {Q : APost} (hk : h[k]? = some e) (ho : e.st = .own) (hne : e.es ≠ [])
    (hk2 : Rk P g args raw d s env (h.set k (fzE e)) Q) : Rk P g args raw d s env h Q := by
  rcases hk2 with h2 | h2
  · exact .inl (FSpec.freeze hP hk ho hne h2)
  · exact .inr (FSpec.freeze hP hk ho hne h2)
/-- what was given up before is read, the heap stays -/
theorem FSpec.read (hP : WF P) {g : FuncId} {args args' : List AV} {r : AV} {h : List Entry} (ha : args.map (bz h 4) = args') (hp : Fn P g args' r) : FSpec P g args h fun r' h' => r' = r ∧ h' = h := by
  subst ha
  obtain ⟨hc, hs⟩ := hp h
  refine ⟨hc, fun κ w vs hr hv => ?_⟩
  have hv2 : RepV P ⟨κ, h, w⟩ (args.map (bz h 4)) vs := by
    clear hs hp
    induction args generalizing vs with
    | nil => simp only [RepV] at hv; subst hv; simp [RepV]
    | cons a as ih =>
      simp only [RepV] at hv
      obtain ⟨v, r, rfl, h1, h2, h3⟩ := hv
      simp only [List.map_cons, RepV]
      exact ⟨v, r, rfl, by rw [bz_agg]; exact h1, rep_bz (c := ⟨κ, h, w⟩) hP hr 4 a _ h2, ih r h3⟩
  refine (hs κ w vs hr hv2).mono ?_
  rintro e' w' ⟨v, r', h', κ', rfl, h1, h2, h3, rfl, h4⟩
  exact ⟨v, r', h', κ', rfl, h1, h2, h3, h4, rfl⟩
theorem dk_read (hP : WF P) {g : FuncId} {args args' : List AV} {r : AV} {env : Env} {h : List Entry} {s : List Ctl} {Q : APost} {D : DC} (rd : List Nat) (ha : ∀ h2 : List Entry, (∀ k ∈ rd, h2[k]? = h[k]?) → args.map (bz h2 4) = args') (hp : Fn P g args' r) (hk : Dv P r (.wr []) rd D s env h Q) : Dk P g args D s env h Q :=
  dk_look rd (fun h2 hh => FSpec.read hP (ha h2 hh) hp) hk
end
end Go.Abs
