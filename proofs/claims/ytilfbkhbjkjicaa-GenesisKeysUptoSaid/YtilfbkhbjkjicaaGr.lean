/- Gr: a part of the proofs about the tuple space and its bytes. -/
import Derived.Test.YtilfbkhbjkjicaaGf
set_option linter.all false
set_option maxRecDepth 100000
set_option maxHeartbeats 0
namespace Go.Abs
open Go
open Go.Proofs.Try (prog)
/-! ### rows of rows of one's own, given up, are what they show -/
theorem frz_own (T : TypeId) (es : List AV) (h : es ≠ []) : frz ⟨T, es, .own⟩ = ⟨T, es, .fz⟩ := by
  have : es.isEmpty = false := by cases es with
    | nil => exact absurd rfl h
    | cons _ _ => rfl
  simp [frz, fzE, this]
/-- H2 holds what H held in X, given up -/
def FzIn (X : Nat → Prop) (H H2 : List Entry) : Prop := ∀ j e, X j → H[j]? = some e → H2[j]? = some (frz e)
theorem FzIn.mk {X : Nat → Prop} {H : List Entry} {ks : List Nat} (hX : ∀ j, X j → j ∈ ks) : FzIn X H (frzL ks H) := fun j e hx hj => by
  rw [frzL_get, if_pos (hX j hx), hj]; rfl
theorem FzIn.keep {X : Nat → Prop} {H H2 H3 : List Entry} (f : FzIn X H H2) (hg : ∀ j e, X j → H2[j]? = some e → H3[j]? = some e) : FzIn X H H3 := fun j e hx hj => hg j _ hx (f j e hx hj)
theorem View.bzd_u8 {X : Nat → Prop} {H H2 : List Entry} {w : AV} {l : List UInt8} (hv : View X H 5 w (l.map eB)) (hl : l ≠ []) (hf : FzIn X H H2) (n : Nat) : bzd H2 (n + 1) w = eBs l := by
  obtain ⟨k, lo, z, rfl, hx, hk⟩ := hv.cons (by simpa using hl)
  have hw : winGet (l.map eB ++ z) [] 0 (l.map eB).length = some (l.map eB) := by simp [winGet]
  rw [bzd_winE, hf k _ hx hk, frz_own _ _ (by simp [hl])]
  simp only [bzdWin, if_true, hw, bzd_eBs]
  rfl
theorem OwnRows.bzd {X : Nat → Prop} {H H2 : List Entry} {v : AV} {ls : List (List UInt8)} (o : OwnRows X H v ls) (hl : ls ≠ []) (hf : FzIn X H H2) (n : Nat) : bzd H2 (n + 2) v = eKs ls := by
  obtain ⟨ws, hv, hn, hi⟩ := o
  have hws : ws ≠ [] := by rintro rfl; exact hl (List.eq_nil_of_length_eq_zero (by simpa using hn.symm))
  obtain ⟨k, lo, z, rfl, hx, hk⟩ := hv.cons hws
  have hw : winGet (ws ++ z) [] 0 ws.length = some ws := by simp [winGet]
  rw [bzd_winE, hf k _ hx hk, frz_own _ _ (by simp [hws])]
  simp only [bzdWin, if_true, hw]
  rw [eKs]
  congr 1
  apply List.ext_getElem?
  intro j
  rw [List.getElem?_map, List.getElem?_map]
  by_cases hj : j < ws.length
  · have h1 : ws[j]? = some ws[j] := List.getElem?_eq_getElem hj
    have h2 : ls[j]? = some (ls[j]'(by omega)) := List.getElem?_eq_getElem (by omega)
    obtain ⟨a, b⟩ := hi j _ _ h1 h2
    rw [h1, h2, Option.map_some, Option.map_some, a.bzd_u8 b hf n]
  · rw [List.getElem?_eq_none (by omega), List.getElem?_eq_none (by omega)]; rfl
theorem OwnRows.inn {n : Nat} {H : List Entry} {v : AV} {ls : List (List UInt8)} (o : OwnRows (fun j => n ≤ j) H v ls) (l : List Entry) : OwnRows (fun j => n ≤ j ∧ j < H.length) (H ++ l) v ls := by
  obtain ⟨ws, hv, hn, hi⟩ := o
  have key : ∀ {T : TypeId} {w : AV} {es : List AV}, View (fun j => n ≤ j) H T w es → View (fun j => n ≤ j ∧ j < H.length) (H ++ l) T w es := fun hw => by
    cases hw with
    | nil => exact .nil
    | win hx hk => exact .win ⟨hx, lt_some hk⟩ (by rw [List.getElem?_append_left (lt_some hk)]; exact hk)
  exact ⟨ws, key hv, hn, fun i w l' hw hl' => ⟨key (hi i w l' hw hl').1, (hi i w l' hw hl').2⟩⟩
theorem OwnRows.ty {X : Nat → Prop} {H : List Entry} {v : AV} {ls : List (List UInt8)} (o : OwnRows X H v ls) : tyB prog v 70 = true := by obtain ⟨ws, a, _⟩ := o; exact a.ty sh_70
theorem OwnRows.pl {X : Nat → Prop} {H : List Entry} {v : AV} {ls : List (List UInt8)} (o : OwnRows X H v ls) : plainAV v = true := by obtain ⟨ws, a, _⟩ := o; exact a.pl
theorem OwnRows.wk {X : Nat → Prop} {H : List Entry} {v : AV} {ls : List (List UInt8)} (o : OwnRows X H v ls) (hl : ls ≠ []) (n : Nat) : wk prog n 70 v = v := by
  obtain ⟨ws, hv, hn, hi⟩ := o
  have hws : ws ≠ [] := by rintro rfl; exact hl (List.eq_nil_of_length_eq_zero (by simpa using hn.symm))
  obtain ⟨k, lo, z, rfl, hx, hk⟩ := hv.cons hws
  exact wk_win ..
theorem k_frzL {g : FuncId} {args raw : List AV} {d : Option Tmp} {s : List Ctl} {env : Env} {h : List Entry} {Q : APost} (ks : List Nat) (hk : Rk prog g args raw d s env (frzL ks h) Q) : Rk prog g args raw d s env h Q :=
  hk.imp (FSpec.frzL wfp ks h) (FSpec.frzL wfp ks h)
theorem frzL_len : ∀ (ks : List Nat) (h : List Entry), (frzL ks h).length = h.length
  | [], h => rfl
  | k :: ks, h => by
    rw [frzL, frzL_len ks]
    split <;> simp
theorem frzL_take (ks : List Nat) (h : List Entry) {n : Nat} (hk : ∀ k ∈ ks, n ≤ k) : (frzL ks h).take n = h.take n := by
  apply List.ext_getElem?
  intro j
  rw [List.getElem?_take, List.getElem?_take]
  split
  · rw [frzL_get, if_neg fun hm => by have := hk j hm; omega]
  · rfl
theorem bzd_aggE (h : List Entry) (n : Nat) (T : TypeId) (vs : List AV) : bzd h (n + 1) (.agg T vs) = .agg T (vs.map (bzd h n)) := rfl
theorem bzd_dat {h : List Entry} : ∀ (n : Nat) (a : AV), dat a = true → bzd h n a = a
  | 0, a, _ => rfl
  | n + 1, a, hd => by
    cases a <;> simp only [Go.Abs.bzd] <;> try rfl
    case agg T vs =>
      rw [dat_agg] at hd
      congr 1
      have : ∀ l : List AV, datL l = true → l.map (Go.Abs.bzd h n) = l := by
        intro l
        induction l with
        | nil => intro _; rfl
        | cons a l ih =>
          intro hl
          rw [datL_cons, Bool.and_eq_true] at hl
          rw [List.map_cons, bzd_dat n a hl.1, ih hl.2]
      exact this vs hd
    case win => simp [dat] at hd
/-- a genesis whose keys are such rows -/
def ownG (g : Gen) (v : AV) : AV := .agg 72 [.int .i64 g.F, .int .i64 g.Read, .int .i64 g.Write, v, .list 5 []]
theorem ownG_bzd {g : Gen} {v : AV} {H : List Entry} (hs : g.Start = []) (hv : bzd H 3 v = eKs g.Keys) : [ownG g v].map (Go.Abs.bzd H 4) = [eG g] := by
  rw [List.map_cons, List.map_nil, ownG, eG, hs]
  show [AV.agg _ [_, _, _, Go.Abs.bzd H 3 v, _]] = _
  rw [hv]
  rfl

end Go.Abs
