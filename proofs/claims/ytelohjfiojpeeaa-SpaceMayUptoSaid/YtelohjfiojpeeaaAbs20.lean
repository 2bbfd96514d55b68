/- Abs20: a part of the proofs about the tuple space (layer 8). -/
import Derived.Test.YtelohjfiojpeeaaAbs19
set_option linter.all false
namespace Go.Abs
open Go
section
variable {P : Program}

/-! ### What a function hands back -/
def ares (P : Program) : List ResultVar → List (Nat × AV) → List Entry → (List AV → Prop) → Prop
  | [], _, _, K => K []
  | .tmp t :: r, env, h, K => ares P r env h fun l => K (lk env t :: l)
  | .cell t T :: r, env, h, K => (stLoad T (lk env t)).wp h fun v _ => ares P r env h fun l => K (v :: l)

def one (K : AV → Prop) : List AV → Prop
  | [r] => K r
  | l => l.all plainAV = true ∧ K (.tup l)

mutual
/-- names below n alone -/
def below (n : Nat) : AV → Bool
  | .agg _ vs => belowL n vs
  | .list _ es => belowL n es
  | .win k _ _ _ _ _ => decide (k < n)
  | .ref k _ _ => decide (k < n)
  | .eref _ v => below n v
  | .fn _ caps => belowL n caps
  | .tup vs => belowL n vs
  | _ => true
def belowL (n : Nat) : List AV → Bool
  | [] => true
  | v :: vs => below n v && belowL n vs
end

mutual
/-- a window into an entry that is given up shows a slice that nobody writes any more -/
def rz (h : List Entry) (n : Nat) : AV → AV
  | .win k p T fr m lo => if n ≤ k then (match h[k]? with
      | some e => if liveB e.st = true then (match winGet e.es p fr m with
        | some ys => .list T ys
        | none => .win k p T fr m lo) else .win k p T fr m lo
      | none => .win k p T fr m lo) else .win k p T fr m lo
  | .agg T vs => .agg T (rzL h n vs)
  | .tup vs => .tup (rzL h n vs)
  | a => a
def rzL (h : List Entry) (n : Nat) : List AV → List AV
  | [] => []
  | v :: vs => rz h n v :: rzL h n vs
end

theorem belowL_all {n : Nat} : ∀ {vs : List AV}, belowL n vs = vs.all (below n)
  | [] => rfl
  | v :: vs => by simp only [belowL, List.all_cons, belowL_all (vs := vs)]
theorem rzL_map {h : List Entry} {n : Nat} : ∀ {vs : List AV}, rzL h n vs = vs.map (rz h n)
  | [] => rfl
  | v :: vs => by simp only [rzL, List.map_cons, rzL_map (vs := vs)]
theorem below_agg {n : Nat} {T : TypeId} {vs : List AV} : below n (.agg T vs) = vs.all (below n) := by simp only [below, belowL_all]
theorem below_list {n : Nat} {T : TypeId} {vs : List AV} : below n (.list T vs) = vs.all (below n) := by simp only [below, belowL_all]
theorem below_tup {n : Nat} {vs : List AV} : below n (.tup vs) = vs.all (below n) := by simp only [below, belowL_all]
theorem below_fn {n : Nat} {f : FuncId} {vs : List AV} : below n (.fn f vs) = vs.all (below n) := by simp only [below, belowL_all]
theorem rz_agg {h : List Entry} {n : Nat} {T : TypeId} {vs : List AV} : rz h n (.agg T vs) = .agg T (vs.map (rz h n)) := by simp only [rz, rzL_map]
theorem rz_tup {h : List Entry} {n : Nat} {vs : List AV} : rz h n (.tup vs) = .tup (vs.map (rz h n)) := by simp only [rz, rzL_map]

def trimCx (c : Cx) (n : Nat) : Cx := { c with h := c.h.take n }

theorem O_trim {c : Cx} {n b : Nat} (h : (trimCx c n).O b) : c.O b := by
  obtain ⟨k, e, he, hst, hk⟩ := h
  refine ⟨k, e, ?_, hst, hk⟩
  simp only [trimCx, List.getElem?_take] at he
  split at he
  · exact he
  · cases he

theorem trim_get {c : Cx} {n k : Nat} (hk : k < n) : (trimCx c n).h[k]? = c.h[k]? := by simp only [trimCx, List.getElem?_take, if_pos hk]

/-- Two contexts that are one as far as names below n go. -/
structure Agree (c c2 : Cx) (n : Nat) : Prop where
  w : c2.w = c.w
  own : ∀ b, c2.O b → c.O b
  κ : ∀ k, k < n → c2.κ k = c.κ k
  h : ∀ k, k < n → c2.h[k]? = c.h[k]?

mutual
theorem rep_keep {c c2 : Cx} {n : Nat} (A : Agree c c2 n) : ∀ (a : AV) (cs : List Value), below n a = true → Rep P c a cs → Rep P c2 a cs
  | .int k m, cs, _, h => by simpa only [Rep] using h
  | .bool b, cs, _, h => by simpa only [Rep] using h
  | .str s, cs, _, h => by simpa only [Rep] using h
  | .agg T vs, cs, hb, h => by
    rw [below_agg] at hb
    simp only [Rep] at h ⊢
    refine ⟨h.1, ?_⟩
    have h2 := h.2
    split at h2
    · exact repF_keep A _ _ _ hb h2
    · exact ⟨h2.1, repE_keep A _ _ _ hb h2.2⟩
    · exact h2.elim
  | .list T es, cs, hb, h => by
    rw [below_list] at hb
    simp only [Rep] at h ⊢
    obtain ⟨a, cap, rfl, hc, h⟩ := h
    refine ⟨a, cap, rfl, hc, fun hne => ?_⟩
    obtain ⟨b, off, C, Te, m, ha, hbk, hO, hr⟩ := h hne
    exact ⟨b, off, C, Te, m, ha, by rw [A.w]; exact hbk, fun h => hO (A.own _ h), repE_keep A _ _ _ hb hr⟩
  | .win k p T fr m lo, cs, hb, h => by
    simp only [below, decide_eq_true_eq] at hb
    simp only [Rep] at h ⊢
    rw [A.h k hb, A.w, A.κ k hb]
    exact h
  | .ref k p T, cs, hb, h => by
    simp only [below, decide_eq_true_eq] at hb
    simp only [Rep] at h ⊢
    rw [A.h k hb, A.κ k hb]
    exact h
  | .eref T v, cs, hb, h => by
    simp only [below] at hb
    simp only [Rep] at h ⊢
    obtain ⟨b, off, C, Te, m, rfl, hbk, hO, ht, hr⟩ := h
    exact ⟨b, off, C, Te, m, rfl, by rw [A.w]; exact hbk, fun h => hO (A.own _ h), ht, rep_keep A _ _ hb hr⟩
  | .nilptr, cs, _, h => by simpa only [Rep] using h
  | .fn f caps, cs, hb, h => by
    rw [below_fn] at hb
    simp only [Rep] at h ⊢
    obtain ⟨vs, rfl, hv⟩ := h
    exact ⟨vs, rfl, repV_keep A _ _ hb hv⟩
  | .nilfn, cs, _, h => by simpa only [Rep] using h
  | .nils, cs, _, h => by simpa only [Rep] using h
  | .tup _, cs, _, h => by simp only [Rep] at h
  | .junk, cs, _, h => by simp only [Rep] at h
theorem repF_keep {c c2 : Cx} {n : Nat} (A : Agree c c2 n) : ∀ (vs : List AV) (fs : List (TypeId × Nat)) (cs : List Value), vs.all (below n) = true → RepF P c vs fs cs → RepF P c2 vs fs cs
  | [], fs, cs, _, h => by simpa only [RepF] using h
  | v :: vs, fs, cs, hb, h => by
    simp only [List.all_cons, Bool.and_eq_true] at hb
    simp only [RepF] at h ⊢
    obtain ⟨f, r, rfl, h1, h2, h3⟩ := h
    exact ⟨f, r, rfl, h1, rep_keep A _ _ hb.1 h2, repF_keep A _ _ _ hb.2 h3⟩
theorem repE_keep {c c2 : Cx} {n : Nat} (A : Agree c c2 n) : ∀ (vs : List AV) (T : TypeId) (cs : List Value), vs.all (below n) = true → RepE P c vs T cs → RepE P c2 vs T cs
  | [], T, cs, _, h => by simp only [RepE]
  | v :: vs, T, cs, hb, h => by
    simp only [List.all_cons, Bool.and_eq_true] at hb
    simp only [RepE] at h ⊢
    exact ⟨h.1, rep_keep A _ _ hb.1 h.2.1, repE_keep A _ _ _ hb.2 h.2.2⟩
theorem repV_keep {c c2 : Cx} {n : Nat} (A : Agree c c2 n) : ∀ (as : List AV) (vs : List Value), as.all (below n) = true → RepV P c as vs → RepV P c2 as vs
  | [], vs, _, h => by simpa only [RepV] using h
  | a :: as, vs, hb, h => by
    simp only [List.all_cons, Bool.and_eq_true] at hb
    simp only [RepV] at h ⊢
    obtain ⟨v, r, rfl, h1, h2, h3⟩ := h
    exact ⟨v, r, rfl, h1, rep_keep A _ _ hb.1 h2, repV_keep A _ _ hb.2 h3⟩
end

theorem agree_trim (c : Cx) (n : Nat) : Agree c (trimCx c n) n := ⟨rfl, fun _ h => O_trim h, fun _ _ => rfl, fun _ h => trim_get h⟩

theorem rep_trim {c : Cx} {n : Nat} (a : AV) (cs : List Value) (hb : below n a = true) (h : Rep P c a cs) : Rep P (trimCx c n) a cs := rep_keep (agree_trim c n) a cs hb h
theorem repE_trim {c : Cx} {n : Nat} (vs : List AV) (T : TypeId) (cs : List Value) (hb : vs.all (below n) = true) (h : RepE P c vs T cs) : RepE P (trimCx c n) vs T cs := repE_keep (agree_trim c n) vs T cs hb h

theorem hr_trim {c : Cx} {n : Nat} (hr : HR P c) (hcl : ∀ k e, k < n → c.h[k]? = some e → Live e → e.es.all (below n) = true) : HR P (trimCx c n) where
  blk k e he hl := by
    have hkn : k < n ∧ c.h[k]? = some e := by
      simp only [trimCx, List.getElem?_take] at he
      split at he
      · exact ⟨‹_›, he⟩
      · cases he
    rcases hr.blk k e hkn.2 hl with h | ⟨b, C, m, h1, h2, h3, h4, h5, h6⟩
    · exact .inl h
    · exact .inr ⟨b, C, m, h1, h2, h3, fun hf hO => h4 hf (O_trim hO), h5, repE_trim _ _ _ (hcl k e hkn.1 hkn.2 hl) h6⟩
  apart k k' e e' b he he' hst hst' hk hk' := by
    have g : ∀ {j : Nat} {x : Entry}, (trimCx c n).h[j]? = some x → c.h[j]? = some x := by
      intro j x hx
      simp only [trimCx, List.getElem?_take] at hx
      split at hx
      · exact hx
      · cases hx
    exact hr.apart k k' e e' b (g he) (g he') hst hst' hk hk'


theorem rz_ty {h : List Entry} {n : Nat} {a : AV} {T : TypeId} (ht : tyOK P a T) : tyOK P (rz h n a) T := by
  cases a <;> simp only [rz] <;> try exact ht
  simp only [tyOK] at ht
  split
  · split
    · split
      · split <;> simp only [tyOK] <;> exact ht
      · simp only [tyOK]; exact ht
    · simp only [tyOK]; exact ht
  · simp only [tyOK]; exact ht

theorem rz_isAgg {h : List Entry} {n : Nat} {a : AV} : isAgg (rz h n a) = isAgg a := by
  cases a <;> simp only [rz] <;> try rfl
  split
  · split
    · split
      · split <;> rfl
      · rfl
    · rfl
  · rfl
end

section
variable {P : Program}
mutual
theorem rep_rz_aux {c : Cx} {n : Nat} (hwin : ∀ (k : Nat) (p : List Nat) (T : TypeId) (fr m lo : Nat) (cs : List Value), below n (rz c.h n (.win k p T fr m lo)) = true → Rep P c (.win k p T fr m lo) cs → Rep P (trimCx c n) (rz c.h n (.win k p T fr m lo)) cs) :
    ∀ (a : AV) (cs : List Value), below n (rz c.h n a) = true → Rep P c a cs → Rep P (trimCx c n) (rz c.h n a) cs
  | .win k p T fr m lo, cs, hb, h => hwin k p T fr m lo cs hb h
  | .agg T vs, cs, hb, h => by
    simp only [rz] at hb ⊢
    simp only [below] at hb
    simp only [Rep] at h ⊢
    refine ⟨h.1, ?_⟩
    have h2 := h.2
    split at h2
    · exact repF_rz_aux hwin _ _ _ hb h2
    · refine ⟨by rw [rzL_map]; simpa using h2.1, repE_rz_aux hwin _ _ _ hb h2.2⟩
    · exact h2.elim
  | .tup vs, cs, hb, h => by simp only [Rep] at h
  | .int .., cs, hb, h => by simp only [rz] at hb ⊢; exact rep_trim _ _ hb h
  | .bool .., cs, hb, h => by simp only [rz] at hb ⊢; exact rep_trim _ _ hb h
  | .str .., cs, hb, h => by simp only [rz] at hb ⊢; exact rep_trim _ _ hb h
  | .list .., cs, hb, h => by simp only [rz] at hb ⊢; exact rep_trim _ _ hb h
  | .ref .., cs, hb, h => by simp only [rz] at hb ⊢; exact rep_trim _ _ hb h
  | .eref .., cs, hb, h => by simp only [rz] at hb ⊢; exact rep_trim _ _ hb h
  | .nilptr, cs, hb, h => by simp only [rz] at hb ⊢; exact rep_trim _ _ hb h
  | .fn .., cs, hb, h => by simp only [rz] at hb ⊢; exact rep_trim _ _ hb h
  | .nilfn, cs, hb, h => by simp only [rz] at hb ⊢; exact rep_trim _ _ hb h
  | .nils, cs, hb, h => by simp only [rz] at hb ⊢; exact rep_trim _ _ hb h
  | .junk, cs, hb, h => by simp only [Rep] at h
theorem repF_rz_aux {c : Cx} {n : Nat} (hwin : ∀ (k : Nat) (p : List Nat) (T : TypeId) (fr m lo : Nat) (cs : List Value), below n (rz c.h n (.win k p T fr m lo)) = true → Rep P c (.win k p T fr m lo) cs → Rep P (trimCx c n) (rz c.h n (.win k p T fr m lo)) cs) :
    ∀ (vs : List AV) (fs : List (TypeId × Nat)) (cs : List Value), belowL n (rzL c.h n vs) = true → RepF P c vs fs cs → RepF P (trimCx c n) (rzL c.h n vs) fs cs
  | [], fs, cs, _, h => by simpa only [rzL, RepF] using h
  | v :: vs, fs, cs, hb, h => by
    simp only [rzL, belowL, Bool.and_eq_true] at hb
    simp only [rzL, RepF] at h ⊢
    obtain ⟨f, r, rfl, h1, h2, h3⟩ := h
    exact ⟨f, r, rfl, rz_ty h1, rep_rz_aux hwin _ _ hb.1 h2, repF_rz_aux hwin _ _ _ hb.2 h3⟩
theorem repE_rz_aux {c : Cx} {n : Nat} (hwin : ∀ (k : Nat) (p : List Nat) (T : TypeId) (fr m lo : Nat) (cs : List Value), below n (rz c.h n (.win k p T fr m lo)) = true → Rep P c (.win k p T fr m lo) cs → Rep P (trimCx c n) (rz c.h n (.win k p T fr m lo)) cs) :
    ∀ (vs : List AV) (T : TypeId) (cs : List Value), belowL n (rzL c.h n vs) = true → RepE P c vs T cs → RepE P (trimCx c n) (rzL c.h n vs) T cs
  | [], T, cs, _, h => by simp only [rzL, RepE]
  | v :: vs, T, cs, hb, h => by
    simp only [rzL, belowL, Bool.and_eq_true] at hb
    simp only [rzL, RepE] at h ⊢
    exact ⟨rz_ty h.1, rep_rz_aux hwin _ _ hb.1 h.2.1, repE_rz_aux hwin _ _ _ hb.2 h.2.2⟩
end
end

section
variable {P : Program}
/-! ### Windows that are given up -/
theorem O_trim_not {c : Cx} (hr : HR P c) {n k b : Nat} {e : Entry} (hk : n ≤ k) (he : c.h[k]? = some e) (hl : Live e) (hb : c.κ k = some b) : ¬ (trimCx c n).O b := by
  rintro ⟨j, x, hx, hst, hj⟩
  have hjn : j < n ∧ c.h[j]? = some x := by
    simp only [trimCx, List.getElem?_take] at hx
    split at hx
    · exact ⟨‹_›, hx⟩
    · cases hx
  rcases hl with hown | hfz
  · have := hr.apart j k x e b hjn.2 he hst hown hj hb
    omega
  · exact (hr.blk k e he (.inr hfz)).fz hb hfz ⟨j, x, hjn.2, hst, hj⟩

/-- what stands in place of a value behind the trimming -/
theorem rep_rz (hP : WF P) {c : Cx} (hr : HR P c) {n : Nat} : ∀ (a : AV) (cs : List Value), below n (rz c.h n a) = true → Rep P c a cs → Rep P (trimCx c n) (rz c.h n a) cs := by
  have hwin : ∀ (k : Nat) (p : List Nat) (T : TypeId) (fr m lo : Nat) (cs : List Value), below n (rz c.h n (.win k p T fr m lo)) = true → Rep P c (.win k p T fr m lo) cs → Rep P (trimCx c n) (rz c.h n (.win k p T fr m lo)) cs := by
    intro k p T fr m lo cs hb h
    simp only [rz] at hb ⊢
    split at hb
    · rename_i hkn
      rw [if_pos hkn]
      split at hb
      · rename_i e he
        try simp only [he]
        split at hb
        · rename_i hlv
          rw [if_pos hlv]
          split at hb
          · rename_i ys hg
            try simp only [hg]
            have hvv : ∃ v, cs = [v] ∧ VV P c (.win k p T fr m lo) v := by
              have h' := h
              simp only [Rep] at h'
              obtain ⟨_, _, _, _, _, rfl, _⟩ := h'
              exact ⟨_, rfl, (vv_cell rfl (by simp) (by simp)).2 ⟨rfl, h⟩⟩
            obtain ⟨v, rfl, hv⟩ := hvv
            obtain ⟨hlen, hread⟩ := win_read hP hr hv he (live_of_liveB hlv) hg
            rw [below_list] at hb
            obtain ⟨_, cap0, a0, _, _, rfl, _, hmc, _⟩ := vv_win hv
            simp only [Rep]
            refine ⟨a0, cap0, by rw [hlen], by omega, fun hne => ?_⟩
            have hm0 : m ≠ 0 := by rintro rfl; exact hne (List.eq_nil_of_length_eq_zero hlen)
            obtain ⟨b, off, C, mk, cap, hveq, hkb, hbk, _, _, _, _, hE⟩ := hread hm0
            simp only [Value.slice.injEq] at hveq
            exact ⟨b, off + fr * P.cellsOf T, C, e.T, mk, hveq.1, hbk, O_trim_not hr hkn he (live_of_liveB hlv) hkb, repE_trim _ _ _ hb hE⟩
          · rename_i hg
            try simp only [hg]
            exact rep_trim _ _ hb h
        · rename_i hlv
          rw [if_neg hlv]
          exact rep_trim _ _ hb h
      · rename_i he
        try simp only [he]
        exact rep_trim _ _ hb h
    · rename_i hkn
      rw [if_neg hkn]
      exact rep_trim _ _ hb h
  exact rep_rz_aux hwin
end
end Go.Abs
