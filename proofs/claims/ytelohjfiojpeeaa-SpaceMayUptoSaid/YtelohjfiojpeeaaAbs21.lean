/- Abs21: a part of the proofs about the tuple space (layer 8). -/
import Derived.Test.YtelohjfiojpeeaaAbs20
set_option linter.all false
namespace Go.Abs
open Go
section
variable {P : Program}

mutual
theorem rep_below {c : Cx} : ∀ (a : AV) (cs : List Value), Rep P c a cs → below c.h.length a = true
  | .int .., cs, h => rfl
  | .bool .., cs, h => rfl
  | .str .., cs, h => rfl
  | .agg T vs, cs, h => by
    simp only [Rep] at h
    simp only [below]
    have h2 := h.2
    split at h2
    · exact repF_below _ _ _ h2
    · exact repE_below _ _ _ h2.2
    · exact h2.elim
  | .list T es, cs, h => by
    simp only [Rep] at h
    simp only [below]
    obtain ⟨a, cap, rfl, hc, h⟩ := h
    by_cases he : es = []
    · subst he; rfl
    · obtain ⟨b, off, C, Te, m, ha, hbk, hO, hr⟩ := h he
      exact repE_below _ _ _ hr
  | .win k p T fr m lo, cs, h => by
    simp only [Rep] at h
    obtain ⟨e, _, _, he, _⟩ := h
    simpa only [below, decide_eq_true_eq] using (List.getElem?_eq_some_iff.1 he).1
  | .ref k p T, cs, h => by
    simp only [Rep] at h
    obtain ⟨e, _, _, he, _⟩ := h
    simpa only [below, decide_eq_true_eq] using (List.getElem?_eq_some_iff.1 he).1
  | .eref T v, cs, h => by
    simp only [Rep] at h
    simp only [below]
    obtain ⟨b, off, C, Te, m, rfl, hbk, hO, ht, hr⟩ := h
    exact rep_below _ _ hr
  | .nilptr, cs, h => rfl
  | .fn f caps, cs, h => by
    simp only [Rep] at h
    simp only [below]
    obtain ⟨vs, rfl, hv⟩ := h
    exact repV_below _ _ hv
  | .nilfn, cs, h => rfl
  | .nils, cs, h => rfl
  | .tup _, cs, h => by simp only [Rep] at h
  | .junk, cs, h => by simp only [Rep] at h
theorem repF_below {c : Cx} : ∀ (vs : List AV) (fs : List (TypeId × Nat)) (cs : List Value), RepF P c vs fs cs → belowL c.h.length vs = true
  | [], fs, cs, h => rfl
  | v :: vs, fs, cs, h => by
    simp only [RepF] at h
    obtain ⟨f, r, rfl, h1, h2, h3⟩ := h
    simp only [belowL, rep_below _ _ h2, repF_below _ _ _ h3, Bool.and_self]
theorem repE_below {c : Cx} : ∀ (vs : List AV) (T : TypeId) (cs : List Value), RepE P c vs T cs → belowL c.h.length vs = true
  | [], T, cs, h => rfl
  | v :: vs, T, cs, h => by
    simp only [RepE] at h
    simp only [belowL, rep_below _ _ h.2.1, repE_below _ _ _ h.2.2, Bool.and_self]
theorem repV_below {c : Cx} : ∀ (as : List AV) (vs : List Value), RepV P c as vs → belowL c.h.length as = true
  | [], vs, h => rfl
  | a :: as, vs, h => by
    simp only [RepV] at h
    obtain ⟨v, r, rfl, h1, h2, h3⟩ := h
    simp only [belowL, rep_below _ _ h2, repV_below _ _ h3, Bool.and_self]
end

/-- A function's result without the names that it made itself. -/
theorem FSpec.trim (hP : WF P) {f : FuncId} {args : List AV} {h : List Entry} {K K' : AV → List Entry → Prop} (hs : FSpec P f args h K)
    (hk : ∀ r h', K r h' → (∀ k e, k < h.length → h'[k]? = some e → h[k]? = some e ∨ belowL h.length e.es = true) ∧ plainAV r = true ∧ below h.length (rz h' h.length r) = true ∧ K' (rz h' h.length r) (h'.take h.length)) :
    FSpec P f args h K' := by
  refine ⟨hs.1, fun κ w vs hr hv => (hs.2 κ w vs hr hv).mono ?_⟩
  rintro e w' ⟨v, r, h', κ', rfl, h1, h2, h3, h4⟩
  obtain ⟨g1, g2, g3, g4⟩ := hk r h' h4
  have hcl : ∀ k e, k < h.length → h'[k]? = some e → Live e → e.es.all (below h.length) = true := by
    intro k e hkl he hl
    rw [← belowL_all]
    rcases g1 k e hkl he with hold | hb
    · rcases hr.blk k e hold hl with ⟨_, hnil, _⟩ | ⟨b, C, m, _, _, _, _, _, hE⟩
      · rw [hnil]; rfl
      · exact repE_below (c := ⟨κ, h, w⟩) _ _ _ hE
    · exact hb
  have hr' := hr_trim (n := h.length) h1 hcl
  obtain ⟨p1, p2⟩ := plain_parts h3 g2
  refine ⟨v, rz h' h.length r, h'.take h.length, κ', rfl, hr', ?_, ?_, g4⟩
  · exact ⟨h2.os, h2.tape, h2.output, h2.size, h2.frozen, h2.shape, fun b hb hO => h2.own b hb (O_trim (c := ⟨κ', h', w'⟩) hO), fun k x hx hn => by
      obtain ⟨n1, x', n2, n3, n4, n5⟩ := h2.names k x hx hn
      have hkl := (List.getElem?_eq_some_iff.1 hx).1
      exact ⟨n1, x', by simp only [List.getElem?_take, if_pos hkl]; exact n2, n3, n4, n5⟩⟩
  · exact vv_of_parts (by rw [rz_isAgg]; exact p1) (rep_rz (c := ⟨κ', h', w'⟩) hP h1 r _ g3 p2)

/-- Two results or more. -/
theorem FSpec.trim_tup (hP : WF P) {f : FuncId} {args : List AV} {h : List Entry} {K K' : AV → List Entry → Prop} (hs : FSpec P f args h K)
    (hk : ∀ r h', K r h' → (∀ k e, k < h.length → h'[k]? = some e → h[k]? = some e ∨ belowL h.length e.es = true) ∧ ∃ l, r = .tup l ∧ belowL h.length (rzL h' h.length l) = true ∧ K' (.tup (rzL h' h.length l)) (h'.take h.length)) :
    FSpec P f args h K' := by
  refine ⟨hs.1, fun κ w vs hr hv => (hs.2 κ w vs hr hv).mono ?_⟩
  rintro e w' ⟨v, r, h', κ', rfl, h1, h2, h3, h4⟩
  obtain ⟨g1, l, rfl, g3, g4⟩ := hk r h' h4
  have hcl : ∀ k e, k < h.length → h'[k]? = some e → Live e → e.es.all (below h.length) = true := by
    intro k e hkl he hl
    rw [← belowL_all]
    rcases g1 k e hkl he with hold | hb
    · rcases hr.blk k e hold hl with ⟨_, hnil, _⟩ | ⟨b, C, m, _, _, _, _, _, hE⟩
      · rw [hnil]; rfl
      · exact repE_below (c := ⟨κ, h, w⟩) _ _ _ hE
    · exact hb
  have hr' := hr_trim (n := h.length) h1 hcl
  simp only [VV] at h3
  obtain ⟨vl, rfl, hvl⟩ := h3
  have key : ∀ (l : List AV) (vl : List Value), belowL h.length (rzL h' h.length l) = true → RepV P ⟨κ', h', w'⟩ l vl → RepV P (trimCx ⟨κ', h', w'⟩ h.length) (rzL h' h.length l) vl := by
    intro l
    induction l with
    | nil => intro vl _ h; simpa only [rzL, RepV] using h
    | cons a l ih =>
      intro vl hb h
      simp only [rzL, belowL, Bool.and_eq_true] at hb
      simp only [rzL, RepV] at h ⊢
      obtain ⟨x, r, rfl, q1, q2, q3⟩ := h
      exact ⟨x, r, rfl, by rw [rz_isAgg]; exact q1, rep_rz (c := ⟨κ', h', w'⟩) hP h1 a _ hb.1 q2, ih r hb.2 q3⟩
  refine ⟨_, .tup (rzL h' h.length l), h'.take h.length, κ', rfl, hr', ?_, ?_, g4⟩
  · exact ⟨h2.os, h2.tape, h2.output, h2.size, h2.frozen, h2.shape, fun b hb hO => h2.own b hb (O_trim (c := ⟨κ', h', w'⟩) hO), fun k x hx hn => by
      obtain ⟨n1, x', n2, n3, n4, n5⟩ := h2.names k x hx hn
      have hkl := (List.getElem?_eq_some_iff.1 hx).1
      exact ⟨n1, x', by simp only [List.getElem?_take, if_pos hkl]; exact n2, n3, n4, n5⟩⟩
  · simp only [VV]
    exact ⟨vl, rfl, key l vl g3 hvl⟩

/-- One row that the function made is handed out under the next name. -/
theorem FSpec.keep1 (hP : WF P) {f : FuncId} {args : List AV} {h : List Entry} {K K' : AV → List Entry → Prop} (hs : FSpec P f args h K)
    (hk : ∀ r h', K r h' → h'.take h.length = h ∧ ∃ k T n lo e, r = .win k [] T 0 n lo ∧ h.length ≤ k ∧ h'[k]? = some e ∧ e.st = .own ∧ belowL h.length e.es = true ∧ K' (.win h.length [] T 0 n lo) (h ++ [e])) :
    FSpec P f args h K' := by
  refine ⟨hs.1, fun κ w vs hr hv => (hs.2 κ w vs hr hv).mono ?_⟩
  rintro e w' ⟨v, r, h', κ', rfl, h1, h2, h3, h4⟩
  obtain ⟨g1, k, T, n, lo, e, rfl, hkl, hke, hown, hbe, g4⟩ := hk r h' h4
  have hget : ∀ {j : Nat}, j < h.length → h'[j]? = h[j]? := by
    intro j hj
    have : (h'.take h.length)[j]? = h[j]? := by rw [g1]
    rw [List.getElem?_take, if_pos hj] at this
    exact this
  let κ2 : Nat → Option Nat := fun j => if j = h.length then κ' k else κ' j
  let c1 : Cx := ⟨κ', h', w'⟩
  let c2 : Cx := ⟨κ2, h ++ [e], w'⟩
  have hget2 : ∀ {j : Nat} {x : Entry}, c2.h[j]? = some x → (j < h.length ∧ h'[j]? = some x ∧ κ2 j = κ' j) ∨ (j = h.length ∧ x = e ∧ κ2 j = κ' k) := by
    intro j x hx
    rcases Nat.lt_trichotomy j h.length with hj | hj | hj
    · left
      have : (h ++ [e])[j]? = some x := hx
      rw [List.getElem?_append_left hj] at this
      exact ⟨hj, by rw [hget hj]; exact this, by simp [κ2, Nat.ne_of_lt hj]⟩
    · right
      subst hj
      have : (h ++ [e])[h.length]? = some x := hx
      simp at this
      exact ⟨rfl, this.symm, by simp [κ2]⟩
    · have : (h ++ [e])[j]? = some x := hx
      rw [List.getElem?_eq_none (by simp; omega)] at this
      cases this
  have hO : ∀ {b : Nat}, c2.O b → c1.O b := by
    rintro b ⟨j, x, hx, hst, hj⟩
    rcases hget2 hx with ⟨a1, a2, a3⟩ | ⟨a1, a2, a3⟩
    · exact ⟨j, x, a2, hst, a3.symm.trans hj⟩
    · exact ⟨k, e, hke, hown, a3.symm.trans hj⟩
  have A : Agree c1 c2 h.length := ⟨rfl, fun b h => hO h, fun j hj => by simp [c1, c2, κ2, Nat.ne_of_lt hj], fun j hj => by
    show (h ++ [e])[j]? = h'[j]?
    rw [List.getElem?_append_left hj, hget hj]⟩
  have hclosed : ∀ (j : Nat) (x : Entry), j < h.length → h'[j]? = some x → Live x → x.es.all (below h.length) = true := by
    intro j x hj hx hl
    rw [hget hj] at hx
    rcases hr.blk j x hx hl with ⟨_, hnil, _⟩ | ⟨b, C, m, _, _, _, _, _, hE⟩
    · rw [hnil]; rfl
    · rw [← belowL_all]; exact repE_below (c := ⟨κ, h, w⟩) _ _ _ hE
  have hr2 : HR P c2 := by
    refine ⟨fun j x hx hl => ?_, fun j j' x x' b hx hx' hst hst' hj hj' => ?_⟩
    · rcases hget2 hx with ⟨a1, a2, a3⟩ | ⟨a1, a2, a3⟩
      · rcases h1.blk j x a2 hl with ⟨q1, q2, q3⟩ | ⟨b, C, m, q0, q1, q2, q3, q4, q5⟩
        · exact .inl ⟨q1, q2, (show κ2 j = none from a3.trans q3)⟩
        · exact .inr ⟨b, C, m, (show κ2 j = some b from a3.trans q0), q1, q2, fun hf hO2 => q3 hf (hO hO2), q4, repE_keep A _ _ _ (hclosed j x a1 a2 hl) q5⟩
      · rw [a2]
        rcases h1.blk k e hke (.inl hown) with ⟨q1, q2, q3⟩ | ⟨b, C, m, q0, q1, q2, q3, q4, q5⟩
        · exact .inl ⟨q1, q2, (show κ2 j = none from a3.trans q3)⟩
        · exact .inr ⟨b, C, m, (show κ2 j = some b from a3.trans q0), q1, q2, fun hf => (by rw [hown] at hf; cases hf), q4, repE_keep A _ _ _ (by rw [← belowL_all]; exact hbe) q5⟩
    · rcases hget2 hx with ⟨a1, a2, a3⟩ | ⟨a1, a2, a3⟩ <;> rcases hget2 hx' with ⟨b1, b2, b3⟩ | ⟨b1, b2, b3⟩
      · exact h1.apart j j' x x' b a2 b2 hst hst' (a3.symm.trans hj) (b3.symm.trans hj')
      · have := h1.apart j k x e b a2 hke hst hown (a3.symm.trans hj) (b3.symm.trans hj'); omega
      · have := h1.apart k j' e x' b hke b2 hown hst' (a3.symm.trans hj) (b3.symm.trans hj'); omega
      · omega
  refine ⟨v, .win h.length [] T 0 n lo, h ++ [e], κ2, rfl, hr2, ?_, ?_, g4⟩
  · refine ⟨h2.os, h2.tape, h2.output, h2.size, h2.frozen, h2.shape, fun b hb hO2 => h2.own b hb (hO hO2), fun j x hx hn => ?_⟩
    obtain ⟨n1, x', n2, n3, n4, n5⟩ := h2.names j x hx hn
    have hj := (List.getElem?_eq_some_iff.1 hx).1
    have hj' : j < h.length := hj
    exact ⟨(by simp [κ2, Nat.ne_of_lt hj']; exact n1), x', (by simp only [List.getElem?_append_left hj']; rw [← hget hj']; exact n2), n3, n4, n5⟩
  · obtain ⟨e', cap, a, q1, q2, rfl, q3, q4, q5, q6⟩ := vv_win h3
    rw [hke] at q1
    cases q1
    refine vv_win_mk (e := e) (by simp) q2 q3 q4 q5 fun hc => ?_
    obtain ⟨b, off, C, m, r1, r2⟩ := q6 hc
    exact ⟨b, off, C, m, by simp [κ2]; exact r1, r2⟩

/-! ### From the body's code to the call -/
def AEx.fin : AEx → Bool
  | .normal => true
  | .ret => true
  | _ => false

/-- the slots at the start: the arguments, then slots whose content is not known -/
def env0 : Nat → List AV → List Nat → List (Nat × AV)
  | _, [], ks => ks.map fun k => (k, .junk)
  | i, a :: as, ks => (i, a) :: env0 (i + 1) as ks

theorem lk_keys : ∀ (ks : List Nat) (t : Nat), lk (ks.map fun k => (k, AV.junk)) t = .junk
  | [], t => rfl
  | k :: ks, t => by
    simp only [List.map_cons, lk]
    split
    · rfl
    · exact lk_keys ks t

theorem lk_env0 : ∀ (as : List AV) (i : Nat) (ks : List Nat) (t : Nat), lk (env0 i as ks) t = if i ≤ t then (as[t - i]?).getD .junk else .junk
  | [], i, ks, t => by simp [env0, lk_keys]
  | a :: as, i, ks, t => by
    simp only [env0, lk, lk_env0 as (i + 1) ks t]
    by_cases h1 : i = t
    · subst h1
      simp
    · rw [if_neg h1]
      by_cases h2 : i + 1 ≤ t
      · rw [if_pos h2, if_pos (by omega)]
        rw [show t - i = (t - (i + 1)) + 1 by omega]
        simp
      · rw [if_neg h2, if_neg (by omega)]

theorem env0_er {c : Cx} {as : List AV} {vs : List Value} {ks : List Nat} {n : Nat} (h : RepV P c as vs) : ER P c (env0 0 as ks) (vs.toArray ++ Array.replicate n undef) := by
  intro t
  rw [lk_env0, if_pos (Nat.zero_le _), Nat.sub_zero]
  cases ht : as[t]? with
  | none => simp only [Option.getD_none, VV]
  | some a =>
    obtain ⟨v, hv, h1, h2⟩ := repV_get h ht
    have hlt := (List.getElem?_eq_some_iff.1 hv).1
    have : (vs.toArray ++ Array.replicate n undef).getD t undef = v := by
      rw [Array.getD_eq_getD_getElem?, Array.getElem?_append_left (by simpa using hlt)]
      simp [hv]
    rw [this]
    exact vv_of_parts h1 h2

inductive VVs (P : Program) (c : Cx) : List AV → List Value → Prop
  | nil : VVs P c [] []
  | cons {a as v vs} : VV P c a v → VVs P c as vs → VVs P c (a :: as) (v :: vs)

theorem vvs_rep {c : Cx} {as : List AV} {vs : List Value} (h : VVs P c as vs) (hp : as.all plainAV = true) : RepV P c as vs := by
  induction h with
  | nil => simp only [RepV]
  | cons h _ ih =>
    simp only [List.all_cons, Bool.and_eq_true] at hp
    simp only [RepV]
    obtain ⟨h1, h2⟩ := plain_parts h hp.1
    exact ⟨_, _, rfl, h1, h2, ih hp.2⟩

def resOne (tmps : Array Value) : ResultVar → Sem Value
  | .tmp t => pure (tmps.getD t undef)
  | .cell p t => do loadVar t (← asAddr (tmps.getD p undef))

theorem one_mono {K K' : AV → Prop} (hk : ∀ r, K r → K' r) {l : List AV} (h : one K l) : one K' l := by
  match l, h with
  | [r], h => exact hk _ h
  | [], h => exact ⟨h.1, hk _ h.2⟩
  | _ :: _ :: _, h => exact ⟨h.1, hk _ h.2⟩

theorem ares_mono {env : List (Nat × AV)} {h : List Entry} : ∀ (rs : List ResultVar) {K K' : List AV → Prop}, (∀ l, K l → K' l) → ares P rs env h K → ares P rs env h K'
  | [], K, K', hk, h => hk _ h
  | .tmp t :: rs, K, K', hk, h => by
    simp only [ares] at h ⊢
    exact ares_mono rs (fun l hl => hk _ hl) h
  | .cell p T :: rs, K, K', hk, h => by
    simp only [ares] at h ⊢
    exact Stp.wp_mono (fun r _ hh => ares_mono rs (fun l hl => hk _ hl) hh) h

theorem ares_sound (hP : WF P) {n : Nat} {c : Cx} {env : List (Nat × AV)} {a : Act} (hs : St P n c env a) : ∀ (rs : List ResultVar) (K : List AV → Prop), ares P rs env c.h K →
    ∃ avs vs, VVs P c avs vs ∧ K avs ∧ (rs.mapM (resOne a.tmps)).run P c.w = .ok vs c.w
  | [], K, h => ⟨[], [], .nil, h, by simp⟩
  | .tmp t :: rs, K, h => by
    simp only [ares] at h
    obtain ⟨avs, vs, h1, h2, h3⟩ := ares_sound hP hs rs _ h
    refine ⟨lk env t :: avs, a.tmps.getD t undef :: vs, .cons (hs.er t) h1, h2, ?_⟩
    rw [List.mapM_cons, Sem.run_bind]
    simp only [resOne, Sem.run_pure, Result.andThen_ok, Sem.run_bind, h3]
  | .cell p T :: rs, K, h => by
    simp only [ares] at h
    obtain ⟨r, wr, h1, h2⟩ := Stp.wp_run h
    obtain ⟨rfl, u, h3, h4⟩ := load_sound hP hs.hr (hs.er p) h1
    obtain ⟨avs, vs, h5, h6, h7⟩ := ares_sound hP hs rs _ h2
    refine ⟨r :: avs, u :: vs, .cons h4 h5, h6, ?_⟩
    have haddr : (asAddr (a.tmps.getD p undef)).run P c.w = (Instr.sureAddr (a.tmps.getD p undef)).run P c.w ∧ ∃ x, (Instr.sureAddr (a.tmps.getD p undef)).run P c.w = .ok x c.w ∧ (loadVar T x).run P c.w = .ok u c.w := by
      simp only [Instr.loadAt, Sem.run_bind] at h3
      generalize a.tmps.getD p undef = z at h3 ⊢
      cases z <;> simp only [Instr.sureAddr, run_stuck, Result.andThen_halt, reduceCtorEq] at h3
      rename_i q
      cases q with
      | none => simp at h3
      | some q =>
        simp only [Sem.run_pure, Result.andThen_ok] at h3
        exact ⟨rfl, q, rfl, h3⟩
    obtain ⟨g1, x, g2, g3⟩ := haddr
    rw [List.mapM_cons, Sem.run_bind]
    simp only [resOne, Sem.run_bind, g1, g2, Result.andThen_ok, g3, h7, Sem.run_pure]

theorem results_eq {fn : Func} {tmps : Array Value} {w : World} {vs : List Value} (h : (fn.results.toList.mapM (resOne tmps)).run P w = .ok vs w) :
    (results fn tmps).run P w = .ok (if h : vs.toArray.size = 1 then vs.toArray[0] else .tuple vs.toArray) w := by
  have e : results fn tmps = (do
      let vs ← fn.results.mapM (resOne tmps)
      pure (if h : vs.size = 1 then vs[0] else .tuple vs)) := by
    unfold results
    congr
  rw [e, Sem.run_bind, Array.mapM_eq_mapM_toList, map_eq_pure_bind, Sem.run_bind, h]
  simp only [Result.andThen_ok, Sem.run_pure]

theorem one_sound {c : Cx} {K : AV → Prop} {avs : List AV} {vs : List Value} (h : VVs P c avs vs) (hk : one K avs) : ∃ r, VV P c r (if h : vs.toArray.size = 1 then vs.toArray[0] else .tuple vs.toArray) ∧ K r := by
  cases h with
  | nil =>
    simp only [one] at hk
    exact ⟨.tup [], by simp only [VV]; exact ⟨[], rfl, by simp only [RepV]⟩, hk.2⟩
  | cons h1 h2 =>
    cases h2 with
    | nil => exact ⟨_, by simpa using h1, hk⟩
    | cons h3 h4 =>
      simp only [one] at hk
      refine ⟨_, ?_, hk.2⟩
      have := vvs_rep (.cons h1 (.cons h3 h4)) hk.1
      simp only [VV]
      exact ⟨_, by simp, this⟩

/-- THE RULE OF A FUNCTION: its body's precondition gives the call. -/
theorem fspec_code (hP : WF P) {f : FuncId} {fn : Func} {x : Code} {args : List AV} {h : List Entry} {K : AV → List Entry → Prop} (ks : List Nat) (hf : P.funcs[f]? = some fn) (hb : fn.body = some x) (hc : callable P f = true)
    (hok : codeOK fn.ntmps x = true) (hn : args.length ≤ fn.ntmps) (hw : awp P x (env0 0 args ks) h fun e env' h' => e.fin = true ∧ ares P fn.results.toList env' h' (one fun r => K r h')) : FSpec P f args h K := by
  refine ⟨hc, fun κ w vs hr hv => calls_of_wp hf hb ?_⟩
  have hlen : vs.length = args.length := by
    have : ∀ (as : List AV) (vs : List Value), RepV P ⟨κ, h, w⟩ as vs → vs.length = as.length := by
      intro as
      induction as with
      | nil => intro vs h; simp only [RepV] at h; subst h; rfl
      | cons a as ih => intro vs h; simp only [RepV] at h; obtain ⟨v, r, rfl, _, _, h3⟩ := h; simp [ih r h3]
    exact this _ _ hv
  have hs : St P fn.ntmps ⟨κ, h, w⟩ (env0 0 args ks) { tmps := vs.toArray ++ Array.replicate (fn.ntmps - vs.toArray.size) undef, defers := [] } :=
    ⟨hr, env0_er hv, by simp; omega, rfl⟩
  refine Code.wp_mono ?_ (awp_sound hP x ⟨κ, h, w⟩ _ _ _ hok hs hw)
  rintro e a' w' ⟨ae, env', c', h1, rfl, h3, h4, h5, h6⟩
  obtain ⟨avs, vs', g1, g2, g3⟩ := ares_sound hP h3 _ _ h6
  obtain ⟨r, g4, g5⟩ := one_sound g1 g2
  have hres := results_eq (P := P) (fn := fn) (tmps := a'.tmps) g3
  have : (∃ v, (results fn a'.tmps).run P c'.w = .ok v c'.w ∧ ∃ (v1 : Value) (r : AV) (h' : List Entry) (κ' : Nat → Option Nat), Ending.returned v = .returned v1 ∧ HR P ⟨κ', h', c'.w⟩ ∧ Ext ⟨κ, h, w⟩ ⟨κ', h', c'.w⟩ ∧ VV P ⟨κ', h', c'.w⟩ r v1 ∧ K r h') :=
    ⟨_, hres, _, r, c'.h, c'.κ, rfl, h3.hr, h4, g4, g5⟩
  cases e with
  | normal => exact ⟨h3.defers, this⟩
  | ret => exact ⟨h3.defers, this⟩
  | exit i => cases ae <;> simp only [AEx.is] at h1; simp [AEx.fin] at h5
  | goto l => cases ae <;> simp only [AEx.is] at h1
  | panic ch => cases ae <;> simp only [AEx.is] at h1
  | outgrown => cases ae <;> simp only [AEx.is] at h1

theorem pure_code (hP : WF P) {f : FuncId} {fn : Func} {x : Code} {args : List AV} {R : AV → Prop} (ks : List Nat) (hf : P.funcs[f]? = some fn) (hb : fn.body = some x) (hc : callable P f = true)
    (hok : codeOK fn.ntmps x = true) (hn : args.length ≤ fn.ntmps) (hw : ∀ h, awp P x (env0 0 args ks) h fun e env' h' => e.fin = true ∧ h'.take h.length = h ∧ ares P fn.results.toList env' h' (one fun r => plainAV r = true ∧ below h.length (rz h' h.length r) = true ∧ R (rz h' h.length r))) :
    Pure P f args R := by
  intro h
  have h1 : FSpec P f args h fun r h' => h'.take h.length = h ∧ plainAV r = true ∧ below h.length (rz h' h.length r) = true ∧ R (rz h' h.length r) := by
    refine fspec_code hP ks hf hb hc hok hn ?_
    refine awp_mono x _ _ ?_ (hw h)
    rintro e env' h' ⟨g1, g2, g3⟩
    refine ⟨g1, ares_mono _ ?_ g3⟩
    intro l hl
    exact one_mono (fun r hr => ⟨g2, hr⟩) hl
  refine h1.trim hP ?_
  rintro r h' ⟨g1, g2, g3, g4⟩
  refine ⟨fun k e hk he => .inl ?_, g2, g3, g1, g4⟩
  have : (h'.take h.length)[k]? = h[k]? := by rw [g1]
  rw [List.getElem?_take, if_pos hk, he] at this
  exact this.symm
end
end Go.Abs
