/- Abs17: a part of the proofs about the tuple space (layer 8). -/
import Derived.Test.YtelohjfiojpeeaaAbs16
set_option linter.all false
namespace Go.Abs
open Go
section
variable {P : Program}

def selOf (listed : Array Bool) : Nat → Bool := fun j => listed.getD j false

theorem count_set {listed : Array Bool} {i : Nat} (hi : i < listed.size) (hf : listed.getD i true = false) : (listed.setIfInBounds i true).toList.count false + 1 = listed.toList.count false := by
  have hget : listed[i] = false := by simpa [Array.getD, hi] using hf
  rw [Array.toList_setIfInBounds, List.count_set (by simpa using hi)]
  have hmem : 0 < listed.toList.count false := List.count_pos_iff.2 (by rw [← hget]; simp)
  have e1 : listed.toList[i]'(by simpa using hi) = false := by simpa using hget
  rw [e1]
  simp only [beq_self_eq_true, if_true, Bool.true_beq]
  simp only [Bool.false_eq_true, if_false]
  omega

theorem selOf_set {listed : Array Bool} {i : Nat} (hi : i < listed.size) : selOf (listed.setIfInBounds i true) = with1 (selOf listed) i := by
  funext j
  simp only [selOf, with1, Array.getD_eq_getD_getElem?, Array.getElem?_setIfInBounds]
  by_cases h : i = j
  · subst h; simp [hi]
  · rw [if_neg h, if_neg fun e : j = i => h e.symm]

/-- What a region that draws its order comes to, told by its text's order. -/
theorem draw_core (hP : WF P) {n : Nat} {ops : Array Oper} (hall : ∀ o ∈ ops.toList, dstOK n o = true) (hok : drawOK ops = true) {L : Row} (hL : ∀ (i : Nat) (o : Oper), ops[i]? = some o → ∃ x : Ev1, L[i]? = some (o, x)) (hL2 : ∀ (i : Nat) (o : Oper) (x : Ev1), L[i]? = some (o, x) → ops[i]? = some o)
    {env0 : Env} {h0 : List Entry} {c0 : Cx}
    (htr : ∀ (i : Nat) (o : Oper) (x : Ev1), L[i]? = some (o, x) → ∃ (env : Env) (h : List Entry) (s : Nat), (∀ t, lk env t = fold (fun j => decide (j < i)) (uE L t) 0 (lk env0 t)) ∧ (∀ k : Nat, h[k]? = fold (fun j => decide (j < i)) (uH L k) 0 h0[k]?) ∧ CO P ops.toList env h s o x)
    (hap : ∀ (i j : Nat) (oi oj : Oper) (xi xj : Ev1), L[i]? = some (oi, xi) → L[j]? = some (oj, xj) → j < i → bef ops.toList i j = false → ApartT xj.tch xi.tch)
    {Q : Exit → Act → World → Prop} (hQ : ∀ a' c' env', St P n c' env' a' → Ext c0 c' → (∀ t, lk env' t = fold (fun _ => true) (uE L t) 0 (lk env0 t)) → (∀ k : Nat, c'.h[k]? = fold (fun _ => true) (uH L k) 0 h0[k]?) → Q .normal a' c'.w) :
    ∀ (fuel : Nat) (listed : Array Bool) (a : Act) (c : Cx) (env : Env), listed.size = ops.size → listed.toList.count false ≤ fuel → Down ops.toList (selOf listed) → St P n c env a → Ext c0 c →
      (∀ t, lk env t = fold (selOf listed) (uE L t) 0 (lk env0 t)) → (∀ k : Nat, c.h[k]? = fold (selOf listed) (uH L k) 0 h0[k]?) → wpAny P .any ops Q fuel listed a c.w := by
  have hdone : ∀ (listed : Array Bool) (a : Act) (c : Cx) (env : Env), listed.size = ops.size → Region.ready .any ops listed = [] → St P n c env a → Ext c0 c →
      (∀ t, lk env t = fold (selOf listed) (uE L t) 0 (lk env0 t)) → (∀ k : Nat, c.h[k]? = fold (selOf listed) (uH L k) 0 h0[k]?) → Q .normal a c.w := by
    intro listed a c env hsz hr hs hx hE hH
    have hlisted : ∀ i, i < ops.size → selOf listed i = true := by
      intro i
      induction i using Nat.strongRecOn with
      | _ i ih =>
        intro hi
        have hoi : ops[i]? = some ops[i] := Array.getElem?_eq_getElem hi
        cases hsel : selOf listed i with
        | true => rfl
        | false =>
          exfalso
          have hm : i ∈ Region.ready .any ops listed := by
            refine mem_ready.2 ⟨?_, ops[i], hoi, fun e he hb => ?_⟩
            · simpa [selOf, Array.getD, hsz, hi] using hsel
            · have hp : e.on ∈ predsOf ops[i] := by
                simp only [predsOf, List.mem_map, List.mem_filter]
                exact ⟨e, ⟨by simpa using he, hb⟩, rfl⟩
              have hlt := (drawOK_spec hok hoi).1 _ hp
              exact ih _ hlt (by omega)
          rw [hr] at hm
          cases hm
    have hbound : ∀ {j : Nat} {p : Oper × Ev1}, L[j]? = some p → selOf listed j = true := by
      intro j p hj
      have := hL2 j p.1 p.2 hj
      exact hlisted j (Array.getElem?_eq_some_iff.1 this).1
    refine hQ a c env hs hx (fun t => ?_) (fun k => ?_)
    · rw [hE t]
      refine fold_agree _ _ _ fun j u hj hne => ?_
      obtain ⟨p, hp, rfl⟩ := uE_get hj
      rw [Nat.zero_add, hbound hp] at hne
      exact absurd rfl hne
    · rw [hH k]
      refine fold_agree _ _ _ fun j u hj hne => ?_
      obtain ⟨p, hp, rfl⟩ := uH_get hj
      rw [Nat.zero_add, hbound hp] at hne
      exact absurd rfl hne
  intro fuel
  induction fuel with
  | zero =>
    intro listed a c env hsz hcnt hdown hs hx hE hH
    have hr : Region.ready .any ops listed = [] := by
      cases hr : Region.ready .any ops listed with
      | nil => rfl
      | cons i r =>
        exfalso
        have hm : i ∈ Region.ready .any ops listed := by rw [hr]; simp
        obtain ⟨h1, o, ho, _⟩ := mem_ready.1 hm
        have hlt : i < ops.size := (Array.getElem?_eq_some_iff.1 ho).1
        have := count_set (by omega) h1
        omega
    exact ⟨hr, hdone listed a c env hsz hr hs hx hE hH⟩
  | succ fuel ih =>
    intro listed a c env hsz hcnt hdown hs hx hE hH
    refine ⟨fun hr => hdone listed a c env hsz hr hs hx hE hH, fun i hi => ?_⟩
    obtain ⟨h1, o, ho, hpr⟩ := mem_ready.1 hi
    have hlt : i < ops.size := (Array.getElem?_eq_some_iff.1 ho).1
    have hlt' : i < listed.size := by omega
    have hni : selOf listed i = false := by simpa [selOf, Array.getD, hsz, hlt] using h1
    obtain ⟨x, hxi⟩ := hL i o ho
    have hho : ops.toList[i]? = some o := by simpa using ho
    have hpreds : ∀ q ∈ predsOf o, selOf listed q = true := by
      intro q hq
      simp only [predsOf, List.mem_map, List.mem_filter] at hq
      obtain ⟨e, ⟨he, hb⟩, rfl⟩ := hq
      exact hpr e (by simpa using he) hb
    -- who stands in the way is ordered
    have hbefore : ∀ {j : Nat}, bef ops.toList i j = true → selOf listed j = true := fun hb => (bef_spec hdown hb).2 o hho hpreds
    have hafter : ∀ {j : Nat}, bef ops.toList j i = true → selOf listed j = false := by
      intro j hb
      cases hj : selOf listed j with
      | false => rfl
      | true => rw [(bef_spec hdown hb).1 hj] at hni; cases hni
    obtain ⟨envT, hT, s, hte, hth, hco⟩ := htr i o x hxi
    -- slots
    have slotKey : ∀ {j : Nat} {p : Oper × Ev1} {t : Tmp}, L[j]? = some p → j ≠ i → p.1.dst = some t → (t ∈ o.looksAt ops ∨ o.dst = some t) → selOf listed j = decide (j < i) := by
      intro j p t hj hne hd ht
      have hoj := hL2 j p.1 p.2 hj
      rcases Nat.lt_or_ge j i with hji | hji
      · rw [decide_eq_true hji]
        refine hbefore ?_
        cases hb : bef ops.toList i j with
        | true => rfl
        | false =>
          have hap := Oper.apart_spec ((drawOK_spec hok ho).2 j p.1 hji hoj hb)
          rcases ht with ht | ht
          · exact absurd ht (hap.1 t hd)
          · exact absurd ht (hap.2.1 t hd)
      · have hij : i < j := by omega
        rw [decide_eq_false (by omega)]
        refine hafter ?_
        cases hb : bef ops.toList j i with
        | true => rfl
        | false =>
          have hap := Oper.apart_spec ((drawOK_spec hok hoj).2 i o hij ho hb)
          rcases ht with ht | ht
          · exact absurd ht (hap.2.2 t hd)
          · exact absurd hd (hap.2.1 t ht)
    -- entries
    have clash : ∀ {j : Nat} {p : Oper × Ev1}, L[j]? = some p → j ≠ i → ¬ ApartT p.2.tch x.tch → selOf listed j = decide (j < i) := by
      intro j p hj hne hna
      have hoj := hL2 j p.1 p.2 hj
      rcases Nat.lt_or_ge j i with hji | hji
      · rw [decide_eq_true hji]
        refine hbefore ?_
        cases hb : bef ops.toList i j with
        | true => rfl
        | false => exact absurd (hap i j o p.1 x p.2 hxi hj hji hb) hna
      · have hij : i < j := by omega
        rw [decide_eq_false (by omega)]
        refine hafter ?_
        cases hb : bef ops.toList j i with
        | true => rfl
        | false => exact absurd (hap j i p.1 o p.2 x hj hxi hij hb).symm hna
    have heE : ∀ t ∈ o.looksAt ops, lk env t = lk envT t := by
      intro t ht
      rw [hE t, hte t]
      refine fold_agree _ _ _ fun j u hj hne => ?_
      obtain ⟨p, hp, rfl⟩ := uE_get hj
      rw [Nat.zero_add] at hne
      intro v
      by_cases hji : j = i
      · subst hji; rw [hni] at hne; simp at hne
      · by_cases hd : p.1.dst = some t
        · exact absurd (slotKey hp hji hd (.inl ht)) hne
        · simp [hd]
    have heH : ∀ k, (x.tch.all = true ∨ k ∈ x.rd) → c.h[k]? = hT[k]? := by
      intro k hk
      rw [hH k, hth k]
      refine fold_agree _ _ _ fun j u hj hne => ?_
      obtain ⟨p, hp, rfl⟩ := uH_get hj
      rw [Nat.zero_add] at hne
      by_cases hji : j = i
      · subst hji; rw [hni] at hne; simp at hne
      · have hap2 : ApartT p.2.tch x.tch := by
          by_cases hc : ApartT p.2.tch x.tch
          · exact hc
          · exact absurd (clash hp hji hc) hne
        refine at_id ?_ ?_
        · rcases hk with hk | hk
          · exact (hap2.right hk).2.2
          · cases ha : p.2.tch.all with
            | false => rfl
            | true =>
              have := (hap2.left ha).1
              have hrd : x.tch.rd = x.rd := by simp only [Ev1.tch]; split <;> rfl
              rw [hrd] at this
              rw [this] at hk; cases hk
        · rcases hk with hk | hk
          · rw [(hap2.right hk).2.1]; simp
          · intro hw
            have hrd : x.tch.rd = x.rd := by simp only [Ev1.tch]; split <;> rfl
            exact (hap2.wr k hw).1 (by rw [hrd]; exact hk)
    have hco' : CO P ops.toList env c.h s o x := by
      refine co_local hco heE (fun k hk => heH k (.inr hk)) fun g hg => ?_
      refine List.ext_getElem? fun k => heH k (.inl ?_)
      simp [Ev1.tch, hg]
    refine co_wp hP hall ho hs hco' fun a' c' hs' hx' hh' => ?_
    refine ih (listed.setIfInBounds i true) a' c' _ (by simpa using hsz) ?_ ?_ hs' (hx.trans hx') ?_ ?_
    · have := count_set hlt' h1
      omega
    · intro j oj hoj hj q hq
      rw [selOf_set hlt'] at hj ⊢
      simp only [with1] at hj ⊢
      by_cases hji : j = i
      · subst hji
        rw [hho] at hoj
        cases hoj
        split
        · rfl
        · exact hpreds q hq
      · rw [if_neg hji] at hj
        split
        · rfl
        · exact hdown j oj hoj hj q hq
    · intro t
      rw [selOf_set hlt', lk_putD]
      by_cases hd : o.dst = some t
      · rw [if_pos hd]
        rw [fold_add hni (uE L t) 0 _ (fun v => if o.dst = some t then x.r else v) (Nat.zero_le _) (by simp [uE, hxi]) ?_]
        · rw [if_pos hd]
        · intro j u hj hij hsel v
          obtain ⟨p, hp, rfl⟩ := uE_get hj
          rw [Nat.zero_add] at hij hsel
          by_cases hd2 : p.1.dst = some t
          · have := slotKey hp (by omega) hd2 (.inr hd)
            rw [hsel, decide_eq_false (by omega)] at this
            cases this
          · simp [hd2]
      · rw [if_neg hd, hE t]
        refine (fold_skip _ _ fun u hu v => ?_).symm
        obtain ⟨p, hp, rfl⟩ := uE_get hu
        rw [hxi] at hp
        cases hp
        simp [hd]
    · intro k
      rw [selOf_set hlt', hh', ap_at, hH k]
      by_cases hk : x.tch.all = true ∨ k ∈ x.tch.wr
      · refine (fold_add hni (uH L k) 0 _ (fun v => x.eff.at k v) (Nat.zero_le _) (by simp [uH, hxi]) ?_).symm
        intro j u hj hij hsel
        obtain ⟨p, hp, rfl⟩ := uH_get hj
        rw [Nat.zero_add] at hij hsel
        have hap2 : ApartT p.2.tch x.tch := by
          by_cases hc : ApartT p.2.tch x.tch
          · exact hc
          · have := clash hp (by omega) hc
            rw [hsel, decide_eq_false (by omega)] at this
            cases this
        refine at_id ?_ ?_
        · cases ha : p.2.tch.all with
          | false => rfl
          | true =>
            have hnone := hap2.left ha
            rcases hk with hk | hk
            · rw [hnone.2.2] at hk; cases hk
            · rw [hnone.2.1] at hk; cases hk
        · rcases hk with hk | hk
          · rw [(hap2.right hk).2.1]; simp
          · intro hw
            exact (hap2.wr k hw).2 hk
      · have hk : x.tch.all = false ∧ k ∉ x.tch.wr := by simpa using hk
        rw [at_id hk.1 hk.2]
        refine (fold_skip _ _ fun u hu v => ?_).symm
        obtain ⟨p, hp, rfl⟩ := uH_get hu
        rw [hxi] at hp
        cases hp
        exact at_id hk.1 hk.2 v
end
end Go.Abs
