/- Abs21: a part of the proofs about the tuple space and its bytes. -/
import Derived.Test.YtilfbkhbjkjicaaAbs16
import Derived.RangeFuncRecord
set_option linter.all false
namespace Go.Abs
open Go
section
variable {P : Program}
def qb3 (listed : Array Bool) : Nat → Bool := fun j => listed.getD j false
theorem count_set {listed : Array Bool} {i : Nat} (hi : i < listed.size) (hf : listed.getD i true = false) : (listed.setIfInBounds i true).toList.count false + 1 = listed.toList.count false := by
  have hget : listed[i] = false := by simpa [Array.getD, hi] using hf
  rw [Array.toList_setIfInBounds, List.count_set (by simpa using hi)]
  have hmem : 0 < listed.toList.count false := List.count_pos_iff.2 (by rw [← hget]; simp)
  have e1 : listed.toList[i]'(by simpa using hi) = false := by simpa using hget
  rw [e1]
  simp only [beq_self_eq_true, if_true, Bool.true_beq]
  simp only [Bool.false_eq_true, if_false]
  omega
theorem selOf_set {listed : Array Bool} {i : Nat} (hi : i < listed.size) : qb3 (listed.setIfInBounds i true) = with1 (qb3 listed) i := by
  funext j
  simp only [qb3, with1, Array.getD_eq_getD_getElem?, Array.getElem?_setIfInBounds]
  by_cases h : i = j
  · subst h; simp [hi]
  · rw [if_neg h, if_neg fun e : j = i => h e.symm]
theorem draw_core {ro : Option Nat} (hP : WF P) {B n : Nat} {ops : Array Oper} (hall : ∀ o ∈ ops.toList, dstOK n o = true) (hok : drawOK ops = true) {L : Row} (hL : ∀ (i : Nat) (o : Oper), ops[i]? = some o → ∃ x : Ev1, L[i]? = some (o, x)) (hL2 : ∀ (i : Nat) (o : Oper) (x : Ev1), L[i]? = some (o, x) → ops[i]? = some o)
    {zaz : Env} {h0 : List Entry} {c0 : Cx}
    (htr : ∀ (i : Nat) (o : Oper) (x : Ev1), L[i]? = some (o, x) → ∃ (env : Env) (h : List Entry) (s : Nat), (∀ t, lk env t = ycq (fun j => decide (j < i)) (uE L t) 0 (lk zaz t)) ∧ (∀ k : Nat, h[k]? = ycq (fun j => decide (j < i)) (uH L k) 0 h0[k]?) ∧ CO P ops.toList env h s o x)
    (hap : ∀ (i j : Nat) (oi oj : Oper) (xi xj : Ev1), L[i]? = some (oi, xi) → L[j]? = some (oj, xj) → j < i → bef ops.toList i j = false → ApartT xj.tch xi.tch)
    {Q : Exit → Act → World → Prop} (hQ : ∀ a' c' env', St P B n c' env' a' → Ext c0 c' → (∀ t, lk env' t = ycq (fun _ => true) (uE L t) 0 (lk zaz t)) → (∀ k : Nat, c'.h[k]? = ycq (fun _ => true) (uH L k) 0 h0[k]?) → Q .normal a' c'.w) :
    ∀ (fuel : Nat) (listed : Array Bool) (a : Act) (c : Cx) (env : Env), listed.size = ops.size → listed.toList.count false ≤ fuel → Down ops.toList (qb3 listed) → St P B n c env a → Ext c0 c →
      (∀ t, lk env t = ycq (qb3 listed) (uE L t) 0 (lk zaz t)) → (∀ k : Nat, c.h[k]? = ycq (qb3 listed) (uH L k) 0 h0[k]?) → wpAnyIn (Fr ro) 0 P .any ops Q fuel listed a c.w := by
  have hdone : ∀ (listed : Array Bool) (a : Act) (c : Cx) (env : Env), listed.size = ops.size → Region.ready .any ops listed = [] → St P B n c env a → Ext c0 c →
      (∀ t, lk env t = ycq (qb3 listed) (uE L t) 0 (lk zaz t)) → (∀ k : Nat, c.h[k]? = ycq (qb3 listed) (uH L k) 0 h0[k]?) → Q .normal a c.w := by
    intro listed a c env hsz hr hs hx hE hH
    have hlisted : ∀ i, i < ops.size → qb3 listed i = true := by
      intro i
      induction i using Nat.strongRecOn with
      | _ i ih =>
        intro hi
        have hoi : ops[i]? = some ops[i] := Array.getElem?_eq_getElem hi
        cases hsel : qb3 listed i with
        | true => rfl
        | false =>
          exfalso
          have hm : i ∈ Region.ready .any ops listed := by
            refine mem_ready.2 ⟨?_, ops[i], hoi, fun e he hb => ?_⟩
            · simpa [qb3, Array.getD, hsz, hi] using hsel
            · have hp : e.on ∈ qbx ops[i] := by
                simp only [qbx, List.mem_map, List.mem_filter]
                exact ⟨e, ⟨by simpa using he, hb⟩, rfl⟩
              have hlt := (zde hok hoi).1 _ hp
              exact ih _ hlt (by omega)
          rw [hr] at hm
          cases hm
    have hbound : ∀ {j : Nat} {p : Oper × Ev1}, L[j]? = some p → qb3 listed j = true := by
      intro j p hj
      have := hL2 j p.1 p.2 hj
      exact hlisted j (Array.getElem?_eq_some_iff.1 this).1
    refine hQ a c env hs hx (fun t => ?_) (fun k => ?_)
    · rw [hE t]
      refine qb1 _ _ _ fun j u hj hne => ?_
      obtain ⟨p, hp, rfl⟩ := uE_get hj
      rw [Nat.zero_add, hbound hp] at hne
      exact absurd rfl hne
    · rw [hH k]
      refine qb1 _ _ _ fun j u hj hne => ?_
      obtain ⟨p, hp, rfl⟩ := uH_get hj
      rw [Nat.zero_add, hbound hp] at hne
      exact absurd rfl hne
  intro fuel
  induction fuel with
  | zero =>
    intro listed a c env hsz hcnt hdown hs hx hE hH
    have hr : Region.ready .any ops listed = [] := by
      cases hr : Region.ready .any ops listed with
      | nil => rfl
      | cons i r =>
        exfalso
        have hm : i ∈ Region.ready .any ops listed := by rw [hr]; simp
        obtain ⟨h1, o, ho, _⟩ := mem_ready.1 hm
        have hlt : i < ops.size := (Array.getElem?_eq_some_iff.1 ho).1
        have := count_set (by omega) h1
        omega
    exact ⟨hr, hdone listed a c env hsz hr hs hx hE hH⟩
  | succ fuel ih =>
    intro listed a c env hsz hcnt hdown hs hx hE hH
    refine ⟨fun hr => hdone listed a c env hsz hr hs hx hE hH, fun i hi => ?_⟩
    obtain ⟨h1, o, ho, hpr⟩ := mem_ready.1 hi
    have hlt : i < ops.size := (Array.getElem?_eq_some_iff.1 ho).1
    have hlt' : i < listed.size := by omega
    have hni : qb3 listed i = false := by simpa [qb3, Array.getD, hsz, hlt] using h1
    obtain ⟨x, hxi⟩ := hL i o ho
    have hho : ops.toList[i]? = some o := by simpa using ho
    have hpreds : ∀ q ∈ qbx o, qb3 listed q = true := by
      intro q hq
      simp only [qbx, List.mem_map, List.mem_filter] at hq
      obtain ⟨e, ⟨he, hb⟩, rfl⟩ := hq
      exact hpr e (by simpa using he) hb
    have hbefore : ∀ {j : Nat}, bef ops.toList i j = true → qb3 listed j = true := fun hb => (bef_spec hdown hb).2 o hho hpreds
    have hafter : ∀ {j : Nat}, bef ops.toList j i = true → qb3 listed j = false := by
      intro j hb
      cases hj : qb3 listed j with
      | false => rfl
      | true => rw [(bef_spec hdown hb).1 hj] at hni; cases hni
    obtain ⟨envT, hT, s, hte, hth, hco⟩ := htr i o x hxi
    have slotKey : ∀ {j : Nat} {p : Oper × Ev1} {t : Tmp}, L[j]? = some p → j ≠ i → p.1.dst = some t → (t ∈ o.looksAt ops ∨ o.dst = some t) → qb3 listed j = decide (j < i) := by
      intro j p t hj hne hd ht
      have hoj := hL2 j p.1 p.2 hj
      rcases Nat.lt_or_ge j i with hji | hji
      · rw [decide_eq_true hji]
        refine hbefore ?_
        cases hb : bef ops.toList i j with
        | true => rfl
        | false =>
          have hap := Oper.apart_spec ((zde hok ho).2 j p.1 hji hoj hb)
          rcases ht with ht | ht
          · exact absurd ht (hap.1 t hd)
          · exact absurd ht (hap.2.1 t hd)
      · have hij : i < j := by omega
        rw [decide_eq_false (by omega)]
        refine hafter ?_
        cases hb : bef ops.toList j i with
        | true => rfl
        | false =>
          have hap := Oper.apart_spec ((zde hok hoj).2 i o hij ho hb)
          rcases ht with ht | ht
          · exact absurd ht (hap.2.2 t hd)
          · exact absurd hd (hap.2.1 t ht)
    have clash : ∀ {j : Nat} {p : Oper × Ev1}, L[j]? = some p → j ≠ i → ¬ ApartT p.2.tch x.tch → qb3 listed j = decide (j < i) := by
      intro j p hj hne hna
      have hoj := hL2 j p.1 p.2 hj
      rcases Nat.lt_or_ge j i with hji | hji
      · rw [decide_eq_true hji]
        refine hbefore ?_
        cases hb : bef ops.toList i j with
        | true => rfl
        | false => exact absurd (hap i j o p.1 x p.2 hxi hj hji hb) hna
      · have hij : i < j := by omega
        rw [decide_eq_false (by omega)]
        refine hafter ?_
        cases hb : bef ops.toList j i with
        | true => rfl
        | false => exact absurd (hap j i p.1 o p.2 x hj hxi hij hb).symm hna
    have heE : ∀ t ∈ o.looksAt ops, lk env t = lk envT t := by
      intro t ht
      rw [hE t, hte t]
      refine qb1 _ _ _ fun j u hj hne => ?_
      obtain ⟨p, hp, rfl⟩ := uE_get hj
      rw [Nat.zero_add] at hne
      intro v
      by_cases hji : j = i
      · subst hji; rw [hni] at hne; simp at hne
      · by_cases hd : p.1.dst = some t
        · exact absurd (slotKey hp hji hd (.inl ht)) hne
        · simp [hd]
    have heH : ∀ k, (x.tch.all = true ∨ k ∈ x.rd) → c.h[k]? = hT[k]? := by
      intro k hk
      rw [hH k, hth k]
      refine qb1 _ _ _ fun j u hj hne => ?_
      obtain ⟨p, hp, rfl⟩ := uH_get hj
      rw [Nat.zero_add] at hne
      by_cases hji : j = i
      · subst hji; rw [hni] at hne; simp at hne
      · have hap2 : ApartT p.2.tch x.tch := by
          by_cases hc : ApartT p.2.tch x.tch
          · exact hc
          · exact absurd (clash hp hji hc) hne
        refine at_id ?_ ?_
        · rcases hk with hk | hk
          · exact (hap2.right hk).2.2
          · cases ha : p.2.tch.all with
            | false => rfl
            | true =>
              have := (hap2.left ha).1
              have hrd : x.tch.rd = x.rd := by simp only [Ev1.tch]; split <;> rfl
              rw [hrd] at this
              rw [this] at hk; cases hk
        · rcases hk with hk | hk
          · rw [(hap2.right hk).2.1]; simp
          · intro hw
            have hrd : x.tch.rd = x.rd := by simp only [Ev1.tch]; split <;> rfl
            exact (hap2.wr k hw).1 (by rw [hrd]; exact hk)
    have hco' : CO P ops.toList env c.h s o x := by
      refine co_local hco heE (fun k hk => heH k (.inr hk)) fun g hg => ?_
      refine List.ext_getElem? fun k => heH k (.inl ?_)
      simp [Ev1.tch, hg]
    refine co_wp hP hall ho hs hco' fun a' c' hs' hx' hh' => ?_
    refine ih (listed.setIfInBounds i true) a' c' _ (by simpa using hsz) ?_ ?_ hs' (hx.trans hx') ?_ ?_
    · have := count_set hlt' h1
      omega
    · intro j oj hoj hj q hq
      rw [selOf_set hlt'] at hj ⊢
      simp only [with1] at hj ⊢
      by_cases hji : j = i
      · subst hji
        rw [hho] at hoj
        cases hoj
        split
        · rfl
        · exact hpreds q hq
      · rw [if_neg hji] at hj
        split
        · rfl
        · exact hdown j oj hoj hj q hq
    · intro t
      rw [selOf_set hlt', lk_putD]
      by_cases hd : o.dst = some t
      · rw [if_pos hd]
        rw [fold_add hni (uE L t) 0 _ (fun v => if o.dst = some t then x.r else v) (Nat.zero_le _) (by simp [uE, hxi]) ?_]
        · rw [if_pos hd]
        · intro j u hj hij hsel v
          obtain ⟨p, hp, rfl⟩ := uE_get hj
          rw [Nat.zero_add] at hij hsel
          by_cases hd2 : p.1.dst = some t
          · have := slotKey hp (by omega) hd2 (.inr hd)
            rw [hsel, decide_eq_false (by omega)] at this
            cases this
          · simp [hd2]
      · rw [if_neg hd, hE t]
        refine (fold_skip _ _ fun u hu v => ?_).symm
        obtain ⟨p, hp, rfl⟩ := uE_get hu
        rw [hxi] at hp
        cases hp
        simp [hd]
    · intro k
      rw [selOf_set hlt', hh', ap_at, hH k]
      by_cases hk : x.tch.all = true ∨ k ∈ x.tch.wr
      · refine (fold_add hni (uH L k) 0 _ (fun v => x.eff.at k v) (Nat.zero_le _) (by simp [uH, hxi]) ?_).symm
        intro j u hj hij hsel
        obtain ⟨p, hp, rfl⟩ := uH_get hj
        rw [Nat.zero_add] at hij hsel
        have hap2 : ApartT p.2.tch x.tch := by
          by_cases hc : ApartT p.2.tch x.tch
          · exact hc
          · have := clash hp (by omega) hc
            rw [hsel, decide_eq_false (by omega)] at this
            cases this
        refine at_id ?_ ?_
        · cases ha : p.2.tch.all with
          | false => rfl
          | true =>
            have hnone := hap2.left ha
            rcases hk with hk | hk
            · rw [hnone.2.2] at hk; cases hk
            · rw [hnone.2.1] at hk; cases hk
        · rcases hk with hk | hk
          · rw [(hap2.right hk).2.1]; simp
          · intro hw
            exact (hap2.wr k hw).2 hk
      · have hk : x.tch.all = false ∧ k ∉ x.tch.wr := by simpa using hk
        rw [at_id hk.1 hk.2]
        refine (fold_skip _ _ fun u hu v => ?_).symm
        obtain ⟨p, hp, rfl⟩ := uH_get hu
        rw [hxi] at hp
        cases hp
        exact at_id hk.1 hk.2 v
end
end Go.Abs
set_option linter.all false
namespace Go.Abs
open Go
section
variable {P : Program}
def memB (k : Nat) : List Nat → Bool
  | [] => false
  | j :: r => decide (k = j) || memB k r
def disjB : List Nat → List Nat → Bool
  | [], _ => true
  | k :: r, l => !memB k l && disjB r l
def isE : List Nat → Bool | [] => true | _ => false
def Tc.isNone (a : Tc) : Bool := isE a.rd && (isE a.wr && !a.all)
def apartB (a b : Tc) : Bool := disjB a.wr b.rd && (disjB a.wr b.wr && (disjB a.rd b.wr && ((!a.all || b.isNone) && (!b.all || a.isNone))))
def clear (T : List Tc) (x : Tc) : List Nat → Bool
  | [] => true
  | j :: r => (match T[j]? with | some y => apartB y x | none => false) && clear T x r
theorem memB_iff {k : Nat} : ∀ {l : List Nat}, memB k l = true ↔ k ∈ l
  | [] => by simp [memB]
  | j :: r => by simp [memB, memB_iff (l := r)]
theorem qc3 : ∀ {a b : List Nat}, disjB a b = true → ∀ k ∈ a, k ∉ b
  | [], b, _, k, hk => by cases hk
  | j :: r, b, h, k, hk => by
    simp only [disjB, Bool.and_eq_true, Bool.not_eq_true'] at h
    rcases List.mem_cons.1 hk with rfl | hk
    · intro hb; rw [memB_iff.2 hb] at h; cases h.1
    · exact qc3 h.2 k hk
theorem isE_spec {l : List Nat} (h : isE l = true) : l = [] := by cases l <;> simp_all [isE]
theorem isNone_spec {a : Tc} (h : a.isNone = true) : a.none := by
  simp only [Tc.isNone, Bool.and_eq_true, Bool.not_eq_true'] at h
  exact ⟨isE_spec h.1, isE_spec h.2.1, h.2.2⟩
theorem apartB_spec {a b : Tc} (h : apartB a b = true) : ApartT a b := by
  simp only [apartB, Bool.and_eq_true, Bool.or_eq_true, Bool.not_eq_true'] at h
  obtain ⟨h1, h2, h3, h4, h5⟩ := h
  refine ⟨fun k hk => ⟨qc3 h1 k hk, qc3 h2 k hk⟩, fun k hk => qc3 h3 k hk, fun ha => ?_, fun hb => ?_⟩
  · rcases h4 with h4 | h4
    · rw [h4] at ha; cases ha
    · exact isNone_spec h4
  · rcases h5 with h5 | h5
    · rw [h5] at hb; cases hb
    · exact isNone_spec h5
theorem clear_spec {T : List Tc} {x : Tc} : ∀ {l : List Nat}, clear T x l = true → ∀ j ∈ l, ∃ y, T[j]? = some y ∧ ApartT y x
  | [], _, j, hj => by cases hj
  | i :: r, h, j, hj => by
    simp only [clear, Bool.and_eq_true] at h
    rcases List.mem_cons.1 hj with rfl | hj
    · cases hT : T[j]? with
      | none => rw [hT] at h; simp at h
      | some y => rw [hT] at h; exact ⟨y, rfl, apartB_spec h.1⟩
    · exact clear_spec h.2 j hj
def Stp.wpo (h : List Entry) (K : AV → List (Nat × Entry) → List Nat → Prop) : Stp → List Nat → Prop
  | .fail, _ => False
  | .ret v wr, acc => K v wr acc
  | .rd k f, acc => match h[k]? with
    | some e => Stp.wpo h K (f e) (acc ++ [k])
    | none => False
theorem wpo_out {h : List Entry} {K : AV → List (Nat × Entry) → List Nat → Prop} : ∀ {s : Stp} {rd : List Nat}, s.wpo h K rd → ∃ x, s.out h = some x ∧ K x.1 x.2.1 (rd ++ x.2.2)
  | .fail, rd, hw => by simp only [Stp.wpo] at hw
  | .ret v wr, rd, hw => ⟨_, rfl, by simp only [Stp.wpo] at hw; simpa using hw⟩
  | .rd k f, rd, hw => by
    simp only [Stp.wpo] at hw
    simp only [Stp.out]
    cases he : h[k]? with
    | none => rw [he] at hw; exact hw.elim
    | some e =>
      rw [he] at hw
      obtain ⟨x, h1, h2⟩ := wpo_out (s := f e) hw
      exact ⟨(x.1, x.2.1, k :: x.2.2), by simp only [h1, Option.map_some], by simpa using h2⟩
def isHole (h : List Entry) (s : Nat) : Prop := match h[s]? with
  | some e => e.st = .hole
  | none => False
def dop (P : Program) (env : Env) (h : List Entry) (s : Nat) (o : Op) (K : AV → Eff → List Nat → Prop) : Prop := match o with
  | .pick c x y => match ev env c with
    | .bool t => (t = true → K (ev env x) (.wr []) []) ∧ (t = false → K (ev env y) (.wr []) [])
    | _ => False
  | .call { callee := .value f, args, argTypes } => match ev env f with
    | .fn g caps => argsR P argTypes.toList (evs env args) ∧ (evs env args).all zah = true ∧ isY caps = false ∧
        ((∃ r, zbp P g (wks P argTypes.toList (evs env args) ++ caps) (fun r' => r' = r) ∧ K r (.wr []) []) ∨
         (∃ r h', FSpec P g (wks P argTypes.toList (evs env args) ++ caps) h (fun r' h'' => r' = r ∧ h'' = h') ∧ K r (.all h') []) ∨
         (∃ r rd wr, (∀ h2 : List Entry, (∀ k ∈ rd, h2[k]? = h[k]?) → FSpec P g (wks P argTypes.toList (evs env args) ++ caps) h2 (fun r' h'' => r' = r ∧ h'' = yay h2 wr)) ∧ K r (.wr wr) rd))
    | _ => False
  | o => za8 o = true ∧ (if qa2 o = true then isHole h s ∧ (step P env s o).wpo h (fun v wr rd => K v (.wr wr) rd) [s] else (step P env s o).wpo h (fun v wr rd => K v (.wr wr) rd) [])
theorem dop_comes {env : Env} {h : List Entry} {s : Nat} {o : Op} {K : AV → Eff → List Nat → Prop} (hd : dop P env h s o K) : ∃ x : Ev1, Comes P env h s o x ∧ K x.r x.eff x.rd := by
  unfold dop at hd
  split at hd
  · rename_i c x y
    cases hc : ev env c <;> rw [hc] at hd <;> try exact hd.elim
    rename_i b
    refine ⟨_, .pick hc, ?_⟩
    cases b
    · exact hd.2 rfl
    · exact hd.1 rfl
  · rename_i f args ts
    cases hf : ev env f <;> rw [hf] at hd <;> try exact hd.elim
    rename_i g caps
    obtain ⟨h1, h2, hy, h3⟩ := hd
    rcases h3 with ⟨r, h3, h4⟩ | ⟨r, h', h3, h4⟩ | ⟨r, rd, wr, h3, h4⟩
    · exact ⟨_, .pure hf hy h1 h2 h3, h4⟩
    · exact ⟨_, .call hf hy h1 h2 h3, h4⟩
    · exact ⟨_, .read hf hy h1 h2 h3, h4⟩
  · obtain ⟨h1, h2⟩ := hd
    by_cases hm : qa2 o = true
    · rw [if_pos hm] at h2
      obtain ⟨hh, h2⟩ := h2
      obtain ⟨x, h3, h4⟩ := wpo_out h2
      refine ⟨_, .step h1 h3 (fun _ => ?_), ?_⟩
      · unfold isHole at hh
        split at hh
        · exact ⟨_, ‹_›, hh⟩
        · exact hh.elim
      · simp only [hm, if_true]
        exact h4
    · rw [if_neg hm] at h2
      obtain ⟨x, h3, h4⟩ := wpo_out h2
      refine ⟨_, .step h1 h3 (fun hm' => absurd hm' hm), ?_⟩
      simp only [hm]
      simpa using h4
def mkn (o : Oper) : Nat := if qa2 o.op = true then 1 else 0
def mkc : List Oper → Nat
  | [] => 0
  | o :: r => mkn o + mkc r
def tcOf (eff : Eff) (rd : List Nat) : Tc := match eff with
  | .wr l => ⟨rd, l.map (·.1), false⟩
  | .all _ => ⟨rd, [], true⟩
def dwp (P : Program) (all : List Oper) (base : Nat) : List Oper → List (List Nat) → Nat → Env → List Entry → List Tc → (Env → List Entry → Prop) → Prop
  | [], _, _, env, h, _, K => K env h
  | o :: r, U, m, env, h, T, K =>
    match o.guard with
    | none => dop P env h (base + m) o.op fun v eff rd => clear T (tcOf eff rd) (U.headD []) = true ∧ dwp P all base r U.tail (m + mkn o) (ybf env o.dst v) (eff.ap h) (T ++ [tcOf eff rd]) K
    | some g => match qb5 all g.1 with
      | none => False
      | some t => match lk env t with
        | .bool b => (b = g.2 → dop P (put env t (.bool g.2)) h (base + m) o.op fun v eff rd => clear T (tcOf eff rd) (U.headD []) = true ∧ dwp P all base r U.tail (m + mkn o) (ybf (put env t (.bool g.2)) o.dst v) (eff.ap h) (T ++ [tcOf eff rd]) K) ∧
            (b = !g.2 → dwp P all base r U.tail (m + mkn o) (ybf (put env t (.bool (!g.2))) o.dst (.tup [])) h (T ++ [⟨[], [], false⟩]) K)
        | .tup [] => dwp P all base r U.tail (m + mkn o) (ybf env o.dst (.tup [])) h (T ++ [⟨[], [], false⟩]) K
        | _ => False
def Stp.flat : Stp → Prop
  | .fail => True
  | .ret _ wr => wr = []
  | .rd _ _ => False
theorem flat_out {h : List Entry} {s : Stp} {x : AV × List (Nat × Entry) × List Nat} (hf : s.flat) (hx : s.out h = some x) : x.2 = ([], []) := by
  cases s <;> simp only [Stp.flat, Stp.out, reduceCtorEq, Option.some.injEq] at hf hx
  subst hx; subst hf; rfl
theorem flat_ite {c : Prop} [Decidable c] {a b : Stp} (h1 : a.flat) (h2 : b.flat) : (if c then a else b).flat := by split <;> assumption
theorem flat_stFieldAddr {T i x} : (ybe P T i x).flat := by
  unfold ybe; repeat' split
  all_goals simp [Stp.flat]
theorem flat_stField {T i x} : (qcs P T i x).flat := by
  unfold qcs; repeat' split
  all_goals simp [Stp.flat]
theorem flat_stIndexAddr {T x i} : (ya3 P T x i).flat := by
  unfold ya3; repeat' split
  all_goals simp [Stp.flat]
theorem flat_stIndex {T x i} : (ycs P T x i).flat := by
  unfold ycs; repeat' split
  all_goals simp [Stp.flat]
theorem flat_intBin {op k a b} : (intBin op k a b).flat := by
  unfold intBin; repeat' split
  all_goals simp [Stp.flat]
theorem flat_stBin {op T x y} : (stBin P op T x y).flat := by
  unfold stBin; repeat' split
  all_goals first | exact flat_intBin | simp [Stp.flat]
theorem flat_stUn {op x} : (stUn op x).flat := by
  unfold stUn; repeat' split
  all_goals simp [Stp.flat]
theorem hk_conv {S T : TypeId} {x : Operand} : hk (.convert S T x) = if qa5 x = true then 2 else 1 := rfl
theorem conv_out {h : List Entry} {S T : TypeId} {v : AV} {x : AV × List (Nat × Entry) × List Nat} (hx : (qbk P S T v).out h = some x) : x.2.1 = [] := by
  cases v <;> simp only [qbk, stConvB] at hx <;> (repeat' split at hx) <;> simp only [Stp.out, reduceCtorEq, Option.some.injEq] at hx <;> first
    | (subst hx; rfl)
    | (split at hx
       · simp only [Option.map_eq_some_iff] at hx
         obtain ⟨y, hy, rfl⟩ := hx
         (repeat' split at hy) <;> simp only [Stp.out, reduceCtorEq, Option.some.injEq] at hy
         subst hy; rfl
       · cases hx)
theorem flat_stLen {T x} : (zcp P T x).flat := by
  unfold zcp; repeat' split
  all_goals simp [Stp.flat]
theorem flat_stMin {op x y} : (stMin op x y).flat := by
  unfold stMin; repeat' split
  all_goals simp [Stp.flat]
theorem flat_stBuild {T ps} : (zct P T ps).flat := by
  unfold zct; repeat' split
  all_goals simp [Stp.flat]
theorem flat_stNilCheck {x} : (ybn x).flat := by
  unfold ybn; repeat' split
  all_goals simp [Stp.flat]
theorem flat_stExtract {i x} : (ybv i x).flat := by
  unfold ybv; repeat' split
  all_goals simp [Stp.flat]
theorem hk_flat {env : Env} {s : Nat} {o : Op} (h0 : hk o = 0) : (step P env s o).flat ∧ qa2 o = false := by
  cases o <;> (try (rw [hk_conv] at h0; split at h0 <;> cases h0)) <;> simp [hk] at h0 <;> simp only [step, qa2, and_true]
  case call c =>
    obtain ⟨callee, args, ts⟩ := c
    cases callee <;> try (simp [hk] at h0; done)
    rename_i b
    cases b <;> (try (simp [hk] at h0; done)) <;> simp only [step, qa2, and_true, qa3] <;> (repeat' split) <;> first | exact flat_stLen | exact flat_stMin | (simp_all [Stp.flat]) 
  case makeFunc f a b =>
    cases f <;> simp only [step] <;> (repeat' split) <;> simp [Stp.flat]
  all_goals first
    | exact flat_stBuild | exact flat_stNilCheck | exact flat_stBin | exact flat_stUn | exact flat_stIndexAddr | exact flat_stIndex | exact flat_stExtract
    | exact flat_ite flat_stFieldAddr trivial | exact flat_ite flat_stField trivial | (simp [Stp.flat]; done) | (repeat' split) <;> simp [Stp.flat]
theorem load_out {h : List Entry} {T : TypeId} {v : AV} {x : AV × List (Nat × Entry) × List Nat} (hx : (qcd T v).out h = some x) : x.2.1 = [] := by
  unfold qcd at hx
  split at hx
  · split at hx
    · simp only [Stp.out] at hx
      split at hx
      · simp only [Option.map_eq_some_iff] at hx
        obtain ⟨y, hy, rfl⟩ := hx
        split at hy
        · split at hy
          · simp only [Stp.out, Option.some.injEq] at hy; subst hy; rfl
          · simp [Stp.out] at hy
        · simp [Stp.out] at hy
      · cases hx
    · simp [Stp.out] at hx
  · split at hx
    · simp only [Stp.out, Option.some.injEq] at hx; subst hx; rfl
    · simp [Stp.out] at hx
  · simp [Stp.out] at hx
theorem co_hk0 {all : List Oper} {env : Env} {h : List Entry} {s : Nat} {o : Oper} {x : Ev1} (hx : CO P all env h s o x) (h0 : hk o.op = 0) : x.tch.none := by
  rcases hx with ⟨_, hx⟩ | ⟨_, rfl⟩
  · generalize hop : o.op = op at hx h0
    cases hx with
    | step h1 h2 h3 =>
      obtain ⟨h4, h5⟩ := hk_flat (P := P) (env := env) (s := s) h0
      have := flat_out h4 h2
      simp only [h5, Ev1.tch, Tc.none, this]
      simp
    | pick hc => simp [Ev1.tch, Tc.none]
    | pure => simp [hk] at h0
    | call => simp [hk] at h0
    | read => simp [hk] at h0
  · simp [Ev1.tch, Tc.none]
theorem co_hk1 {all : List Oper} {env : Env} {h : List Entry} {s : Nat} {o : Oper} {x : Ev1} (hx : CO P all env h s o x) (h0 : hk o.op = 1) : x.tch.wr = [] ∧ x.tch.all = false := by
  rcases hx with ⟨_, hx⟩ | ⟨_, rfl⟩
  · generalize hop : o.op = op at hx h0
    cases hx with
    | step h1 h2 h3 =>
      have : (∃ T y, op = .load T y) ∨ ∃ S T y, op = .convert S T y ∧ qa5 y = false := by
        cases op <;> simp [hk] at h0
        case convert S T y => exact .inr ⟨S, T, y, rfl, h0⟩
        case load T y => exact .inl ⟨T, y, rfl⟩
        case call c =>
          obtain ⟨callee, args, ts⟩ := c
          cases callee <;> try (simp [hk] at h0; done)
          rename_i b
          cases b <;> simp [hk] at h0
      rcases this with ⟨T, y, rfl⟩ | ⟨S, T, y, rfl, hy⟩
      · simp only [step] at h2
        have := load_out h2
        simp [Ev1.tch, this]
      · simp only [step, hy, Bool.false_eq_true, if_false] at h2
        have := conv_out h2
        simp [Ev1.tch, this]
    | pick hc => simp [Ev1.tch]
    | pure => simp [hk] at h0
    | call => simp [hk] at h0
    | read => simp [hk] at h0
  · simp [Ev1.tch]
theorem none_apart {a b : Tc} (h : a.none) : ApartT a b := by
  obtain ⟨h1, h2, h3⟩ := h
  refine ⟨fun k hk => ?_, fun k hk => ?_, fun hh => ?_, fun hh => ⟨h1, h2, h3⟩⟩
  · rw [h2] at hk; cases hk
  · rw [h1] at hk; cases hk
  · rw [h3] at hh; cases hh
theorem tcOf_tch (x : Ev1) : tcOf x.eff x.rd = x.tch := by
  obtain ⟨r, eff, rd⟩ := x
  cases eff <;> rfl
theorem fold_all {V : Type} {sel : Nat → Bool} : ∀ (us : List (V → V)) (k : Nat) (v : V), (∀ j, k ≤ j → j < k + us.length → sel j = true) → ycq sel us k v = ycq (fun _ => true) us k v
  | [], k, v, _ => rfl
  | u :: us, k, v, h => by
    simp only [ycq, if_true]
    rw [h k (Nat.le_refl _) (by simp), if_pos rfl]
    exact fold_all us (k + 1) _ fun j h1 h2 => h j (by omega) (by simp only [List.length_cons]; omega)
theorem fold_pre {V : Type} (us ws : List (V → V)) (v : V) : ycq (fun j => decide (j < us.length)) (us ++ ws) 0 v = ycq (fun _ => true) us 0 v := by
  rw [zcl, zdv ws]
  · exact fold_all us 0 v fun j _ h => by simpa using h
  · intro j u _ h
    simp at h
    omega
structure Upto (ops : Array Oper) (L0 : Row) (zaz : Env) (h0 : List Entry) (env : Env) (h : List Entry) : Prop where
  env : ∀ t, lk env t = ycq (fun _ => true) (uE L0 t) 0 (lk zaz t)
  h : ∀ k : Nat, h[k]? = ycq (fun _ => true) (uH L0 k) 0 h0[k]?
theorem Upto.step {ops : Array Oper} {L0 : Row} {zaz env env1 : Env} {h0 h : List Entry} (u : Upto ops L0 zaz h0 env h) (o : Oper) (x : Ev1) (he : ∀ t, lk env1 t = lk env t) :
    Upto ops (L0 ++ [(o, x)]) zaz h0 (ybf env1 o.dst x.r) (x.eff.ap h) := by
  refine ⟨fun t => ?_, fun k => ?_⟩
  · rw [lk_putD, he t, u.env t]
    simp only [uE, List.map_append, List.map_cons, List.map_nil, zcl, ycq, if_true]
  · rw [ap_at, u.h k]
    simp only [uH, List.map_append, List.map_cons, List.map_nil, zcl, ycq, if_true]
def TraceOK (P : Program) (ops : Array Oper) (zaz : Env) (h0 : List Entry) (K : Env → List Entry → Prop) (L0 : Row) (l : List Oper) : Prop :=
      ∃ L1 : Row, L1.map (·.1) = l ∧
        (∀ (i : Nat) (o : Oper) (x : Ev1), (L0 ++ L1)[i]? = some (o, x) → L0.length ≤ i → ∃ (env : Env) (h : List Entry) (s : Nat), (∀ t, lk env t = ycq (fun j => decide (j < i)) (uE (L0 ++ L1) t) 0 (lk zaz t)) ∧ (∀ k : Nat, h[k]? = ycq (fun j => decide (j < i)) (uH (L0 ++ L1) k) 0 h0[k]?) ∧ CO P ops.toList env h s o x) ∧
        (∀ (i j : Nat) (oi oj : Oper) (xi xj : Ev1), (L0 ++ L1)[i]? = some (oi, xi) → (L0 ++ L1)[j]? = some (oj, xj) → L0.length ≤ i → j < i → bef ops.toList i j = false → ApartT xj.tch xi.tch) ∧
        ∃ env' h', Upto ops (L0 ++ L1) zaz h0 env' h' ∧ K env' h'
theorem dwp_trace {ops : Array Oper} {base : Nat} {zaz : Env} {h0 : List Entry} {K : Env → List Entry → Prop} :
    ∀ (l : List Oper) (L0 : Row) (U : List (List Nat)) (m : Nat) (env : Env) (h : List Entry), ops.toList = L0.map (·.1) ++ l → (∀ i o, l[i]? = some o → U[i]? = some (zdg ops.toList (ancs ops.toList []) (L0.length + i) o)) →
      Upto ops L0 zaz h0 env h → (∀ (i : Nat) (o : Oper) (x : Ev1), L0[i]? = some (o, x) → hk o.op = 0 → x.tch.none) → (∀ (i : Nat) (o : Oper) (x : Ev1), L0[i]? = some (o, x) → hk o.op = 1 → x.tch.wr = [] ∧ x.tch.all = false) →
      dwp P ops.toList base l U m env h (L0.map fun p => p.2.tch) K →
      TraceOK P ops zaz h0 K L0 l
  | [], L0, U, m, env, h, hops, hU, hup, hk0, hk1, hw => by
    refine ⟨[], rfl, fun i o x hi hge => ?_, fun i j oi oj xi xj hi _ hge => ?_, env, h, by simpa using hup, by simpa only [dwp] using hw⟩
    · simp only [List.append_nil] at hi
      have := (List.getElem?_eq_some_iff.1 hi).1
      omega
    · simp only [List.append_nil] at hi
      have := (List.getElem?_eq_some_iff.1 hi).1
      omega
  | o :: r, L0, U, m, env, h, hops, hU, hup, hk0, hk1, hw => by
    obtain ⟨U0, Us, rfl, hU0⟩ : ∃ U0 Us, U = U0 :: Us ∧ U0 = zdg ops.toList (ancs ops.toList []) L0.length o := by
      have := hU 0 o (by simp)
      cases U with
      | nil => simp at this
      | cons U0 Us => exact ⟨U0, Us, rfl, by simpa using this⟩
    have go : ∀ (x : Ev1) (env1 : Env), (∀ t, lk env1 t = lk env t) → CO P ops.toList env1 h (base + m) o x → clear (L0.map fun p => p.2.tch) x.tch U0 = true →
        dwp P ops.toList base r Us (m + mkn o) (ybf env1 o.dst x.r) (x.eff.ap h) ((L0.map fun p => p.2.tch) ++ [x.tch]) K →
        TraceOK P ops zaz h0 K L0 (o :: r) := by
      intro x env1 he hco hcl hrest
      have hx0 : hk o.op = 0 → x.tch.none := co_hk0 hco
      have hx1 : hk o.op = 1 → x.tch.wr = [] ∧ x.tch.all = false := co_hk1 hco
      obtain ⟨L1, g1, g2, g3, env', h', g4, g5⟩ := dwp_trace r (L0 ++ [(o, x)]) Us (m + mkn o) _ _ (by simp [hops]) (fun i o' hi => by
          have := hU (i + 1) o' (by simpa using hi)
          simpa [Nat.add_assoc, Nat.add_comm 1 i] using this) (hup.step o x he)
        (fun i o' x' hi h0 => by
          rw [List.getElem?_append] at hi
          split at hi
          · exact hk0 i o' x' hi h0
          · have : i - L0.length = 0 := by
              have := (List.getElem?_eq_some_iff.1 hi).1
              simp at this; omega
            rw [this] at hi
            simp only [List.getElem?_cons_zero, Option.some.injEq, Prod.mk.injEq] at hi
            obtain ⟨rfl, rfl⟩ := hi
            exact hx0 h0)
        (fun i o' x' hi h0 => by
          rw [List.getElem?_append] at hi
          split at hi
          · exact hk1 i o' x' hi h0
          · have : i - L0.length = 0 := by
              have := (List.getElem?_eq_some_iff.1 hi).1
              simp at this; omega
            rw [this] at hi
            simp only [List.getElem?_cons_zero, Option.some.injEq, Prod.mk.injEq] at hi
            obtain ⟨rfl, rfl⟩ := hi
            exact hx1 h0)
        (by simpa using hrest)
      refine ⟨(o, x) :: L1, by simp [g1], fun i o' x' hi hge => ?_, fun i j oi oj xi xj hi hj hge hji hb => ?_, env', h', by simpa using g4, g5⟩
      · by_cases hil : i = L0.length
        · subst hil
          have : o' = o ∧ x' = x := by simpa [eq_comm] using hi
          obtain ⟨rfl, rfl⟩ := this
          refine ⟨env1, h, base + m, fun t => ?_, fun k => ?_, hco⟩
          · rw [he t, hup.env t]
            have := fold_pre (uE L0 t) (uE ((o', x') :: L1) t) (lk zaz t)
            simp only [uE, List.length_map, List.map_append] at this ⊢
            exact this.symm
          · rw [hup.h k]
            have := fold_pre (uH L0 k) (uH ((o', x') :: L1) k) h0[k]?
            simp only [uH, List.length_map, List.map_append] at this ⊢
            exact this.symm
        · have := g2 i o' x' (by simpa using hi) (by simp; omega)
          simpa using this
      · by_cases hil : i = L0.length
        · subst hil
          have : oi = o ∧ xi = x := by simpa [eq_comm] using hi
          obtain ⟨rfl, rfl⟩ := this
          have hj0 : L0[j]? = some (oj, xj) := by rwa [List.getElem?_append_left hji] at hj
          have hoj : ops.toList[j]? = some oj := by
            rw [hops, List.getElem?_append_left (by simpa using hji)]
            simp [hj0]
          by_cases hjU : j ∈ U0
          · obtain ⟨y, h1, h2⟩ := clear_spec hcl j hjU
            simp only [List.getElem?_map, hj0, Option.map_some, Option.some.injEq] at h1
            rw [← h1] at h2
            exact h2
          · rw [hU0] at hjU
            simp only [zdg, List.mem_filter, List.mem_range, not_and, hji, true_implies, hoj, Bool.and_eq_true, Bool.not_eq_true', bne_iff_ne, ne_eq, beq_iff_eq] at hjU
            have hb' : ((ancs ops.toList []).getD L0.length 0).testBit j = false := hb
            have hcase : hk oj.op = 0 ∨ hk oi.op = 0 ∨ (hk oj.op = 1 ∧ hk oi.op = 1) := by
              by_cases c1 : hk oj.op = 0
              · exact .inl c1
              · by_cases c2 : hk oi.op = 0
                · exact .inr (.inl c2)
                · by_cases c3 : hk oj.op = 1 ∧ hk oi.op = 1
                  · exact .inr (.inr c3)
                  · exfalso
                    have h9 := hjU hb'
                    simp [c1, c2] at h9
                    exact c3 h9
            rcases hcase with c | c | ⟨c1, c2⟩
            · exact none_apart (hk0 j oj xj hj0 c)
            · exact (none_apart (hx0 c)).symm
            · obtain ⟨a1, a2⟩ := hk1 j oj xj hj0 c1
              obtain ⟨b1, b2⟩ := hx1 c2
              refine ⟨fun k hk => ?_, fun k hk => ?_, fun hh => ?_, fun hh => ?_⟩
              · rw [a1] at hk; cases hk
              · rw [b1]; simp
              · rw [a2] at hh; cases hh
              · rw [b2] at hh; cases hh
        · exact g3 i j oi oj xi xj (by simpa using hi) (by simpa using hj) (by simp; omega) hji hb
    simp only [dwp, List.headD_cons, List.tail_cons] at hw
    have hpl : ∀ (env1 : Env), (∀ t, lk env1 t = lk env t) → gv ops.toList env1 o = some true →
        dop P env1 h (base + m) o.op (fun v eff rd => clear (L0.map fun p => p.2.tch) (tcOf eff rd) U0 = true ∧ dwp P ops.toList base r Us (m + mkn o) (ybf env1 o.dst v) (eff.ap h) ((L0.map fun p => p.2.tch) ++ [tcOf eff rd]) K) → TraceOK P ops zaz h0 K L0 (o :: r) := fun env1 he hg hd => by
      obtain ⟨x, h1, h2, h3⟩ := dop_comes hd
      rw [tcOf_tch] at h2 h3
      exact go x env1 he (.inl ⟨hg, h1⟩) h2 h3
    have hsk : ∀ (env1 : Env), (∀ t, lk env1 t = lk env t) → gv ops.toList env1 o = some false →
        dwp P ops.toList base r Us (m + mkn o) (ybf env1 o.dst (.tup [])) h ((L0.map fun p => p.2.tch) ++ [⟨[], [], false⟩]) K → TraceOK P ops zaz h0 K L0 (o :: r) := fun env1 he hg hd => by
      refine go ⟨.tup [], .wr [], []⟩ env1 he (.inr ⟨hg, rfl⟩) ?_ hd
      have : ∀ (T : List Tc) (l : List Nat), (∀ j ∈ l, j < T.length) → clear T (Ev1.tch ⟨.tup [], .wr [], []⟩) l = true := by
        intro T l
        induction l with
        | nil => intro _; rfl
        | cons j l ih =>
          intro hlt
          simp only [clear, Bool.and_eq_true]
          refine ⟨?_, ih fun j hj => hlt j (by simp [hj])⟩
          have := hlt j (by simp)
          rw [List.getElem?_eq_getElem this]
          have hd2 : ∀ (l : List Nat), disjB l [] = true := by
            intro l
            induction l with
            | nil => rfl
            | cons a l ih => simp [disjB, memB, ih]
          simp [apartB, Ev1.tch, hd2, Tc.isNone, isE]
      refine this _ _ fun j hj => ?_
      rw [hU0] at hj
      simp only [zdg, List.mem_filter, List.mem_range] at hj
      simpa using hj.1
    cases hg : o.guard with
    | none =>
      simp only [hg] at hw
      exact hpl env (fun _ => rfl) (by simp [gv, hg]) hw
    | some g =>
      obtain ⟨j, w⟩ := g
      simp only [hg] at hw
      cases ht : qb5 ops.toList j with
      | none => simp [ht] at hw
      | some t =>
        simp only [ht] at hw
        cases hb : lk env t <;> rw [hb] at hw <;> try exact hw.elim
        · rename_i b
          have hsame : ∀ (b' : Bool), b = b' → ∀ s, lk (put env t (.bool b')) s = lk env s := by
            intro b' hbb s
            rw [lk_put]
            split
            · rename_i hs; rw [hs, hb, hbb]
            · rfl
          by_cases hbw : b = w
          · refine hpl _ (hsame w hbw) ?_ (hw.1 hbw)
            simp [gv, hg, ht, lk_put]
          · have hbn : b = !w := by cases b <;> cases w <;> simp_all
            refine hsk _ (hsame _ hbn) ?_ (hw.2 hbn)
            simp [gv, hg, ht, lk_put]
        · rename_i vs
          cases vs with
          | cons _ _ => exact hw.elim
          | nil => exact hsk env (fun _ => rfl) (by simp [gv, hg, ht, hb]) hw
theorem dop_mono {env : Env} {h : List Entry} {s : Nat} {o : Op} {K K' : AV → Eff → List Nat → Prop} (hk : ∀ v e rd, K v e rd → K' v e rd) (hd : dop P env h s o K) : dop P env h s o K' := by
  have hwpo : ∀ (st : Stp) (acc : List Nat), st.wpo h (fun v wr rd => K v (.wr wr) rd) acc → st.wpo h (fun v wr rd => K' v (.wr wr) rd) acc := by
    intro st
    induction st with
    | fail => intro acc hw; exact hw
    | ret v wr => intro acc hw; exact hk _ _ _ hw
    | rd k f ih =>
      intro acc hw
      simp only [Stp.wpo] at hw ⊢
      cases he : h[k]? with
      | none => rw [he] at hw; exact hw
      | some e => rw [he] at hw; exact ih e _ hw
  unfold dop at hd ⊢
  split at hd
  · split at hd
    · exact ⟨fun h => hk _ _ _ (hd.1 h), fun h => hk _ _ _ (hd.2 h)⟩
    · exact hd
  · split at hd
    · obtain ⟨h1, h2, hy, h3⟩ := hd
      refine ⟨h1, h2, hy, ?_⟩
      rcases h3 with ⟨r, h3, h4⟩ | ⟨r, h', h3, h4⟩ | ⟨r, rd, wr, h3, h4⟩
      · exact .inl ⟨r, h3, hk _ _ _ h4⟩
      · exact .inr (.inl ⟨r, h', h3, hk _ _ _ h4⟩)
      · exact .inr (.inr ⟨r, rd, wr, h3, hk _ _ _ h4⟩)
    · exact hd
  · refine ⟨hd.1, ?_⟩
    by_cases hm : qa2 o = true
    · have h2 := hd.2
      rw [if_pos hm] at h2 ⊢
      exact ⟨h2.1, hwpo _ _ h2.2⟩
    · have h2 := hd.2
      rw [if_neg hm] at h2 ⊢
      exact hwpo _ _ h2
theorem yc3 {all : List Oper} {base : Nat} {K K' : Env → List Entry → Prop} (hk : ∀ e h, K e h → K' e h) : ∀ (l : List Oper) (U : List (List Nat)) (m : Nat) (env : Env) (h : List Entry) (T : List Tc), dwp P all base l U m env h T K → dwp P all base l U m env h T K'
  | [], U, m, env, h, T, hw => hk _ _ hw
  | o :: r, U, m, env, h, T, hw => by
    simp only [dwp] at hw ⊢
    split at hw
    · exact dop_mono (fun v e rd hh => ⟨hh.1, yc3 hk r _ _ _ _ _ hh.2⟩) hw
    · split at hw
      · exact hw
      · split at hw
        · exact ⟨fun hb => dop_mono (fun v e rd hh => ⟨hh.1, yc3 hk r _ _ _ _ _ hh.2⟩) (hw.1 hb), fun hb => yc3 hk r _ _ _ _ _ (hw.2 hb)⟩
        · exact yc3 hk r _ _ _ _ _ hw
        · exact hw
def adraw (P : Program) (ops : List Oper) (env : Env) (h : List Entry) (K : Env → List Entry → Prop) : Prop :=
  P.follows .mixedOrders = true ∧ drawOK ops.toArray = true ∧ dwp P ops h.length ops (unords ops) 0 env (h ++ zdc (mkc ops)) [] K
theorem adraw_mono {ops : List Oper} {K K' : Env → List Entry → Prop} (hk : ∀ r h', K r h' → K' r h') {env : Env} {h : List Entry} (hw : adraw P ops env h K) : adraw P ops env h K' :=
  ⟨hw.1, hw.2.1, yc3 hk _ _ _ _ _ _ hw.2.2⟩
theorem adraw_sound {ro : Option Nat} (hP : WF P) {B n id : Nat} {ops : Array Oper} (hall : ∀ o ∈ ops.toList, dstOK n o = true) {Q : Exit → Act → World → Prop} {K : Env → List Entry → Prop} {c : Cx} {env : Env} {a : Act} (hs : St P B n c env a)
    (hw : adraw P ops.toList env c.h K) (hq : ∀ a' c' env', St P B n c' env' a' → Ext c c' → K env' c'.h → Q .normal a' c'.w) : (Code.region id ops true).wpIn (Fr ro) 0 P Q a c.w := by
  obtain ⟨hm, hok, hd⟩ := hw
  have x1 := ext_drew (c := c) 1
  have hr1 := hr_drew hs.hr 1
  have x2 := ext_holes (c := { c with w := drewN c.w 1 }) (mkc ops.toList)
  have hr2 := hr_holes hr1 (mkc ops.toList)
  have hx := x1.trans x2
  have hs2 := hs.mono hx hr2
  obtain ⟨L, g1, g2, g3, envF, hF, g4, g5⟩ := dwp_trace (P := P) (ops := ops) (base := c.h.length) (zaz := env) (h0 := c.h ++ zdc (mkc ops.toList)) (K := K) ops.toList [] (unords ops.toList) 0 env (c.h ++ zdc (mkc ops.toList)) (by simp)
    (fun i o hi => by simp [unords, List.getElem?_zipIdx, hi]) ⟨fun t => by simp [uE, ycq], fun k => by simp [uH, ycq]⟩ (fun i o x hi => by simp at hi) (fun i o x hi => by simp at hi) (by simpa using hd)
  simp only [List.nil_append] at g1 g2 g3 g4
  have hlen : L.length = ops.size := by rw [← List.length_map (f := fun p : Oper × Ev1 => p.1), g1]; simp
  refine wpIn_region_any hm ?_
  have key := draw_core (ro := ro) hP (L := L) hall (by simpa using hok) (fun i o hi => by
      have hlt : i < L.length := by rw [hlen]; exact (Array.getElem?_eq_some_iff.1 hi).1
      refine ⟨L[i].2, ?_⟩
      rw [List.getElem?_eq_getElem hlt]
      have h1 : (L.map (·.1))[i]? = some o := by rw [g1]; simpa using hi
      rw [List.getElem?_map, List.getElem?_eq_getElem hlt] at h1
      simp only [Option.map_some, Option.some.injEq] at h1
      rw [← h1])
    (fun i o x hi => by
      have h1 : (L.map (·.1))[i]? = some o := by rw [List.getElem?_map, hi]; rfl
      rw [g1] at h1
      simpa using h1) (zaz := env) (h0 := c.h ++ zdc (mkc ops.toList)) (c0 := c)
    (fun i o x hi => g2 i o x hi (Nat.zero_le _)) (fun i j oi oj xi xj hi hj => g3 i j oi oj xi xj hi hj (Nat.zero_le _)) (Q := Q)
    (fun a' c' env' h1 h2 h3 h4 => by
      have e1 : ∀ t, lk envF t = lk env' t := fun t => by rw [g4.env t, h3 t]
      have e2 : c'.h = hF := List.ext_getElem? fun k => by rw [h4 k, g4.h k]
      refine hq a' c' envF ⟨h1.hr, fun t => by rw [e1 t]; exact h1.er t, h1.size, h1.defers, h1.base⟩ h2 (by rw [e2]; exact g5))
    ops.size (Array.replicate ops.size false) a { c with w := drewN c.w 1, h := c.h ++ zdc (mkc ops.toList) } env (by simp) (by simp) ?_ hs2 hx ?_ ?_
  · exact key
  · intro i o hi hsel
    simp only [qb3] at hsel
    exfalso
    simp [Array.getD_eq_getD_getElem?, Array.getElem?_replicate] at hsel
    revert hsel
    split <;> simp
  · intro t
    rw [zdv]
    intro j u hj hsel
    exfalso
    simp [qb3, Array.getD_eq_getD_getElem?, Array.getElem?_replicate] at hsel
    revert hsel
    split <;> simp
  · intro k
    rw [zdv]
    intro j u hj hsel
    exfalso
    simp [qb3, Array.getD_eq_getD_getElem?, Array.getElem?_replicate] at hsel
    revert hsel
    split <;> simp
end
end Go.Abs
set_option linter.all false
namespace Go.Abs
open Go
section
variable {P : Program}
inductive AEx where
  | normal
  | exit (id : Nat)
  | ret
  deriving DecidableEq
def AEx.is : AEx → Exit → Prop
  | .normal, .normal => True
  | .exit i, .exit j => i = j
  | .ret, .ret => True
  | _, _ => False
abbrev yap := AEx → List (Nat × AV) → List Entry → Prop
def ALoop (B : List (Nat × AV) → List Entry → yap → Prop) (env : List (Nat × AV)) (h : List Entry) (Q : yap) : Prop :=
  ∃ (I : Nat → List (Nat × AV) → List Entry → Prop) (N : Nat), I 0 env h ∧ ∀ i env h, I i env h → i ≤ N ∧ B env h fun e env' h' => match e with
    | .normal => I (i + 1) env' h'
    | e => Q e env' h'
def zbk : Code → Bool
  | .seq x y => zbk x && zbk y
  | .cond _ x y => zbk x && zbk y
  | .block _ x => zbk x
  | .loop x => zbk x
  | .rangeFunc .. => false
  | _ => true
def ybg (n : Nat) : Code → Bool
  | .region _ ops _ => ops.toList.all (dstOK n)
  | .seq x y => ybg n x && ybg n y
  | .cond _ x y => ybg n x && ybg n y
  | .block _ x => ybg n x
  | .loop x => ybg n x
  | .rangeFunc _ ps a b => ps.toList.all (fun t => decide (t < n)) && ((ybg n a && zbk a) && (ybg n b && zbk b))
  | _ => true
structure LoopOK (m : Nat) (ps : Array Tmp) (a b : Code) : Prop where
  ps : ∀ t ∈ ps.toList, t < m
  ca : ybg m a = true
  cb : ybg m b = true
  na : zbk a = true
  nb : zbk b = true
def slots (m : Nat) (env : List (Nat × AV)) : List AV := .tup [] :: (List.range m).map fun t => if zah (lk env t) = true then lk env t else .junk
def awp (P : Program) : Code → List (Nat × AV) → List Entry → yap → Prop
  | .skip, env, h, Q => Q .normal env h
  | .region _ ops draw, env, h, Q => match draw with
    | false => aops P ops.toList ops.toList env h fun env' h' => Q .normal (env'.take env.length) h'
    | true => adraw P ops.toList env h fun env' h' => Q .normal (env'.take env.length) h'
  | .seq x y, env, h, Q => awp P x env h fun e env' h' => match e with
    | .normal => awp P y env' h' Q
    | .exit i => Q (.exit i) env' h'
    | .ret => Q .ret env' h'
  | .cond c x y, env, h, Q => match ev env c with
    | .bool t => (t = true → awp P x env h Q) ∧ (t = false → awp P y env h Q)
    | _ => False
  | .block id x, env, h, Q => awp P x env h fun e env' h' => match e with
    | .normal => Q .normal env' h'
    | .exit i => if i = id then Q .normal env' h' else Q (.exit i) env' h'
    | .ret => Q .ret env' h'
  | .loop x, env, h, Q => ALoop (awp P x) env h Q
  | .exit i, env, h, Q => Q (.exit i) env h
  | .ret, env, h, Q => Q .ret env h
  | .label _, env, h, Q => Q .normal env h
  | .rangeFunc f ps a b, env, h, Q => match ev env f with
    | .fn g caps => isY caps = false ∧ ∃ k : Nat, loopOf P k = some (ps, a, b) ∧ ∀ m, LoopOK m ps a b → FSpec P g (.fn k (slots m env) :: caps) h fun _ h' => Q .normal env h'
    | _ => False
  | _, _, _, _ => False
theorem Stp.wp_mono {h : List Entry} {K K' : AV → List Entry → Prop} (hk : ∀ r h', K r h' → K' r h') : ∀ {s : Stp}, s.wp h K → s.wp h K'
  | .fail, hw => hw
  | .ret v wr, hw => hk _ _ hw
  | .rd k f, hw => by
    simp only [Stp.wp] at hw ⊢
    cases he : h[k]? with
    | none => rw [he] at hw; exact hw
    | some e => rw [he] at hw; exact Stp.wp_mono hk hw
theorem opwp_mono {env : List (Nat × AV)} {h : List Entry} {o : Op} {K K' : AV → List Entry → Prop} (hk : ∀ r h', K r h' → K' r h') (hw : opwp P env h o K) : opwp P env h o K' := by
  unfold opwp at hw ⊢
  split at hw
  · split at hw
    · exact ⟨hw.1, hw.2.1, hw.2.2.imp (fun h => ⟨h.1, h.2.imp (fun h => h.mono hk) fun h => h.mono hk⟩) fun h => ⟨h.1, h.2.mono hk⟩⟩
    · exact hw
  · split at hw
    · exact ⟨fun h => hk _ _ (hw.1 h), fun h => hk _ _ (hw.2 h)⟩
    · exact hw
  · split at hw
    · rename_i hn
      rw [if_pos hn]
      split at hw
      · exact ⟨hw.1, fun b hb => hk _ _ (hw.2 b hb)⟩
      · exact ⟨hw.1, fun b hb => hk _ _ (hw.2 b hb)⟩
      · exact hw
    · rename_i hn
      rw [if_neg hn]
      exact Stp.wp_mono hk hw
  · split at hw
    · rename_i hn; rw [if_pos hn]; exact Stp.wp_mono hk hw
    · rename_i hn; rw [if_neg hn]; exact Stp.wp_mono hk hw
theorem qcg {ops : List Oper} {K K' : List (Nat × AV) → List Entry → Prop} (hk : ∀ r h', K r h' → K' r h') : ∀ (l : List Oper) (env : List (Nat × AV)) (h : List Entry), aops P ops l env h K → aops P ops l env h K'
  | [], env, h, hw => hk _ _ hw
  | o :: rest, env, h, hw => by
    simp only [aops] at hw ⊢
    split at hw
    · exact opwp_mono (fun r h' hh => qcg hk rest _ _ hh) hw
    · split at hw
      · exact hw
      · split at hw
        · exact ⟨fun hb => opwp_mono (fun r h' hh => qcg hk rest _ _ hh) (hw.1 hb), fun hb => qcg hk rest _ _ (hw.2 hb)⟩
        · exact qcg hk rest _ _ hw
        · exact hw
theorem yb0 : ∀ (x : Code) (env : List (Nat × AV)) (h : List Entry) {Q Q' : yap}, (∀ e env' h', Q e env' h' → Q' e env' h') → awp P x env h Q → awp P x env h Q'
  | .skip, env, h, Q, Q', hq, hw => hq _ _ _ hw
  | .label _, env, h, Q, Q', hq, hw => hq _ _ _ hw
  | .exit _, env, h, Q, Q', hq, hw => hq _ _ _ hw
  | .ret, env, h, Q, Q', hq, hw => hq _ _ _ hw
  | .region id ops draw, env, h, Q, Q', hq, hw => by
    cases draw with
    | false => simp only [awp] at hw ⊢; exact qcg (fun r h' hh => hq _ _ _ hh) _ _ _ hw
    | true => simp only [awp] at hw ⊢; exact adraw_mono (fun r h' hh => hq _ _ _ hh) hw
  | .seq x y, env, h, Q, Q', hq, hw => by
    simp only [awp] at hw ⊢
    refine yb0 x env h ?_ hw
    intro e env' h' hh
    cases e with
    | normal => exact yb0 y env' h' hq hh
    | exit i => exact hq _ _ _ hh
    | ret => exact hq _ _ _ hh
  | .cond t x y, env, h, Q, Q', hq, hw => by
    simp only [awp] at hw ⊢
    split at hw
    · exact ⟨fun hb => yb0 x env h hq (hw.1 hb), fun hb => yb0 y env h hq (hw.2 hb)⟩
    · exact hw
  | .block id x, env, h, Q, Q', hq, hw => by
    simp only [awp] at hw ⊢
    refine yb0 x env h ?_ hw
    intro e env' h' hh
    cases e with
    | normal => exact hq _ _ _ hh
    | exit i =>
      simp only at hh ⊢
      split at hh
      · rename_i hi; rw [if_pos hi]; exact hq _ _ _ hh
      · rename_i hi; rw [if_neg hi]; exact hq _ _ _ hh
    | ret => exact hq _ _ _ hh
  | .loop x, env, h, Q, Q', hq, hw => by
    simp only [awp, ALoop] at hw ⊢
    obtain ⟨I, N, h0, hr⟩ := hw
    refine ⟨I, N, h0, fun i env h hI => ⟨(hr i env h hI).1, yb0 x env h ?_ (hr i env h hI).2⟩⟩
    intro e env' h' hh
    cases e with
    | normal => exact hh
    | exit i => exact hq _ _ _ hh
    | ret => exact hq _ _ _ hh
  | .rangeFunc f ps a b, env, h, Q, Q', hq, hw => by
    simp only [awp] at hw ⊢
    split at hw
    · obtain ⟨hy, k, h1, h2⟩ := hw
      exact ⟨hy, k, h1, fun m g => (h2 m g).mono fun r h' hh => hq _ _ _ hh⟩
    · exact hw
  | .scope _, env, h, Q, Q', hq, hw => by simp only [awp] at hw
  | .goto _, env, h, Q, Q', hq, hw => by simp only [awp] at hw
  | .refuse _, env, h, Q, Q', hq, hw => by simp only [awp] at hw
def CPost (P : Program) (B n : Nat) (c : Cx) (Q : yap) : Exit → Act → World → Prop := fun e a' w' =>
  ∃ (ae : AEx) (env' : List (Nat × AV)) (c' : Cx), ae.is e ∧ c'.w = w' ∧ St P B n c' env' a' ∧ Ext c c' ∧ Q ae env' c'.h
theorem St.take {B n m : Nat} {c : Cx} {env : List (Nat × AV)} {a : Act} (h : St P B n c env a) : St P B n c (env.take m) a := by
  refine ⟨h.hr, fun t => ?_, h.size, h.defers, h.base⟩
  rcases lk_take m env t with e | e
  · rw [e]; exact h.er t
  · rw [e]; simp only [VV]
theorem loop_key {ro : Option Nat} {B n : Nat} {x : Code} {Q : yap} {I : Nat → List (Nat × AV) → List Entry → Prop} {N : Nat} {c0 : Cx}
    (hround : ∀ (i : Nat) (c : Cx) (env : List (Nat × AV)) (a : Act), St P B n c env a → Ext c0 c → I i env c.h → i ≤ N ∧ x.wpIn (Fr ro) 0 P (CPost P B n c fun e env' h' => match e with | .normal => I (i + 1) env' h' | e => Q e env' h') a c.w) :
    ∀ (m i : Nat) (c : Cx) (env : List (Nat × AV)) (a : Act), N - i = m → St P B n c env a → Ext c0 c → I i env c.h → ∀ (b : Frame) (k : List Item) (cs : List Frame), b.roundOf = ro →
      ∃ e a' w', CPost P B n c0 Q e a' w' ∧ ArrivesIn (Machine.fenced P (Fr ro)) P (lone (b.atR a (.code x :: .inLoop x :: k)) cs c.w) b k cs e a' w' := by
  intro m
  induction m using Nat.strongRecOn with
  | _ m ih =>
    intro i c env a hm hs hx hI b k cs hro
    obtain ⟨hiN, hw⟩ := hround i c env a hs hx hI
    obtain ⟨e, a1, w1, ⟨ae, env1, c1, h1, rfl, h3, h4, h5⟩, harr⟩ := hw b (.inLoop x :: k) cs hro trivial (room_fr _)
    cases e with
    | normal =>
      cases ae <;> simp only [AEx.is] at h1
      simp only at h5
      have hlt : N - (i + 1) < m := by
        have := (hround (i + 1) c1 env1 a1 h3 (hx.trans h4) h5).1
        omega
      obtain ⟨e2, a2, w2, hq2, harr2⟩ := ih _ hlt (i + 1) c1 env1 a1 rfl h3 (hx.trans h4) h5 b k cs hro
      exact ⟨e2, a2, w2, hq2, .of_steps (StepsIn.trans harr (.one (fenced_calm (n := 0) trivial (room_fr _) rfl) stepR_inLoop)) harr2⟩
    | exit id =>
      cases ae <;> simp only [AEx.is] at h1
      subst h1
      exact ⟨.exit _, a1, c1.w, ⟨.exit _, env1, c1, rfl, rfl, h3, hx.trans h4, h5⟩, .pass (x := .inLoop x) rfl (fun _ _ => .inl (by simp)) harr⟩
    | ret =>
      cases ae <;> simp only [AEx.is] at h1
      exact ⟨.ret, a1, c1.w, ⟨.ret, env1, c1, trivial, rfl, h3, hx.trans h4, h5⟩, .pass (x := .inLoop x) rfl (fun _ _ => .inl (by simp)) harr⟩
    | goto l => cases ae <;> simp only [AEx.is] at h1
    | panic ch => cases ae <;> simp only [AEx.is] at h1
    | outgrown => cases ae <;> simp only [AEx.is] at h1
theorem slotsG_rep {c : Cx} {env : List (Nat × AV)} {tmps : Array Value} (he : ER P c env tmps) : ∀ (j i : Nat), i + j = tmps.size →
    zdx P c ((List.range' i j).map fun t => if zah (lk env t) = true then lk env t else .junk) (tmps.toList.drop i)
  | 0, i, h => by simp only [List.range'_zero, List.map_nil, zdx]; rw [List.drop_of_length_le (by simp; omega)]
  | j + 1, i, h => by
    have hi : i < tmps.toList.length := by simp; omega
    rw [List.range'_succ, List.map_cons, List.drop_eq_getElem_cons hi]
    simp only [zdx]
    refine ⟨_, _, rfl, ?_, slotsG_rep he j (i + 1) (by omega)⟩
    by_cases hc : zah (lk env i) = true
    · rw [if_pos hc]
      refine .inr ⟨plain_notY hc, ?_⟩
      have hv := he i
      have hg : tmps.getD i undef = tmps.toList[i] := by
        have : i < tmps.size := by simpa using hi
        simp [Array.getD, this]
      rw [hg] at hv
      exact qb4 hv hc
    · rw [if_neg hc]; exact .inl rfl
theorem slots_rep {c : Cx} {env : List (Nat × AV)} {tmps : Array Value} (he : ER P c env tmps) : zdx P c (slots tmps.size env) (.tuple #[] :: tmps.toList) := by
  rw [slots]
  simp only [zdx]
  refine ⟨_, _, rfl, .inl rfl, ?_⟩
  have := slotsG_rep he tmps.size 0 (by omega)
  rwa [List.drop_zero, ← List.range_eq_range'] at this
theorem range_sound {B n : Nat} {f : Operand} {ps : Array Tmp} {as b : Code} {c : Cx} {env : List (Nat × AV)} {a : Act} {Q : yap} {g : FuncId} {caps : List AV} (hok : ybg n (.rangeFunc f ps as b) = true) (hs : St P B n c env a) (hf : ev env f = .fn g caps) (hy : isY caps = false)
    {k : Nat} (hk : loopOf P k = some (ps, as, b)) (hw : ∀ m, LoopOK m ps as b → FSpec P g (.fn k (slots m env) :: caps) c.h fun _ h' => Q .normal env h') :
    (Code.rangeFunc f ps as b).wpIn (Fr none) 0 P (CPost P B n c Q) a c.w := by
  simp only [ybg, Bool.and_eq_true, List.all_eq_true, decide_eq_true_eq] at hok
  have hsp := hw n ⟨hok.1, hok.2.1.1, hok.2.2.1, hok.2.1.2, hok.2.2.2⟩
  have hv := za2 hs.er f
  rw [hf] at hv
  obtain ⟨cvs, hfv, hcv⟩ := fn_vv hy hv
  refine wpIn_rangeFunc fun fn _ => ?_
  let L : Loop := { state := .ready, pending := none, fn, tmps := a.tmps, params := ps, assign := as, body := b, defers := c.w.heap.size }
  let c1 : Cx := { c with w := c.w.alloc (.deferred (some [])) }
  let c2 : Cx := { c1 with w := c1.w.alloc (.loop L) }
  have e1 : Ext c c1 := ext_push _
  have e2 : Ext c1 c2 := ext_push _
  have hr1 : HR P c1 := hr_cls (cls_push _) hs.hr
  have hr2 : HR P c2 := hr_cls (cls_push _) hr1
  have hs1 : c1.w.heap.size = c.w.heap.size + 1 := size_push
  have hl : c2.w.heap[c.w.heap.size + 1]? = some (.loop L) := by rw [← hs1]; exact get_push0
  have hrb : c2.w.heap[c.w.heap.size]? = some (.deferred (some [])) := (qdl (by rw [hs1]; omega)).trans get_push0
  have hOl : ¬ c2.O (c.w.heap.size + 1) := fun h => by obtain ⟨C, T, m, h⟩ := O_live hr2 h; rw [hl] at h; cases h
  have hOr : ¬ c2.O c.w.heap.size := fun h => by obtain ⟨C, T, m, h⟩ := O_live hr2 h; rw [hrb] at h; cases h
  have her2 : ER P c2 env a.tmps := fun t => qc9 (e1.trans e2) (hs.er t)
  have hargs : ya2 P c2 (.fn k (slots n env) :: caps) (.func (.yield (c.w.heap.size + 1)) #[] #[] :: cvs) := by
    simp only [ya2]
    refine ⟨_, _, rfl, rfl, ?_, qdh (e1.trans e2) _ _ hcv⟩
    simp only [Rep]
    refine .inr ⟨rfl, c.w.heap.size + 1, L, rfl, hl, hOl, rfl, rfl, hk, ?_⟩
    have := slots_rep her2
    rwa [hs.size] at this
  refine ⟨c.w.heap.size + 1, [mark c.w.heap.size], c2.w, ⟨.fn (.func g) cvs.toArray, #[.func (.yield (c.w.heap.size + 1)) #[] #[]]⟩, c2.w, g, (.func (.yield (c.w.heap.size + 1)) #[] #[] :: cvs).toArray, c2.w, run_enterLoop_outer fn a.tmps ps as b, ?_, fun _ _ => trivial, ?_, fun h => by simp [Fr] at h, callsIn_fr ?_⟩
  · simp only [rangeCall, resolve]
    rw [hfv]
    simp [Deferred.ofValue, Act.eval]
  · simp only [invoke]
    rw [ydo hsp.1]
    congr 2
    apply Array.ext'
    simp
  refine (hsp.2 c2.κ c2.w _ hr2 hargs).mono ?_
  rintro e w3 ⟨v, r, h', κ', rfl, q1, q2, q3, q4⟩
  have hl3 : w3.heap[c.w.heap.size + 1]? = some (.loop L) := (q2.frozen _ (qag hl) hOl).trans hl
  have hr3 : w3.heap[c.w.heap.size]? = some (.deferred (some [])) := (q2.frozen _ (qag hrb) hOr).trans hrb
  refine ⟨none, ya0 w3 (c.w.heap.size + 1) (.loop { L with state := .exhausted }), run_endLoop hl3 (by show LoopState.ready ≠ .busy; simp), ?_⟩
  have x3 : Cls false ⟨κ', h', w3⟩ ⟨κ', h', ya0 w3 (c.w.heap.size + 1) (.loop { L with state := .exhausted })⟩ := cls_put (c := ⟨κ', h', w3⟩) hl3 (by simp) (by simp)
  have hr4 := hr_cls x3 q1
  have e03 : Ext c ⟨κ', h', w3⟩ := (e1.trans e2).trans q2
  have e04 : Ext c ⟨κ', h', ya0 w3 (c.w.heap.size + 1) (.loop { L with state := .exhausted })⟩ := by
    refine ⟨e03.os, e03.tape, e03.output, by rw [putBlk_size]; exact e03.size, fun j hj hn => ?_, fun j C T m hj => ?_, e03.own, e03.names⟩
    · rw [yan (by omega)]; exact e03.frozen j hj hn
    · have := qag hj
      rw [yan (by omega)]; exact e03.shape j C T m hj
  refine ⟨.normal, env, ⟨κ', h', ya0 w3 (c.w.heap.size + 1) (.loop { L with state := .exhausted })⟩, trivial, rfl, ⟨hr4, fun t => qc9 e04 (hs.er t), hs.size, ?_, ?_⟩, e04, q4⟩
  · obtain ⟨M, m1, m2, m3⟩ := (hs.mono e04 hr4).defers
    refine ⟨c.w.heap.size :: M, by simp [m1], List.nodup_cons.2 ⟨fun hm => ?_, m2⟩, fun r hr => ?_⟩
    · obtain ⟨M', m1', _, m3'⟩ := hs.defers
      have hMM : M' = M := by
        have : M'.map mark = M.map mark := m1'.symm.trans m1
        exact (List.map_inj_right (fun x y h => by simpa [mark] using h)).1 this
      subst hMM
      have := qag (m3' _ hm).2.1
      omega
    · rcases List.mem_cons.1 hr with rfl | hr
      · refine ⟨hs.base, ?_, fun ho => hOr (q2.own _ (qag hrb) ((x3.O _) ▸ ho))⟩
        show (ya0 w3 _ _).heap[_]? = _
        rw [yan (by omega)]; exact hr3
      · exact m3 r hr
  · exact Nat.le_trans hs.base e04.size
theorem yb8 (hP : WF P) {ro : Option Nat} {B n : Nat} : ∀ (x : Code) (c : Cx) (env : List (Nat × AV)) (a : Act) (Q : yap), ybg n x = true → (ro = none ∨ zbk x = true) → St P B n c env a → awp P x env c.h Q → x.wpIn (Fr ro) 0 P (CPost P B n c Q) a c.w
  | .skip, c, env, a, Q, _, _, hs, hw => wpIn_skip ⟨.normal, env, c, trivial, rfl, hs, Ext.refl c, hw⟩
  | .label _, c, env, a, Q, _, _, hs, hw => wpIn_label ⟨.normal, env, c, trivial, rfl, hs, Ext.refl c, hw⟩
  | .exit i, c, env, a, Q, _, _, hs, hw => wpIn_exit ⟨.exit i, env, c, rfl, rfl, hs, Ext.refl c, hw⟩
  | .ret, c, env, a, Q, _, _, hs, hw => wpIn_ret ⟨.ret, env, c, trivial, rfl, hs, Ext.refl c, hw⟩
  | .region id ops draw, c, env, a, Q, hok, _, hs, hw => by
    simp only [ybg, List.all_eq_true] at hok
    cases draw with
    | false =>
      simp only [awp] at hw
      refine wpIn_region_list (qdw hP hok ops.toList c env a hok hs hw ?_)
      intro a' c' env' s x k
      exact ⟨.normal, _, c', trivial, rfl, s.take, x, k⟩
    | true =>
      simp only [awp] at hw
      refine adraw_sound hP hok hs hw ?_
      intro a' c' env' s x k
      exact ⟨.normal, _, c', trivial, rfl, s.take, x, k⟩
  | .seq x y, c, env, a, Q, hok, hnr, hs, hw => by
    simp only [ybg, Bool.and_eq_true] at hok
    simp only [zbk, Bool.and_eq_true] at hnr
    simp only [awp] at hw
    refine wpIn_seq (wpIn_mono (yb8 hP x c env a _ hok.1 (hnr.imp id And.left) hs hw) ?_)
    rintro e a' w' ⟨ae, env', c', h1, rfl, h3, h4, h5⟩
    cases e with
    | normal =>
      cases ae <;> simp only [AEx.is] at h1
      refine wpIn_mono (yb8 hP y c' env' a' Q hok.2 (hnr.imp id And.right) h3 h5) ?_
      rintro e2 a2 w2 ⟨ae2, env2, c2, g1, g2, g3, g4, g5⟩
      exact ⟨ae2, env2, c2, g1, g2, g3, h4.trans g4, g5⟩
    | exit i => cases ae <;> simp only [AEx.is] at h1; subst h1; exact ⟨.exit _, env', c', rfl, rfl, h3, h4, h5⟩
    | ret => cases ae <;> simp only [AEx.is] at h1; exact ⟨.ret, env', c', trivial, rfl, h3, h4, h5⟩
    | goto l => cases ae <;> simp only [AEx.is] at h1
    | panic ch => cases ae <;> simp only [AEx.is] at h1
    | outgrown => cases ae <;> simp only [AEx.is] at h1
  | .cond t x y, c, env, a, Q, hok, hnr, hs, hw => by
    simp only [ybg, Bool.and_eq_true] at hok
    simp only [zbk, Bool.and_eq_true] at hnr
    simp only [awp] at hw
    have hv := za2 hs.er t
    cases hb : ev env t <;> rw [hb] at hw hv <;> try exact hw.elim
    rename_i b
    have hv := ybs hv
    refine wpIn_cond_split hv (fun h => ?_) (fun h => ?_)
    · exact yb8 hP x c env a Q hok.1 (hnr.imp id And.left) hs (hw.1 h)
    · exact yb8 hP y c env a Q hok.2 (hnr.imp id And.right) hs (hw.2 h)
  | .block id x, c, env, a, Q, hok, hnr, hs, hw => by
    simp only [ybg] at hok
    simp only [zbk] at hnr
    simp only [awp] at hw
    refine wpIn_block (wpIn_mono (yb8 hP x c env a _ hok hnr hs hw) ?_)
    rintro e a' w' ⟨ae, env', c', h1, rfl, h3, h4, h5⟩
    cases e with
    | normal => cases ae <;> simp only [AEx.is] at h1; exact ⟨.normal, env', c', trivial, rfl, h3, h4, h5⟩
    | exit i =>
      cases ae <;> simp only [AEx.is] at h1
      subst h1
      simp only at h5
      simp only [Exit.inBlock]
      split at h5
      · rename_i hi
        rw [if_pos hi]
        exact ⟨.normal, env', c', trivial, rfl, h3, h4, h5⟩
      · rename_i hi
        rw [if_neg hi]
        exact ⟨.exit _, env', c', rfl, rfl, h3, h4, h5⟩
    | ret => cases ae <;> simp only [AEx.is] at h1; exact ⟨.ret, env', c', trivial, rfl, h3, h4, h5⟩
    | goto l => cases ae <;> simp only [AEx.is] at h1
    | panic ch => cases ae <;> simp only [AEx.is] at h1
    | outgrown => cases ae <;> simp only [AEx.is] at h1
  | .loop x, c, env, a, Q, hok, hnr, hs, hw => by
    simp only [ybg] at hok
    simp only [zbk] at hnr
    simp only [awp, ALoop] at hw
    obtain ⟨I, N, h0, hround⟩ := hw
    intro b k cs hro _ _
    obtain ⟨e, a', w', hq, harr⟩ := loop_key (P := P) (n := n) (x := x) (Q := Q) (I := I) (N := N) (c0 := c) (fun i c env a hs hx hI =>
      ⟨(hround i env c.h hI).1, yb8 hP x c env a _ hok hnr hs (hround i env c.h hI).2⟩) (N - 0) 0 c env a rfl hs (Ext.refl c) h0 b k cs hro
    exact ⟨e, a', w', hq, .of_steps (.one (fenced_calm (n := 0) trivial (room_fr _) rfl) stepR_loop) harr⟩
  | .rangeFunc f ps as b, c, env, a, Q, hok, hnr, hs, hw => by
    rcases hnr with rfl | hnr
    rotate_left
    · simp [zbk] at hnr
    simp only [awp] at hw
    split at hw
    · rename_i g caps hf
      obtain ⟨hy, k, h1, h2⟩ := hw
      exact range_sound hok hs hf hy h1 h2
    · exact hw.elim
  | .scope _, c, env, a, Q, _, _, hs, hw => by simp only [awp] at hw
  | .goto _, c, env, a, Q, _, _, hs, hw => by simp only [awp] at hw
  | .refuse _, c, env, a, Q, _, _, hs, hw => by simp only [awp] at hw
end
end Go.Abs
set_option linter.all false
namespace Go.Abs
open Go
section
variable {P : Program}
def ares (P : Program) : List ResultVar → List (Nat × AV) → List Entry → (List AV → Prop) → Prop
  | [], _, _, K => K []
  | .tmp t :: r, env, h, K => ares P r env h fun l => K (lk env t :: l)
  | .cell t T :: r, env, h, K => (qcd T (lk env t)).wp h fun v _ => ares P r env h fun l => K (v :: l)
def one (K : AV → Prop) : List AV → Prop
  | [r] => K r
  | l => l.all zah = true ∧ K (.tup l)
mutual
def zan (n : Nat) : AV → Bool
  | .agg _ vs => yas n vs
  | .list _ es => yas n es
  | .win k _ _ _ _ _ => decide (k < n)
  | .ref k _ _ => decide (k < n)
  | .eref _ v => zan n v
  | .fn _ caps => yas n caps
  | .tup vs => yas n vs
  | _ => true
def yas (n : Nat) : List AV → Bool
  | [] => true
  | v :: vs => zan n v && yas n vs
end
mutual
def rz (h : List Entry) (n : Nat) : AV → AV
  | .win k p T fr m lo => if n ≤ k then (match h[k]? with
      | some e => if yb5 e.st = true then (match qaq e.es p fr m with
        | some ys => .list T ys
        | none => .win k p T fr m lo) else .win k p T fr m lo
      | none => .win k p T fr m lo) else .win k p T fr m lo
  | .agg T vs => .agg T (rzL h n vs)
  | .tup vs => .tup (rzL h n vs)
  | a => a
def rzL (h : List Entry) (n : Nat) : List AV → List AV
  | [] => []
  | v :: vs => rz h n v :: rzL h n vs
end
theorem zb2 {n : Nat} : ∀ {vs : List AV}, yas n vs = vs.all (zan n)
  | [] => rfl
  | v :: vs => by simp only [yas, List.all_cons, zb2 (vs := vs)]
theorem rzL_map {h : List Entry} {n : Nat} : ∀ {vs : List AV}, rzL h n vs = vs.map (rz h n)
  | [] => rfl
  | v :: vs => by simp only [rzL, List.map_cons, rzL_map (vs := vs)]
theorem below_agg {n : Nat} {T : TypeId} {vs : List AV} : zan n (.agg T vs) = vs.all (zan n) := by simp only [zan, zb2]
theorem zc4 {n : Nat} {T : TypeId} {vs : List AV} : zan n (.list T vs) = vs.all (zan n) := by simp only [zan, zb2]
theorem below_fn {n : Nat} {f : FuncId} {vs : List AV} : zan n (.fn f vs) = vs.all (zan n) := by simp only [zan, zb2]
def ybd (c : Cx) (n : Nat) : Cx := { c with h := c.h.take n }
theorem O_trim {c : Cx} {n b : Nat} (h : (ybd c n).O b) : c.O b := by
  obtain ⟨k, e, he, hst, hk⟩ := h
  refine ⟨k, e, ?_, hst, hk⟩
  simp only [ybd, List.getElem?_take] at he
  split at he
  · exact he
  · cases he
theorem trim_get {c : Cx} {n k : Nat} (hk : k < n) : (ybd c n).h[k]? = c.h[k]? := by simp only [ybd, List.getElem?_take, if_pos hk]
structure Agree (c c2 : Cx) (n : Nat) : Prop where
  w : c2.w = c.w
  own : ∀ b, c2.O b → c.O b
  κ : ∀ k, k < n → c2.κ k = c.κ k
  h : ∀ k, k < n → c2.h[k]? = c.h[k]?
mutual
theorem qc1 {c c2 : Cx} {n : Nat} (A : Agree c c2 n) : ∀ (a : AV) (cs : List Value), zan n a = true → Rep P c a cs → Rep P c2 a cs
  | .int k m, cs, _, h => by simpa only [Rep] using h
  | .bool b, cs, _, h => by simpa only [Rep] using h
  | .str s, cs, _, h => by simpa only [Rep] using h
  | .agg T vs, cs, hb, h => by
    rw [below_agg] at hb
    simp only [Rep] at h ⊢
    refine ⟨h.1, ?_⟩
    have h2 := h.2
    split at h2
    · exact repF_keep A _ _ _ hb h2
    · exact ⟨h2.1, zdi A _ _ _ hb h2.2⟩
    · exact h2.elim
  | .list T es, cs, hb, h => by
    rw [zc4] at hb
    simp only [Rep] at h ⊢
    obtain ⟨a, cap, rfl, hc, h⟩ := h
    refine ⟨a, cap, rfl, hc, fun hne => ?_⟩
    obtain ⟨b, off, C, Te, m, ha, hbk, hO, hr⟩ := h hne
    exact ⟨b, off, C, Te, m, ha, by rw [A.w]; exact hbk, fun h => hO (A.own _ h), zdi A _ _ _ hb hr⟩
  | .win k p T fr m lo, cs, hb, h => by
    simp only [zan, decide_eq_true_eq] at hb
    simp only [Rep] at h ⊢
    rw [A.h k hb, A.w, A.κ k hb]
    exact h
  | .ref k p T, cs, hb, h => by
    simp only [zan, decide_eq_true_eq] at hb
    simp only [Rep] at h ⊢
    rw [A.h k hb, A.κ k hb]
    exact h
  | .eref T v, cs, hb, h => by
    simp only [zan] at hb
    simp only [Rep] at h ⊢
    obtain ⟨b, off, C, Te, m, rfl, hbk, hO, ht, hr⟩ := h
    exact ⟨b, off, C, Te, m, rfl, by rw [A.w]; exact hbk, fun h => hO (A.own _ h), ht, qc1 A _ _ hb hr⟩
  | .nilptr, cs, _, h => by simpa only [Rep] using h
  | .fn f caps, cs, hb, h => by
    rw [below_fn] at hb
    simp only [Rep] at h ⊢
    rcases h with ⟨h0, h1, vs, rfl, hv⟩ | ⟨h0, l, L, rfl, hl, hO, h1, h2, h3, h4⟩
    · exact .inl ⟨h0, h1, vs, rfl, repV_keep A _ _ hb hv⟩
    · exact .inr ⟨h0, l, L, rfl, by rw [A.w]; exact hl, fun h => hO (A.own _ h), h1, h2, h3, repS_keep A _ _ hb h4⟩
  | .nilfn, cs, _, h => by simpa only [Rep] using h
  | .nils, cs, _, h => by simpa only [Rep] using h
  | .tup _, cs, _, h => by simp only [Rep] at h
  | .junk, cs, _, h => by simp only [Rep] at h
theorem repF_keep {c c2 : Cx} {n : Nat} (A : Agree c c2 n) : ∀ (vs : List AV) (fs : List (TypeId × Nat)) (cs : List Value), vs.all (zan n) = true → zb1 P c vs fs cs → zb1 P c2 vs fs cs
  | [], fs, cs, _, h => by simpa only [zb1] using h
  | v :: vs, fs, cs, hb, h => by
    simp only [List.all_cons, Bool.and_eq_true] at hb
    simp only [zb1] at h ⊢
    obtain ⟨f, r, rfl, h1, h2, h3⟩ := h
    exact ⟨f, r, rfl, h1, qc1 A _ _ hb.1 h2, repF_keep A _ _ _ hb.2 h3⟩
theorem zdi {c c2 : Cx} {n : Nat} (A : Agree c c2 n) : ∀ (vs : List AV) (T : TypeId) (cs : List Value), vs.all (zan n) = true → qa0 P c vs T cs → qa0 P c2 vs T cs
  | [], T, cs, _, h => by simp only [qa0]
  | v :: vs, T, cs, hb, h => by
    simp only [List.all_cons, Bool.and_eq_true] at hb
    simp only [qa0] at h ⊢
    exact ⟨h.1, qc1 A _ _ hb.1 h.2.1, zdi A _ _ _ hb.2 h.2.2⟩
theorem repV_keep {c c2 : Cx} {n : Nat} (A : Agree c c2 n) : ∀ (as : List AV) (vs : List Value), as.all (zan n) = true → ya2 P c as vs → ya2 P c2 as vs
  | [], vs, _, h => by simpa only [ya2] using h
  | a :: as, vs, hb, h => by
    simp only [List.all_cons, Bool.and_eq_true] at hb
    simp only [ya2] at h ⊢
    obtain ⟨v, r, rfl, h1, h2, h3⟩ := h
    exact ⟨v, r, rfl, h1, qc1 A _ _ hb.1 h2, repV_keep A _ _ hb.2 h3⟩
theorem repS_keep {c c2 : Cx} {n : Nat} (A : Agree c c2 n) : ∀ (as : List AV) (vs : List Value), as.all (zan n) = true → zdx P c as vs → zdx P c2 as vs
  | [], vs, _, h => by simpa only [zdx] using h
  | a :: as, vs, hb, h => by
    simp only [List.all_cons, Bool.and_eq_true] at hb
    simp only [zdx] at h ⊢
    obtain ⟨v, r, rfl, h1, h3⟩ := h
    refine ⟨v, r, rfl, ?_, repS_keep A _ _ hb.2 h3⟩
    rcases h1 with h1 | ⟨h1, h2, h4⟩
    · exact .inl h1
    · exact .inr ⟨h1, h2, qc1 A _ _ hb.1 h4⟩
end
theorem agree_trim (c : Cx) (n : Nat) : Agree c (ybd c n) n := ⟨rfl, fun _ h => O_trim h, fun _ _ => rfl, fun _ h => trim_get h⟩
theorem ya7 {c : Cx} {n : Nat} (a : AV) (cs : List Value) (hb : zan n a = true) (h : Rep P c a cs) : Rep P (ybd c n) a cs := qc1 (agree_trim c n) a cs hb h
theorem repE_trim {c : Cx} {n : Nat} (vs : List AV) (T : TypeId) (cs : List Value) (hb : vs.all (zan n) = true) (h : qa0 P c vs T cs) : qa0 P (ybd c n) vs T cs := zdi (agree_trim c n) vs T cs hb h
theorem hr_trim {c : Cx} {n : Nat} (hr : HR P c) (hcl : ∀ k e, k < n → c.h[k]? = some e → Live e → e.es.all (zan n) = true) : HR P (ybd c n) where
  blk k e he hl := by
    have hkn : k < n ∧ c.h[k]? = some e := by
      simp only [ybd, List.getElem?_take] at he
      split at he
      · exact ⟨‹_›, he⟩
      · cases he
    rcases hr.blk k e hkn.2 hl with h | ⟨b, C, m, h1, h2, h3, h4, h5, h6⟩
    · exact .inl h
    · exact .inr ⟨b, C, m, h1, h2, h3, fun hf hO => h4 hf (O_trim hO), h5, repE_trim _ _ _ (hcl k e hkn.1 hkn.2 hl) h6⟩
  apart k k' e e' b he he' hst hst' hk hk' := by
    have g : ∀ {j : Nat} {x : Entry}, (ybd c n).h[j]? = some x → c.h[j]? = some x := by
      intro j x hx
      simp only [ybd, List.getElem?_take] at hx
      split at hx
      · exact hx
      · cases hx
    exact hr.apart k k' e e' b (g he) (g he') hst hst' hk hk'
theorem rz_ty {h : List Entry} {n : Nat} {a : AV} {T : TypeId} (ht : yaz P a T) : yaz P (rz h n a) T := by
  cases a <;> simp only [rz] <;> try exact ht
  simp only [yaz] at ht
  split
  · split
    · split
      · split <;> simp only [yaz] <;> exact ht
      · simp only [yaz]; exact ht
    · simp only [yaz]; exact ht
  · simp only [yaz]; exact ht
theorem rz_isAgg {h : List Entry} {n : Nat} {a : AV} : isAgg (rz h n a) = isAgg a := by
  cases a <;> simp only [rz] <;> try rfl
  split
  · split
    · split
      · split <;> rfl
      · rfl
    · rfl
  · rfl
end
section
variable {P : Program}
mutual
theorem zdt {c : Cx} {n : Nat} (hwin : ∀ (k : Nat) (p : List Nat) (T : TypeId) (fr m lo : Nat) (cs : List Value), zan n (rz c.h n (.win k p T fr m lo)) = true → Rep P c (.win k p T fr m lo) cs → Rep P (ybd c n) (rz c.h n (.win k p T fr m lo)) cs) :
    ∀ (a : AV) (cs : List Value), zan n (rz c.h n a) = true → Rep P c a cs → Rep P (ybd c n) (rz c.h n a) cs
  | .win k p T fr m lo, cs, hb, h => hwin k p T fr m lo cs hb h
  | .agg T vs, cs, hb, h => by
    simp only [rz] at hb ⊢
    simp only [zan] at hb
    simp only [Rep] at h ⊢
    refine ⟨h.1, ?_⟩
    have h2 := h.2
    split at h2
    · exact repF_rz_aux hwin _ _ _ hb h2
    · refine ⟨by rw [rzL_map]; simpa using h2.1, repE_rz_aux hwin _ _ _ hb h2.2⟩
    · exact h2.elim
  | .tup vs, cs, hb, h => by simp only [Rep] at h
  | .int .., cs, hb, h => by simp only [rz] at hb ⊢; exact ya7 _ _ hb h
  | .bool .., cs, hb, h => by simp only [rz] at hb ⊢; exact ya7 _ _ hb h
  | .str .., cs, hb, h => by simp only [rz] at hb ⊢; exact ya7 _ _ hb h
  | .list .., cs, hb, h => by simp only [rz] at hb ⊢; exact ya7 _ _ hb h
  | .ref .., cs, hb, h => by simp only [rz] at hb ⊢; exact ya7 _ _ hb h
  | .eref .., cs, hb, h => by simp only [rz] at hb ⊢; exact ya7 _ _ hb h
  | .nilptr, cs, hb, h => by simp only [rz] at hb ⊢; exact ya7 _ _ hb h
  | .fn .., cs, hb, h => by simp only [rz] at hb ⊢; exact ya7 _ _ hb h
  | .nilfn, cs, hb, h => by simp only [rz] at hb ⊢; exact ya7 _ _ hb h
  | .nils, cs, hb, h => by simp only [rz] at hb ⊢; exact ya7 _ _ hb h
  | .junk, cs, hb, h => by simp only [Rep] at h
theorem repF_rz_aux {c : Cx} {n : Nat} (hwin : ∀ (k : Nat) (p : List Nat) (T : TypeId) (fr m lo : Nat) (cs : List Value), zan n (rz c.h n (.win k p T fr m lo)) = true → Rep P c (.win k p T fr m lo) cs → Rep P (ybd c n) (rz c.h n (.win k p T fr m lo)) cs) :
    ∀ (vs : List AV) (fs : List (TypeId × Nat)) (cs : List Value), yas n (rzL c.h n vs) = true → zb1 P c vs fs cs → zb1 P (ybd c n) (rzL c.h n vs) fs cs
  | [], fs, cs, _, h => by simpa only [rzL, zb1] using h
  | v :: vs, fs, cs, hb, h => by
    simp only [rzL, yas, Bool.and_eq_true] at hb
    simp only [rzL, zb1] at h ⊢
    obtain ⟨f, r, rfl, h1, h2, h3⟩ := h
    exact ⟨f, r, rfl, rz_ty h1, zdt hwin _ _ hb.1 h2, repF_rz_aux hwin _ _ _ hb.2 h3⟩
theorem repE_rz_aux {c : Cx} {n : Nat} (hwin : ∀ (k : Nat) (p : List Nat) (T : TypeId) (fr m lo : Nat) (cs : List Value), zan n (rz c.h n (.win k p T fr m lo)) = true → Rep P c (.win k p T fr m lo) cs → Rep P (ybd c n) (rz c.h n (.win k p T fr m lo)) cs) :
    ∀ (vs : List AV) (T : TypeId) (cs : List Value), yas n (rzL c.h n vs) = true → qa0 P c vs T cs → qa0 P (ybd c n) (rzL c.h n vs) T cs
  | [], T, cs, _, h => by simp only [rzL, qa0]
  | v :: vs, T, cs, hb, h => by
    simp only [rzL, yas, Bool.and_eq_true] at hb
    simp only [rzL, qa0] at h ⊢
    exact ⟨rz_ty h.1, zdt hwin _ _ hb.1 h.2.1, repE_rz_aux hwin _ _ _ hb.2 h.2.2⟩
end
end
section
variable {P : Program}
theorem O_trim_not {c : Cx} (hr : HR P c) {n k b : Nat} {e : Entry} (hk : n ≤ k) (he : c.h[k]? = some e) (hl : Live e) (hb : c.κ k = some b) : ¬ (ybd c n).O b := by
  rintro ⟨j, x, hx, hst, hj⟩
  have hjn : j < n ∧ c.h[j]? = some x := by
    simp only [ybd, List.getElem?_take] at hx
    split at hx
    · exact ⟨‹_›, hx⟩
    · cases hx
  rcases hl with hown | hfz
  · have := hr.apart j k x e b hjn.2 he hst hown hj hb
    omega
  · exact (hr.blk k e he (.inr hfz)).fz hb hfz ⟨j, x, hjn.2, hst, hj⟩
theorem rep_rz (hP : WF P) {c : Cx} (hr : HR P c) {n : Nat} : ∀ (a : AV) (cs : List Value), zan n (rz c.h n a) = true → Rep P c a cs → Rep P (ybd c n) (rz c.h n a) cs := by
  have hwin : ∀ (k : Nat) (p : List Nat) (T : TypeId) (fr m lo : Nat) (cs : List Value), zan n (rz c.h n (.win k p T fr m lo)) = true → Rep P c (.win k p T fr m lo) cs → Rep P (ybd c n) (rz c.h n (.win k p T fr m lo)) cs := by
    intro k p T fr m lo cs hb h
    simp only [rz] at hb ⊢
    split at hb
    · rename_i hkn
      rw [if_pos hkn]
      split at hb
      · rename_i e he
        try simp only [he]
        split at hb
        · rename_i hlv
          rw [if_pos hlv]
          split at hb
          · rename_i ys hg
            try simp only [hg]
            have hvv : ∃ v, cs = [v] ∧ VV P c (.win k p T fr m lo) v := by
              have h' := h
              simp only [Rep] at h'
              obtain ⟨_, _, _, _, _, rfl, _⟩ := h'
              exact ⟨_, rfl, (zba rfl (by simp) (by simp)).2 ⟨rfl, h⟩⟩
            obtain ⟨v, rfl, hv⟩ := hvv
            obtain ⟨hlen, hread⟩ := zb9 hP hr hv he (qas hlv) hg
            rw [zc4] at hb
            obtain ⟨_, cap0, a0, _, _, rfl, _, hmc, _⟩ := yby hv
            simp only [Rep]
            refine ⟨a0, cap0, by rw [hlen], by omega, fun hne => ?_⟩
            have hm0 : m ≠ 0 := by rintro rfl; exact hne (List.eq_nil_of_length_eq_zero hlen)
            obtain ⟨b, off, C, mk, cap, hveq, hkb, hbk, _, _, _, _, hE⟩ := hread hm0
            simp only [Value.slice.injEq] at hveq
            exact ⟨b, off + fr * P.cellsOf T, C, e.T, mk, hveq.1, hbk, O_trim_not hr hkn he (qas hlv) hkb, repE_trim _ _ _ hb hE⟩
          · rename_i hg
            try simp only [hg]
            exact ya7 _ _ hb h
        · rename_i hlv
          rw [if_neg hlv]
          exact ya7 _ _ hb h
      · rename_i he
        try simp only [he]
        exact ya7 _ _ hb h
    · rename_i hkn
      rw [if_neg hkn]
      exact ya7 _ _ hb h
  exact zdt hwin
end
end Go.Abs
set_option linter.all false
namespace Go.Abs
open Go
section
variable {P : Program}
theorem junk_below {n : Nat} {a : AV} (h : isJ a = true) : zan n a = true := by
  cases a <;> try (simp [isJ] at h)
  · rename_i vs
    cases vs with
    | nil => rfl
    | cons _ _ => simp [isJ] at h
  · rfl
mutual
theorem yct {c : Cx} : ∀ (a : AV) (cs : List Value), Rep P c a cs → zan c.h.length a = true
  | .int .., cs, h => rfl
  | .bool .., cs, h => rfl
  | .str .., cs, h => rfl
  | .agg T vs, cs, h => by
    simp only [Rep] at h
    simp only [zan]
    have h2 := h.2
    split at h2
    · exact repF_below _ _ _ h2
    · exact yce _ _ _ h2.2
    · exact h2.elim
  | .list T es, cs, h => by
    simp only [Rep] at h
    simp only [zan]
    obtain ⟨a, cap, rfl, hc, h⟩ := h
    by_cases he : es = []
    · subst he; rfl
    · obtain ⟨b, off, C, Te, m, ha, hbk, hO, hr⟩ := h he
      exact yce _ _ _ hr
  | .win k p T fr m lo, cs, h => by
    simp only [Rep] at h
    obtain ⟨e, _, _, he, _⟩ := h
    simpa only [zan, decide_eq_true_eq] using (List.getElem?_eq_some_iff.1 he).1
  | .ref k p T, cs, h => by
    simp only [Rep] at h
    obtain ⟨e, _, _, he, _⟩ := h
    simpa only [zan, decide_eq_true_eq] using (List.getElem?_eq_some_iff.1 he).1
  | .eref T v, cs, h => by
    simp only [Rep] at h
    simp only [zan]
    obtain ⟨b, off, C, Te, m, rfl, hbk, hO, ht, hr⟩ := h
    exact yct _ _ hr
  | .nilptr, cs, h => rfl
  | .fn f caps, cs, h => by
    simp only [Rep] at h
    simp only [zan]
    rcases h with ⟨h0, h1, vs, rfl, hv⟩ | ⟨h0, l, L, rfl, hl, hO, h1, h2, h3, h4⟩
    · exact repV_below _ _ hv
    · exact repS_below _ _ h4
  | .nilfn, cs, h => rfl
  | .nils, cs, h => rfl
  | .tup _, cs, h => by simp only [Rep] at h
  | .junk, cs, h => by simp only [Rep] at h
theorem repF_below {c : Cx} : ∀ (vs : List AV) (fs : List (TypeId × Nat)) (cs : List Value), zb1 P c vs fs cs → yas c.h.length vs = true
  | [], fs, cs, h => rfl
  | v :: vs, fs, cs, h => by
    simp only [zb1] at h
    obtain ⟨f, r, rfl, h1, h2, h3⟩ := h
    simp only [yas, yct _ _ h2, repF_below _ _ _ h3, Bool.and_self]
theorem yce {c : Cx} : ∀ (vs : List AV) (T : TypeId) (cs : List Value), qa0 P c vs T cs → yas c.h.length vs = true
  | [], T, cs, h => rfl
  | v :: vs, T, cs, h => by
    simp only [qa0] at h
    simp only [yas, yct _ _ h.2.1, yce _ _ _ h.2.2, Bool.and_self]
theorem repV_below {c : Cx} : ∀ (as : List AV) (vs : List Value), ya2 P c as vs → yas c.h.length as = true
  | [], vs, h => rfl
  | a :: as, vs, h => by
    simp only [ya2] at h
    obtain ⟨v, r, rfl, h1, h2, h3⟩ := h
    simp only [yas, yct _ _ h2, repV_below _ _ h3, Bool.and_self]
theorem repS_below {c : Cx} : ∀ (as : List AV) (vs : List Value), zdx P c as vs → yas c.h.length as = true
  | [], vs, h => rfl
  | a :: as, vs, h => by
    simp only [zdx] at h
    obtain ⟨v, r, rfl, h1, h3⟩ := h
    simp only [yas, repS_below _ _ h3, Bool.and_true]
    rcases h1 with h1 | ⟨_, _, h4⟩
    · exact junk_below h1
    · exact yct _ _ h4
end
theorem FSpec.trim (hP : WF P) {f : FuncId} {args : List AV} {h : List Entry} {K K' : AV → List Entry → Prop} (hs : FSpec P f args h K)
    (hk : ∀ r h', K r h' → (∀ k e, k < h.length → h'[k]? = some e → h[k]? = some e ∨ yas h.length e.es = true) ∧ zah r = true ∧ zan h.length (rz h' h.length r) = true ∧ K' (rz h' h.length r) (h'.take h.length)) :
    FSpec P f args h K' := by
  refine ⟨hs.1, fun κ w vs hr hv => (hs.2 κ w vs hr hv).mono ?_⟩
  rintro e w' ⟨v, r, h', κ', rfl, h1, h2, h3, h4⟩
  obtain ⟨g1, g2, g3, g4⟩ := hk r h' h4
  have hcl : ∀ k e, k < h.length → h'[k]? = some e → Live e → e.es.all (zan h.length) = true := by
    intro k e hkl he hl
    rw [← zb2]
    rcases g1 k e hkl he with hold | hb
    · rcases hr.blk k e hold hl with ⟨_, hnil, _⟩ | ⟨b, C, m, _, _, _, _, _, hE⟩
      · rw [hnil]; rfl
      · exact yce (c := ⟨κ, h, w⟩) _ _ _ hE
    · exact hb
  have hr' := hr_trim (n := h.length) h1 hcl
  obtain ⟨p1, p2⟩ := qb4 h3 g2
  refine ⟨v, rz h' h.length r, h'.take h.length, κ', rfl, hr', ?_, ?_, g4⟩
  · exact ⟨h2.os, h2.tape, h2.output, h2.size, h2.frozen, h2.shape, fun b hb hO => h2.own b hb (O_trim (c := ⟨κ', h', w'⟩) hO), fun k x hx hn => by
      obtain ⟨n1, x', n2, n3, n4, n5⟩ := h2.names k x hx hn
      have hkl := (List.getElem?_eq_some_iff.1 hx).1
      exact ⟨n1, x', by simp only [List.getElem?_take, if_pos hkl]; exact n2, n3, n4, n5⟩⟩
  · exact qb2 (by rw [rz_isAgg]; exact p1) (rep_rz (c := ⟨κ', h', w'⟩) hP h1 r _ g3 p2)
theorem FSpec.trim_tup (hP : WF P) {f : FuncId} {args : List AV} {h : List Entry} {K K' : AV → List Entry → Prop} (hs : FSpec P f args h K)
    (hk : ∀ r h', K r h' → (∀ k e, k < h.length → h'[k]? = some e → h[k]? = some e ∨ yas h.length e.es = true) ∧ ∃ l, r = .tup l ∧ yas h.length (rzL h' h.length l) = true ∧ K' (.tup (rzL h' h.length l)) (h'.take h.length)) :
    FSpec P f args h K' := by
  refine ⟨hs.1, fun κ w vs hr hv => (hs.2 κ w vs hr hv).mono ?_⟩
  rintro e w' ⟨v, r, h', κ', rfl, h1, h2, h3, h4⟩
  obtain ⟨g1, l, rfl, g3, g4⟩ := hk r h' h4
  have hcl : ∀ k e, k < h.length → h'[k]? = some e → Live e → e.es.all (zan h.length) = true := by
    intro k e hkl he hl
    rw [← zb2]
    rcases g1 k e hkl he with hold | hb
    · rcases hr.blk k e hold hl with ⟨_, hnil, _⟩ | ⟨b, C, m, _, _, _, _, _, hE⟩
      · rw [hnil]; rfl
      · exact yce (c := ⟨κ, h, w⟩) _ _ _ hE
    · exact hb
  have hr' := hr_trim (n := h.length) h1 hcl
  simp only [VV] at h3
  obtain ⟨vl, rfl, hvl⟩ := h3
  have key : ∀ (l : List AV) (vl : List Value), yas h.length (rzL h' h.length l) = true → ya2 P ⟨κ', h', w'⟩ l vl → ya2 P (ybd ⟨κ', h', w'⟩ h.length) (rzL h' h.length l) vl := by
    intro l
    induction l with
    | nil => intro vl _ h; simpa only [rzL, ya2] using h
    | cons a l ih =>
      intro vl hb h
      simp only [rzL, yas, Bool.and_eq_true] at hb
      simp only [rzL, ya2] at h ⊢
      obtain ⟨x, r, rfl, q1, q2, q3⟩ := h
      exact ⟨x, r, rfl, by rw [rz_isAgg]; exact q1, rep_rz (c := ⟨κ', h', w'⟩) hP h1 a _ hb.1 q2, ih r hb.2 q3⟩
  refine ⟨_, .tup (rzL h' h.length l), h'.take h.length, κ', rfl, hr', ?_, ?_, g4⟩
  · exact ⟨h2.os, h2.tape, h2.output, h2.size, h2.frozen, h2.shape, fun b hb hO => h2.own b hb (O_trim (c := ⟨κ', h', w'⟩) hO), fun k x hx hn => by
      obtain ⟨n1, x', n2, n3, n4, n5⟩ := h2.names k x hx hn
      have hkl := (List.getElem?_eq_some_iff.1 hx).1
      exact ⟨n1, x', by simp only [List.getElem?_take, if_pos hkl]; exact n2, n3, n4, n5⟩⟩
  · simp only [VV]
    exact ⟨vl, rfl, key l vl g3 hvl⟩
def AEx.fin : AEx → Bool
  | .normal => true
  | .ret => true
  | _ => false
def zaz : Nat → List AV → List Nat → List (Nat × AV)
  | _, [], ks => ks.map fun k => (k, .junk)
  | i, a :: as, ks => (i, a) :: zaz (i + 1) as ks
theorem lk_keys : ∀ (ks : List Nat) (t : Nat), lk (ks.map fun k => (k, AV.junk)) t = .junk
  | [], t => rfl
  | k :: ks, t => by
    simp only [List.map_cons, lk]
    split
    · rfl
    · exact lk_keys ks t
theorem lk_env0 : ∀ (as : List AV) (i : Nat) (ks : List Nat) (t : Nat), lk (zaz i as ks) t = if i ≤ t then (as[t - i]?).getD .junk else .junk
  | [], i, ks, t => by simp [zaz, lk_keys]
  | a :: as, i, ks, t => by
    simp only [zaz, lk, lk_env0 as (i + 1) ks t]
    by_cases h1 : i = t
    · subst h1
      simp
    · rw [if_neg h1]
      by_cases h2 : i + 1 ≤ t
      · rw [if_pos h2, if_pos (by omega)]
        rw [show t - i = (t - (i + 1)) + 1 by omega]
        simp
      · rw [if_neg h2, if_neg (by omega)]
theorem env0_er {c : Cx} {as : List AV} {vs : List Value} {ks : List Nat} {n : Nat} (h : ya2 P c as vs) : ER P c (zaz 0 as ks) (vs.toArray ++ Array.replicate n undef) := by
  intro t
  rw [lk_env0, if_pos (Nat.zero_le _), Nat.sub_zero]
  cases ht : as[t]? with
  | none => simp only [Option.getD_none, VV]
  | some a =>
    obtain ⟨v, hv, h1, h2⟩ := repV_get h ht
    have hlt := (List.getElem?_eq_some_iff.1 hv).1
    have : (vs.toArray ++ Array.replicate n undef).getD t undef = v := by
      rw [Array.getD_eq_getD_getElem?, Array.getElem?_append_left (by simpa using hlt)]
      simp [hv]
    rw [this]
    exact qb2 h1 h2
inductive VVs (P : Program) (c : Cx) : List AV → List Value → Prop
  | nil : VVs P c [] []
  | cons {a as v vs} : VV P c a v → VVs P c as vs → VVs P c (a :: as) (v :: vs)
theorem vvs_rep {c : Cx} {as : List AV} {vs : List Value} (h : VVs P c as vs) (hp : as.all zah = true) : ya2 P c as vs := by
  induction h with
  | nil => simp only [ya2]
  | cons h _ ih =>
    simp only [List.all_cons, Bool.and_eq_true] at hp
    simp only [ya2]
    obtain ⟨h1, h2⟩ := qb4 h hp.1
    exact ⟨_, _, rfl, h1, h2, ih hp.2⟩
def resOne (tmps : Array Value) : ResultVar → Sem Value
  | .tmp t => pure (tmps.getD t undef)
  | .cell p t => do loadVar t (← asAddr (tmps.getD p undef))
theorem one_mono {K K' : AV → Prop} (hk : ∀ r, K r → K' r) {l : List AV} (h : one K l) : one K' l := by
  match l, h with
  | [r], h => exact hk _ h
  | [], h => exact ⟨h.1, hk _ h.2⟩
  | _ :: _ :: _, h => exact ⟨h.1, hk _ h.2⟩
theorem ares_mono {env : List (Nat × AV)} {h : List Entry} : ∀ (rs : List ResultVar) {K K' : List AV → Prop}, (∀ l, K l → K' l) → ares P rs env h K → ares P rs env h K'
  | [], K, K', hk, h => hk _ h
  | .tmp t :: rs, K, K', hk, h => by
    simp only [ares] at h ⊢
    exact ares_mono rs (fun l hl => hk _ hl) h
  | .cell p T :: rs, K, K', hk, h => by
    simp only [ares] at h ⊢
    exact Stp.wp_mono (fun r _ hh => ares_mono rs (fun l hl => hk _ hl) hh) h
theorem ydw (hP : WF P) {B n : Nat} {c : Cx} {env : List (Nat × AV)} {a : Act} (hs : St P B n c env a) : ∀ (rs : List ResultVar) (K : List AV → Prop), ares P rs env c.h K →
    ∃ avs vs, VVs P c avs vs ∧ K avs ∧ (rs.mapM (resOne a.tmps)).run P c.w = .ok vs c.w
  | [], K, h => ⟨[], [], .nil, h, by simp⟩
  | .tmp t :: rs, K, h => by
    simp only [ares] at h
    obtain ⟨avs, vs, h1, h2, h3⟩ := ydw hP hs rs _ h
    refine ⟨lk env t :: avs, a.tmps.getD t undef :: vs, .cons (hs.er t) h1, h2, ?_⟩
    rw [List.mapM_cons, Sem.run_bind]
    simp only [resOne, Sem.run_pure, Result.andThen_ok, Sem.run_bind, h3]
  | .cell p T :: rs, K, h => by
    simp only [ares] at h
    obtain ⟨r, wr, h1, h2⟩ := Stp.wp_run h
    obtain ⟨rfl, u, h3, h4⟩ := load_sound hP hs.hr (hs.er p) h1
    obtain ⟨avs, vs, h5, h6, h7⟩ := ydw hP hs rs _ h2
    refine ⟨r :: avs, u :: vs, .cons h4 h5, h6, ?_⟩
    have haddr : (asAddr (a.tmps.getD p undef)).run P c.w = (Instr.sureAddr (a.tmps.getD p undef)).run P c.w ∧ ∃ x, (Instr.sureAddr (a.tmps.getD p undef)).run P c.w = .ok x c.w ∧ (loadVar T x).run P c.w = .ok u c.w := by
      simp only [Instr.loadAt, Sem.run_bind] at h3
      generalize a.tmps.getD p undef = z at h3 ⊢
      cases z <;> simp only [Instr.sureAddr, run_stuck, Result.andThen_halt, reduceCtorEq] at h3
      rename_i q
      cases q with
      | none => simp at h3
      | some q =>
        simp only [Sem.run_pure, Result.andThen_ok] at h3
        exact ⟨rfl, q, rfl, h3⟩
    obtain ⟨g1, x, g2, g3⟩ := haddr
    rw [List.mapM_cons, Sem.run_bind]
    simp only [resOne, Sem.run_bind, g1, g2, Result.andThen_ok, g3, h7, Sem.run_pure]
theorem results_eq {fn : Func} {tmps : Array Value} {w : World} {vs : List Value} (h : (fn.results.toList.mapM (resOne tmps)).run P w = .ok vs w) :
    (results fn tmps).run P w = .ok (if h : vs.toArray.size = 1 then vs.toArray[0] else .tuple vs.toArray) w := by
  have e : results fn tmps = (do
      let vs ← fn.results.mapM (resOne tmps)
      pure (if h : vs.size = 1 then vs[0] else .tuple vs)) := by
    unfold results
    congr
  rw [e, Sem.run_bind, Array.mapM_eq_mapM_toList, map_eq_pure_bind, Sem.run_bind, h]
  simp only [Result.andThen_ok, Sem.run_pure]
theorem one_sound {c : Cx} {K : AV → Prop} {avs : List AV} {vs : List Value} (h : VVs P c avs vs) (hk : one K avs) : ∃ r, VV P c r (if h : vs.toArray.size = 1 then vs.toArray[0] else .tuple vs.toArray) ∧ K r := by
  cases h with
  | nil =>
    simp only [one] at hk
    exact ⟨.tup [], by simp only [VV]; exact ⟨[], rfl, by simp only [ya2]⟩, hk.2⟩
  | cons h1 h2 =>
    cases h2 with
    | nil => exact ⟨_, by simpa using h1, hk⟩
    | cons h3 h4 =>
      simp only [one] at hk
      refine ⟨_, ?_, hk.2⟩
      have := vvs_rep (.cons h1 (.cons h3 h4)) hk.1
      simp only [VV]
      exact ⟨_, by simp, this⟩
theorem ydy (hP : WF P) {fn : Func} {K : AV → List Entry → Prop} {c0 : Cx} {env' : List (Nat × AV)} {tmps : Array Value} {h' : List Entry} {n : Nat} (h6 : ares P fn.results.toList env' h' (one fun r => K r h')) :
    ∀ (M : List Nat) (c : Cx), HR P c → ER P c env' tmps → tmps.size = n → M.Nodup → (∀ r ∈ M, c0.w.heap.size ≤ r ∧ c.w.heap[r]? = some (.deferred (some [])) ∧ ¬ c.O r) → Ext c0 c → (hh : c.h = h' := by rfl) →
      LeavesInM (Fr none) 0 P fn tmps (fun e w' => ∃ (v : Value) (r : AV) (h' : List Entry) (κ' : Nat → Option Nat), e = .returned v ∧ HR P ⟨κ', h', w'⟩ ∧ Ext c0 ⟨κ', h', w'⟩ ∧ VV P ⟨κ', h', w'⟩ r v ∧ K r h') (M.map mark) .returning c.w
  | [], c, hr, he, hn, _, _, hx, hh => by
    subst hh
    have hst : St P 0 n c env' { tmps := tmps, defers := [] } := ⟨hr, he, hn, ⟨[], rfl, List.nodup_nil, fun r hr => by cases hr⟩, Nat.zero_le _⟩
    obtain ⟨avs, vs', g1, g2, g3⟩ := ydw hP hst _ _ h6
    obtain ⟨r, g4, g5⟩ := one_sound g1 g2
    have hres := results_eq (P := P) (fn := fn) (tmps := tmps) g3
    simp only [List.map_nil, LeavesInM, LeavesIn]
    exact ⟨_, hres, _, r, c.h, c.κ, rfl, hr, hx, g4, g5⟩
  | r :: M, c, hr, he, hn, hnd, hm, hx, hh => by
    subst hh
    obtain ⟨m1, m2, m3⟩ := hm r (by simp)
    rw [List.nodup_cons] at hnd
    simp only [List.map_cons, LeavesInM]
    refine ⟨by simp, .inl ⟨r, ya0 c.w r (.deferred none), rfl, run_takeDeferred m2, ?_⟩⟩
    have x : Cls true c { c with w := ya0 c.w r (.deferred none) } := cls_put m2 (by simp) (by simp)
    refine ydy hP h6 M { c with w := ya0 c.w r (.deferred none) } (hr_cls x hr) (fun t => vv_cls x (he t)) hn hnd.2 (fun q hq => ?_) ?_ rfl
    · obtain ⟨q1, q2, q3⟩ := hm q (by simp [hq])
      have : q ≠ r := by rintro rfl; exact hnd.1 hq
      exact ⟨q1, (yan this).trans q2, by rw [x.O]; exact q3⟩
    · refine ⟨hx.os, hx.tape, hx.output, by rw [putBlk_size]; exact hx.size, fun j hj hn => ?_, fun j C T m hj => ?_, hx.own, hx.names⟩
      · rw [yan (by omega)]; exact hx.frozen j hj hn
      · have := qag hj
        rw [yan (by omega)]; exact hx.shape j C T m hj
theorem fspec_code (hP : WF P) {f : FuncId} {fn : Func} {x : Code} {args : List AV} {h : List Entry} {K : AV → List Entry → Prop} (ks : List Nat) (hf : P.funcs[f]? = some fn) (hb : fn.body = some x) (hc : ycb P f = true)
    (hok : ybg fn.ntmps x = true) (hn : args.length ≤ fn.ntmps) (hw : awp P x (zaz 0 args ks) h fun e env' h' => e.fin = true ∧ ares P fn.results.toList env' h' (one fun r => K r h')) : FSpec P f args h K := by
  refine ⟨hc, fun κ w vs hr hv => calls_fr (r := none) (n := 0) (callsIn_of_wp_marks hf hb trivial ?_)⟩
  have hlen : vs.length = args.length := by
    have : ∀ (as : List AV) (vs : List Value), ya2 P ⟨κ, h, w⟩ as vs → vs.length = as.length := by
      intro as
      induction as with
      | nil => intro vs h; simp only [ya2] at h; subst h; rfl
      | cons a as ih => intro vs h; simp only [ya2] at h; obtain ⟨v, r, rfl, _, _, h3⟩ := h; simp [ih r h3]
    exact this _ _ hv
  have hs : St P w.heap.size fn.ntmps ⟨κ, h, w⟩ (zaz 0 args ks) { tmps := vs.toArray ++ Array.replicate (fn.ntmps - vs.toArray.size) undef, defers := [] } :=
    ⟨hr, env0_er hv, by simp; omega, ⟨[], rfl, List.nodup_nil, fun r hr => by cases hr⟩, Nat.le_refl _⟩
  refine wpIn_mono (yb8 hP x ⟨κ, h, w⟩ _ _ _ hok (.inl rfl) hs hw) ?_
  rintro e a' w' ⟨ae, env', c', h1, rfl, h3, h4, h5, h6⟩
  have key : LeavesInM (Fr none) 0 P fn a'.tmps (fun e w' => ∃ (v : Value) (r : AV) (h' : List Entry) (κ' : Nat → Option Nat), e = .returned v ∧ HR P ⟨κ', h', w'⟩ ∧ Ext ⟨κ, h, w⟩ ⟨κ', h', w'⟩ ∧ VV P ⟨κ', h', w'⟩ r v ∧ K r h') a'.defers .returning c'.w := by
    obtain ⟨M, m1, m2, m3⟩ := h3.defers
    rw [m1]
    exact ydy hP h6 M c' h3.hr h3.er h3.size m2 m3 h4
  cases e with
  | normal => exact key
  | ret => exact key
  | exit i => cases ae <;> simp only [AEx.is] at h1; simp [AEx.fin] at h5
  | goto l => cases ae <;> simp only [AEx.is] at h1
  | panic ch => cases ae <;> simp only [AEx.is] at h1
  | outgrown => cases ae <;> simp only [AEx.is] at h1
theorem pure_code (hP : WF P) {f : FuncId} {fn : Func} {x : Code} {args : List AV} {R : AV → Prop} (ks : List Nat) (hf : P.funcs[f]? = some fn) (hb : fn.body = some x) (hc : ycb P f = true)
    (hok : ybg fn.ntmps x = true) (hn : args.length ≤ fn.ntmps) (hw : ∀ h, awp P x (zaz 0 args ks) h fun e env' h' => e.fin = true ∧ h'.take h.length = h ∧ ares P fn.results.toList env' h' (one fun r => zah r = true ∧ zan h.length (rz h' h.length r) = true ∧ R (rz h' h.length r))) :
    zbp P f args R := by
  intro h
  have h1 : FSpec P f args h fun r h' => h'.take h.length = h ∧ zah r = true ∧ zan h.length (rz h' h.length r) = true ∧ R (rz h' h.length r) := by
    refine fspec_code hP ks hf hb hc hok hn ?_
    refine yb0 x _ _ ?_ (hw h)
    rintro e env' h' ⟨g1, g2, g3⟩
    refine ⟨g1, ares_mono _ ?_ g3⟩
    intro l hl
    exact one_mono (fun r hr => ⟨g2, hr⟩) hl
  refine h1.trim hP ?_
  rintro r h' ⟨g1, g2, g3, g4⟩
  refine ⟨fun k e hk he => .inl ?_, g2, g3, g1, g4⟩
  have : (h'.take h.length)[k]? = h[k]? := by rw [g1]
  rw [List.getElem?_take, if_pos hk, he] at this
  exact this.symm
end
end Go.Abs
