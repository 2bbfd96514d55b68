/- Abs19: a part of the proofs about the tuple space (layer 8). -/
import Derived.Test.YtelohjfiojpeeaaAbs18
set_option linter.all false
namespace Go.Abs
open Go
section
variable {P : Program}

/-! ### Code -/
inductive AEx where
  | normal
  | exit (id : Nat)
  | ret
  deriving DecidableEq

def AEx.is : AEx → Exit → Prop
  | .normal, .normal => True
  | .exit i, .exit j => i = j
  | .ret, .ret => True
  | _, _ => False

abbrev APost := AEx → List (Nat × AV) → List Entry → Prop

/-- A loop: some law of its rounds, counted up to N. -/
def ALoop (B : List (Nat × AV) → List Entry → APost → Prop) (env : List (Nat × AV)) (h : List Entry) (Q : APost) : Prop :=
  ∃ (I : Nat → List (Nat × AV) → List Entry → Prop) (N : Nat), I 0 env h ∧ ∀ i env h, I i env h → i ≤ N ∧ B env h fun e env' h' => match e with
    | .normal => I (i + 1) env' h'
    | e => Q e env' h'

def awp (P : Program) : Code → List (Nat × AV) → List Entry → APost → Prop
  | .skip, env, h, Q => Q .normal env h
  | .region _ ops draw, env, h, Q => match draw with
    | false => aops P ops.toList ops.toList env h fun env' h' => Q .normal (env'.take env.length) h'
    | true => adraw P ops.toList env h fun env' h' => Q .normal (env'.take env.length) h'
  | .seq x y, env, h, Q => awp P x env h fun e env' h' => match e with
    | .normal => awp P y env' h' Q
    | .exit i => Q (.exit i) env' h'
    | .ret => Q .ret env' h'
  | .cond c x y, env, h, Q => match ev env c with
    | .bool t => (t = true → awp P x env h Q) ∧ (t = false → awp P y env h Q)
    | _ => False
  | .block id x, env, h, Q => awp P x env h fun e env' h' => match e with
    | .normal => Q .normal env' h'
    | .exit i => if i = id then Q .normal env' h' else Q (.exit i) env' h'
    | .ret => Q .ret env' h'
  | .loop x, env, h, Q => ALoop (awp P x) env h Q
  | .exit i, env, h, Q => Q (.exit i) env h
  | .ret, env, h, Q => Q .ret env h
  | .label _, env, h, Q => Q .normal env h
  | _, _, _, _ => False

theorem Stp.wp_mono {h : List Entry} {K K' : AV → List Entry → Prop} (hk : ∀ r h', K r h' → K' r h') : ∀ {s : Stp}, s.wp h K → s.wp h K'
  | .fail, hw => hw
  | .ret v wr, hw => hk _ _ hw
  | .rd k f, hw => by
    simp only [Stp.wp] at hw ⊢
    cases he : h[k]? with
    | none => rw [he] at hw; exact hw
    | some e => rw [he] at hw; exact Stp.wp_mono hk hw

theorem opwp_mono {env : List (Nat × AV)} {h : List Entry} {o : Op} {K K' : AV → List Entry → Prop} (hk : ∀ r h', K r h' → K' r h') (hw : opwp P env h o K) : opwp P env h o K' := by
  unfold opwp at hw ⊢
  split at hw
  · split at hw
    · exact ⟨hw.1, hw.2.1, hw.2.2.imp (fun h => h.mono hk) fun h => h.mono hk⟩
    · exact hw
  · split at hw
    · exact ⟨fun h => hk _ _ (hw.1 h), fun h => hk _ _ (hw.2 h)⟩
    · exact hw
  · split at hw
    · rename_i hn
      rw [if_pos hn]
      split at hw
      · exact ⟨hw.1, fun b hb => hk _ _ (hw.2 b hb)⟩
      · exact ⟨hw.1, fun b hb => hk _ _ (hw.2 b hb)⟩
      · exact hw
    · rename_i hn
      rw [if_neg hn]
      exact Stp.wp_mono hk hw
  · split at hw
    · rename_i hn; rw [if_pos hn]; exact Stp.wp_mono hk hw
    · rename_i hn; rw [if_neg hn]; exact Stp.wp_mono hk hw

theorem aops_mono {ops : List Oper} {K K' : List (Nat × AV) → List Entry → Prop} (hk : ∀ r h', K r h' → K' r h') : ∀ (l : List Oper) (env : List (Nat × AV)) (h : List Entry), aops P ops l env h K → aops P ops l env h K'
  | [], env, h, hw => hk _ _ hw
  | o :: rest, env, h, hw => by
    simp only [aops] at hw ⊢
    split at hw
    · exact opwp_mono (fun r h' hh => aops_mono hk rest _ _ hh) hw
    · split at hw
      · exact hw
      · split at hw
        · exact ⟨fun hb => opwp_mono (fun r h' hh => aops_mono hk rest _ _ hh) (hw.1 hb), fun hb => aops_mono hk rest _ _ (hw.2 hb)⟩
        · exact aops_mono hk rest _ _ hw
        · exact hw

theorem awp_mono : ∀ (x : Code) (env : List (Nat × AV)) (h : List Entry) {Q Q' : APost}, (∀ e env' h', Q e env' h' → Q' e env' h') → awp P x env h Q → awp P x env h Q'
  | .skip, env, h, Q, Q', hq, hw => hq _ _ _ hw
  | .label _, env, h, Q, Q', hq, hw => hq _ _ _ hw
  | .exit _, env, h, Q, Q', hq, hw => hq _ _ _ hw
  | .ret, env, h, Q, Q', hq, hw => hq _ _ _ hw
  | .region id ops draw, env, h, Q, Q', hq, hw => by
    cases draw with
    | false => simp only [awp] at hw ⊢; exact aops_mono (fun r h' hh => hq _ _ _ hh) _ _ _ hw
    | true => simp only [awp] at hw ⊢; exact adraw_mono (fun r h' hh => hq _ _ _ hh) hw
  | .seq x y, env, h, Q, Q', hq, hw => by
    simp only [awp] at hw ⊢
    refine awp_mono x env h ?_ hw
    intro e env' h' hh
    cases e with
    | normal => exact awp_mono y env' h' hq hh
    | exit i => exact hq _ _ _ hh
    | ret => exact hq _ _ _ hh
  | .cond t x y, env, h, Q, Q', hq, hw => by
    simp only [awp] at hw ⊢
    split at hw
    · exact ⟨fun hb => awp_mono x env h hq (hw.1 hb), fun hb => awp_mono y env h hq (hw.2 hb)⟩
    · exact hw
  | .block id x, env, h, Q, Q', hq, hw => by
    simp only [awp] at hw ⊢
    refine awp_mono x env h ?_ hw
    intro e env' h' hh
    cases e with
    | normal => exact hq _ _ _ hh
    | exit i =>
      simp only at hh ⊢
      split at hh
      · rename_i hi; rw [if_pos hi]; exact hq _ _ _ hh
      · rename_i hi; rw [if_neg hi]; exact hq _ _ _ hh
    | ret => exact hq _ _ _ hh
  | .loop x, env, h, Q, Q', hq, hw => by
    simp only [awp, ALoop] at hw ⊢
    obtain ⟨I, N, h0, hr⟩ := hw
    refine ⟨I, N, h0, fun i env h hI => ⟨(hr i env h hI).1, awp_mono x env h ?_ (hr i env h hI).2⟩⟩
    intro e env' h' hh
    cases e with
    | normal => exact hh
    | exit i => exact hq _ _ _ hh
    | ret => exact hq _ _ _ hh
  | .rangeFunc .., env, h, Q, Q', hq, hw => by simp only [awp] at hw
  | .scope _, env, h, Q, Q', hq, hw => by simp only [awp] at hw
  | .goto _, env, h, Q, Q', hq, hw => by simp only [awp] at hw
  | .refuse _, env, h, Q, Q', hq, hw => by simp only [awp] at hw

def codeOK (n : Nat) : Code → Bool
  | .region _ ops _ => ops.toList.all (dstOK n)
  | .seq x y => codeOK n x && codeOK n y
  | .cond _ x y => codeOK n x && codeOK n y
  | .block _ x => codeOK n x
  | .loop x => codeOK n x
  | _ => true

/-- What the model's code comes to. -/
def CPost (P : Program) (n : Nat) (c : Cx) (Q : APost) : Exit → Act → World → Prop := fun e a' w' =>
  ∃ (ae : AEx) (env' : List (Nat × AV)) (c' : Cx), ae.is e ∧ c'.w = w' ∧ St P n c' env' a' ∧ Ext c c' ∧ Q ae env' c'.h

theorem St.take {n m : Nat} {c : Cx} {env : List (Nat × AV)} {a : Act} (h : St P n c env a) : St P n c (env.take m) a := by
  refine ⟨h.hr, fun t => ?_, h.size, h.defers⟩
  rcases lk_take m env t with e | e
  · rw [e]; exact h.er t
  · rw [e]; simp only [VV]

theorem loop_key {n : Nat} {x : Code} {Q : APost} {I : Nat → List (Nat × AV) → List Entry → Prop} {N : Nat} {c0 : Cx}
    (hround : ∀ (i : Nat) (c : Cx) (env : List (Nat × AV)) (a : Act), St P n c env a → Ext c0 c → I i env c.h → i ≤ N ∧ x.wp P (CPost P n c fun e env' h' => match e with | .normal => I (i + 1) env' h' | e => Q e env' h') a c.w) :
    ∀ (m i : Nat) (c : Cx) (env : List (Nat × AV)) (a : Act), N - i = m → St P n c env a → Ext c0 c → I i env c.h → ∀ (b : Frame) (k : List Item) (cs : List Frame),
      ∃ e a' w', CPost P n c0 Q e a' w' ∧ Arrives P (lone (b.at a (.code x :: .inLoop x :: k)) cs c.w) b k cs e a' w' := by
  intro m
  induction m using Nat.strongRecOn with
  | _ m ih =>
    intro i c env a hm hs hx hI b k cs
    obtain ⟨hiN, hw⟩ := hround i c env a hs hx hI
    obtain ⟨e, a1, w1, ⟨ae, env1, c1, h1, rfl, h3, h4, h5⟩, harr⟩ := hw b (.inLoop x :: k) cs
    cases e with
    | normal =>
      cases ae <;> simp only [AEx.is] at h1
      simp only at h5
      have hlt : N - (i + 1) < m := by
        have := (hround (i + 1) c1 env1 a1 h3 (hx.trans h4) h5).1
        omega
      obtain ⟨e2, a2, w2, hq2, harr2⟩ := ih _ hlt (i + 1) c1 env1 a1 rfl h3 (hx.trans h4) h5 b k cs
      exact ⟨e2, a2, w2, hq2, .of_steps (Steps.trans harr (.one step_inLoop)) harr2⟩
    | exit id =>
      cases ae <;> simp only [AEx.is] at h1
      subst h1
      exact ⟨.exit _, a1, c1.w, ⟨.exit _, env1, c1, rfl, rfl, h3, hx.trans h4, h5⟩, .pass (x := .inLoop x) rfl (fun _ _ => .inl (by simp)) harr⟩
    | ret =>
      cases ae <;> simp only [AEx.is] at h1
      exact ⟨.ret, a1, c1.w, ⟨.ret, env1, c1, trivial, rfl, h3, hx.trans h4, h5⟩, .pass (x := .inLoop x) rfl (fun _ _ => .inl (by simp)) harr⟩
    | goto l => cases ae <;> simp only [AEx.is] at h1
    | panic ch => cases ae <;> simp only [AEx.is] at h1
    | outgrown => cases ae <;> simp only [AEx.is] at h1

theorem awp_sound (hP : WF P) {n : Nat} : ∀ (x : Code) (c : Cx) (env : List (Nat × AV)) (a : Act) (Q : APost), codeOK n x = true → St P n c env a → awp P x env c.h Q → x.wp P (CPost P n c Q) a c.w
  | .skip, c, env, a, Q, _, hs, hw => wp_skip ⟨.normal, env, c, trivial, rfl, hs, Ext.refl c, hw⟩
  | .label _, c, env, a, Q, _, hs, hw => wp_label ⟨.normal, env, c, trivial, rfl, hs, Ext.refl c, hw⟩
  | .exit i, c, env, a, Q, _, hs, hw => wp_exit ⟨.exit i, env, c, rfl, rfl, hs, Ext.refl c, hw⟩
  | .ret, c, env, a, Q, _, hs, hw => wp_ret ⟨.ret, env, c, trivial, rfl, hs, Ext.refl c, hw⟩
  | .region id ops draw, c, env, a, Q, hok, hs, hw => by
    simp only [codeOK, List.all_eq_true] at hok
    cases draw with
    | false =>
      simp only [awp] at hw
      refine wp_region_list (aops_sound hP hok ops.toList c env a hok hs hw ?_)
      intro a' c' env' s x k
      exact ⟨.normal, _, c', trivial, rfl, s.take, x, k⟩
    | true =>
      simp only [awp] at hw
      refine adraw_sound hP hok hs hw ?_
      intro a' c' env' s x k
      exact ⟨.normal, _, c', trivial, rfl, s.take, x, k⟩
  | .seq x y, c, env, a, Q, hok, hs, hw => by
    simp only [codeOK, Bool.and_eq_true] at hok
    simp only [awp] at hw
    refine wp_seq (wp_mono (awp_sound hP x c env a _ hok.1 hs hw) ?_)
    rintro e a' w' ⟨ae, env', c', h1, rfl, h3, h4, h5⟩
    cases e with
    | normal =>
      cases ae <;> simp only [AEx.is] at h1
      refine wp_mono (awp_sound hP y c' env' a' Q hok.2 h3 h5) ?_
      rintro e2 a2 w2 ⟨ae2, env2, c2, g1, g2, g3, g4, g5⟩
      exact ⟨ae2, env2, c2, g1, g2, g3, h4.trans g4, g5⟩
    | exit i => cases ae <;> simp only [AEx.is] at h1; subst h1; exact ⟨.exit _, env', c', rfl, rfl, h3, h4, h5⟩
    | ret => cases ae <;> simp only [AEx.is] at h1; exact ⟨.ret, env', c', trivial, rfl, h3, h4, h5⟩
    | goto l => cases ae <;> simp only [AEx.is] at h1
    | panic ch => cases ae <;> simp only [AEx.is] at h1
    | outgrown => cases ae <;> simp only [AEx.is] at h1
  | .cond t x y, c, env, a, Q, hok, hs, hw => by
    simp only [codeOK, Bool.and_eq_true] at hok
    simp only [awp] at hw
    have hv := ev_vv hs.er t
    cases hb : ev env t <;> rw [hb] at hw hv <;> try exact hw.elim
    rename_i b
    have hv := vv_bool hv
    refine wp_cond_split hv (fun h => ?_) (fun h => ?_)
    · exact awp_sound hP x c env a Q hok.1 hs (hw.1 h)
    · exact awp_sound hP y c env a Q hok.2 hs (hw.2 h)
  | .block id x, c, env, a, Q, hok, hs, hw => by
    simp only [codeOK] at hok
    simp only [awp] at hw
    refine wp_block (wp_mono (awp_sound hP x c env a _ hok hs hw) ?_)
    rintro e a' w' ⟨ae, env', c', h1, rfl, h3, h4, h5⟩
    cases e with
    | normal => cases ae <;> simp only [AEx.is] at h1; exact ⟨.normal, env', c', trivial, rfl, h3, h4, h5⟩
    | exit i =>
      cases ae <;> simp only [AEx.is] at h1
      subst h1
      simp only at h5
      simp only [Exit.inBlock]
      split at h5
      · rename_i hi
        rw [if_pos hi]
        exact ⟨.normal, env', c', trivial, rfl, h3, h4, h5⟩
      · rename_i hi
        rw [if_neg hi]
        exact ⟨.exit _, env', c', rfl, rfl, h3, h4, h5⟩
    | ret => cases ae <;> simp only [AEx.is] at h1; exact ⟨.ret, env', c', trivial, rfl, h3, h4, h5⟩
    | goto l => cases ae <;> simp only [AEx.is] at h1
    | panic ch => cases ae <;> simp only [AEx.is] at h1
    | outgrown => cases ae <;> simp only [AEx.is] at h1
  | .loop x, c, env, a, Q, hok, hs, hw => by
    simp only [codeOK] at hok
    simp only [awp, ALoop] at hw
    obtain ⟨I, N, h0, hround⟩ := hw
    intro b k cs
    obtain ⟨e, a', w', hq, harr⟩ := loop_key (P := P) (n := n) (x := x) (Q := Q) (I := I) (N := N) (c0 := c) (fun i c env a hs hx hI =>
      ⟨(hround i env c.h hI).1, awp_sound hP x c env a _ hok hs (hround i env c.h hI).2⟩) (N - 0) 0 c env a rfl hs (Ext.refl c) h0 b k cs
    exact ⟨e, a', w', hq, .of_steps (.one step_loop) harr⟩
  | .rangeFunc .., c, env, a, Q, _, hs, hw => by simp only [awp] at hw
  | .scope _, c, env, a, Q, _, hs, hw => by simp only [awp] at hw
  | .goto _, c, env, a, Q, _, hs, hw => by simp only [awp] at hw
  | .refuse _, c, env, a, Q, _, hs, hw => by simp only [awp] at hw
end
end Go.Abs
