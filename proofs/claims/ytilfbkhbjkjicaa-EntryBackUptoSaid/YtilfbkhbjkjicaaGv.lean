/- Gv: a part of the proofs about the tuple space and its bytes. -/
import Derived.Test.YtilfbkhbjkjicaaAbs28
set_option linter.all false
namespace Go.Abs
open Go
section
variable {P : Program}
/-! ### What lies at the beginning of the own heap stays -/
theorem tk_keep {H l h : List Entry} {e : Entry} (hT : H.take h.length = h) (hkl : h.length < H.length) : (H.set h.length e ++ l).take h.length = h := by
  rw [List.take_append_of_le_length (by rw [List.length_set]; omega), List.take_set_of_le (Nat.le_refl _)]; exact hT
theorem get_keep {H l h : List Entry} {e : Entry} (hkl : h.length < H.length) : (H.set h.length e ++ l)[h.length]? = some e := by
  rw [List.getElem?_append_left (by rw [List.length_set]; exact hkl), List.getElem?_set_self hkl]
theorem get_stay {H l : List Entry} {k j : Nat} {e x : Entry} (hj : H[j]? = some x) (hne : k ≠ j) : (H.set k e ++ l)[j]? = some x := by
  rw [List.getElem?_append_left (by rw [List.length_set]; exact lt_some hj), List.getElem?_set_ne hne]; exact hj
theorem tk_keep2 {H l h : List Entry} {e e' : Entry} {k : Nat} (hT : H.take h.length = h) (hkl : h.length < H.length) (hk : h.length < k) : ((H.set h.length e).set k e' ++ l).take h.length = h := by
  rw [List.take_append_of_le_length (by simp; omega), List.take_set_of_le (by omega), List.take_set_of_le (Nat.le_refl _)]; exact hT
theorem get_keep2 {H l h : List Entry} {e e' : Entry} {k : Nat} (hkl : h.length < H.length) (hk : h.length < k) : ((H.set h.length e).set k e' ++ l)[h.length]? = some e := by
  rw [List.getElem?_append_left (by simp; exact hkl), List.getElem?_set_ne (by omega), List.getElem?_set_self hkl]
theorem get_keep3 {H l h : List Entry} {e e' : Entry} {k : Nat} (hkl : k < H.length) : ((H.set h.length e).set k e' ++ l)[k]? = some e' := by
  rw [List.getElem?_append_left (by simp; exact hkl), List.getElem?_set_self (by simp; exact hkl)]
theorem tk_keep4 {H l h : List Entry} {e e' : Entry} {k : Nat} (hT : H.take h.length = h) (hkl : h.length < H.length) (hk : h.length < k) : ((H.set k e').set h.length e ++ l).take h.length = h := by
  rw [List.take_append_of_le_length (by simp; omega), List.take_set_of_le (Nat.le_refl _), List.take_set_of_le (by omega)]; exact hT
theorem get_keep5 {H l h : List Entry} {e e' : Entry} {k : Nat} (hkl : h.length < H.length) : ((H.set k e').set h.length e ++ l)[h.length]? = some e := by
  rw [List.getElem?_append_left (by simp; exact hkl), List.getElem?_set_self (by simp; exact hkl)]
theorem get_keep4 {H l h : List Entry} {e e' : Entry} {k : Nat} (hkl : k < H.length) (hk : h.length < k) : ((H.set k e').set h.length e ++ l)[k]? = some e' := by
  rw [List.getElem?_append_left (by simp; exact hkl), List.getElem?_set_ne (by omega), List.getElem?_set_self hkl]
theorem k_giveA (hP : WF P) {g : FuncId} {args args' raw : List AV} {r : AV} {k : Nat} {T : TypeId} {es : List AV} {st : Status} {env : Env} {h : List Entry} {s : List Ctl} {d : Option Tmp} {Q : APost} (hk : h[k]? = some ⟨T, es, st⟩) (ho : st = .own ∨ st = .fz) (hne : es ≠ []) (ha : args.map (bz (h.set k ⟨T, es, .fz⟩) 4) = args') (hp : Fn P g args' r)
    (hk2 : Rn P s .normal (putD env d r) (h.set k ⟨T, es, .fz⟩) Q) : Rk P g args raw d s env h Q := by
  rcases ho with rfl | rfl
  · exact k_give hP hk rfl hne ha hp hk2
  · have e : h.set k ⟨T, es, .fz⟩ = h := by
      refine List.ext_getElem? fun j => ?_
      rw [List.getElem?_set]
      split
      · rename_i e
        subst e
        rw [if_pos (lt_some hk), hk]
      · rfl
    rw [e] at ha hk2
    exact k_read hP ha hp hk2
/-- a loop that allocates: what lies at the beginning of the own heap stays -/
def GI1 (h : List Entry) (e0 : Entry) (p : Nat → Prop) (E : Nat → (Nat → AV) → Env) (i : Nat) (env : Env) (hh : List Entry) : Prop := p i ∧ hh.take h.length = h ∧ hh[h.length]? = some e0 ∧ env = E i (lk env)
theorem GI1.mk {h H l : List Entry} {e0 : Entry} {p : Nat → Prop} {E : Nat → (Nat → AV) → Env} {i : Nat} {env : Env} (hp : p i) (hT : H.take h.length = h) (h0 : H[h.length]? = some e0) (he : env = E i (lk env)) : GI1 h e0 p E i env (H ++ l) := by
  have := lt_some h0
  exact ⟨hp, by rw [List.take_append_of_le_length (by omega)]; exact hT, by rw [List.getElem?_append_left this]; exact h0, he⟩
theorem GI1.mk0 {h H : List Entry} {e0 : Entry} {p : Nat → Prop} {E : Nat → (Nat → AV) → Env} {i : Nat} {env : Env} (hp : p i) (hT : H.take h.length = h) (h0 : H[h.length]? = some e0) (he : env = E i (lk env)) : GI1 h e0 p E i env H := ⟨hp, hT, h0, he⟩
def GI2 (h : List Entry) (e0 e1 : Entry) (p : Nat → Prop) (E : Nat → (Nat → AV) → Env) (i : Nat) (env : Env) (hh : List Entry) : Prop := p i ∧ hh.take h.length = h ∧ hh[h.length]? = some e0 ∧ hh[h.length + 1]? = some e1 ∧ env = E i (lk env)
theorem GI2.mk {h H l : List Entry} {e0 e1 : Entry} {p : Nat → Prop} {E : Nat → (Nat → AV) → Env} {i : Nat} {env : Env} (hp : p i) (hT : H.take h.length = h) (h0 : H[h.length]? = some e0) (h1 : H[h.length + 1]? = some e1) (he : env = E i (lk env)) : GI2 h e0 e1 p E i env (H ++ l) := by
  have := lt_some h1
  exact ⟨hp, by rw [List.take_append_of_le_length (by omega)]; exact hT, by rw [List.getElem?_append_left (by omega)]; exact h0, by rw [List.getElem?_append_left this]; exact h1, he⟩
end
end Go.Abs

set_option linter.all false
namespace Go.Abs
open Go
section
variable {P : Program}
/-! ### A stack is cut in two -/
theorem rn_app {s2 : List Ctl} {Q : APost} : ∀ (s1 : List Ctl) (e : AEx) (env : Env) (h : List Entry), Rn P (s1 ++ s2) e env h Q = Rn P s1 e env h fun e' env' h' => Rn P s2 e' env' h' Q
  | [], e, env, h => rfl
  | c :: s1, e, env, h => by
    have IH := rn_app (s2 := s2) (Q := Q) s1
    cases c <;> cases e <;> simp only [List.cons_append, Rn, IH]
theorem rn_mono {Q Q' : APost} (hq : ∀ e env h, Q e env h → Q' e env h) : ∀ (s : List Ctl) (e : AEx) (env : Env) (h : List Entry), Rn P s e env h Q → Rn P s e env h Q'
  | [], e, env, h, hr => hq _ _ _ hr
  | c :: s, e, env, h, hr => by
    have IH := rn_mono hq s
    cases c <;> cases e <;> simp only [Rn] at hr ⊢ <;> first
      | exact awp_mono _ _ _ (fun e env' h' hm => IH _ _ _ hm) hr
      | exact aops_mono (fun env' h' hm => IH _ _ _ hm) _ _ _ hr
      | exact dwp_mono (fun env' h' hm => IH _ _ _ hm) _ _ _ _ _ _ hr
      | exact IH _ _ _ hr
      | (split at hr
         · rw [if_pos ‹_›]; exact IH _ _ _ hr
         · rw [if_neg ‹_›]; exact IH _ _ _ hr)
theorem r_cutn (n : Nat) {s : List Ctl} {e : AEx} {env : Env} {h : List Entry} {Q : APost} (M : APost) (h1 : Rn P (s.take n) e env h M) (h2 : ∀ e env' h', M e env' h' → Rn P (s.drop n) e env' h' Q) : Rn P s e env h Q := by
  have := rn_app (P := P) (s2 := s.drop n) (Q := Q) (s.take n) e env h
  rw [List.take_append_drop] at this
  rw [this]
  exact rn_mono h2 _ _ _ _ h1
theorem View.mk' {X : Nat → Prop} {h : List Entry} {T : TypeId} {k n lo : Nat} {es l : List AV} (z : List AV) (hx : X k) (hk : h[k]? = some ⟨T, es, .own⟩) (hes : es = l ++ z) (hn : n = l.length) : View X h T (.win k [] T 0 n lo) l := by
  subst hes; subst hn; exact .win hx hk
/-! ### One element is appended to a slice of one's own -/
theorem rh_app {X : Nat → Prop} {h : List Entry} {T : TypeId} {v : AV} {l : List AV} (y : AV) (hv : View X h T v l) :
    ∃ v' h', View (grow X h h') h' T v' (l ++ [y]) ∧ h.length ≤ h'.length ∧ (∀ j e, h[j]? = some e → (¬ X j ∨ e.T ≠ T) → h'[j]? = some e) ∧
      ∀ (d : Option Tmp) (s : List Ctl) (env : Env) (Q : APost), Rn P s .normal (putD env d v') h' Q → Rh P (stAppendTo T [y] h.length v) d s env h Q := by
  cases hv with
  | nil =>
    refine ⟨.win h.length [] T 0 1 1, h ++ [⟨T, [y], .own⟩], ?_, by simp, fun j e hj _ => by rw [List.getElem?_append_left (lt_some hj)]; exact hj, fun d s env Q hr => ?_⟩
    · exact View.mk' (l := [y]) [] (.inr ⟨Nat.le_refl _, by simp⟩) (by rw [get_at0]; rfl) rfl rfl
    · simp only [stAppendTo, List.length_cons, List.length_nil, Nat.zero_add, rh_new]
      exact hr
  | @win k lo _ z hx hk =>
    have hkl := lt_some hk
    have htk : (l ++ z).take l.length = l := by simp
    have hle : l.length ≤ (l ++ z).length := by simp
    have hdr : (l ++ z).drop (l.length + 1) = z.drop 1 := by rw [List.drop_append]; simp
    have hkH : (h ++ [(⟨0, [], .hole⟩ : Entry)])[k]? = some ⟨T, l ++ z, .own⟩ := by rw [List.getElem?_append_left hkl]; exact hk
    by_cases hfit : l.length + 1 ≤ lo
    · refine ⟨.win k [] T 0 (l.length + 1) lo, h.set k ⟨T, l ++ [y] ++ z.drop 1, .own⟩ ++ [⟨0, [], .hole⟩], ?_, by simp, fun j e hj hc => ?_, fun d s env Q hr => ?_⟩
      · exact View.mk' (l := l ++ [y]) (z.drop 1) (.inl hx) (by rw [List.getElem?_append_left (by simpa using hkl), List.getElem?_set_self hkl]) rfl (by simp)
      · rw [List.getElem?_append_left (by simpa using lt_some hj), List.getElem?_set_ne]
        · exact hj
        · rintro rfl
          rw [hk] at hj
          cases hj
          rcases hc with hc | hc
          · exact hc hx
          · exact hc rfl
      · simp only [stAppendTo, isNilB, and_self, if_true, rh_rd, hkH, rhd_some, htk, hle, hdr, List.length_cons, List.length_nil, Nat.zero_add, hfit, rh_ret, wrAll]
        rw [List.set_append_left _ _ hkl]
        exact hr
    · refine ⟨.win h.length [] T 0 (l.length + 1) (l.length + 1), h.set k ⟨T, [], .dead⟩ ++ [⟨T, l ++ [y], .own⟩], ?_, by simp, fun j e hj hc => ?_, fun d s env Q hr => ?_⟩
      · refine View.mk' (l := l ++ [y]) (es := l ++ [y]) [] (.inr ⟨Nat.le_refl _, by simp⟩) ?_ (by simp) (by simp)
        have := get_at0 (h.set k ⟨T, [], .dead⟩) [⟨T, l ++ [y], .own⟩]
        rw [List.length_set] at this
        exact this
      · rw [List.getElem?_append_left (by simpa using lt_some hj), List.getElem?_set_ne]
        · exact hj
        · rintro rfl
          rw [hk] at hj
          cases hj
          rcases hc with hc | hc
          · exact hc hx
          · exact hc rfl
      · simp only [stAppendTo, isNilB, and_self, if_true, rh_rd, hkH, rhd_some, htk, hle, hdr, List.length_cons, List.length_nil, Nat.zero_add, hfit, if_false, rh_ret, wrAll]
        rw [List.set_append_left _ _ hkl]
        have := set_at0 (h.set k ⟨T, [], .dead⟩) [(⟨0, [], .hole⟩ : Entry)] ⟨T, l ++ [y], .own⟩
        rw [List.length_set] at this
        rw [this]
        exact hr
/-- the same in a region that draws its order -/
theorem ds_app {X : Nat → Prop} {h : List Entry} {T : TypeId} {v : AV} {l : List AV} (y : AV) {n : Nat} {eh : Entry} (hn : h[n]? = some eh) (hst : eh.st = .hole) (hv : View X h T v l) :
    ∃ v' wr rd, View (fun j => X j ∨ j = n) (wrAll h wr) T v' (l ++ [y]) ∧ (wrAll h wr).length = h.length ∧ (∀ j e, h[j]? = some e → j ≠ n → (¬ X j ∨ e.T ≠ T) → (wrAll h wr)[j]? = some e) ∧
      ∀ (acc : List Nat) (D : DC) (s : List Ctl) (env : Env) (Q : APost), Dv P v' (.wr wr) (acc ++ rd) D s env h Q → Ds P (stAppendTo T [y] n v) acc D s env h Q := by
  have hnl := lt_some hn
  cases hv with
  | nil =>
    refine ⟨.win n [] T 0 1 1, [(n, ⟨T, [y], .own⟩)], [], ?_, by simp [wrAll], fun j e hj hjn _ => by simp only [wrAll]; rw [List.getElem?_set_ne (Ne.symm hjn)]; exact hj, fun acc D s env Q hr => ?_⟩
    · exact View.mk' (l := [y]) (es := [y]) [] (.inr rfl) (by simp only [wrAll]; rw [List.getElem?_set_self hnl]) rfl rfl
    · simp only [stAppendTo, List.length_cons, List.length_nil, Nat.zero_add, ds_ret]
      rw [List.append_nil] at hr
      exact hr
  | @win k lo _ z hx hk =>
    have hkl := lt_some hk
    have hkn : k ≠ n := by
      rintro rfl
      rw [hk] at hn
      cases hn
      cases hst
    have htk : (l ++ z).take l.length = l := by simp
    have hle : l.length ≤ (l ++ z).length := by simp
    have hdr : (l ++ z).drop (l.length + 1) = z.drop 1 := by rw [List.drop_append]; simp
    by_cases hfit : l.length + 1 ≤ lo
    · refine ⟨.win k [] T 0 (l.length + 1) lo, [(k, ⟨T, l ++ [y] ++ z.drop 1, .own⟩)], [k], ?_, by simp [wrAll], fun j e hj hjn hc => ?_, fun acc D s env Q hr => ?_⟩
      · exact View.mk' (l := l ++ [y]) (z.drop 1) (.inl hx) (by simp only [wrAll]; rw [List.getElem?_set_self hkl]) rfl (by simp)
      · simp only [wrAll]
        rw [List.getElem?_set_ne]
        · exact hj
        · rintro rfl
          rw [hk] at hj
          cases hj
          rcases hc with hc | hc
          · exact hc hx
          · exact hc rfl
      · simp only [stAppendTo, isNilB, and_self, if_true, ds_rd, hk, dd_some, htk, hle, hdr, List.length_cons, List.length_nil, Nat.zero_add, hfit, ds_ret]
        exact hr
    · refine ⟨.win n [] T 0 (l.length + 1) (l.length + 1), [(k, ⟨T, [], .dead⟩), (n, ⟨T, l ++ [y], .own⟩)], [k], ?_, by simp [wrAll], fun j e hj hjn hc => ?_, fun acc D s env Q hr => ?_⟩
      · exact View.mk' (l := l ++ [y]) (es := l ++ [y]) [] (.inr rfl) (by simp only [wrAll]; rw [List.getElem?_set_self (by simpa using hnl)]) (by simp) (by simp)
      · simp only [wrAll]
        rw [List.getElem?_set_ne (Ne.symm hjn), List.getElem?_set_ne]
        · exact hj
        · rintro rfl
          rw [hk] at hj
          cases hj
          rcases hc with hc | hc
          · exact hc hx
          · exact hc rfl
      · simp only [stAppendTo, isNilB, and_self, if_true, ds_rd, hk, dd_some, htk, hle, hdr, List.length_cons, List.length_nil, Nat.zero_add, hfit, if_false, ds_ret]
        exact hr
end
end Go.Abs

set_option linter.all false
namespace Go.Abs
open Go
section
variable {P : Program}
/-! ### nil taken for empty, in a row's elements too -/
def wkr (P : Program) (T : TypeId) (a : AV) : AV := match a with
  | .list e es => .list e (es.map (wk P 6 e))
  | a => wk P 6 T a
theorem wkr_list (T e : TypeId) (es : List AV) : wkr P T (.list e es) = .list e (es.map (wk P 6 e)) := rfl
theorem wkr_agg' (T U : TypeId) (vs : List AV) : wkr P T (.agg U vs) = wk P 6 T (.agg U vs) := rfl
theorem wkr_nils (T : TypeId) : wkr P T .nils = wk P 6 T .nils := rfl
theorem wkr_agg {T : TypeId} {a : AV} : isAgg (wkr P T a) = isAgg a := by
  unfold wkr
  split
  · rfl
  · exact wk_agg
theorem wkr_rep {c : Cx} (T : TypeId) (a : AV) (cs : List Value) (ht : tyOK P a T) (h : Rep P c a cs) : tyOK P (wkr P T a) T ∧ Rep P c (wkr P T a) cs := by
  unfold wkr
  split
  · rename_i e es
    refine ⟨by simp only [tyOK] at ht ⊢; exact ht, ?_⟩
    simp only [Rep] at h ⊢
    obtain ⟨a0, cap, h1, h2, h3⟩ := h
    refine ⟨a0, cap, by rw [List.length_map]; exact h1, by rw [List.length_map]; exact h2, fun hne => ?_⟩
    obtain ⟨b, off, C, Te, m, g1, g2, g3, g4⟩ := h3 (by rintro rfl; exact hne rfl)
    refine ⟨b, off, C, Te, m, g1, g2, g3, repE_iff.2 fun i v hv => ?_⟩
    rw [List.getElem?_map, Option.map_eq_some_iff] at hv
    obtain ⟨u, hu, rfl⟩ := hv
    obtain ⟨k1, k2⟩ := repE_get g4 hu
    exact wk_rep 6 e u _ k1 k2
  · exact wk_rep 6 T _ cs ht h
def wkrs (P : Program) : List TypeId → List AV → List AV
  | T :: ts, a :: as => wkr P T a :: wkrs P ts as
  | _, as => as
theorem wkrs_rep {c : Cx} : ∀ (ts : List TypeId) (as : List AV) (vs : List Value), argsOK P ts as → RepV P c as vs → RepV P c (wkrs P ts as) vs
  | [], [], vs, _, h => by simpa only [wkrs] using h
  | [], _ :: _, vs, ho, h => ho.elim
  | _ :: _, [], vs, ho, h => ho.elim
  | T :: ts, a :: as, vs, ho, h => by
    simp only [RepV] at h
    obtain ⟨v, r, rfl, h1, h2, h3⟩ := h
    simp only [wkrs, RepV]
    refine ⟨v, r, rfl, by rw [wkr_agg]; exact h1, (wkr_rep T a _ (tyB_ok ho.1) h2).2, wkrs_rep ts as r ho.2 h3⟩
theorem pure_wkr_tup {f : FuncId} {args : List AV} {R : AV → Prop} (ts : List TypeId) {l1 : List AV} (hf : Pure P f args R) (hR : ∀ r, R r → ∃ l, r = .tup l ∧ argsOK P ts l ∧ wkrs P ts l = l1) : Fn P f args (.tup l1) := by
  intro h
  obtain ⟨hc, hs⟩ := hf h
  refine ⟨hc, fun κ w vs hr hv => (hs κ w vs hr hv).mono ?_⟩
  rintro e' w' ⟨v, r, h', κ', rfl, h1, h2, h3, h4, h5⟩
  obtain ⟨l, rfl, ht, hw⟩ := hR r h5
  subst hw
  refine ⟨v, .tup (wkrs P ts l), h', κ', rfl, h1, h2, ?_, h4, rfl⟩
  simp only [VV] at h3 ⊢
  obtain ⟨l', rfl, h3⟩ := h3
  exact ⟨l', rfl, wkrs_rep ts l l' ht h3⟩
end
end Go.Abs

set_option linter.all false
namespace Go.Abs
open Go
/-! ### SHA-256, in whole numbers -/
def add32 (a b : Int) : Int := IntKind.u32.wrap (a + b)
def xor32 (a b : Int) : Int := bits .xor .u32 a b
def and32 (a b : Int) : Int := bits .and .u32 a b
def or32 (a b : Int) : Int := bits .or .u32 a b
def not32 (a : Int) : Int := bits .xor .u32 4294967295 a
def shl32 (a : Int) (n : Nat) : Int := IntKind.u32.wrap (a * 2 ^ (min n IntKind.u32.bits))
def shr32 (a : Int) (n : Nat) : Int := a.fdiv (2 ^ (min n IntKind.u32.bits))
/-- turned to the left -/
def rol32 (x : Int) (n : Nat) : Int := or32 (shl32 x n) (shr32 x (32 - n))
theorem or32_comm (a b : Int) : or32 a b = or32 b a := by
  simp only [or32, bits, BitVec.or_comm]
def by32 (b : UInt8) : Int := IntKind.u32.wrap (b.toNat : Int)
/-- four bytes, the greatest first -/
def be32 (a b c d : UInt8) : Int := or32 (or32 (or32 (shl32 (by32 a) 24) (shl32 (by32 b) 16)) (shl32 (by32 c) 8)) (by32 d)
def sg0 (x : Int) : Int := xor32 (xor32 (rol32 x 25) (rol32 x 14)) (shr32 x 3)
def sg1 (x : Int) : Int := xor32 (xor32 (rol32 x 15) (rol32 x 13)) (shr32 x 10)
/-- the first words of a block: the n-th of them -/
def wNext (s : List UInt8) (n : Nat) (l : List Int) : Int :=
  if n < 16 then be32 (s.getD (4 * n) 0) (s.getD (4 * n + 1) 0) (s.getD (4 * n + 2) 0) (s.getD (4 * n + 3) 0)
  else add32 (add32 (add32 (l.getD (n - 16) 0) (sg0 (l.getD (n - 15) 0))) (l.getD (n - 7) 0)) (sg1 (l.getD (n - 2) 0))
def wRow (s : List UInt8) : Nat → List Int
  | 0 => []
  | n + 1 => wRow s n ++ [wNext s n (wRow s n)]
theorem wRow_len (s : List UInt8) : ∀ n, (wRow s n).length = n
  | 0 => rfl
  | n + 1 => by simp [wRow, wRow_len s n]
def kTab : List Int := [
  0x428a2f98, 0x71374491, 0xb5c0fbcf, 0xe9b5dba5, 0x3956c25b, 0x59f111f1, 0x923f82a4, 0xab1c5ed5,
  0xd807aa98, 0x12835b01, 0x243185be, 0x550c7dc3, 0x72be5d74, 0x80deb1fe, 0x9bdc06a7, 0xc19bf174,
  0xe49b69c1, 0xefbe4786, 0x0fc19dc6, 0x240ca1cc, 0x2de92c6f, 0x4a7484aa, 0x5cb0a9dc, 0x76f988da,
  0x983e5152, 0xa831c66d, 0xb00327c8, 0xbf597fc7, 0xc6e00bf3, 0xd5a79147, 0x06ca6351, 0x14292967,
  0x27b70a85, 0x2e1b2138, 0x4d2c6dfc, 0x53380d13, 0x650a7354, 0x766a0abb, 0x81c2c92e, 0x92722c85,
  0xa2bfe8a1, 0xa81a664b, 0xc24b8b70, 0xc76c51a3, 0xd192e819, 0xd6990624, 0xf40e3585, 0x106aa070,
  0x19a4c116, 0x1e376c08, 0x2748774c, 0x34b0bcb5, 0x391c0cb3, 0x4ed8aa4a, 0x5b9cca4f, 0x682e6ff3,
  0x748f82ee, 0x78a5636f, 0x84c87814, 0x8cc70208, 0x90befffa, 0xa4506ceb, 0xbef9a3f7, 0xc67178f2]
def hTab : List Int := [0x6a09e667, 0xbb67ae85, 0x3c6ef372, 0xa54ff53a, 0x510e527f, 0x9b05688c, 0x1f83d9ab, 0x5be0cd19]
structure V8 where
  a : Int
  b : Int
  c : Int
  d : Int
  e : Int
  f : Int
  g : Int
  h : Int
def V8.l (v : V8) : List Int := [v.a, v.b, v.c, v.d, v.e, v.f, v.g, v.h]
def one32 (v : V8) (k w : Int) : Int :=
  add32 (add32 (add32 (add32 v.h (xor32 (xor32 (rol32 v.e 26) (rol32 v.e 21)) (rol32 v.e 7))) (xor32 (and32 v.e v.f) (and32 (not32 v.e) v.g))) k) w
def two32 (v : V8) : Int := add32 (xor32 (xor32 (rol32 v.a 30) (rol32 v.a 19)) (rol32 v.a 10)) (xor32 (xor32 (and32 v.a v.b) (and32 v.a v.c)) (and32 v.b v.c))
def rnd32 (v : V8) (k w : Int) : V8 := ⟨add32 (one32 v k w) (two32 v), v.a, v.b, v.c, add32 v.d (one32 v k w), v.e, v.f, v.g⟩
def rnds (s : List UInt8) (v : V8) : Nat → V8
  | 0 => v
  | n + 1 => rnd32 (rnds s v n) (kTab.getD n 0) ((wRow s 64).getD n 0)
/-- one block -/
def blk (v : V8) (s : List UInt8) : V8 :=
  let u := rnds s v 64
  ⟨add32 v.a u.a, add32 v.b u.b, add32 v.c u.c, add32 v.d u.d, add32 v.e u.e, add32 v.f u.f, add32 v.g u.g, add32 v.h u.h⟩
/-- n blocks -/
def blks (v : V8) (s : List UInt8) : Nat → V8
  | 0 => v
  | n + 1 => blk (blks v s n) ((s.drop (64 * n)).take 64)
def v8 : V8 := ⟨0x6a09e667, 0xbb67ae85, 0x3c6ef372, 0xa54ff53a, 0x510e527f, 0x9b05688c, 0x1f83d9ab, 0x5be0cd19⟩
/-- a byte -/
def u8 (n : Int) : UInt8 := UInt8.ofNat (IntKind.u8.wrap n).toNat
theorem u8_eq (n : Int) : IntKind.u8.wrap n = ((u8 n).toNat : Int) := by
  have h : IntKind.u8.wrap n = n % 256 := by simp [IntKind.wrap, IntKind.bits, IntKind.signed]
  unfold u8
  rw [h]
  simp
  omega
/-- zeros that are put behind n bytes and one more -/
def zeros (n : Nat) : Nat := (119 - n % 64) % 64
def len8 (n : Nat) : List UInt8 := [56, 48, 40, 32, 24, 16, 8, 0].map fun i => u8 ((IntKind.u64.wrap ((n : Int) * 8)).fdiv (2 ^ i))
def padS (s : List UInt8) : List UInt8 := s ++ (0x80 :: List.replicate (zeros s.length) 0) ++ len8 s.length
def by4 (x : Int) : List UInt8 := [u8 (shr32 x 24), u8 (shr32 x 16), u8 (shr32 x 8), u8 x]
def shaS (s : List UInt8) : List UInt8 := (blks v8 (padS s) ((padS s).length / 64)).l.flatMap by4
theorem padS_len (s : List UInt8) : (padS s).length % 64 = 0 := by
  simp only [padS, len8, List.length_append, List.length_cons, List.length_replicate, List.length_map, zeros, List.length_nil]
  omega
theorem shaS_len (s : List UInt8) : (shaS s).length = 32 := rfl
theorem blks_app (v : V8) (s t : List UInt8) : ∀ n m, s.length = 64 * n → blks v (s ++ t) (n + m) = blks (blks v s n) t m := by
  intro n m hs
  induction m with
  | zero =>
    have : ∀ k, k ≤ n → blks v (s ++ t) k = blks v s k := by
      intro k
      induction k with
      | zero => intro _; rfl
      | succ k ih =>
        intro hk
        simp only [blks, ih (by omega)]
        rw [List.drop_append_of_le_length (by omega), List.take_append_of_le_length (by simp; omega)]
    exact this n (Nat.le_refl _)
  | succ m ih =>
    rw [← Nat.add_assoc]
    simp only [blks, ih]
    rw [List.drop_append, List.drop_of_length_le (by omega), List.nil_append, show 64 * (n + m) - s.length = 64 * m by omega]
end Go.Abs

set_option linter.all false
namespace Go.Abs
open Go
/-! ### numbers as bytes -/
theorem wrap_u64 (n : Int) : IntKind.u64.wrap n = n % 18446744073709551616 := by simp [IntKind.wrap, IntKind.bits, IntKind.signed]
theorem wrap_u8 (n : Int) : IntKind.u8.wrap n = n % 256 := by simp [IntKind.wrap, IntKind.bits, IntKind.signed]
theorem u8_val (n : Int) : ((u8 n).toNat : Int) = n % 256 := by rw [← u8_eq, wrap_u8]
theorem u8_toNat (b : UInt8) : u8 (b.toNat : Int) = b := by
  have h := u8_val (b.toNat : Int)
  have hb : b.toNat < 256 := b.toNat_lt
  apply UInt8.toNat_inj.1
  omega
theorem u8_inj {a b : UInt8} (h : (a.toNat : Int) = b.toNat) : a = b := UInt8.toNat_inj.1 (by omega)
/-- the lowest n bytes, the greatest first -/
def beN (v : Int) : Nat → List UInt8
  | 0 => []
  | n + 1 => u8 (v.fdiv (2 ^ (8 * n))) :: beN v n
theorem beN_len (v : Int) : ∀ n, (beN v n).length = n
  | 0 => rfl
  | n + 1 => by simp [beN, beN_len v n]
def numF (v : Int) (l : List UInt8) : Int := l.foldl (fun v b => v * 256 + (b.toNat : Int)) v
def num (l : List UInt8) : Int := numF 0 l
theorem numF_cons (v : Int) (b : UInt8) (l : List UInt8) : numF v (b :: l) = numF (v * 256 + (b.toNat : Int)) l := rfl
theorem pow256 (n : Nat) : (256 : Int) ^ (n + 1) = 256 ^ n * 256 := by rw [Int.pow_succ]
theorem numF_eq : ∀ (l : List UInt8) (v : Int), numF v l = v * 256 ^ l.length + num l
  | [], v => by simp [numF, num]
  | b :: l, v => by
    rw [num, numF_cons, numF_cons, numF_eq l, numF_eq l, List.length_cons, pow256]
    grind
theorem num_range : ∀ (l : List UInt8), 0 ≤ num l ∧ num l < 256 ^ l.length
  | [] => by simp [num, numF]
  | b :: l => by
    have h := num_range l
    have hb : b.toNat < 256 := b.toNat_lt
    have e : num (b :: l) = (b.toNat : Int) * 256 ^ l.length + num l := by
      rw [num, numF_cons, numF_eq]; simp
    rw [e, List.length_cons, pow256]
    have h3 : (0 : Int) ≤ 256 ^ l.length := by omega
    have h4 : (b.toNat : Int) * 256 ^ l.length ≤ 255 * 256 ^ l.length := Int.mul_le_mul_of_nonneg_right (by omega) h3
    have h5 : 0 ≤ (b.toNat : Int) * 256 ^ l.length := Int.mul_nonneg (by omega) h3
    omega
theorem num_cons (b : UInt8) (l : List UInt8) : num (b :: l) = (b.toNat : Int) * 256 ^ l.length + num l := by
  rw [num, numF_cons, numF_eq]; simp
theorem two_pow8 (n : Nat) : (2 : Int) ^ (8 * n) = 256 ^ n := by
  rw [Int.pow_mul]; rfl
theorem num_beN (v : Int) (hv : 0 ≤ v) : ∀ n, num (beN v n) = v % 256 ^ n
  | 0 => by simp [beN, num, numF]
  | n + 1 => by
    have h0 : (0 : Int) < 256 ^ n := Int.pow_pos (by omega)
    rw [beN, num_cons, beN_len, num_beN v hv n, u8_val, two_pow8, pow256]
    rw [Int.fdiv_eq_ediv_of_nonneg _ (by omega), Int.emod_def v (256 ^ n * 256), ← Int.ediv_ediv_of_nonneg (by omega), Int.emod_def v (256 ^ n), Int.emod_def (v / 256 ^ n) 256]
    generalize v / 256 ^ n = a
    generalize (256 : Int) ^ n = b
    grind
theorem beN_num : ∀ (l : List UInt8) (c : Int), 0 ≤ c → beN (c * 256 ^ l.length + num l) l.length = l
  | [], c, hc => rfl
  | b :: l, c, hc => by
    have h0 : (0 : Int) < 256 ^ l.length := Int.pow_pos (by omega)
    have hr := num_range l
    have hb : b.toNat < 256 := b.toNat_lt
    rw [num_cons, List.length_cons, beN, two_pow8, pow256]
    have e : c * (256 ^ l.length * 256) + ((b.toNat : Int) * 256 ^ l.length + num l) = (c * 256 + (b.toNat : Int)) * 256 ^ l.length + num l := by grind
    rw [e, Int.fdiv_eq_ediv_of_nonneg _ (by omega), beN_num l _ (by omega)]
    congr 1
    rw [Int.add_comm, Int.add_mul_ediv_right _ _ (by omega), Int.ediv_eq_zero_of_lt hr.1 hr.2, Int.zero_add]
    apply u8_inj
    rw [u8_val]; omega
theorem beN_num0 (l : List UInt8) {n : Nat} (hn : l.length = n) : beN (num l) n = l := by
  subst hn
  have := beN_num l 0 (Int.le_refl 0)
  simpa using this
theorem or_add {v : Int} {b : UInt8} (h0 : 0 ≤ v) (h1 : v < 72057594037927936) : bits .or .u64 (IntKind.u64.wrap (v * 2 ^ (min 8 IntKind.u64.bits))) (b.toNat : Int) = v * 256 + (b.toNat : Int) := by
  obtain ⟨n, rfl⟩ : ∃ n : Nat, v = n := ⟨v.toNat, by omega⟩
  have hb : b.toNat < 256 := b.toNat_lt
  have hb8 : b.toNat < 2 ^ 8 := hb
  have e1 : IntKind.u64.wrap ((n : Int) * 2 ^ (min 8 IntKind.u64.bits)) = ((n * 256 : Nat) : Int) := by
    rw [wrap_u64]
    show ((n : Int) * 256) % 18446744073709551616 = _
    omega
  rw [e1]
  have hor : n * 256 ||| b.toNat = n * 256 + b.toNat := by
    have := Nat.two_pow_add_eq_or_of_lt hb8 n
    rw [Nat.mul_comm] at this
    exact this.symm
  simp only [bits, BitVec.toNat_or, BitVec.toNat_ofInt]
  show IntKind.u64.wrap (((((n * 256 : Nat) : Int) % ((2 ^ 64 : Nat) : Int)).toNat ||| (((b.toNat : Int) % ((2 ^ 64 : Nat) : Int)).toNat) : Nat) : Int) = _
  have e2 : (((n * 256 : Nat) : Int) % ((2 ^ 64 : Nat) : Int)).toNat = n * 256 := by omega
  have e3 : ((b.toNat : Int) % ((2 ^ 64 : Nat) : Int)).toNat = b.toNat := by omega
  rw [e2, e3, hor, wrap_u64]
  omega
end Go.Abs

set_option linter.all false
set_option autoImplicit false
namespace Go.Abs
open Go
section
variable {P : Program}
/-! ### Methods whose own entries are given up at the end -/
/-- what the end of such a method owes: entry k is E, all else as it was; the answer is r once what it looks into is given up -/
def EndS (h : List Entry) (k : Nat) (E : Entry) (r : AV) : AV → List Entry → Prop := fun r0 h0 =>
  h0.take h.length = h.set k E ∧ plainAV r0 = true ∧ rz h0 h.length r0 = r
theorem get_take {h0 h1 : List Entry} {n j : Nat} (h : h0.take n = h1) (hj : j < n) : h0[j]? = h1[j]? := by
  rw [← h, List.getElem?_take, if_pos hj]
theorem det_set (hP : WF P) {f : FuncId} {args : List AV} {h : List Entry} {k : Nat} {E : Entry} {r : AV} (hE : belowL h.length E.es = true) (hr : below h.length r = true) (hs : FSpec P f args h (EndS h k E r)) :
    FSpec P f args h fun r' h'' => r' = r ∧ h'' = h.set k E := by
  refine FSpec.trim hP hs ?_
  rintro r0 h0 ⟨h1, h2, h3⟩
  refine ⟨fun j e hj he => ?_, h2, by rw [h3]; exact hr, h3, h1⟩
  have := get_take h1 hj
  rw [he] at this
  by_cases hjk : k = j
  · subst hjk
    rw [List.getElem?_set_self (by simpa using hj)] at this
    cases this
    exact .inr hE
  · rw [List.getElem?_set_ne hjk] at this
    exact .inl this.symm
/-- the same where there is no answer -/
def EndU (h : List Entry) (k : Nat) (E : Entry) : AV → List Entry → Prop := fun r0 h0 => h0.take h.length = h.set k E ∧ r0 = .tup []
theorem det_setU (hP : WF P) {f : FuncId} {args : List AV} {h : List Entry} {k : Nat} {E : Entry} (hE : belowL h.length E.es = true) (hs : FSpec P f args h (EndU h k E)) :
    FSpec P f args h fun r' h'' => r' = .tup [] ∧ h'' = h.set k E := by
  refine FSpec.trim_tup hP hs ?_
  rintro r0 h0 ⟨h1, rfl⟩
  refine ⟨fun j e hj he => ?_, [], rfl, rfl, rfl, h1⟩
  have := get_take h1 hj
  rw [he] at this
  by_cases hjk : k = j
  · subst hjk
    rw [List.getElem?_set_self (by simpa using hj)] at this
    cases this
    exact .inr hE
  · rw [List.getElem?_set_ne hjk] at this
    exact .inl this.symm
/-- nothing is written -/
def EndN (h : List Entry) (r : AV) : AV → List Entry → Prop := fun r0 h0 => h0.take h.length = h ∧ plainAV r0 = true ∧ rz h0 h.length r0 = r
theorem det_none (hP : WF P) {f : FuncId} {args : List AV} {h : List Entry} {r : AV} (hr : below h.length r = true) (hs : FSpec P f args h (EndN h r)) :
    FSpec P f args h fun r' h'' => r' = r ∧ h'' = h := by
  refine FSpec.trim hP hs ?_
  rintro r0 h0 ⟨h1, h2, h3⟩
  refine ⟨fun j e hj he => ?_, h2, by rw [h3]; exact hr, h3, h1⟩
  have := get_take h1 hj
  rw [he] at this
  exact .inl this.symm
/-- what was given up before is read, by a function that writes other entries -/
theorem FSpec.bz (hP : WF P) {f : FuncId} {args args' : List AV} {h : List Entry} {K : AV → List Entry → Prop} (ha : args.map (bz h 4) = args') (hp : FSpec P f args' h K) : FSpec P f args h K := by
  subst ha
  obtain ⟨hc, hs⟩ := hp
  refine ⟨hc, fun κ w vs hr hv => hs κ w vs hr ?_⟩
  clear hs
  induction args generalizing vs with
  | nil => simp only [RepV] at hv; subst hv; simp [RepV]
  | cons a as ih =>
    simp only [RepV] at hv
    obtain ⟨v, r, rfl, h1, h2, h3⟩ := hv
    simp only [List.map_cons, RepV]
    exact ⟨v, r, rfl, by rw [bz_agg]; exact h1, rep_bz (c := ⟨κ, h, w⟩) hP hr 4 a _ h2, ih r h3⟩
theorem FSpec.gives (hP : WF P) {f : FuncId} {args args' : List AV} {h : List Entry} {k : Nat} {e : Entry} {K : AV → List Entry → Prop} (hk : h[k]? = some e) (ho : e.st = .own) (hne : e.es ≠ []) (ha : args.map (Go.Abs.bz (h.set k (fzE e)) 4) = args') (hp : FSpec P f args' (h.set k (fzE e)) K) : FSpec P f args h K :=
  FSpec.freeze hP hk ho hne (FSpec.bz hP ha hp)
theorem take_set_app {h l : List Entry} {k : Nat} {E : Entry} : (h.set k E ++ l).take h.length = h.set k E := by
  rw [List.take_append_of_le_length (by simp), List.take_of_length_le (by simp)]
end
end Go.Abs

set_option linter.all false
namespace Go.Abs
open Go
section
variable {P : Program}
theorem fk_cell (t : Tmp) (T : TypeId) (K : AV → List Entry → Prop) (e : AEx) (env : Env) (h' : List Entry) : FinK P [.cell t T] K e env h' = (e.fin = true ∧ CellK P (stLoad T (lk env t)) h' fun v => K v h') := rfl
theorem fk_tt (t u : Tmp) (K : AV → List Entry → Prop) (e : AEx) (env : Env) (h' : List Entry) : FinK P [.tmp t, .tmp u] K e env h' = (e.fin = true ∧ [lk env t, lk env u].all plainAV = true ∧ K (.tup [lk env t, lk env u]) h') := rfl
theorem View.len {X : Nat → Prop} {h : List Entry} {T U : TypeId} {v : AV} {l : List AV} (hv : View X h T v l) (hU : shapeT P U = .slice T) : stLen P U v = .ret (.int .i64 l.length) [] := by
  cases hv with
  | nil => simp [stLen, hU, isSlice]
  | win => simp [stLen, hU, isSlice]
theorem View.lenAV {X : Nat → Prop} {h : List Entry} {T : TypeId} {v : AV} {l : List AV} (hv : View X h T v l) : Go.Abs.lenAV v = l.length := by
  cases hv <;> rfl
/-- what a heap begins with -/
def Beg (B H : List Entry) : Prop := ∀ (j : Nat) (e : Entry), B[j]? = some e → H[j]? = some e
theorem Beg.take {B H : List Entry} (hb : Beg B H) {n : Nat} (hn : n ≤ B.length) : H.take n = B.take n := by
  apply List.ext_getElem?
  intro j
  rw [List.getElem?_take, List.getElem?_take]
  split
  · rw [hb j _ (List.getElem?_eq_getElem (by omega)), List.getElem?_eq_getElem (by omega)]
  · rfl
theorem Beg.app {B H : List Entry} (hb : Beg B H) (l : List Entry) : Beg B (H ++ l) := fun j e hj => by
  have := hb j e hj
  rw [List.getElem?_append_left (lt_some this)]; exact this
theorem Beg.rfl' {B : List Entry} (l : List Entry) : Beg B (B ++ l) := fun j e hj => by rw [List.getElem?_append_left (lt_some hj)]; exact hj
theorem Beg.len {B H : List Entry} (hb : Beg B H) : B.length ≤ H.length := by
  rcases Nat.eq_zero_or_pos B.length with h | h
  · omega
  · have := lt_some (hb (B.length - 1) _ (List.getElem?_eq_getElem (by omega))); omega
end
end Go.Abs

set_option linter.all false
namespace Go.Abs
open Go
section
variable {P : Program}
theorem bz_dat {h : List Entry} : ∀ (n : Nat) (a : AV), dat a = true → bz h n a = a
  | 0, a, _ => rfl
  | n + 1, a, hd => by
    cases a <;> simp only [bz] <;> try rfl
    case agg T vs =>
      rw [dat_agg] at hd
      congr 1
      have : ∀ l : List AV, datL l = true → l.map (bz h n) = l := by
        intro l
        induction l with
        | nil => intro _; rfl
        | cons a l ih =>
          intro hl
          rw [datL_cons, Bool.and_eq_true] at hl
          rw [List.map_cons, bz_dat n a hl.1, ih hl.2]
      exact this vs hd
    case win => simp [dat] at hd
theorem bz_aggE (h : List Entry) (n : Nat) (T : TypeId) (vs : List AV) : bz h (n + 1) (.agg T vs) = .agg T (vs.map (bz h n)) := rfl
theorem bz_winE (h : List Entry) (n k : Nat) (p : List Nat) (T : TypeId) (fr m lo : Nat) : bz h (n + 1) (.win k p T fr m lo) = bzWin T p fr m (.win k p T fr m lo) h[k]? := rfl
theorem bz_intE (h : List Entry) (n : Nat) (k : IntKind) (x : Int) : bz h (n + 1) (.int k x) = .int k x := rfl
theorem bz_listE (h : List Entry) (n : Nat) (T : TypeId) (l : List AV) : bz h (n + 1) (.list T l) = .list T l := rfl
/-- a row of the own heap that was given up to be read -/
inductive Given (X : Nat → Prop) (h : List Entry) (T : TypeId) : AV → List AV → Prop where
  | nil : Given X h T .nils []
  | win {k lo : Nat} {l z : List AV} (hx : X k) (hk : h[k]? = some ⟨T, l ++ z, .fz⟩) : Given X h T (.win k [] T 0 l.length lo) l
theorem Given.mono {X X' : Nat → Prop} {h h' : List Entry} {T : TypeId} {v : AV} {l : List AV} (hv : Given X h T v l) (hX : ∀ j, X j → X' j) (hg : ∀ j es, X j → h[j]? = some ⟨T, es, .fz⟩ → h'[j]? = some ⟨T, es, .fz⟩) : Given X' h' T v l := by
  cases hv with
  | nil => exact .nil
  | win hx hk => exact .win (hX _ hx) (hg _ _ hx hk)
theorem Given.set {X : Nat → Prop} {h : List Entry} {T : TypeId} {v : AV} {l : List AV} (hv : Given X h T v l) {k : Nat} {e0 : Entry} (hk : h[k]? = some e0) (hT : e0.T ≠ T) (E : Entry) : Given X (h.set k E) T v l :=
  hv.mono (fun _ h => h) fun j es _ hj => by
    have : k ≠ j := by rintro rfl; rw [hk] at hj; cases hj; exact hT rfl
    rw [List.getElem?_set_ne this]; exact hj
theorem Given.app {X : Nat → Prop} {h : List Entry} {T : TypeId} {v : AV} {l : List AV} (hv : Given X h T v l) (r : List Entry) : Given X (h ++ r) T v l :=
  hv.mono (fun _ h => h) fun j es _ hj => by rw [List.getElem?_append_left (lt_some hj)]; exact hj
/-- what such a row is, wherever it is handed in or back -/
structure GivenX (P : Program) (X : Nat → Prop) (h : List Entry) (T U : TypeId) (v : AV) (l : List AV) (x : AV) : Prop where
  wk : ∀ n, wk P (n + 1) U v = x
  bz : ∀ n, bz h (n + 1) x = .list T l
  ty : tyB P v U = true
  pl : plainAV v = true
  rz : ∀ n, (∀ j, X j → n ≤ j) → rz h n v = .list T l ∨ (l = [] ∧ rz h n v = .nils)
theorem Given.ex {X : Nat → Prop} {h : List Entry} {T U : TypeId} {v : AV} {l : List AV} (hv : Given X h T v l) (hU : shapeT P U = .slice T) : ∃ x, GivenX P X h T U v l x := by
  cases hv with
  | nil => exact ⟨.list T [], fun n => by rw [wk_nils, hU]; rfl, fun n => rfl, by rw [ty_nils, hU]; rfl, rfl, fun n _ => .inr ⟨rfl, by simp only [Go.Abs.rz]⟩⟩
  | win hx hk =>
    have hw : winGet (l ++ ‹_›) [] 0 l.length = some l := by simp [winGet]
    refine ⟨_, fun n => wk_win .., fun n => ?_, by rw [ty_win, hU]; simp, rfl, fun n hn => .inl ?_⟩
    · simp only [Go.Abs.bz, hk, bzWin, if_true, hw]
    · simp only [Go.Abs.rz, if_pos (hn _ hx), hk, liveB, if_true, hw]
theorem View.give (hP : WF P) {X : Nat → Prop} {h : List Entry} {T : TypeId} {v : AV} {l : List AV} (hv : View X h T v l) (hn : l = [] → v = .nils) :
    ∃ h', Given X h' T v l ∧ h'.length = h.length ∧ (∀ j e, h[j]? = some e → (¬ X j ∨ e.T ≠ T) → h'[j]? = some e) ∧ ∀ f args K, FSpec P f args h' K → FSpec P f args h K := by
  cases hv with
  | nil => exact ⟨h, .nil, rfl, fun j e he _ => he, fun f args K hs => hs⟩
  | @win k lo l z hx hk =>
    have hl : l ≠ [] := fun hl => by cases hn hl
    refine ⟨h.set k ⟨T, l ++ z, .fz⟩, .win (z := z) hx (List.getElem?_set_self (lt_some hk)), by simp, fun j e he hc => ?_, fun f args K hs => FSpec.freeze hP hk rfl (by simp [hl]) hs⟩
    have : k ≠ j := by
      rintro rfl
      rw [hk] at he
      cases he
      rcases hc with hc | hc
      · exact hc hx
      · exact hc rfl
    rw [List.getElem?_set_ne this]; exact he
end
end Go.Abs
