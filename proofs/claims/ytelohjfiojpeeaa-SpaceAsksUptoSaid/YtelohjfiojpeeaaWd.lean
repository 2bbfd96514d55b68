/- Wd: a part of the proofs about the tuple space (layer 8). -/
import Derived.Test.YtelohjfiojpeeaaAbs26
import Derived.Test.YtelohjfiojpeeaaAbs28
namespace Go.Abs
open Go
theorem bv_back (X : BitVec 64) : BitVec.ofInt 64 (IntKind.wrap .i64 (X.toNat : Int)) = X := by
  apply BitVec.eq_of_toNat_eq
  have hX := X.isLt
  rw [BitVec.toNat_ofInt]
  simp only [IntKind.wrap, IntKind.bits, IntKind.signed, Bool.true_and, ge_iff_le, decide_eq_true_eq]
  split <;> omega
theorem bits_mask (a : Int) {m k : Int} (h : BitVec.ofInt 64 m &&& BitVec.ofInt 64 k = BitVec.ofInt 64 k) : bits .and .i64 (bits .and .i64 a m) k = bits .and .i64 a k := by
  show IntKind.wrap .i64 ((BitVec.ofInt 64 (IntKind.wrap .i64 ((BitVec.ofInt 64 a &&& BitVec.ofInt 64 m).toNat : Int)) &&& BitVec.ofInt 64 k).toNat : Int) = IntKind.wrap .i64 ((BitVec.ofInt 64 a &&& BitVec.ofInt 64 k).toNat : Int)
  rw [bv_back, BitVec.and_assoc, h]
theorem bits15 (a : Int) : 0 ≤ bits .and .i64 a 15 ∧ bits .and .i64 a 15 < 16 := by
  have e : (BitVec.ofInt 64 a &&& BitVec.ofInt 64 15).toNat ≤ 15 := by
    rw [BitVec.toNat_and]; exact Nat.and_le_right
  show 0 ≤ IntKind.wrap .i64 ((BitVec.ofInt 64 a &&& BitVec.ofInt 64 15).toNat : Int) ∧ IntKind.wrap .i64 ((BitVec.ofInt 64 a &&& BitVec.ofInt 64 15).toNat : Int) < 16
  rw [IntWalk.i64_in _ (by omega)]
  omega
theorem bit_same (n : _root_.Fin 16) (c : _root_.Fin 4) : (bits .and .i64 (Int.fdiv (n.val : Int) (2 ^ (min (IntKind.wrap .u64 (c.val : Int)).toNat IntKind.i64.bits))) 1 == 0) = (bits .and .i64 (n.val : Int) (IntKind.wrap .i64 (1 * 2 ^ (min (IntKind.wrap .u64 (c.val : Int)).toNat IntKind.i64.bits))) == 0) := by
  revert n c; decide +kernel
theorem bit_of (a : Int) (c : Nat) (hc : c < 4) : (bits .and .i64 (Int.fdiv (bits .and .i64 a 15) (2 ^ (min (IntKind.wrap .u64 (c : Int)).toNat IntKind.i64.bits))) 1 == 0) = (bits .and .i64 a (IntKind.wrap .i64 (1 * 2 ^ (min (IntKind.wrap .u64 (c : Int)).toNat IntKind.i64.bits))) == 0) := by
  obtain ⟨h0, h1⟩ := bits15 a
  have hm : BitVec.ofInt 64 15 &&& BitVec.ofInt 64 (IntKind.wrap .i64 (1 * 2 ^ (min (IntKind.wrap .u64 (c : Int)).toNat IntKind.i64.bits))) = BitVec.ofInt 64 (IntKind.wrap .i64 (1 * 2 ^ (min (IntKind.wrap .u64 (c : Int)).toNat IntKind.i64.bits))) := by
    rcases (by omega : c = 0 ∨ c = 1 ∨ c = 2 ∨ c = 3) with rfl | rfl | rfl | rfl <;> decide +kernel
  rw [← bits_mask a hm]
  generalize hb : bits .and .i64 a 15 = b at h0 h1
  obtain ⟨n, rfl⟩ : ∃ n : Nat, b = n := ⟨b.toNat, by omega⟩
  exact bit_same ⟨n, by omega⟩ ⟨c, hc⟩
theorem mask16 (a : Int) : (bits .and .i64 a 15).fdiv 16 = 0 := by
  obtain ⟨h0, h1⟩ := bits15 a
  rw [Int.fdiv_eq_ediv_of_nonneg _ (by omega)]
  omega
end Go.Abs

set_option linter.all false
namespace Go.Abs
open Go
section
variable {P : Program}
/-! ### What lies at the beginning of the own heap stays -/
theorem tk_keep {H l h : List Entry} {e : Entry} (hT : H.take h.length = h) (hkl : h.length < H.length) : (H.set h.length e ++ l).take h.length = h := by
  rw [List.take_append_of_le_length (by rw [List.length_set]; omega), List.take_set_of_le (Nat.le_refl _)]; exact hT
theorem get_keep {H l h : List Entry} {e : Entry} (hkl : h.length < H.length) : (H.set h.length e ++ l)[h.length]? = some e := by
  rw [List.getElem?_append_left (by rw [List.length_set]; exact hkl), List.getElem?_set_self hkl]
theorem get_stay {H l : List Entry} {k j : Nat} {e x : Entry} (hj : H[j]? = some x) (hne : k ≠ j) : (H.set k e ++ l)[j]? = some x := by
  rw [List.getElem?_append_left (by rw [List.length_set]; exact lt_some hj), List.getElem?_set_ne hne]; exact hj
theorem tk_keep2 {H l h : List Entry} {e e' : Entry} {k : Nat} (hT : H.take h.length = h) (hkl : h.length < H.length) (hk : h.length < k) : ((H.set h.length e).set k e' ++ l).take h.length = h := by
  rw [List.take_append_of_le_length (by simp; omega), List.take_set_of_le (by omega), List.take_set_of_le (Nat.le_refl _)]; exact hT
theorem get_keep2 {H l h : List Entry} {e e' : Entry} {k : Nat} (hkl : h.length < H.length) (hk : h.length < k) : ((H.set h.length e).set k e' ++ l)[h.length]? = some e := by
  rw [List.getElem?_append_left (by simp; exact hkl), List.getElem?_set_ne (by omega), List.getElem?_set_self hkl]
theorem get_keep3 {H l h : List Entry} {e e' : Entry} {k : Nat} (hkl : k < H.length) : ((H.set h.length e).set k e' ++ l)[k]? = some e' := by
  rw [List.getElem?_append_left (by simp; exact hkl), List.getElem?_set_self (by simp; exact hkl)]
theorem tk_keep4 {H l h : List Entry} {e e' : Entry} {k : Nat} (hT : H.take h.length = h) (hkl : h.length < H.length) (hk : h.length < k) : ((H.set k e').set h.length e ++ l).take h.length = h := by
  rw [List.take_append_of_le_length (by simp; omega), List.take_set_of_le (Nat.le_refl _), List.take_set_of_le (by omega)]; exact hT
theorem get_keep5 {H l h : List Entry} {e e' : Entry} {k : Nat} (hkl : h.length < H.length) : ((H.set k e').set h.length e ++ l)[h.length]? = some e := by
  rw [List.getElem?_append_left (by simp; exact hkl), List.getElem?_set_self (by simp; exact hkl)]
theorem get_keep4 {H l h : List Entry} {e e' : Entry} {k : Nat} (hkl : k < H.length) (hk : h.length < k) : ((H.set k e').set h.length e ++ l)[k]? = some e' := by
  rw [List.getElem?_append_left (by simp; exact hkl), List.getElem?_set_ne (by omega), List.getElem?_set_self hkl]
theorem k_giveA (hP : WF P) {g : FuncId} {args args' raw : List AV} {r : AV} {k : Nat} {T : TypeId} {es : List AV} {st : Status} {env : Env} {h : List Entry} {s : List Ctl} {d : Option Tmp} {Q : APost} (hk : h[k]? = some ⟨T, es, st⟩) (ho : st = .own ∨ st = .fz) (hne : es ≠ []) (ha : args.map (bz (h.set k ⟨T, es, .fz⟩) 4) = args') (hp : Fn P g args' r)
    (hk2 : Rn P s .normal (putD env d r) (h.set k ⟨T, es, .fz⟩) Q) : Rk P g args raw d s env h Q := by
  rcases ho with rfl | rfl
  · exact k_give hP hk rfl hne ha hp hk2
  · have e : h.set k ⟨T, es, .fz⟩ = h := by
      refine List.ext_getElem? fun j => ?_
      rw [List.getElem?_set]
      split
      · rename_i e
        subst e
        rw [if_pos (lt_some hk), hk]
      · rfl
    rw [e] at ha hk2
    exact k_read hP ha hp hk2
/-- a loop that allocates: what lies at the beginning of the own heap stays -/
def GI1 (h : List Entry) (e0 : Entry) (p : Nat → Prop) (E : Nat → (Nat → AV) → Env) (i : Nat) (env : Env) (hh : List Entry) : Prop := p i ∧ hh.take h.length = h ∧ hh[h.length]? = some e0 ∧ env = E i (lk env)
theorem GI1.mk {h H l : List Entry} {e0 : Entry} {p : Nat → Prop} {E : Nat → (Nat → AV) → Env} {i : Nat} {env : Env} (hp : p i) (hT : H.take h.length = h) (h0 : H[h.length]? = some e0) (he : env = E i (lk env)) : GI1 h e0 p E i env (H ++ l) := by
  have := lt_some h0
  exact ⟨hp, by rw [List.take_append_of_le_length (by omega)]; exact hT, by rw [List.getElem?_append_left this]; exact h0, he⟩
theorem GI1.mk0 {h H : List Entry} {e0 : Entry} {p : Nat → Prop} {E : Nat → (Nat → AV) → Env} {i : Nat} {env : Env} (hp : p i) (hT : H.take h.length = h) (h0 : H[h.length]? = some e0) (he : env = E i (lk env)) : GI1 h e0 p E i env H := ⟨hp, hT, h0, he⟩
def GI2 (h : List Entry) (e0 e1 : Entry) (p : Nat → Prop) (E : Nat → (Nat → AV) → Env) (i : Nat) (env : Env) (hh : List Entry) : Prop := p i ∧ hh.take h.length = h ∧ hh[h.length]? = some e0 ∧ hh[h.length + 1]? = some e1 ∧ env = E i (lk env)
theorem GI2.mk {h H l : List Entry} {e0 e1 : Entry} {p : Nat → Prop} {E : Nat → (Nat → AV) → Env} {i : Nat} {env : Env} (hp : p i) (hT : H.take h.length = h) (h0 : H[h.length]? = some e0) (h1 : H[h.length + 1]? = some e1) (he : env = E i (lk env)) : GI2 h e0 e1 p E i env (H ++ l) := by
  have := lt_some h1
  exact ⟨hp, by rw [List.take_append_of_le_length (by omega)]; exact hT, by rw [List.getElem?_append_left (by omega)]; exact h0, by rw [List.getElem?_append_left this]; exact h1, he⟩
end
end Go.Abs

set_option linter.all false
namespace Go.Abs
open Go
section
variable {P : Program}
/-! ### A stack is cut in two -/
theorem rn_app {s2 : List Ctl} {Q : APost} : ∀ (s1 : List Ctl) (e : AEx) (env : Env) (h : List Entry), Rn P (s1 ++ s2) e env h Q = Rn P s1 e env h fun e' env' h' => Rn P s2 e' env' h' Q
  | [], e, env, h => rfl
  | c :: s1, e, env, h => by
    have IH := rn_app (s2 := s2) (Q := Q) s1
    cases c <;> cases e <;> simp only [List.cons_append, Rn, IH]
theorem rn_mono {Q Q' : APost} (hq : ∀ e env h, Q e env h → Q' e env h) : ∀ (s : List Ctl) (e : AEx) (env : Env) (h : List Entry), Rn P s e env h Q → Rn P s e env h Q'
  | [], e, env, h, hr => hq _ _ _ hr
  | c :: s, e, env, h, hr => by
    have IH := rn_mono hq s
    cases c <;> cases e <;> simp only [Rn] at hr ⊢ <;> first
      | exact awp_mono _ _ _ (fun e env' h' hm => IH _ _ _ hm) hr
      | exact aops_mono (fun env' h' hm => IH _ _ _ hm) _ _ _ hr
      | exact dwp_mono (fun env' h' hm => IH _ _ _ hm) _ _ _ _ _ _ hr
      | exact IH _ _ _ hr
      | (split at hr
         · rw [if_pos ‹_›]; exact IH _ _ _ hr
         · rw [if_neg ‹_›]; exact IH _ _ _ hr)
theorem r_cutn (n : Nat) {s : List Ctl} {e : AEx} {env : Env} {h : List Entry} {Q : APost} (M : APost) (h1 : Rn P (s.take n) e env h M) (h2 : ∀ e env' h', M e env' h' → Rn P (s.drop n) e env' h' Q) : Rn P s e env h Q := by
  have := rn_app (P := P) (s2 := s.drop n) (Q := Q) (s.take n) e env h
  rw [List.take_append_drop] at this
  rw [this]
  exact rn_mono h2 _ _ _ _ h1
theorem View.mk' {X : Nat → Prop} {h : List Entry} {T : TypeId} {k n lo : Nat} {es l : List AV} (z : List AV) (hx : X k) (hk : h[k]? = some ⟨T, es, .own⟩) (hes : es = l ++ z) (hn : n = l.length) : View X h T (.win k [] T 0 n lo) l := by
  subst hes; subst hn; exact .win hx hk
/-! ### One element is appended to a slice of one's own -/
theorem rh_app {X : Nat → Prop} {h : List Entry} {T : TypeId} {v : AV} {l : List AV} (y : AV) (hv : View X h T v l) :
    ∃ v' h', View (grow X h h') h' T v' (l ++ [y]) ∧ h.length ≤ h'.length ∧ (∀ j e, h[j]? = some e → (¬ X j ∨ e.T ≠ T) → h'[j]? = some e) ∧
      ∀ (d : Option Tmp) (s : List Ctl) (env : Env) (Q : APost), Rn P s .normal (putD env d v') h' Q → Rh P (stAppendTo T [y] h.length v) d s env h Q := by
  cases hv with
  | nil =>
    refine ⟨.win h.length [] T 0 1 1, h ++ [⟨T, [y], .own⟩], ?_, by simp, fun j e hj _ => by rw [List.getElem?_append_left (lt_some hj)]; exact hj, fun d s env Q hr => ?_⟩
    · exact View.mk' (l := [y]) [] (.inr ⟨Nat.le_refl _, by simp⟩) (by rw [get_at0]; rfl) rfl rfl
    · simp only [stAppendTo, List.length_cons, List.length_nil, Nat.zero_add, rh_new]
      exact hr
  | @win k lo _ z hx hk =>
    have hkl := lt_some hk
    have htk : (l ++ z).take l.length = l := by simp
    have hle : l.length ≤ (l ++ z).length := by simp
    have hdr : (l ++ z).drop (l.length + 1) = z.drop 1 := by rw [List.drop_append]; simp
    have hkH : (h ++ [(⟨0, [], .hole⟩ : Entry)])[k]? = some ⟨T, l ++ z, .own⟩ := by rw [List.getElem?_append_left hkl]; exact hk
    by_cases hfit : l.length + 1 ≤ lo
    · refine ⟨.win k [] T 0 (l.length + 1) lo, h.set k ⟨T, l ++ [y] ++ z.drop 1, .own⟩ ++ [⟨0, [], .hole⟩], ?_, by simp, fun j e hj hc => ?_, fun d s env Q hr => ?_⟩
      · exact View.mk' (l := l ++ [y]) (z.drop 1) (.inl hx) (by rw [List.getElem?_append_left (by simpa using hkl), List.getElem?_set_self hkl]) rfl (by simp)
      · rw [List.getElem?_append_left (by simpa using lt_some hj), List.getElem?_set_ne]
        · exact hj
        · rintro rfl
          rw [hk] at hj
          cases hj
          rcases hc with hc | hc
          · exact hc hx
          · exact hc rfl
      · simp only [stAppendTo, isNilB, and_self, if_true, rh_rd, hkH, rhd_some, htk, hle, hdr, List.length_cons, List.length_nil, Nat.zero_add, hfit, rh_ret, wrAll]
        rw [List.set_append_left _ _ hkl]
        exact hr
    · refine ⟨.win h.length [] T 0 (l.length + 1) (l.length + 1), h.set k ⟨T, [], .dead⟩ ++ [⟨T, l ++ [y], .own⟩], ?_, by simp, fun j e hj hc => ?_, fun d s env Q hr => ?_⟩
      · refine View.mk' (l := l ++ [y]) (es := l ++ [y]) [] (.inr ⟨Nat.le_refl _, by simp⟩) ?_ (by simp) (by simp)
        have := get_at0 (h.set k ⟨T, [], .dead⟩) [⟨T, l ++ [y], .own⟩]
        rw [List.length_set] at this
        exact this
      · rw [List.getElem?_append_left (by simpa using lt_some hj), List.getElem?_set_ne]
        · exact hj
        · rintro rfl
          rw [hk] at hj
          cases hj
          rcases hc with hc | hc
          · exact hc hx
          · exact hc rfl
      · simp only [stAppendTo, isNilB, and_self, if_true, rh_rd, hkH, rhd_some, htk, hle, hdr, List.length_cons, List.length_nil, Nat.zero_add, hfit, if_false, rh_ret, wrAll]
        rw [List.set_append_left _ _ hkl]
        have := set_at0 (h.set k ⟨T, [], .dead⟩) [(⟨0, [], .hole⟩ : Entry)] ⟨T, l ++ [y], .own⟩
        rw [List.length_set] at this
        rw [this]
        exact hr
/-- the same in a region that draws its order -/
theorem ds_app {X : Nat → Prop} {h : List Entry} {T : TypeId} {v : AV} {l : List AV} (y : AV) {n : Nat} {eh : Entry} (hn : h[n]? = some eh) (hst : eh.st = .hole) (hv : View X h T v l) :
    ∃ v' wr rd, View (fun j => X j ∨ j = n) (wrAll h wr) T v' (l ++ [y]) ∧ (wrAll h wr).length = h.length ∧ (∀ j e, h[j]? = some e → j ≠ n → (¬ X j ∨ e.T ≠ T) → (wrAll h wr)[j]? = some e) ∧
      ∀ (acc : List Nat) (D : DC) (s : List Ctl) (env : Env) (Q : APost), Dv P v' (.wr wr) (acc ++ rd) D s env h Q → Ds P (stAppendTo T [y] n v) acc D s env h Q := by
  have hnl := lt_some hn
  cases hv with
  | nil =>
    refine ⟨.win n [] T 0 1 1, [(n, ⟨T, [y], .own⟩)], [], ?_, by simp [wrAll], fun j e hj hjn _ => by simp only [wrAll]; rw [List.getElem?_set_ne (Ne.symm hjn)]; exact hj, fun acc D s env Q hr => ?_⟩
    · exact View.mk' (l := [y]) (es := [y]) [] (.inr rfl) (by simp only [wrAll]; rw [List.getElem?_set_self hnl]) rfl rfl
    · simp only [stAppendTo, List.length_cons, List.length_nil, Nat.zero_add, ds_ret]
      rw [List.append_nil] at hr
      exact hr
  | @win k lo _ z hx hk =>
    have hkl := lt_some hk
    have hkn : k ≠ n := by
      rintro rfl
      rw [hk] at hn
      cases hn
      cases hst
    have htk : (l ++ z).take l.length = l := by simp
    have hle : l.length ≤ (l ++ z).length := by simp
    have hdr : (l ++ z).drop (l.length + 1) = z.drop 1 := by rw [List.drop_append]; simp
    by_cases hfit : l.length + 1 ≤ lo
    · refine ⟨.win k [] T 0 (l.length + 1) lo, [(k, ⟨T, l ++ [y] ++ z.drop 1, .own⟩)], [k], ?_, by simp [wrAll], fun j e hj hjn hc => ?_, fun acc D s env Q hr => ?_⟩
      · exact View.mk' (l := l ++ [y]) (z.drop 1) (.inl hx) (by simp only [wrAll]; rw [List.getElem?_set_self hkl]) rfl (by simp)
      · simp only [wrAll]
        rw [List.getElem?_set_ne]
        · exact hj
        · rintro rfl
          rw [hk] at hj
          cases hj
          rcases hc with hc | hc
          · exact hc hx
          · exact hc rfl
      · simp only [stAppendTo, isNilB, and_self, if_true, ds_rd, hk, dd_some, htk, hle, hdr, List.length_cons, List.length_nil, Nat.zero_add, hfit, ds_ret]
        exact hr
    · refine ⟨.win n [] T 0 (l.length + 1) (l.length + 1), [(k, ⟨T, [], .dead⟩), (n, ⟨T, l ++ [y], .own⟩)], [k], ?_, by simp [wrAll], fun j e hj hjn hc => ?_, fun acc D s env Q hr => ?_⟩
      · exact View.mk' (l := l ++ [y]) (es := l ++ [y]) [] (.inr rfl) (by simp only [wrAll]; rw [List.getElem?_set_self (by simpa using hnl)]) (by simp) (by simp)
      · simp only [wrAll]
        rw [List.getElem?_set_ne (Ne.symm hjn), List.getElem?_set_ne]
        · exact hj
        · rintro rfl
          rw [hk] at hj
          cases hj
          rcases hc with hc | hc
          · exact hc hx
          · exact hc rfl
      · simp only [stAppendTo, isNilB, and_self, if_true, ds_rd, hk, dd_some, htk, hle, hdr, List.length_cons, List.length_nil, Nat.zero_add, hfit, if_false, ds_ret]
        exact hr
end
end Go.Abs

set_option linter.all false
namespace Go.Abs
open Go
section
variable {P : Program}
/-! ### nil taken for empty, in a row's elements too -/
def wkr (P : Program) (T : TypeId) (a : AV) : AV := match a with
  | .list e es => .list e (es.map (wk P 6 e))
  | a => wk P 6 T a
theorem wkr_list (T e : TypeId) (es : List AV) : wkr P T (.list e es) = .list e (es.map (wk P 6 e)) := rfl
theorem wkr_agg' (T U : TypeId) (vs : List AV) : wkr P T (.agg U vs) = wk P 6 T (.agg U vs) := rfl
theorem wkr_nils (T : TypeId) : wkr P T .nils = wk P 6 T .nils := rfl
theorem wkr_agg {T : TypeId} {a : AV} : isAgg (wkr P T a) = isAgg a := by
  unfold wkr
  split
  · rfl
  · exact wk_agg
theorem wkr_rep {c : Cx} (T : TypeId) (a : AV) (cs : List Value) (ht : tyOK P a T) (h : Rep P c a cs) : tyOK P (wkr P T a) T ∧ Rep P c (wkr P T a) cs := by
  unfold wkr
  split
  · rename_i e es
    refine ⟨by simp only [tyOK] at ht ⊢; exact ht, ?_⟩
    simp only [Rep] at h ⊢
    obtain ⟨a0, cap, h1, h2, h3⟩ := h
    refine ⟨a0, cap, by rw [List.length_map]; exact h1, by rw [List.length_map]; exact h2, fun hne => ?_⟩
    obtain ⟨b, off, C, Te, m, g1, g2, g3, g4⟩ := h3 (by rintro rfl; exact hne rfl)
    refine ⟨b, off, C, Te, m, g1, g2, g3, repE_iff.2 fun i v hv => ?_⟩
    rw [List.getElem?_map, Option.map_eq_some_iff] at hv
    obtain ⟨u, hu, rfl⟩ := hv
    obtain ⟨k1, k2⟩ := repE_get g4 hu
    exact wk_rep 6 e u _ k1 k2
  · exact wk_rep 6 T _ cs ht h
def wkrs (P : Program) : List TypeId → List AV → List AV
  | T :: ts, a :: as => wkr P T a :: wkrs P ts as
  | _, as => as
theorem wkrs_rep {c : Cx} : ∀ (ts : List TypeId) (as : List AV) (vs : List Value), argsOK P ts as → RepV P c as vs → RepV P c (wkrs P ts as) vs
  | [], [], vs, _, h => by simpa only [wkrs] using h
  | [], _ :: _, vs, ho, h => ho.elim
  | _ :: _, [], vs, ho, h => ho.elim
  | T :: ts, a :: as, vs, ho, h => by
    simp only [RepV] at h
    obtain ⟨v, r, rfl, h1, h2, h3⟩ := h
    simp only [wkrs, RepV]
    refine ⟨v, r, rfl, by rw [wkr_agg]; exact h1, (wkr_rep T a _ (tyB_ok ho.1) h2).2, wkrs_rep ts as r ho.2 h3⟩
theorem pure_wkr_tup {f : FuncId} {args : List AV} {R : AV → Prop} (ts : List TypeId) {l1 : List AV} (hf : Pure P f args R) (hR : ∀ r, R r → ∃ l, r = .tup l ∧ argsOK P ts l ∧ wkrs P ts l = l1) : Fn P f args (.tup l1) := by
  intro h
  obtain ⟨hc, hs⟩ := hf h
  refine ⟨hc, fun κ w vs hr hv => (hs κ w vs hr hv).mono ?_⟩
  rintro e' w' ⟨v, r, h', κ', rfl, h1, h2, h3, h4, h5⟩
  obtain ⟨l, rfl, ht, hw⟩ := hR r h5
  subst hw
  refine ⟨v, .tup (wkrs P ts l), h', κ', rfl, h1, h2, ?_, h4, rfl⟩
  simp only [VV] at h3 ⊢
  obtain ⟨l', rfl, h3⟩ := h3
  exact ⟨l', rfl, wkrs_rep ts l l' ht h3⟩
end
end Go.Abs
