/- Abs24: a part of the proofs about the tuple space (layer 8). -/
import Derived.Test.YtelohjfiojpeeaaAbs23
set_option linter.all false
namespace Go.Abs
open Go
section
variable {P : Program}

/-! ### What the caller owns is lent: shown as memory that nobody writes while the call runs -/
def bwRef (f : AV → AV) (T : TypeId) (p : List Nat) (a : AV) : Option Entry → AV
  | some e => if liveB e.st = true then (match getE e.es p with | some v => .eref T (f v) | none => a) else a
  | none => a
def bwWin (f : AV → AV) (T : TypeId) (p : List Nat) (fr m : Nat) (a : AV) : Option Entry → AV
  | some e => if liveB e.st = true then (match winGet e.es p fr m with | some ys => .list T (ys.map f) | none => a) else a
  | none => a
def bw (h : List Entry) : Nat → AV → AV
  | 0, a => a
  | n + 1, a => match a with
    | .ref k p T => bwRef (bw h n) T p (.ref k p T) h[k]?
    | .win k p T fr m lo => bwWin (bw h n) T p fr m (.win k p T fr m lo) h[k]?
    | .agg T vs => .agg T (vs.map (bw h n))
    | .list T es => .list T (es.map (bw h n))
    | .eref T v => .eref T (bw h n v)
    | .fn f caps => .fn f (caps.map (bw h n))
    | a => a

theorem bw_agg {h : List Entry} {n : Nat} {a : AV} : isAgg (bw h n a) = isAgg a := by
  cases n with
  | zero => rfl
  | succ n =>
    cases a <;> simp only [bw] <;> try rfl
    · unfold bwWin; (repeat' split) <;> rfl
    · unfold bwRef; (repeat' split) <;> rfl
theorem bw_ty {h : List Entry} {n : Nat} {a : AV} {T : TypeId} (ht : tyOK P a T) : tyOK P (bw h n a) T := by
  cases n with
  | zero => exact ht
  | succ n =>
    cases a <;> simp only [bw] <;> try exact ht
    · unfold bwWin; (repeat' split) <;> first | exact ht | (simp only [tyOK] at ht ⊢; exact ht)
    · unfold bwRef; (repeat' split) <;> first | exact ht | (simp only [tyOK] at ht ⊢; exact ht)

def cx0 (c : Cx) : Cx := trimCx c 0
theorem O_cx0 {c : Cx} {b : Nat} : ¬ (cx0 c).O b := by
  rintro ⟨k, e, he, _⟩
  simp [cx0, trimCx] at he

theorem rep_bw (hP : WF P) {c : Cx} (hr : HR P c) : ∀ (n : Nat) (a : AV) (cs : List Value), below 0 (bw c.h n a) = true → Rep P c a cs → Rep P (cx0 c) (bw c.h n a) cs
  | 0, a, cs, hb, h => rep_trim a cs hb h
  | n + 1, a, cs, hb, h => by
    have IH := rep_bw hP hr n
    have IHE : ∀ (es : List AV) (T : TypeId) (cs : List Value), (es.map (bw c.h n)).all (below 0) = true → RepE P c es T cs → RepE P (cx0 c) (es.map (bw c.h n)) T cs := by
      intro es T cs hb h
      refine repE_iff.2 fun i v hv => ?_
      rw [List.getElem?_map, Option.map_eq_some_iff] at hv
      obtain ⟨u, hu, rfl⟩ := hv
      obtain ⟨h1, h2⟩ := repE_get h hu
      refine ⟨bw_ty h1, IH u _ ?_ h2⟩
      exact List.all_eq_true.1 hb _ (List.mem_of_getElem? (by rw [List.getElem?_map, hu]; rfl))
    have h0 := h
    cases a <;> simp only [bw] at hb ⊢ <;> try exact rep_trim _ _ hb h
    case agg T vs =>
      rw [below_agg] at hb
      simp only [Rep] at h ⊢
      refine ⟨h.1, ?_⟩
      have h2 := h.2
      split at h2
      · obtain ⟨hl, hall⟩ := repF_iff.1 h2
        refine repF_iff.2 ⟨by simp [hl], fun i v f hv hf => ?_⟩
        rw [List.getElem?_map, Option.map_eq_some_iff] at hv
        obtain ⟨u, hu, rfl⟩ := hv
        obtain ⟨h3, h4⟩ := hall i u f hu hf
        exact ⟨bw_ty h3, IH u _ (List.all_eq_true.1 hb _ (List.mem_of_getElem? (by rw [List.getElem?_map, hu]; rfl))) h4⟩
      · exact ⟨by simpa using h2.1, IHE _ _ _ hb h2.2⟩
      · exact h2.elim
    case list T es =>
      rw [below_list] at hb
      simp only [Rep] at h ⊢
      obtain ⟨a, cap, rfl, hc, h⟩ := h
      refine ⟨a, cap, by simp, by simpa using hc, fun hne => ?_⟩
      obtain ⟨b, off, C, Te, m, ha, hbk, hO, hE⟩ := h (by intro e; exact hne (by simp [e]))
      exact ⟨b, off, C, Te, m, ha, hbk, O_cx0, IHE _ _ _ hb hE⟩
    case eref T v =>
      simp only [below] at hb
      simp only [Rep] at h ⊢
      obtain ⟨b, off, C, Te, m, rfl, hbk, hO, ht, hE⟩ := h
      exact ⟨b, off, C, Te, m, rfl, hbk, O_cx0, bw_ty ht, IH v _ hb hE⟩
    case fn f caps =>
      rw [below_fn] at hb
      simp only [Rep] at h ⊢
      obtain ⟨vs, rfl, hv⟩ := h
      refine ⟨vs, rfl, ?_⟩
      clear h0
      induction caps generalizing vs with
      | nil => simp only [RepV] at hv; subst hv; simp [RepV]
      | cons a as ih =>
        simp only [List.map_cons, List.all_cons, Bool.and_eq_true] at hb
        simp only [RepV] at hv
        obtain ⟨v, r, rfl, h1, h2, h3⟩ := hv
        simp only [List.map_cons, RepV]
        exact ⟨v, r, rfl, by rw [bw_agg]; exact h1, IH a _ hb.1 h2, ih hb.2 r h3⟩
    case ref k p T =>
      unfold bwRef at hb ⊢
      split at hb
      · rename_i e he
        try simp only [he]
        split at hb
        · rename_i hl
          rw [if_pos hl]
          split at hb
          · rename_i v hg
            try simp only [hg]
            simp only [below] at hb
            simp only [Rep] at h
            obtain ⟨e', b, off, he', _, hk, ho, rfl⟩ := h
            rw [he] at he'
            cases he'
            obtain ⟨C, m, hbk, _, _, hle, hes⟩ := hr.block he (live_of_liveB hl) hk
            obtain ⟨h1, h2, h3⟩ := getE_rep hP hes ho hg
            simp only [Rep]
            exact ⟨b, off, C, e.T, m, rfl, hbk, O_cx0, bw_ty h1, IH v _ hb h2⟩
          · rename_i hg
            simp only [below, decide_eq_true_eq] at hb
            omega
        · simp only [below, decide_eq_true_eq] at hb
          omega
      · simp only [below, decide_eq_true_eq] at hb
        omega
    case win k p T fr m lo =>
      unfold bwWin at hb ⊢
      split at hb
      · rename_i e he
        try simp only [he]
        split at hb
        · rename_i hl
          rw [if_pos hl]
          split at hb
          · rename_i ys hg
            try simp only [hg]
            have hvv : ∃ v, cs = [v] ∧ VV P c (.win k p T fr m lo) v := by
              have h' := h
              simp only [Rep] at h'
              obtain ⟨_, _, _, _, _, rfl, _⟩ := h'
              exact ⟨_, rfl, (vv_cell rfl (by simp) (by simp)).2 ⟨rfl, h⟩⟩
            obtain ⟨v, rfl, hv⟩ := hvv
            obtain ⟨hlen, hread⟩ := win_read hP hr hv he (live_of_liveB hl) hg
            rw [below_list] at hb
            obtain ⟨_, cap0, a0, _, _, rfl, _, hmc, _⟩ := vv_win hv
            simp only [Rep]
            refine ⟨a0, cap0, by simp [hlen], by simp; omega, fun hne => ?_⟩
            have hm0 : m ≠ 0 := by rintro rfl; exact hne (by simp [List.eq_nil_of_length_eq_zero hlen])
            obtain ⟨b, off, C, mk, cap, hveq, hkb, hbk, _, _, _, _, hE⟩ := hread hm0
            simp only [Value.slice.injEq] at hveq
            exact ⟨b, off + fr * P.cellsOf T, C, e.T, mk, hveq.1, hbk, O_cx0, IHE _ _ _ hb hE⟩
          · simp only [below, decide_eq_true_eq] at hb
            omega
        · simp only [below, decide_eq_true_eq] at hb
          omega
      · simp only [below, decide_eq_true_eq] at hb
        omega

mutual
/-- plain data, without memory -/
def flat : AV → Bool
  | .int .. => true
  | .bool _ => true
  | .str _ => true
  | .agg _ vs => flatL vs
  | .tup vs => flatL vs
  | .nils => true
  | .nilptr => true
  | .nilfn => true
  | _ => false
def flatL : List AV → Bool
  | [] => true
  | v :: vs => flat v && flatL vs
end

mutual
theorem rep_flat {c c' : Cx} : ∀ (a : AV) (cs : List Value), flat a = true → Rep P c a cs → Rep P c' a cs
  | .int k m, cs, _, h => by simpa only [Rep] using h
  | .bool b, cs, _, h => by simpa only [Rep] using h
  | .str s, cs, _, h => by simpa only [Rep] using h
  | .agg T vs, cs, hb, h => by
    simp only [flat] at hb
    simp only [Rep] at h ⊢
    refine ⟨h.1, ?_⟩
    have h2 := h.2
    split at h2
    · exact repF_flat _ _ _ hb h2
    · exact ⟨h2.1, repE_flat _ _ _ hb h2.2⟩
    · exact h2.elim
  | .list T es, cs, hb, h => by simp [flat] at hb
  | .win k p T fr m lo, cs, hb, h => by simp [flat] at hb
  | .ref k p T, cs, hb, h => by simp [flat] at hb
  | .eref T v, cs, hb, h => by simp [flat] at hb
  | .nilptr, cs, _, h => by simpa only [Rep] using h
  | .fn f caps, cs, hb, h => by simp [flat] at hb
  | .nilfn, cs, _, h => by simpa only [Rep] using h
  | .nils, cs, _, h => by simpa only [Rep] using h
  | .tup _, cs, _, h => by simp only [Rep] at h
  | .junk, cs, _, h => by simp only [Rep] at h
theorem repF_flat {c c' : Cx} : ∀ (vs : List AV) (fs : List (TypeId × Nat)) (cs : List Value), flatL vs = true → RepF P c vs fs cs → RepF P c' vs fs cs
  | [], fs, cs, _, h => by simpa only [RepF] using h
  | v :: vs, fs, cs, hb, h => by
    simp only [flatL, Bool.and_eq_true] at hb
    simp only [RepF] at h ⊢
    obtain ⟨f, r, rfl, h1, h2, h3⟩ := h
    exact ⟨f, r, rfl, h1, rep_flat _ _ hb.1 h2, repF_flat _ _ _ hb.2 h3⟩
theorem repE_flat {c c' : Cx} : ∀ (vs : List AV) (T : TypeId) (cs : List Value), flatL vs = true → RepE P c vs T cs → RepE P c' vs T cs
  | [], T, cs, _, h => by simp only [RepE]
  | v :: vs, T, cs, hb, h => by
    simp only [flatL, Bool.and_eq_true] at hb
    simp only [RepE] at h ⊢
    exact ⟨h.1, rep_flat _ _ hb.1 h.2.1, repE_flat _ _ _ hb.2 h.2.2⟩
end

theorem vv_flat {c c' : Cx} {r : AV} {v : Value} (hf : flat r = true) (h : VV P c r v) : VV P c' r v := by
  cases r <;> simp only [VV] at h ⊢ <;> try (exact ⟨h.1, rep_flat _ _ hf h.2⟩)
  rename_i vs
  obtain ⟨l, rfl, h⟩ := h
  refine ⟨l, rfl, ?_⟩
  simp only [flat] at hf
  induction vs generalizing l with
  | nil => simpa only [RepV] using h
  | cons a as ih =>
    simp only [flatL, Bool.and_eq_true] at hf
    simp only [RepV] at h ⊢
    obtain ⟨v, r, rfl, h1, h2, h3⟩ := h
    exact ⟨v, r, rfl, h1, rep_flat _ _ hf.1 h2, ih hf.2 r h3⟩

/-- A call that answers plain data may look at what the caller owns. -/
theorem FSpec.borrow (hP : WF P) {f : FuncId} {args : List AV} {h : List Entry} {R : AV → Prop} (hp : Pure P f (args.map (bw h 8)) R) (hb : (args.map (bw h 8)).all (below 0) = true) (hf : ∀ r, R r → flat r = true) :
    FSpec P f args h fun r h' => h' = h ∧ R r := by
  obtain ⟨hc, hs⟩ := hp []
  refine ⟨hc, fun κ w vs hr hv => ?_⟩
  have hr0 : HR P ⟨κ, [], w⟩ := ⟨fun k e he => by simp at he, fun k k' e e' b he => by simp at he⟩
  have hv0 : RepV P ⟨κ, [], w⟩ (args.map (bw h 8)) vs := by
    clear hs hp
    induction args generalizing vs with
    | nil => simp only [RepV] at hv; subst hv; simp [RepV]
    | cons a as ih =>
      simp only [List.map_cons, List.all_cons, Bool.and_eq_true] at hb
      simp only [RepV] at hv
      obtain ⟨v, r, rfl, h1, h2, h3⟩ := hv
      simp only [List.map_cons, RepV]
      refine ⟨v, r, rfl, by rw [bw_agg]; exact h1, ?_, ih hb.2 r h3⟩
      exact rep_bw (c := ⟨κ, h, w⟩) hP hr 8 a _ hb.1 h2
  refine (hs κ w vs hr0 hv0).mono ?_
  rintro e w' ⟨v, r, h', κ', rfl, h1, h2, h3, rfl, h4⟩
  have hO : ∀ b, ¬ (⟨κ, [], w⟩ : Cx).O b := by
    rintro b ⟨k, e, he, _⟩
    simp at he
  have hsame : ∀ b, b < w.heap.size → w'.heap[b]? = w.heap[b]? := fun b hb => h2.frozen b hb (hO b)
  have x : Ext ⟨κ, h, w⟩ ⟨κ, h, w'⟩ := ⟨h2.os, h2.tape, h2.output, h2.size, fun b hb _ => hsame b hb, h2.shape, fun b _ hO => hO, fun k e he hn => ⟨rfl, e, he, rfl, hn, id⟩⟩
  refine ⟨v, r, h, κ, rfl, ⟨fun k e he hl => ?_, hr.apart⟩, x, vv_flat (hf r h4) h3, rfl, h4⟩
  rcases hr.blk k e he hl with hn | ⟨b, C, m, q0, q1, q2, q3, q4, q5⟩
  · exact .inl hn
  · have hlt : b < w.heap.size := lt_of_heap q1
    exact .inr ⟨b, C, m, q0, (hsame b hlt).trans q1, q2, fun hf hO => q3 hf hO, q4, repE_mono x _ _ _ q5⟩

variable {env : Env} {h : List Entry} {s : List Ctl} {d : Option Tmp} {Q : APost} {D : DC}
theorem k_borrow (hP : WF P) {g : FuncId} {args args' raw : List AV} {r : AV} (ha : args.map (bw h 8) = args') (hp : Pure P g args' (fun r' => r' = r)) (hb : args'.all (below 0) = true) (hf : flat r = true) (hk : Rn P s .normal (putD env d r) h Q) : Rk P g args raw d s env h Q := by
  subst ha
  refine .inl ((FSpec.borrow hP hp hb fun r' e => by rw [e]; exact hf).mono ?_)
  rintro r' h' ⟨rfl, rfl⟩
  exact hk
theorem dk_borrow (hP : WF P) {g : FuncId} {args args' : List AV} {r : AV} (ha : args.map (bw h 8) = args') (hp : Pure P g args' (fun r' => r' = r)) (hb : args'.all (below 0) = true) (hf : flat r = true) (hk : Dv P r (.all h) [] D s env h Q) : Dk P g args D s env h Q := by
  subst ha
  refine dk_call ((FSpec.borrow hP hp hb fun r' e => by rw [e]; exact hf).mono ?_) hk
  rintro r' h' ⟨rfl, rfl⟩
  exact ⟨rfl, rfl⟩
end
end Go.Abs
