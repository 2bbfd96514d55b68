/- Abs12: a part of the proofs about the tuple space (layer 8). -/
import Derived.Test.YtelohjfiojpeeaaAbs11
import Derived.Lib.SliceRun
set_option linter.all false
namespace Go.Abs
open Go
section
variable {P : Program}

/-! ### Calls -/
/-- A function of the program's own text. -/
def callable (P : Program) (f : FuncId) : Bool := match P.funcs[f]? with
  | some fn => fn.name != "runtime.NumGoroutine" && fn.body.isSome
  | none => false

/-- What a call of function f at these abstract arguments comes to. -/
def FSpec (P : Program) (f : FuncId) (args : List AV) (h : List Entry) (K : AV → List Entry → Prop) : Prop :=
  callable P f = true ∧ ∀ (κ : Nat → Option Nat) (w : World) (vs : List Value), HR P ⟨κ, h, w⟩ → RepV P ⟨κ, h, w⟩ args vs → Calls P f vs.toArray w fun e w' =>
    ∃ (v : Value) (r : AV) (h' : List Entry) (κ' : Nat → Option Nat), e = .returned v ∧ HR P ⟨κ', h', w'⟩ ∧ Ext ⟨κ, h, w⟩ ⟨κ', h', w'⟩ ∧ VV P ⟨κ', h', w'⟩ r v ∧ K r h'

theorem FSpec.mono {f : FuncId} {args : List AV} {h : List Entry} {K K' : AV → List Entry → Prop} (hs : FSpec P f args h K) (hk : ∀ r h', K r h' → K' r h') : FSpec P f args h K' :=
  ⟨hs.1, fun κ w vs hr hv => (hs.2 κ w vs hr hv).mono fun e w' ⟨v, r, h', κ', h1, h2, h3, h4, h5⟩ => ⟨v, r, h', κ', h1, h2, h3, h4, hk _ _ h5⟩⟩

/-- A nil slice taken for an empty one. -/
def wk (P : Program) : Nat → TypeId → AV → AV
  | 0, _, a => a
  | n + 1, T, a => match a with
    | .nils => match shapeT P T with
      | .slice e => .list e []
      | _ => .nils
    | .agg T' vs => if T' = T then (match shapeT P T with
      | .struct => .agg T (List.zipWith (fun (f : TypeId × Nat) v => wk P n f.1 v) (fieldsT P T) vs)
      | .arr _ e => .agg T (vs.map (wk P n e))
      | _ => .agg T vs) else .agg T' vs
    | a => a

theorem wk_agg {n : Nat} {T : TypeId} {a : AV} : isAgg (wk P n T a) = isAgg a := by
  cases n with
  | zero => rfl
  | succ n =>
    cases a <;> simp only [wk]
    case nils => split <;> rfl
    case agg T' vs =>
      split
      · split <;> rfl
      · rfl

theorem wk_rep {c : Cx} : ∀ (n : Nat) (T : TypeId) (a : AV) (cs : List Value), tyOK P a T → Rep P c a cs → tyOK P (wk P n T a) T ∧ Rep P c (wk P n T a) cs
  | 0, T, a, cs, ht, h => ⟨ht, h⟩
  | n + 1, T, a, cs, ht, h => by
    have IH := wk_rep (c := c) n
    cases a <;> simp only [wk] <;> try exact ⟨ht, h⟩
    case nils =>
      simp only [tyOK] at ht
      obtain ⟨e, hs⟩ := ht
      rw [hs]
      simp only [Rep] at h
      subst h
      refine ⟨by simp only [tyOK]; exact hs, ?_⟩
      simp only [Rep]
      exact ⟨none, 0, rfl, Nat.le_refl _, fun h => absurd rfl h⟩
    case agg T' vs =>
      simp only [tyOK] at ht
      subst ht
      rw [if_pos rfl]
      have h' := h
      simp only [Rep] at h'
      cases hs : shapeT P T' <;> rw [hs] at h' <;> simp only [and_false] at h'
      case struct =>
        refine ⟨by simp only [tyOK], ?_⟩
        simp only [Rep, hs]
        refine ⟨h'.1, ?_⟩
        obtain ⟨hl, hall⟩ := repF_iff.1 h'.2
        refine repF_iff.2 ⟨by simp [hl], fun i v f hv hf => ?_⟩
        rw [List.getElem?_zipWith] at hv
        simp only [hf] at hv
        cases hvi : vs[i]? with
        | none => simp [hvi] at hv
        | some u =>
          simp only [hvi, Option.some.injEq] at hv
          subst hv
          obtain ⟨h1, h2⟩ := hall i u f hvi hf
          exact IH f.1 u _ h1 h2
      case arr m e =>
        refine ⟨by simp only [tyOK], ?_⟩
        simp only [Rep, hs]
        refine ⟨h'.1, by simpa using h'.2.1, repE_iff.2 fun i v hv => ?_⟩
        rw [List.getElem?_map, Option.map_eq_some_iff] at hv
        obtain ⟨u, hu, rfl⟩ := hv
        obtain ⟨h1, h2⟩ := repE_get h'.2.2 hu
        exact IH e u _ h1 h2

/-- arguments, each at its type: well formed, and nil slices taken for empty ones -/
def argsOK (P : Program) : List TypeId → List AV → Prop
  | [], [] => True
  | T :: ts, a :: as => tyB P a T = true ∧ argsOK P ts as
  | _, _ => False

def wks (P : Program) : List TypeId → List AV → List AV
  | T :: ts, a :: as => wk P 6 T a :: wks P ts as
  | _, as => as

theorem wks_rep {c : Cx} : ∀ (ts : List TypeId) (as : List AV) (vs : List Value), argsOK P ts as → RepV P c as vs → RepV P c (wks P ts as) vs
  | [], [], vs, _, h => by simpa only [wks] using h
  | [], _ :: _, vs, ho, h => ho.elim
  | _ :: _, [], vs, ho, h => ho.elim
  | T :: ts, a :: as, vs, ho, h => by
    simp only [RepV] at h
    obtain ⟨v, r, rfl, h1, h2, h3⟩ := h
    simp only [wks, RepV]
    refine ⟨v, r, rfl, by rw [wk_agg]; exact h1, (wk_rep 6 T a _ (tyB_ok ho.1) h2).2, wks_rep ts as r ho.2 h3⟩

theorem repV_append {c : Cx} : ∀ {as bs : List AV} {vs us : List Value}, RepV P c as vs → RepV P c bs us → RepV P c (as ++ bs) (vs ++ us)
  | [], bs, vs, us, h, h' => by simp only [RepV] at h; subst h; simpa using h'
  | a :: as, bs, vs, us, h, h' => by
    simp only [RepV] at h
    obtain ⟨v, r, rfl, h1, h2, h3⟩ := h
    simp only [List.cons_append, RepV]
    exact ⟨v, r ++ us, rfl, h1, h2, repV_append h3 h'⟩

/-! ### One operation -/
def Stp.wp (h : List Entry) (K : AV → List Entry → Prop) : Stp → Prop
  | .fail => False
  | .ret v wr => K v (wrAll h wr)
  | .rd k f => match h[k]? with
    | some e => (f e).wp h K
    | none => False

theorem Stp.wp_run {h : List Entry} {K : AV → List Entry → Prop} : ∀ {s : Stp}, s.wp h K → ∃ v wr, s.run h = some (v, wr) ∧ K v (wrAll h wr)
  | .fail, hw => hw.elim
  | .ret v wr, hw => ⟨v, wr, rfl, hw⟩
  | .rd k f, hw => by
    simp only [Stp.wp, Stp.run] at hw ⊢
    cases he : h[k]? with
    | none => simp [he] at hw
    | some e => simp only [he] at hw ⊢; exact Stp.wp_run hw

/-- a slice held against nil: what is known of the answer -/
def nilEq : AV → Option (Bool → Prop)
  | .nils => some fun b => b = true
  | .list _ es => some fun b => es ≠ [] → b = false
  | .win _ _ _ _ n _ => some fun b => n ≠ 0 → b = false
  | _ => none

def isNilConst : Operand → Bool
  | .const (.slice none _ _) => true
  | _ => false

/-- The weakest precondition of one operation. -/
def opwp (P : Program) (env : List (Nat × AV)) (h : List Entry) (o : Op) (K : AV → List Entry → Prop) : Prop :=
  match o with
  | .call { callee := .value f, args, argTypes } => match ev env f with
    | .fn g caps => argsOK P argTypes.toList (evs env args) ∧ (evs env args).all plainAV = true ∧ (FSpec P g (wks P argTypes.toList (evs env args) ++ caps) h K ∨ FSpec P g (evs env args ++ caps) h K)
    | _ => False
  | .pick c a b => match ev env c with
    | .bool t => (t = true → K (ev env a) h) ∧ (t = false → K (ev env b) h)
    | _ => False
  | .binOp op T x y T2 => if isNilConst y = true then (match nilEq (ev env x), op with
      | some p, .eql => isSlice (shapeT P T) = true ∧ ∀ b, p b → K (.bool b) h
      | some p, .neq => isSlice (shapeT P T) = true ∧ ∀ b, p b → K (.bool (!b)) h
      | _, _ => False)
    else (stBin P op T (ev env x) (ev env y)).wp h K
  | o => if makes o = true then (step P env h.length o).wp (h ++ [⟨0, [], .hole⟩]) K else (step P env 0 o).wp h K


theorem callable_spec {f : FuncId} (h : callable P f = true) (args : Array Value) (w : World) : (callFunc f args).run P w = .ok (.enter f args) w := by
  unfold callable at h
  cases hf : P.funcs[f]? with
  | none => rw [hf] at h; cases h
  | some fn =>
    rw [hf] at h
    simp only [Bool.and_eq_true, bne_iff_ne, ne_eq] at h
    have h1 : (fn.name == "runtime.NumGoroutine") = false := by simpa using h.1
    have h2 : fn.body.isNone = false := by simpa using h.2
    simp only [callFunc, Sem.run_bind, run_program, Result.andThen_ok, hf, h1, h2, Bool.false_eq_true, if_false, Sem.run_pure]

theorem fn_vv {c : Cx} {f : FuncId} {caps : List AV} {v : Value} (h : VV P c (.fn f caps) v) : ∃ vs : List Value, v = .func (.func f) #[] vs.toArray ∧ RepV P c caps vs := by
  obtain ⟨_, h⟩ := (vv_cell rfl (by simp) (by simp)).1 h
  simp only [Rep] at h
  obtain ⟨vs, h1, h2⟩ := h
  exact ⟨vs, by simpa using h1, h2⟩

theorem nilEq_spec {c : Cx} {x : AV} {v : Value} {p : Bool → Prop} (hv : VV P c x v) (hp : nilEq x = some p) : ∃ a n k, v = .slice a n k ∧ p a.isNone := by
  cases x <;> simp only [nilEq, reduceCtorEq, Option.some.injEq] at hp
  case nils => subst hp; obtain rfl := vv_nils hv; exact ⟨none, 0, 0, rfl, rfl⟩
  case list T es =>
    subst hp
    obtain ⟨a, cap, rfl, hc, hne⟩ := vv_list hv
    refine ⟨a, _, cap, rfl, fun h => ?_⟩
    obtain ⟨b, off, C, Te, m, rfl, _⟩ := hne h
    rfl
  case win k q T fr n lo =>
    subst hp
    obtain ⟨e, cap, a, _, _, rfl, _, hn, _, hc⟩ := vv_win hv
    refine ⟨a, n, cap, rfl, fun h => ?_⟩
    obtain ⟨b, off, C, m, _, _, _, _, rfl, _⟩ := hc (by omega)
    rfl

theorem upon_rok {c : Cx} {o : Oper} {a : Act} {next : Act → World → Prop} {Q : Exit → Act → World → Prop} {r : AV} {wr : List (Nat × Entry)} {x : Result Next} (h : ROK P c r wr x)
    (hn : ∀ v w', Done P c r wr v w' → next (a.put o.dst v) w') : o.upon P a next Q x := by
  cases x with
  | ok n w' =>
    cases n <;> simp only [ROK] at h <;> try exact h.elim
    · exact hn _ _ h
    · exact hn _ _ h
  | halt _ _ => exact h.elim

/-- What goes on behind one operation. -/
def Next1 (P : Program) (c : Cx) (o : Oper) (a : Act) (K : AV → List Entry → Prop) (next : Act → World → Prop) : Prop :=
  ∀ (v : Value) (c' : Cx) (r : AV), HR P c' → Ext c c' → VV P c' r v → K r c'.h → next (a.put o.dst v) c'.w

theorem stp_sound (hP : WF P) {c : Cx} (hr : HR P c) {env : List (Nat × AV)} {a : Act} (he : ER P c env a.tmps) (o : Oper) {K : AV → List Entry → Prop} {next : Act → World → Prop} {Q : Exit → Act → World → Prop}
    {s : Nat} (hm : makes o.op = false) (hw : (step P env s o.op).wp c.h K) (hn : Next1 P c o a K next) : o.wp P a c.w next Q := by
  obtain ⟨r, wr, h1, h2⟩ := Stp.wp_run hw
  refine upon_rok (step_sound hP hr he o (by rw [hm]; intro h; cases h) h1) fun v w' ⟨κ', d1, d2, d3⟩ => ?_
  exact hn v ⟨κ', wrAll c.h wr, w'⟩ r d1 d2 d3 h2

theorem opwp_sound (hP : WF P) {c : Cx} (hr : HR P c) {env : List (Nat × AV)} {a : Act} (he : ER P c env a.tmps) (o : Oper) {K : AV → List Entry → Prop} {next : Act → World → Prop} {Q : Exit → Act → World → Prop}
    (hw : opwp P env c.h o.op K) (hn : Next1 P c o a K next) : o.wp P a c.w next Q := by
  by_cases hm : makes o.op = true
  · have hw' : (step P env c.h.length o.op).wp (c.h ++ [⟨0, [], .hole⟩]) K := by
      unfold opwp at hw
      split at hw
      · rename_i h1; rw [h1] at hm; simp [makes] at hm
      · rename_i h1; rw [h1] at hm; simp [makes] at hm
      · rename_i h1; rw [h1] at hm; simp [makes] at hm
      · rw [if_pos hm] at hw; exact hw
    have x1 := ext_holes (c := c) 1
    have hr1 := hr_holes hr 1
    obtain ⟨r, wr, h1, h2⟩ := Stp.wp_run hw'
    have he1 : ER P { c with h := c.h ++ holes 1 } env a.tmps := fun t => vv_mono x1 (he t)
    refine upon_rok (step_sound (c := { c with h := c.h ++ holes 1 }) (s := c.h.length) hP hr1 he1 o (fun _ => ⟨⟨0, [], .hole⟩, by simp [holes], rfl⟩) h1) fun v w' ⟨κ', d1, d2, d3⟩ => ?_
    exact hn v ⟨κ', wrAll (c.h ++ holes 1) wr, w'⟩ r d1 (x1.trans d2) d3 h2
  · have hm : makes o.op = false := by simpa using hm
    unfold opwp at hw
    split at hw
    · rename_i f args argTypes hop
      have hf := ev_vv he f
      cases hg : ev env f <;> rw [hg] at hw hf <;> try exact hw.elim
      rename_i g caps
      obtain ⟨ha, hpl, hs⟩ := hw
      obtain ⟨cvs, hfv, hcv⟩ := fn_vv hf
      have hex : (execOp a.eval o).run P c.w = .ok (.enter g (args.map a.eval ++ cvs.toArray)) c.w := by
        simp only [execOp, hop, resolve, hfv, Deferred.ofValue, Sem.run_bind, Sem.run_pure, Result.andThen_ok, invoke]
        rw [callable_spec (hs.elim (fun h => h.1) fun h => h.1)]
        simp
      unfold Oper.wp
      rw [hex, Oper.upon_enter]
      have hav := repV_map he args.toList (by simpa [evs] using hpl)
      have hall := repV_append (wks_rep argTypes.toList (evs env args) _ ha hav) hcv
      have hall2 := repV_append hav hcv
      have hvs : (args.map a.eval ++ cvs.toArray) = (args.toList.map a.eval ++ cvs).toArray := by
        apply Array.ext'
        simp
      rw [hvs]
      rcases hs with hs | hs
      · refine (hs.2 c.κ c.w _ hr hall).mono ?_
        rintro e w'' ⟨v, r, h', κ', rfl, k1, k2, k3, k4⟩
        exact hn v ⟨κ', h', w''⟩ r k1 k2 k3 k4
      · refine (hs.2 c.κ c.w _ hr hall2).mono ?_
        rintro e w'' ⟨v, r, h', κ', rfl, k1, k2, k3, k4⟩
        exact hn v ⟨κ', h', w''⟩ r k1 k2 k3 k4
    · rename_i x y z hop
      have hx := ev_vv he x
      cases hb : ev env x <;> rw [hb] at hw hx <;> try exact hw.elim
      rename_i b
      have hx := vv_bool hx
      have hex : (execOp a.eval o).run P c.w = .ok (.value (if b then a.eval y else a.eval z)) c.w := by
        simp only [execOp, hop, hx, asBool, Sem.run_bind, Sem.run_pure, Result.andThen_ok]
      unfold Oper.wp
      rw [hex, Oper.upon_value]
      cases b
      · exact hn _ c _ hr (Ext.refl c) (ev_vv he z) (hw.2 rfl)
      · exact hn _ c _ hr (Ext.refl c) (ev_vv he y) (hw.1 rfl)
    · rename_i op T x y T2 hop
      split at hw
      · rename_i hy
        have hx := ev_vv he x
        obtain ⟨n', c', hyv⟩ : ∃ n' c', a.eval y = .slice none n' c' := by
          unfold isNilConst at hy
          split at hy
          · exact ⟨_, _, rfl⟩
          · cases hy
        split at hw
        · rename_i p hp
          obtain ⟨hs, hall⟩ := hw
          obtain ⟨e, hs⟩ := isSlice_spec hs
          obtain ⟨s, n, k, hv, hpa⟩ := nilEq_spec hx hp
          have hex : (execOp a.eval o).run P c.w = .ok (.value (.bool s.isNone)) c.w := by
            simp only [execOp, hop, hyv, hv, Sem.run_bind, eqGuard_plain (P := P) (a := Value.slice s n k) (by simp) (by simp), Result.andThen_ok, Lib.run_eql_slice_nil c.w T e s n k n' c' (und_slice hs), Sem.run_pure]
          unfold Oper.wp
          rw [hex, Oper.upon_value]
          exact hn _ c _ hr (Ext.refl c) vv_bool_mk (hall _ hpa)
        · rename_i p hp
          obtain ⟨hs, hall⟩ := hw
          obtain ⟨e, hs⟩ := isSlice_spec hs
          obtain ⟨s, n, k, hv, hpa⟩ := nilEq_spec hx hp
          have hneq : (binOp .neq T (.slice s n k) (.slice none n' c')).run P c.w = .ok (.bool (!s.isNone)) c.w := by
            simp only [binOp]
            have := Lib.run_equalIn_slice_nil c.w 9999 T e s n k n' c' (und_slice hs)
            simp [Op.equal, Op.maxDepth, this]
          have hex : (execOp a.eval o).run P c.w = .ok (.value (.bool (!s.isNone))) c.w := by
            simp only [execOp, hop, hyv, hv, Sem.run_bind, eqGuard_plain (P := P) (a := Value.slice s n k) (by simp) (by simp), Result.andThen_ok, hneq, Sem.run_pure]
          unfold Oper.wp
          rw [hex, Oper.upon_value]
          exact hn _ c _ hr (Ext.refl c) vv_bool_mk (hall _ hpa)
        · exact hw.elim
      · refine stp_sound (s := 0) hP hr he o hm ?_ hn
        rw [hop]
        exact hw
    · rw [if_neg (by rw [hm]; simp)] at hw
      exact stp_sound (s := 0) hP hr he o hm hw hn
end
end Go.Abs
