/- Abs14: a part of the proofs about the tuple space (layer 8). -/
import Derived.Test.YtelohjfiojpeeaaAbs13
set_option linter.all false
namespace Go.Abs
open Go
section
variable {P : Program}

/-! ### Regions that draw their order -/
abbrev Env := List (Nat × AV)

/-- A function that leaves the caller's own memory alone. -/
def Pure (P : Program) (f : FuncId) (args : List AV) (R : AV → Prop) : Prop := ∀ h, FSpec P f args h fun r h' => h' = h ∧ R r

theorem call_pure {f : FuncId} {args : List AV} {R : AV → Prop} {h : List Entry} {K : AV → List Entry → Prop} (hp : Pure P f args R) (hk : ∀ r, R r → K r h) : FSpec P f args h K :=
  (hp h).mono fun r h' ⟨e, hr⟩ => by rw [e]; exact hk r hr


inductive Eff where
  | wr (l : List (Nat × Entry))
  | all (h : List Entry)

def Eff.ap (h : List Entry) : Eff → List Entry
  | .wr l => wrAll h l
  | .all h' => h'

/-- what one operation came to: its value, what it did, the entries it looked at -/
structure Ev1 where
  r : AV
  eff : Eff
  rd : List Nat

def Stp.out (h : List Entry) : Stp → Option (AV × List (Nat × Entry) × List Nat)
  | .fail => none
  | .ret v wr => some (v, wr, [])
  | .rd k f => match h[k]? with
    | some e => (Stp.out h (f e)).map fun x => (x.1, x.2.1, k :: x.2.2)
    | none => none

theorem out_run {h : List Entry} : ∀ {s : Stp} {x : AV × List (Nat × Entry) × List Nat}, s.out h = some x → s.run h = some (x.1, x.2.1)
  | .fail, x, hx => by simp [Stp.out] at hx
  | .ret v wr, x, hx => by simp only [Stp.out, Option.some.injEq] at hx; subst hx; rfl
  | .rd k f, x, hx => by
    simp only [Stp.out] at hx
    simp only [Stp.run]
    cases he : h[k]? with
    | none => simp [he] at hx
    | some e =>
      simp only [he, Option.map_eq_some_iff] at hx ⊢
      obtain ⟨y, hy, rfl⟩ := hx
      have := out_run (s := f e) (x := y) hy
      exact this

theorem out_local {h h' : List Entry} : ∀ {s : Stp} {x : AV × List (Nat × Entry) × List Nat}, s.out h = some x → (∀ k ∈ x.2.2, h'[k]? = h[k]?) → s.out h' = some x
  | .fail, x, hx, _ => by simp [Stp.out] at hx
  | .ret v wr, x, hx, _ => hx
  | .rd k f, x, hx, hl => by
    simp only [Stp.out] at hx ⊢
    cases he : h[k]? with
    | none => simp [he] at hx
    | some e =>
      simp only [he, Option.map_eq_some_iff] at hx
      obtain ⟨y, hy, rfl⟩ := hx
      have h1 : h'[k]? = some e := by rw [hl k (by simp), he]
      simp only [h1, Option.map_eq_some_iff]
      exact ⟨y, out_local (s := f e) hy fun j hj => hl j (by simp [hj]), rfl⟩

/-- operations that 'step' tells all of -/
def stepOp : Op → Bool
  | .pick .. => false
  | .call { callee := .value _, .. } => false
  | .binOp _ _ _ y _ => !isNilConst y
  | _ => true

inductive Comes (P : Program) (env : Env) (h : List Entry) (s : Nat) : Op → Ev1 → Prop
  | step {o : Op} {x : AV × List (Nat × Entry) × List Nat} : stepOp o = true → (step P env s o).out h = some x → (makes o = true → ∃ e, h[s]? = some e ∧ e.st = .hole) →
      Comes P env h s o ⟨x.1, .wr x.2.1, if makes o = true then s :: x.2.2 else x.2.2⟩
  | pick {c x y : Operand} {b : Bool} : ev env c = .bool b → Comes P env h s (.pick c x y) ⟨if b = true then ev env x else ev env y, .wr [], []⟩
  | pure {f : Operand} {args : Array Operand} {ts : Array TypeId} {g : FuncId} {caps : List AV} {r : AV} : ev env f = .fn g caps → argsOK P ts.toList (evs env args) → (evs env args).all plainAV = true →
      Pure P g (wks P ts.toList (evs env args) ++ caps) (fun r' => r' = r) → Comes P env h s (.call { callee := .value f, args := args, argTypes := ts }) ⟨r, .wr [], []⟩
  | call {f : Operand} {args : Array Operand} {ts : Array TypeId} {g : FuncId} {caps : List AV} {r : AV} {h' : List Entry} : ev env f = .fn g caps → argsOK P ts.toList (evs env args) → (evs env args).all plainAV = true →
      FSpec P g (wks P ts.toList (evs env args) ++ caps) h (fun r' h'' => r' = r ∧ h'' = h') → Comes P env h s (.call { callee := .value f, args := args, argTypes := ts }) ⟨r, .all h', []⟩

/-- does a guarded operation go? -/
def gv (all : List Oper) (env : Env) (o : Oper) : Option Bool := match o.guard with
  | none => some true
  | some (j, w) => match gslot all j with
    | none => none
    | some t => match lk env t with
      | .bool b => some (b == w)
      | .tup [] => some false
      | _ => none

def CO (P : Program) (all : List Oper) (env : Env) (h : List Entry) (s : Nat) (o : Oper) (x : Ev1) : Prop :=
  (gv all env o = some true ∧ Comes P env h s o.op x) ∨ (gv all env o = some false ∧ x = ⟨.tup [], .wr [], []⟩)

/-- The operation at a state of the model. -/
theorem co_wp (hP : WF P) {n : Nat} {ops : Array Oper} (hall : ∀ o ∈ ops.toList, dstOK n o = true) {Q : Exit → Act → World → Prop} {K : Act → World → Prop} {i s : Nat} {o : Oper} (hi : ops[i]? = some o) {c : Cx} {env : Env} {a : Act} {x : Ev1}
    (hs : St P n c env a) (hx : CO P ops.toList env c.h s o x) (hk : ∀ a' c', St P n c' (putD env o.dst x.r) a' → Ext c c' → c'.h = x.eff.ap c.h → K a' c'.w) : wpOp P ops Q i K a c.w := by
  have hmem : o ∈ ops.toList := by
    have : ops.toList[i]? = some o := by simpa using hi
    exact List.mem_of_getElem? this
  have hd : ∀ t, o.dst = some t → t < n := by
    intro t ht
    have := hall o hmem
    simpa [dstOK, ht] using this
  unfold wpOp
  simp only [hi]
  rcases hx with ⟨hg, hx⟩ | ⟨hg, rfl⟩
  · have hw : Region.wanted o (yielded ops a.tmps) = true := by
      unfold gv at hg
      unfold Region.wanted
      cases hgd : o.guard with
      | none => rfl
      | some g =>
        obtain ⟨j, w⟩ := g
        simp only [hgd] at hg ⊢
        cases ht : gslot ops.toList j with
        | none => simp [ht] at hg
        | some t =>
          simp only [ht] at hg
          have hy := yielded_of hs ht (gslot_lt hall ht)
          have hv := hs.er t
          cases hb : lk env t <;> rw [hb] at hv <;> simp only [hb, reduceCtorEq] at hg
          · rename_i b
            rw [vv_bool hv] at hy
            simp only [Option.some.injEq, beq_iff_eq] at hg
            rw [hy, hg]
            simp
          · rename_i vs
            cases vs <;> simp at hg
    rw [if_pos hw]
    left
    have go : ∀ {v : Value} {c' : Cx} {r : AV}, HR P c' → Ext c c' → VV P c' r v → r = x.r → c'.h = x.eff.ap c.h → K (a.put o.dst v) c'.w := by
      intro v c' r h1 h2 h3 h4 h5
      subst h4
      exact hk _ c' ((hs.mono h2 h1).put hd h3) h2 h5
    obtain ⟨od, oo, oty, op, oa, og⟩ := o
    simp only at hx go
    cases hx with
    | step h1 h2 h3 =>
      rename_i y
      have h4 := out_run h2
      refine upon_rok (step_sound hP hs.hr hs.er ⟨od, oo, oty, op, oa, og⟩ (fun hm => by obtain ⟨e, he, hh⟩ := h3 hm; exact ⟨e, he, hh⟩) h4) fun v w' ⟨κ', d1, d2, d3⟩ => ?_
      exact go (c' := ⟨κ', wrAll c.h y.2.1, w'⟩) d1 d2 d3 rfl rfl
    | pick hc =>
      rename_i cnd p q b
      have hv := ev_vv hs.er cnd
      rw [hc] at hv
      have hv := vv_bool hv
      have hex : (execOp a.eval ⟨od, .pick cnd p q, oty, op, oa, og⟩).run P c.w = .ok (.value (if b then a.eval p else a.eval q)) c.w := by
        simp only [execOp, hv, asBool, Sem.run_bind, Sem.run_pure, Result.andThen_ok]
      unfold Oper.wp
      rw [hex, Oper.upon_value]
      cases b
      · exact go hs.hr (Ext.refl c) (ev_vv hs.er q) rfl rfl
      · exact go hs.hr (Ext.refl c) (ev_vv hs.er p) rfl rfl
    | pure hf ha hpl hp =>
      rename_i f args ts g caps r
      have hop : opwp P env c.h (.call { callee := .value f, args := args, argTypes := ts }) (fun r' h' => r' = r ∧ h' = c.h) := by
        simp only [opwp, hf]
        exact ⟨ha, hpl, .inl (call_pure hp fun r' hr' => ⟨hr', rfl⟩)⟩
      refine opwp_sound hP hs.hr hs.er ⟨od, _, oty, op, oa, og⟩ hop ?_
      rintro v c' r' h1 h2 h3 ⟨h4, h5⟩
      exact go h1 h2 h3 h4 h5
    | call hf ha hpl hp =>
      rename_i f args ts g caps r h'
      have hop : opwp P env c.h (.call { callee := .value f, args := args, argTypes := ts }) (fun r' h'' => r' = r ∧ h'' = h') := by
        simp only [opwp, hf]
        exact ⟨ha, hpl, .inl hp⟩
      refine opwp_sound hP hs.hr hs.er ⟨od, _, oty, op, oa, og⟩ hop ?_
      rintro v c' r' h1 h2 h3 ⟨h4, h5⟩
      exact go h1 h2 h3 h4 h5
  · have hw : ¬ Region.wanted o (yielded ops a.tmps) = true := by
      unfold gv at hg
      unfold Region.wanted
      cases hgd : o.guard with
      | none => simp [hgd] at hg
      | some g =>
        obtain ⟨j, w⟩ := g
        simp only [hgd] at hg ⊢
        cases ht : gslot ops.toList j with
        | none => simp [ht] at hg
        | some t =>
          simp only [ht] at hg
          have hy := yielded_of hs ht (gslot_lt hall ht)
          have hv := hs.er t
          cases hb : lk env t <;> rw [hb] at hv <;> simp only [hb, reduceCtorEq] at hg
          · rename_i b
            rw [vv_bool hv] at hy
            simp only [Option.some.injEq, beq_eq_false_iff_ne, ne_eq] at hg
            rw [hy]
            simpa using hg
          · rename_i vs
            cases vs with
            | cons _ _ => simp at hg
            | nil =>
              rw [tup0_vv hv] at hy
              rw [hy]
              simp [undef]
    rw [if_neg hw]
    exact hk _ c (hs.put hd vv_tup0) (Ext.refl c) rfl
end
end Go.Abs
