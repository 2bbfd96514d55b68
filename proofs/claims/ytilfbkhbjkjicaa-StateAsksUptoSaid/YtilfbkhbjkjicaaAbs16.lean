/- Abs16: a part of the proofs about the tuple space and its bytes. -/
import Derived.Test.YtilfbkhbjkjicaaAbs12
set_option linter.all false
namespace Go.Abs
open Go
section
variable {P : Program}
def put : List (Nat × AV) → Nat → AV → List (Nat × AV)
  | [], t, v => [(t, v)]
  | x :: r, t, v => if x.1 = t then (t, v) :: r else x :: put r t v
def ybf (env : List (Nat × AV)) (d : Option Tmp) (v : AV) : List (Nat × AV) := match d with
  | some t => put env t v
  | none => env
theorem lk_put (v : AV) : ∀ (env : List (Nat × AV)) (t s : Nat), lk (put env t v) s = if s = t then v else lk env s
  | [], t, s => by
    simp only [put, lk]
    by_cases h : t = s
    · rw [if_pos h, if_pos h.symm]
    · rw [if_neg h, if_neg (fun e => h e.symm)]
  | x :: r, t, s => by
    simp only [put]
    by_cases hx : x.1 = t
    · rw [if_pos hx]
      simp only [lk]
      by_cases hs : t = s
      · rw [if_pos hs, if_pos hs.symm]
      · rw [if_neg hs, if_neg (fun e => hs e.symm), if_neg (by rw [hx]; exact hs)]
    · rw [if_neg hx]
      simp only [lk, lk_put v r t s]
      by_cases h1 : x.1 = s
      · rw [if_pos h1, if_neg (by rintro rfl; exact hx h1), if_pos h1]
      · rw [if_neg h1, if_neg h1]
theorem lk_take : ∀ (n : Nat) (env : List (Nat × AV)) (t : Nat), lk (env.take n) t = lk env t ∨ lk (env.take n) t = .junk
  | 0, env, t => .inr (by simp [lk])
  | n + 1, [], t => .inl (by simp)
  | n + 1, x :: r, t => by
    simp only [List.take_succ_cons, lk]
    by_cases h : x.1 = t
    · rw [if_pos h, if_pos h]; exact .inl rfl
    · rw [if_neg h, if_neg h]; exact lk_take n r t
def mark (r : Nat) : Deferred := { target := .collected r, args := #[] }
structure St (P : Program) (B n : Nat) (c : Cx) (env : List (Nat × AV)) (a : Act) : Prop where
  hr : HR P c
  er : ER P c env a.tmps
  size : a.tmps.size = n
  defers : ∃ M : List Nat, a.defers = M.map mark ∧ M.Nodup ∧ ∀ r ∈ M, B ≤ r ∧ c.w.heap[r]? = some (.deferred (some [])) ∧ ¬ c.O r
  base : B ≤ c.w.heap.size
theorem St.mono {B n : Nat} {c c' : Cx} {env : List (Nat × AV)} {a : Act} (h : St P B n c env a) (x : Ext c c') (hr : HR P c') : St P B n c' env a :=
  ⟨hr, fun t => qc9 x (h.er t), h.size, by
    obtain ⟨M, h1, h2, h3⟩ := h.defers
    exact ⟨M, h1, h2, fun r hr => ⟨(h3 r hr).1, (x.frozen r (qag (h3 r hr).2.1) (h3 r hr).2.2).trans (h3 r hr).2.1, fun ho => (h3 r hr).2.2 (x.own r (qag (h3 r hr).2.1) ho)⟩⟩, Nat.le_trans h.base x.size⟩
theorem St.put {B n : Nat} {c : Cx} {env : List (Nat × AV)} {a : Act} (h : St P B n c env a) {d : Option Tmp} (hd : ∀ t, d = some t → t < n) {r : AV} {v : Value} (hv : VV P c r v) : St P B n c (ybf env d r) (a.put d v) := by
  cases d with
  | none => exact h
  | some t =>
    refine ⟨h.hr, fun s => ?_, by simp [Act.put, h.size], by simpa [Act.put] using h.defers, h.base⟩
    simp only [ybf, lk_put, Act.put]
    by_cases hs : s = t
    · subst hs
      rw [if_pos rfl]
      have : s < a.tmps.size := by rw [h.size]; exact hd s rfl
      simpa [Array.getD, this] using hv
    · rw [if_neg hs]
      have := h.er s
      rwa [show (a.tmps.setIfInBounds t v).getD s undef = a.tmps.getD s undef by simp [Array.getD_eq_getD_getElem?, Array.getElem?_setIfInBounds_ne (Ne.symm hs)]]
theorem St.know {B n : Nat} {c : Cx} {env : List (Nat × AV)} {a : Act} (h : St P B n c env a) {t : Nat} {x : AV} (hx : lk env t = x) : St P B n c (Abs.put env t x) a := by
  refine ⟨h.hr, fun s => ?_, h.size, h.defers, h.base⟩
  rw [lk_put]
  by_cases hs : s = t
  · subst hs; rw [if_pos rfl, ← hx]; exact h.er s
  · rw [if_neg hs]; exact h.er s
theorem vv_tup0 {c : Cx} : VV P c (.tup []) undef := by simp only [VV]; exact ⟨[], rfl, by simp only [ya2]⟩
theorem tup0_vv {c : Cx} {v : Value} (h : VV P c (.tup []) v) : v = undef := by
  simp only [VV, ya2] at h
  obtain ⟨l, rfl, rfl⟩ := h
  rfl
def qb5 (ops : List Oper) (j : Nat) : Option Tmp := (ops[j]?).bind (·.dst)
def aops (P : Program) (ops : List Oper) : List Oper → List (Nat × AV) → List Entry → (List (Nat × AV) → List Entry → Prop) → Prop
  | [], env, h, K => K env h
  | o :: rest, env, h, K => match o.guard with
    | none => opwp P env h o.op fun r h' => aops P ops rest (ybf env o.dst r) h' K
    | some g => match qb5 ops g.1 with
      | none => False
      | some t => match lk env t with
        | .bool b => (b = g.2 → opwp P (put env t (.bool g.2)) h o.op fun r h' => aops P ops rest (ybf (put env t (.bool g.2)) o.dst r) h' K) ∧
            (b = !g.2 → aops P ops rest (ybf (put env t (.bool (!g.2))) o.dst (.tup [])) h K)
        | .tup [] => aops P ops rest (ybf env o.dst (.tup [])) h K
        | _ => False
theorem ydp {B n : Nat} {c : Cx} {env : List (Nat × AV)} {a : Act} (h : St P B n c env a) {ops : Array Oper} {j : Nat} {t : Tmp} (ht : qb5 ops.toList j = some t) (hn : t < n) :
    yielded ops a.tmps j = match a.tmps.getD t undef with | .bool b => some b | _ => none := by
  have hlt : t < a.tmps.size := by rw [h.size]; exact hn
  have hs : (ops[j]?).bind (·.dst) = some t := by simpa [qb5] using ht
  unfold yielded
  rw [hs]
  have hget : a.tmps.getD t undef = a.tmps[t] := by simp [Array.getD, hlt]
  simp only [Option.bind_some, Array.getElem?_eq_getElem hlt]
  rw [hget]
  cases a.tmps[t] <;> rfl
def dstOK (n : Nat) (o : Oper) : Bool := match o.dst with | some t => decide (t < n) | none => true
theorem gslot_lt {n : Nat} {ops : List Oper} (hall : ∀ o ∈ ops, dstOK n o = true) {j : Nat} {t : Tmp} (h : qb5 ops j = some t) : t < n := by
  unfold qb5 at h
  cases ho : ops[j]? with
  | none => simp [ho] at h
  | some o =>
    have h1 := hall o (List.mem_of_getElem? ho)
    simp only [ho, Option.bind_some] at h
    simpa [dstOK, h] using h1
theorem qdw {ro : Option Nat} (hP : WF P) {B n : Nat} {ops : Array Oper} (hall : ∀ o ∈ ops.toList, dstOK n o = true) {Q : Exit → Act → World → Prop} {K : List (Nat × AV) → List Entry → Prop} :
    ∀ (l : List Oper) (c : Cx) (env : List (Nat × AV)) (a : Act), (∀ o ∈ l, dstOK n o = true) → St P B n c env a → aops P ops.toList l env c.h K →
    (∀ a' c' env', St P B n c' env' a' → Ext c c' → K env' c'.h → Q .normal a' c'.w) → wpListIn (Fr ro) 0 P ops Q l a c.w
  | [], c, env, a, _, hs, hw, hq => hq a c env hs (Ext.refl c) hw
  | o :: rest, c, env, a, hl, hs, hw, hq => by
    have hd : ∀ t, o.dst = some t → t < n := by
      intro t ht
      have := hl o (by simp)
      simpa [dstOK, ht] using this
    have hrest : ∀ x ∈ rest, dstOK n x = true := fun x hx => hl x (by simp [hx])
    have go : ∀ env, St P B n c env a → opwp P env c.h o.op (fun r h' => aops P ops.toList rest (ybf env o.dst r) h' K) → o.wpIn (Fr ro) 0 P a c.w (wpListIn (Fr ro) 0 P ops Q rest) Q := by
      intro env hs hw
      refine zc2 hP hs.hr hs.er o hw ?_
      intro v c' r h1 h2 h3 h4
      exact qdw hP hall rest c' _ _ hrest ((hs.mono h2 h1).put hd h3) h4 fun a' c'' env' s x k => hq a' c'' env' s (h2.trans x) k
    have skip : ∀ env, St P B n c env a → aops P ops.toList rest (ybf env o.dst (.tup [])) c.h K → (∀ f, o.about P c.w a.eval = some f → (Fr ro).fn f) ∧ wpListIn (Fr ro) 0 P ops Q rest (a.put o.dst undef) c.w := by
      intro env hs hw
      exact ⟨fun _ _ => trivial, qdw hP hall rest c _ _ hrest (hs.put hd vv_tup0) hw hq⟩
    simp only [aops] at hw
    simp only [wpListIn]
    cases hg : o.guard with
    | none =>
      simp only [hg] at hw
      rw [if_pos (by simp [Region.wanted, hg])]
      exact go env hs hw
    | some g =>
      obtain ⟨j, want⟩ := g
      simp only [hg] at hw
      cases ht : qb5 ops.toList j with
      | none => simp [ht] at hw
      | some t =>
        simp only [ht] at hw
        have hy := ydp hs ht (gslot_lt hall ht)
        have hvt := hs.er t
        cases hb : lk env t <;> rw [hb] at hw hvt <;> try exact hw.elim
        case bool b =>
          have hvb := ybs hvt
          rw [hvb] at hy
          simp only at hw hy
          by_cases hbw : b = want
          · subst hbw
            rw [if_pos (by simp [Region.wanted, hg, hy])]
            exact go _ (hs.know hb) (hw.1 rfl)
          · have hbn : b = !want := by cases b <;> cases want <;> simp_all
            rw [if_neg (by simp [Region.wanted, hg, hy, hbw])]
            rw [hbn] at hb
            exact skip _ (hs.know hb) (hw.2 hbn)
        case tup vs =>
          cases vs with
          | cons _ _ => exact hw.elim
          | nil =>
            have hvu := tup0_vv hvt
            rw [hvu] at hy
            simp only [undef] at hy
            rw [if_neg (by simp [Region.wanted, hg, hy])]
            exact skip env hs hw
end
end Go.Abs
set_option linter.all false
namespace Go.Abs
open Go
section
variable {P : Program}
abbrev Env := List (Nat × AV)
def zbp (P : Program) (f : FuncId) (args : List AV) (R : AV → Prop) : Prop := ∀ h, FSpec P f args h fun r h' => h' = h ∧ R r
theorem call_pure {f : FuncId} {args : List AV} {R : AV → Prop} {h : List Entry} {K : AV → List Entry → Prop} (hp : zbp P f args R) (hk : ∀ r, R r → K r h) : FSpec P f args h K :=
  (hp h).mono fun r h' ⟨e, hr⟩ => by rw [e]; exact hk r hr
inductive Eff where
  | wr (l : List (Nat × Entry))
  | all (h : List Entry)
def Eff.ap (h : List Entry) : Eff → List Entry
  | .wr l => yay h l
  | .all h' => h'
structure Ev1 where
  r : AV
  eff : Eff
  rd : List Nat
def Stp.out (h : List Entry) : Stp → Option (AV × List (Nat × Entry) × List Nat)
  | .fail => none
  | .ret v wr => some (v, wr, [])
  | .rd k f => match h[k]? with
    | some e => (Stp.out h (f e)).map fun x => (x.1, x.2.1, k :: x.2.2)
    | none => none
theorem out_run {h : List Entry} : ∀ {s : Stp} {x : AV × List (Nat × Entry) × List Nat}, s.out h = some x → s.run h = some (x.1, x.2.1)
  | .fail, x, hx => by simp [Stp.out] at hx
  | .ret v wr, x, hx => by simp only [Stp.out, Option.some.injEq] at hx; subst hx; rfl
  | .rd k f, x, hx => by
    simp only [Stp.out] at hx
    simp only [Stp.run]
    cases he : h[k]? with
    | none => simp [he] at hx
    | some e =>
      simp only [he, Option.map_eq_some_iff] at hx ⊢
      obtain ⟨y, hy, rfl⟩ := hx
      have := out_run (s := f e) (x := y) hy
      exact this
theorem out_local {h h' : List Entry} : ∀ {s : Stp} {x : AV × List (Nat × Entry) × List Nat}, s.out h = some x → (∀ k ∈ x.2.2, h'[k]? = h[k]?) → s.out h' = some x
  | .fail, x, hx, _ => by simp [Stp.out] at hx
  | .ret v wr, x, hx, _ => hx
  | .rd k f, x, hx, hl => by
    simp only [Stp.out] at hx ⊢
    cases he : h[k]? with
    | none => simp [he] at hx
    | some e =>
      simp only [he, Option.map_eq_some_iff] at hx
      obtain ⟨y, hy, rfl⟩ := hx
      have h1 : h'[k]? = some e := by rw [hl k (by simp), he]
      simp only [h1, Option.map_eq_some_iff]
      exact ⟨y, out_local (s := f e) hy fun j hj => hl j (by simp [hj]), rfl⟩
def za8 : Op → Bool
  | .pick .. => false
  | .call { callee := .value _, .. } => false
  | .binOp _ _ _ y _ => !za6 y
  | _ => true
inductive Comes (P : Program) (env : Env) (h : List Entry) (s : Nat) : Op → Ev1 → Prop
  | step {o : Op} {x : AV × List (Nat × Entry) × List Nat} : za8 o = true → (step P env s o).out h = some x → (qa2 o = true → ∃ e, h[s]? = some e ∧ e.st = .hole) →
      Comes P env h s o ⟨x.1, .wr x.2.1, if qa2 o = true then s :: x.2.2 else x.2.2⟩
  | pick {c x y : Operand} {b : Bool} : ev env c = .bool b → Comes P env h s (.pick c x y) ⟨if b = true then ev env x else ev env y, .wr [], []⟩
  | pure {f : Operand} {args : Array Operand} {ts : Array TypeId} {g : FuncId} {caps : List AV} {r : AV} : ev env f = .fn g caps → isY caps = false → argsR P ts.toList (evs env args) → (evs env args).all zah = true →
      zbp P g (wks P ts.toList (evs env args) ++ caps) (fun r' => r' = r) → Comes P env h s (.call { callee := .value f, args := args, argTypes := ts }) ⟨r, .wr [], []⟩
  | call {f : Operand} {args : Array Operand} {ts : Array TypeId} {g : FuncId} {caps : List AV} {r : AV} {h' : List Entry} : ev env f = .fn g caps → isY caps = false → argsR P ts.toList (evs env args) → (evs env args).all zah = true →
      FSpec P g (wks P ts.toList (evs env args) ++ caps) h (fun r' h'' => r' = r ∧ h'' = h') → Comes P env h s (.call { callee := .value f, args := args, argTypes := ts }) ⟨r, .all h', []⟩
  | read {f : Operand} {args : Array Operand} {ts : Array TypeId} {g : FuncId} {caps : List AV} {r : AV} {rd : List Nat} {wr : List (Nat × Entry)} : ev env f = .fn g caps → isY caps = false → argsR P ts.toList (evs env args) → (evs env args).all zah = true →
      (∀ h2 : List Entry, (∀ k ∈ rd, h2[k]? = h[k]?) → FSpec P g (wks P ts.toList (evs env args) ++ caps) h2 (fun r' h'' => r' = r ∧ h'' = yay h2 wr)) → Comes P env h s (.call { callee := .value f, args := args, argTypes := ts }) ⟨r, .wr wr, rd⟩
def gv (all : List Oper) (env : Env) (o : Oper) : Option Bool := match o.guard with
  | none => some true
  | some (j, w) => match qb5 all j with
    | none => none
    | some t => match lk env t with
      | .bool b => some (b == w)
      | .tup [] => some false
      | _ => none
def CO (P : Program) (all : List Oper) (env : Env) (h : List Entry) (s : Nat) (o : Oper) (x : Ev1) : Prop :=
  (gv all env o = some true ∧ Comes P env h s o.op x) ∨ (gv all env o = some false ∧ x = ⟨.tup [], .wr [], []⟩)
theorem co_wp {ro : Option Nat} (hP : WF P) {B n : Nat} {ops : Array Oper} (hall : ∀ o ∈ ops.toList, dstOK n o = true) {Q : Exit → Act → World → Prop} {K : Act → World → Prop} {i s : Nat} {o : Oper} (hi : ops[i]? = some o) {c : Cx} {env : Env} {a : Act} {x : Ev1}
    (hs : St P B n c env a) (hx : CO P ops.toList env c.h s o x) (hk : ∀ a' c', St P B n c' (ybf env o.dst x.r) a' → Ext c c' → c'.h = x.eff.ap c.h → K a' c'.w) : wpOpIn (Fr ro) 0 P ops Q i K a c.w := by
  have hmem : o ∈ ops.toList := by
    have : ops.toList[i]? = some o := by simpa using hi
    exact List.mem_of_getElem? this
  have hd : ∀ t, o.dst = some t → t < n := by
    intro t ht
    have := hall o hmem
    simpa [dstOK, ht] using this
  unfold wpOpIn
  simp only [hi]
  rcases hx with ⟨hg, hx⟩ | ⟨hg, rfl⟩
  · have hw : Region.wanted o (yielded ops a.tmps) = true := by
      unfold gv at hg
      unfold Region.wanted
      cases hgd : o.guard with
      | none => rfl
      | some g =>
        obtain ⟨j, w⟩ := g
        simp only [hgd] at hg ⊢
        cases ht : qb5 ops.toList j with
        | none => simp [ht] at hg
        | some t =>
          simp only [ht] at hg
          have hy := ydp hs ht (gslot_lt hall ht)
          have hv := hs.er t
          cases hb : lk env t <;> rw [hb] at hv <;> simp only [hb, reduceCtorEq] at hg
          · rename_i b
            rw [ybs hv] at hy
            simp only [Option.some.injEq, beq_iff_eq] at hg
            rw [hy, hg]
            simp
          · rename_i vs
            cases vs <;> simp at hg
    rw [if_pos hw]
    have go : ∀ {v : Value} {c' : Cx} {r : AV}, HR P c' → Ext c c' → VV P c' r v → r = x.r → c'.h = x.eff.ap c.h → K (a.put o.dst v) c'.w := by
      intro v c' r h1 h2 h3 h4 h5
      subst h4
      exact hk _ c' ((hs.mono h2 h1).put hd h3) h2 h5
    obtain ⟨od, oo, oty, op, oa, og⟩ := o
    simp only at hx go
    cases hx with
    | step h1 h2 h3 =>
      rename_i y
      have h4 := out_run h2
      have hdf : ∀ c, oo ≠ .defer c := fun c h => by subst h; simp [step, Stp.out] at h2
      refine zci hdf ?_
      refine upon_rok (ydq hP hs.hr hs.er ⟨od, oo, oty, op, oa, og⟩ (fun hm => by obtain ⟨e, he, hh⟩ := h3 hm; exact ⟨e, he, hh⟩) h4) fun v w' ⟨κ', d1, d2, d3⟩ => ?_
      exact go (c' := ⟨κ', yay c.h y.2.1, w'⟩) d1 d2 d3 rfl rfl
    | pick hc =>
      rename_i cnd p q b
      have hv := za2 hs.er cnd
      rw [hc] at hv
      have hv := ybs hv
      have hex : (execOp a.eval ⟨od, .pick cnd p q, oty, op, oa, og⟩).run P c.w = .ok (.value (if b then a.eval p else a.eval q)) c.w := by
        simp only [execOp, hv, asBool, Sem.run_bind, Sem.run_pure, Result.andThen_ok]
      refine zci (fun c h => by cases h) ?_
      rw [hex, Oper.uponIn_value]
      cases b
      · exact go hs.hr (Ext.refl c) (za2 hs.er q) rfl rfl
      · exact go hs.hr (Ext.refl c) (za2 hs.er p) rfl rfl
    | pure hf hy ha hpl hp =>
      rename_i f args ts g caps r
      have hop : opwp P env c.h (.call { callee := .value f, args := args, argTypes := ts }) (fun r' h' => r' = r ∧ h' = c.h) := by
        simp only [opwp, hf]
        exact ⟨ha, hpl, .inl ⟨hy, .inl (call_pure hp fun r' hr' => ⟨hr', rfl⟩)⟩⟩
      refine zc2 hP hs.hr hs.er ⟨od, _, oty, op, oa, og⟩ hop ?_
      rintro v c' r' h1 h2 h3 ⟨h4, h5⟩
      exact go h1 h2 h3 h4 h5
    | call hf hy ha hpl hp =>
      rename_i f args ts g caps r h'
      have hop : opwp P env c.h (.call { callee := .value f, args := args, argTypes := ts }) (fun r' h'' => r' = r ∧ h'' = h') := by
        simp only [opwp, hf]
        exact ⟨ha, hpl, .inl ⟨hy, .inl hp⟩⟩
      refine zc2 hP hs.hr hs.er ⟨od, _, oty, op, oa, og⟩ hop ?_
      rintro v c' r' h1 h2 h3 ⟨h4, h5⟩
      exact go h1 h2 h3 h4 h5
    | read hf hy ha hpl hp =>
      rename_i f args ts g caps r rd wr
      have hop : opwp P env c.h (.call { callee := .value f, args := args, argTypes := ts }) (fun r' h'' => r' = r ∧ h'' = yay c.h wr) := by
        simp only [opwp, hf]
        exact ⟨ha, hpl, .inl ⟨hy, .inl (hp c.h fun _ _ => rfl)⟩⟩
      refine zc2 hP hs.hr hs.er ⟨od, _, oty, op, oa, og⟩ hop ?_
      rintro v c' r' h1 h2 h3 ⟨h4, h5⟩
      exact go h1 h2 h3 h4 h5
  · have hw : ¬ Region.wanted o (yielded ops a.tmps) = true := by
      unfold gv at hg
      unfold Region.wanted
      cases hgd : o.guard with
      | none => simp [hgd] at hg
      | some g =>
        obtain ⟨j, w⟩ := g
        simp only [hgd] at hg ⊢
        cases ht : qb5 ops.toList j with
        | none => simp [ht] at hg
        | some t =>
          simp only [ht] at hg
          have hy := ydp hs ht (gslot_lt hall ht)
          have hv := hs.er t
          cases hb : lk env t <;> rw [hb] at hv <;> simp only [hb, reduceCtorEq] at hg
          · rename_i b
            rw [ybs hv] at hy
            simp only [Option.some.injEq, beq_eq_false_iff_ne, ne_eq] at hg
            rw [hy]
            simpa using hg
          · rename_i vs
            cases vs with
            | cons _ _ => simp at hg
            | nil =>
              rw [tup0_vv hv] at hy
              rw [hy]
              simp [undef]
    rw [if_neg hw]
    exact ⟨fun _ _ => trivial, hk _ c (hs.put hd vv_tup0) (Ext.refl c) rfl⟩
end
end Go.Abs
set_option linter.all false
namespace Go.Abs
open Go
section
variable {P : Program}
def ycq {V : Type} (sel : Nat → Bool) : List (V → V) → Nat → V → V
  | [], _, v => v
  | u :: us, k, v => ycq sel us (k + 1) (if sel k = true then u v else v)
theorem qb1 {V : Type} {sel sel' : Nat → Bool} : ∀ (us : List (V → V)) (k : Nat) (v : V), (∀ j u, us[j]? = some u → sel (k + j) ≠ sel' (k + j) → ∀ v, u v = v) → ycq sel us k v = ycq sel' us k v
  | [], k, v, _ => rfl
  | u :: us, k, v, h => by
    simp only [ycq]
    have h0 := h 0 u (by simp)
    rw [Nat.add_zero] at h0
    have e : (if sel k = true then u v else v) = (if sel' k = true then u v else v) := by
      by_cases hs : sel k = sel' k
      · rw [hs]
      · have := h0 hs v
        cases h1 : sel k <;> cases h2 : sel' k <;> simp [h1, h2] at hs ⊢ <;> simp [this]
    rw [e]
    exact qb1 us (k + 1) _ fun j u hj hne => h (j + 1) u (by simpa using hj) (by rw [show k + (j + 1) = k + 1 + j by omega]; exact hne)
theorem zdv {V : Type} {sel : Nat → Bool} : ∀ (us : List (V → V)) (k : Nat) (v : V), (∀ j u, us[j]? = some u → sel (k + j) = true → ∀ v, u v = v) → ycq sel us k v = v
  | [], k, v, _ => rfl
  | u :: us, k, v, h => by
    simp only [ycq]
    have h0 := h 0 u (by simp)
    rw [Nat.add_zero] at h0
    have e : (if sel k = true then u v else v) = v := by
      split
      · exact h0 ‹_› v
      · rfl
    rw [e]
    exact zdv us (k + 1) _ fun j u hj hs => h (j + 1) u (by simpa using hj) (by rw [show k + (j + 1) = k + 1 + j by omega]; exact hs)
def with1 (sel : Nat → Bool) (i : Nat) : Nat → Bool := fun j => if j = i then true else sel j
theorem fold_add {V : Type} {sel : Nat → Bool} {i : Nat} (hi : sel i = false) : ∀ (us : List (V → V)) (k : Nat) (v : V) (u : V → V), k ≤ i → us[i - k]? = some u →
    (∀ j u', us[j]? = some u' → i < k + j → sel (k + j) = true → ∀ v, u' v = v) → ycq (with1 sel i) us k v = u (ycq sel us k v)
  | [], k, v, u, _, h, _ => by simp at h
  | w :: us, k, v, u, hk, h, hl => by
    simp only [ycq]
    by_cases hik : k = i
    · subst hik
      simp only [Nat.sub_self, List.getElem?_cons_zero, Option.some.injEq] at h
      subst h
      simp only [with1, if_true, hi]
      rw [zdv us (k + 1) (w v) fun j u' hj hs => by
        have hne : ¬ k + 1 + j = k := by omega
        simp only [with1, if_neg hne] at hs
        exact hl (j + 1) u' (by simpa using hj) (by omega) (by rw [show k + (j + 1) = k + 1 + j by omega]; exact hs)]
      rw [zdv us (k + 1) _ fun j u' hj hs => hl (j + 1) u' (by simpa using hj) (by omega) (by rw [show k + (j + 1) = k + 1 + j by omega]; exact hs)]
      simp
    · have hlt : k + 1 ≤ i := by omega
      have e : with1 sel i k = sel k := by simp [with1, hik]
      rw [e]
      refine fold_add hi us (k + 1) _ u hlt ?_ fun j u' hj hji hs => hl (j + 1) u' (by simpa using hj) (by omega) (by rw [show k + (j + 1) = k + 1 + j by omega]; exact hs)
      rw [show i - k = (i - (k + 1)) + 1 by omega] at h
      simpa using h
theorem fold_skip {V : Type} {sel : Nat → Bool} {i : Nat} (us : List (V → V)) (v : V) (h : ∀ u, us[i]? = some u → ∀ v, u v = v) : ycq (with1 sel i) us 0 v = ycq sel us 0 v :=
  qb1 us 0 v fun j u hj hne => by
    rw [Nat.zero_add] at hne
    by_cases hji : j = i
    · subst hji; exact h u hj
    · exact absurd (by simp [with1, hji]) hne
theorem zcl {V : Type} {sel : Nat → Bool} : ∀ (us ws : List (V → V)) (k : Nat) (v : V), ycq sel (us ++ ws) k v = ycq sel ws (k + us.length) (ycq sel us k v)
  | [], ws, k, v => rfl
  | u :: us, ws, k, v => by
    simp only [List.cons_append, ycq, List.length_cons]
    rw [zcl us ws (k + 1)]
    rw [show k + 1 + us.length = k + (us.length + 1) by omega]
def Eff.at (k : Nat) (v : Option Entry) : Eff → Option Entry
  | .wr l => wrAt k v l
  | .all h' => h'[k]?
where wrAt (k : Nat) (v : Option Entry) : List (Nat × Entry) → Option Entry
  | [] => v
  | x :: r => wrAt k (if x.1 = k then v.map fun _ => x.2 else v) r
theorem wrAll_at (k : Nat) : ∀ (l : List (Nat × Entry)) (h : List Entry), (yay h l)[k]? = Eff.at.wrAt k h[k]? l
  | [], h => rfl
  | x :: r, h => by
    simp only [yay, Eff.at.wrAt]
    rw [wrAll_at k r, List.getElem?_set]
    congr 1
    by_cases hx : x.1 = k
    · rw [if_pos hx, if_pos hx]
      subst hx
      by_cases hlt : x.1 < h.length
      · rw [if_pos hlt, List.getElem?_eq_getElem hlt]; rfl
      · rw [if_neg hlt, List.getElem?_eq_none (by omega)]; rfl
    · rw [if_neg hx, if_neg hx]
theorem ap_at (e : Eff) (h : List Entry) (k : Nat) : (e.ap h)[k]? = e.at k h[k]? := by
  cases e with
  | wr l => exact wrAll_at k l h
  | all h' => rfl
theorem wrAt_id {k : Nat} : ∀ (l : List (Nat × Entry)), k ∉ l.map (·.1) → ∀ v, Eff.at.wrAt k v l = v
  | [], _, v => rfl
  | x :: r, h, v => by
    simp only [List.map_cons, List.mem_cons, not_or] at h
    simp only [Eff.at.wrAt]
    rw [if_neg (fun e => h.1 e.symm), wrAt_id r h.2]
abbrev Row := List (Oper × Ev1)
def uE (L : Row) (t : Nat) : List (AV → AV) := L.map fun p v => if p.1.dst = some t then p.2.r else v
def uH (L : Row) (k : Nat) : List (Option Entry → Option Entry) := L.map fun p v => p.2.eff.at k v
theorem uE_get {L : Row} {t i : Nat} {u : AV → AV} (h : (uE L t)[i]? = some u) : ∃ p, L[i]? = some p ∧ u = fun v => if p.1.dst = some t then p.2.r else v := by
  simp only [uE, List.getElem?_map, Option.map_eq_some_iff] at h
  obtain ⟨p, h1, h2⟩ := h
  exact ⟨p, h1, h2.symm⟩
theorem uH_get {L : Row} {k i : Nat} {u : Option Entry → Option Entry} (h : (uH L k)[i]? = some u) : ∃ p, L[i]? = some p ∧ u = fun v => p.2.eff.at k v := by
  simp only [uH, List.getElem?_map, Option.map_eq_some_iff] at h
  obtain ⟨p, h1, h2⟩ := h
  exact ⟨p, h1, h2.symm⟩
theorem lk_putD (env : Env) (d : Option Tmp) (v : AV) (t : Nat) : lk (ybf env d v) t = if d = some t then v else lk env t := by
  cases d with
  | none => simp [ybf]
  | some s =>
    simp only [ybf, lk_put, Option.some.injEq]
    by_cases h : t = s
    · rw [if_pos h, if_pos h.symm]
    · rw [if_neg h, if_neg fun e => h e.symm]
theorem ev_congr {env env' : Env} {x : Operand} (h : ∀ t, x = .tmp t → lk env' t = lk env t) : ev env' x = ev env x := by
  cases x <;> simp only [ev]
  exact h _ rfl
def agreeOn (env env' : Env) (xs : List Operand) : Prop := ∀ x ∈ xs, ev env' x = ev env x
theorem qcy {env env' : Env} {xs : Array Operand} (h : ∀ x ∈ xs.toList, ev env' x = ev env x) : evs env' xs = evs env xs := by
  simp only [evs]
  exact List.map_congr_left h
theorem pairs_congr {env env' : Env} {ps : Array (Nat × Operand)} (h : ∀ x ∈ ps.toList, ev env' x.2 = ev env x.2) : ydj env' ps = ydj env ps := by
  simp only [ydj]
  exact List.map_congr_left fun x hx => by rw [h x hx]
theorem zcw {env env' : Env} {o : Option Operand} (h : ∀ x, o = some x → ev env' x = ev env x) : o.map (ev env') = o.map (ev env) := by
  cases o with
  | none => rfl
  | some x => simp [h x rfl]
theorem step_congr {env env' : Env} {s : Nat} {o : Op} (h : agreeOn env env' o.operands.toList) : step P env' s o = step P env s o := by
  unfold agreeOn at h
  cases o <;> simp only [Op.operands] at h <;> simp only [step] <;>
    (try rw [h _ (by simp)]) <;> (try rw [h _ (by simp)]) <;> (try rw [h _ (by simp)])
  case build ps => rw [pairs_congr fun x hx => h _ (List.mem_map.2 ⟨x, hx, rfl⟩)]
  case buildSlice ps => rw [pairs_congr fun x hx => h _ (List.mem_map.2 ⟨x, hx, rfl⟩)]
  case makeFunc f first caps =>
    cases f <;> simp only [step]
    rw [qcy fun x hx => h x (by simp at hx ⊢; exact .inr hx)]
  case slice T x lo hi mx =>
    rw [zcw (o := lo) fun y hy => h y (by simp [hy]), zcw (o := hi) fun y hy => h y (by simp [hy]), zcw (o := mx) fun y hy => h y (by simp [hy])]
  case call c =>
    obtain ⟨callee, args, ts⟩ := c
    cases callee <;> simp only [step]
    rw [qcy fun x hx => h x (by simp [Call.operands] at hx ⊢; exact hx)]
end
end Go.Abs
set_option linter.all false
namespace Go.Abs
open Go
section
variable {P : Program}
theorem comes_local {env env' : Env} {h h' : List Entry} {s : Nat} {o : Op} {x : Ev1} (hx : Comes P env h s o x) (he : agreeOn env env' o.operands.toList) (hh : ∀ k ∈ x.rd, h'[k]? = h[k]?)
    (hall : ∀ g, x.eff = .all g → h' = h) : Comes P env' h' s o x := by
  unfold agreeOn at he
  cases hx with
  | step h1 h2 h3 =>
    refine .step h1 (by rw [step_congr he]; exact out_local h2 fun k hk => hh k (by simp only; split <;> simp [hk])) fun hm => ?_
    obtain ⟨e, h4, h5⟩ := h3 hm
    exact ⟨e, by rw [hh s (by simp [hm])]; exact h4, h5⟩
  | pick hc =>
    rename_i c p q b
    have e1 := he c (by simp [Op.operands])
    have e2 := he p (by simp [Op.operands])
    have e3 := he q (by simp [Op.operands])
    rw [← e2, ← e3]
    exact .pick (by rw [e1]; exact hc)
  | pure hf hy ha hpl hp =>
    rename_i f args ts g caps r
    have e1 : ev env' f = ev env f := he f (by simp [Op.operands, Call.operands])
    have e2 : evs env' args = evs env args := qcy fun y hy => he y (by simp [Op.operands, Call.operands] at hy ⊢; exact .inr hy)
    exact .pure (by rw [e1]; exact hf) hy (by rw [e2]; exact ha) (by rw [e2]; exact hpl) (by rw [e2]; exact hp)
  | call hf hy ha hpl hp =>
    rename_i f args ts g caps r g'
    have e1 : ev env' f = ev env f := he f (by simp [Op.operands, Call.operands])
    have e2 : evs env' args = evs env args := qcy fun y hy => he y (by simp [Op.operands, Call.operands] at hy ⊢; exact .inr hy)
    have e3 := hall g' rfl
    exact .call (by rw [e1]; exact hf) hy (by rw [e2]; exact ha) (by rw [e2]; exact hpl) (by rw [e2, e3]; exact hp)
  | read hf hy ha hpl hp =>
    rename_i f args ts g caps r rd wr
    have e1 : ev env' f = ev env f := he f (by simp [Op.operands, Call.operands])
    have e2 : evs env' args = evs env args := qcy fun y hy => he y (by simp [Op.operands, Call.operands] at hy ⊢; exact .inr hy)
    exact .read (by rw [e1]; exact hf) hy (by rw [e2]; exact ha) (by rw [e2]; exact hpl) (by rw [e2]; exact fun h2 hh2 => hp h2 fun k hk => (hh2 k hk).trans (hh k hk))
theorem gslot_looks {ops : Array Oper} {j : Nat} {o : Oper} {w : Bool} {t : Tmp} (hg : o.guard = some (j, w)) (ht : qb5 ops.toList j = some t) : t ∈ o.looksAt ops := by
  simp only [Oper.looksAt, hg, List.mem_append]
  right
  simp only [qb5, Array.getElem?_toList] at ht
  simp [ht]
theorem operand_looks {ops : Array Oper} {o : Oper} {t : Tmp} (h : Operand.tmp t ∈ o.op.operands.toList) : t ∈ o.looksAt ops := by
  simp only [Oper.looksAt, List.mem_append]
  left
  exact List.mem_filterMap.2 ⟨_, h, rfl⟩
theorem co_local {ops : Array Oper} {env env' : Env} {h h' : List Entry} {s : Nat} {o : Oper} {x : Ev1} (hx : CO P ops.toList env h s o x) (he : ∀ t ∈ o.looksAt ops, lk env' t = lk env t) (hh : ∀ k ∈ x.rd, h'[k]? = h[k]?)
    (hall : ∀ g, x.eff = .all g → h' = h) : CO P ops.toList env' h' s o x := by
  have hg : gv ops.toList env' o = gv ops.toList env o := by
    unfold gv
    cases hgd : o.guard with
    | none => rfl
    | some g =>
      obtain ⟨j, w⟩ := g
      simp only
      cases ht : qb5 ops.toList j with
      | none => rfl
      | some t => simp only [he t (gslot_looks hgd ht)]
  rcases hx with ⟨h1, h2⟩ | ⟨h1, h2⟩
  · refine .inl ⟨hg.trans h1, comes_local h2 (fun y hy => ev_congr fun t ht => he t (operand_looks (by rw [← ht]; exact hy))) hh hall⟩
  · exact .inr ⟨hg.trans h1, h2⟩
def qbx (o : Oper) : List Nat := (o.after.toList.filter (Region.binds .any)).map (·.on)
def maskOf (acc : List Nat) : List Nat → Nat
  | [] => 0
  | j :: r => (1 <<< j) ||| (acc.getD j 0 ||| maskOf acc r)
def ancs : List Oper → List Nat → List Nat
  | [], acc => acc
  | o :: r, acc => ancs r (acc ++ [maskOf acc (qbx o)])
def bef (ops : List Oper) (i j : Nat) : Bool := ((ancs ops []).getD i 0).testBit j
def hk : Op → Nat
  | .move _ | .assign _ | .pick .. | .build .. | .nilCheck _ | .binOp .. | .unOp .. | .makeFunc .. | .fieldAddr .. | .field .. | .indexAddr .. | .index .. | .extract .. => 0
  | .call { callee := .builtin .len, .. } | .call { callee := .builtin .min, .. } | .call { callee := .builtin .max, .. } => 0
  | .load .. => 1
  | .convert _ _ x => if qa5 x = true then 2 else 1
  | _ => 2
def drawRow (ops : Array Oper) (masks : List Nat) (i : Nat) (o : Oper) : Bool :=
  (qbx o).all (fun j => decide (j < i)) && (List.range i).all fun j => (masks.getD i 0).testBit j || (match ops[j]? with | some oj => oj.apart ops o | none => true)
def drawOK (ops : Array Oper) : Bool := (List.range ops.size).all fun i => match ops[i]? with | some o => drawRow ops (ancs ops.toList []) i o | none => true
def zdg (ops : List Oper) (masks : List Nat) (i : Nat) (o : Oper) : List Nat :=
  (List.range i).filter fun j => !(masks.getD i 0).testBit j && (match ops[j]? with | some oj => hk oj.op != 0 && hk o.op != 0 && !(hk oj.op == 1 && hk o.op == 1) | none => false)
def unords (ops : List Oper) : List (List Nat) := ops.zipIdx.map fun p => zdg ops (ancs ops []) p.2 p.1
def Down (ops : List Oper) (X : Nat → Bool) : Prop := ∀ i o, ops[i]? = some o → X i = true → ∀ j ∈ qbx o, X j = true
theorem maskOf_bit {acc : List Nat} {j : Nat} : ∀ (l : List Nat), (maskOf acc l).testBit j = true → ∃ k ∈ l, j = k ∨ (acc.getD k 0).testBit j = true
  | [], h => by simp [maskOf] at h
  | k :: r, h => by
    simp only [maskOf, Nat.testBit_or, Bool.or_eq_true, Nat.one_shiftLeft, Nat.testBit_two_pow, decide_eq_true_eq] at h
    rcases h with h | h | h
    · exact ⟨k, by simp, .inl h.symm⟩
    · exact ⟨k, by simp, .inr h⟩
    · obtain ⟨k', h1, h2⟩ := maskOf_bit r h
      exact ⟨k', by simp [h1], h2⟩
theorem ancs_spec {all : List Oper} {X : Nat → Bool} (hX : Down all X) : ∀ (l pre : List Oper) (acc : List Nat), all = pre ++ l → acc.length = pre.length →
    (∀ i j, (acc.getD i 0).testBit j = true → (X i = true → X j = true) ∧ ∀ o, all[i]? = some o → (∀ q ∈ qbx o, X q = true) → X j = true) →
    ∀ i j, ((ancs l acc).getD i 0).testBit j = true → (X i = true → X j = true) ∧ ∀ o, all[i]? = some o → (∀ q ∈ qbx o, X q = true) → X j = true
  | [], pre, acc, _, _, h => h
  | o :: r, pre, acc, hall, hlen, h => by
    simp only [ancs]
    refine ancs_spec hX r (pre ++ [o]) _ (by simp [hall]) (by simp [hlen]) ?_
    intro i j hij
    rw [List.getD_eq_getElem?_getD, List.getElem?_append] at hij
    split at hij
    · exact h i j (by rw [List.getD_eq_getElem?_getD]; exact hij)
    · rename_i hlt
      by_cases hi : i = acc.length
      · subst hi
        simp only [Nat.sub_self, List.getElem?_cons_zero, Option.getD_some] at hij
        have hget : all[acc.length]? = some o := by rw [hall, hlen]; simp
        obtain ⟨k, hk, hjk⟩ := maskOf_bit _ hij
        have key : (∀ q ∈ qbx o, X q = true) → X j = true := by
          intro hq
          rcases hjk with rfl | hb
          · exact hq _ hk
          · exact (h k j hb).1 (hq k hk)
        refine ⟨fun hx => key (hX _ o hget hx), fun o' ho' hq => ?_⟩
        rw [hget] at ho'
        cases ho'
        exact key hq
      · have : i - acc.length ≠ 0 := by omega
        obtain ⟨m, hm⟩ : ∃ m, i - acc.length = m + 1 := ⟨i - acc.length - 1, by omega⟩
        rw [hm] at hij
        simp at hij
theorem bef_spec {all : List Oper} {X : Nat → Bool} (hX : Down all X) {i j : Nat} (hb : bef all i j = true) : (X i = true → X j = true) ∧ ∀ o, all[i]? = some o → (∀ q ∈ qbx o, X q = true) → X j = true :=
  ancs_spec hX all [] [] (by simp) rfl (fun i j h => by simp at h) i j hb
theorem zde {ops : Array Oper} (h : drawOK ops = true) {i : Nat} {o : Oper} (hi : ops[i]? = some o) : (∀ j ∈ qbx o, j < i) ∧ ∀ j oj, j < i → ops[j]? = some oj → bef ops.toList i j = false → oj.apart ops o = true := by
  have hlt : i < ops.size := (Array.getElem?_eq_some_iff.1 hi).1
  simp only [drawOK, List.all_eq_true, List.mem_range] at h
  have h1 := h i hlt
  simp only [hi, drawRow, Bool.and_eq_true, List.all_eq_true, decide_eq_true_eq, List.mem_range, Bool.or_eq_true] at h1
  refine ⟨h1.1, fun j oj hj hoj hb => ?_⟩
  have h2 := h1.2 j hj
  simp only [hoj] at h2
  rcases h2 with h2 | h2
  · unfold bef at hb; rw [h2] at hb; cases hb
  · exact h2
structure Tc where
  rd : List Nat
  wr : List Nat
  all : Bool
def Ev1.tch (x : Ev1) : Tc := match x.eff with
  | .wr l => ⟨x.rd, l.map (·.1), false⟩
  | .all _ => ⟨x.rd, [], true⟩
def Tc.none (a : Tc) : Prop := a.rd = [] ∧ a.wr = [] ∧ a.all = false
structure ApartT (a b : Tc) : Prop where
  wr : ∀ k ∈ a.wr, k ∉ b.rd ∧ k ∉ b.wr
  rd : ∀ k ∈ a.rd, k ∉ b.wr
  left : a.all = true → b.none
  right : b.all = true → a.none
theorem ApartT.symm {a b : Tc} (h : ApartT a b) : ApartT b a :=
  ⟨fun k hk => ⟨fun h1 => h.rd k h1 hk, fun h1 => (h.wr k h1).2 hk⟩, fun k hk h1 => (h.wr k h1).1 hk, h.right, h.left⟩
theorem at_id {x : Ev1} {k : Nat} (h1 : x.tch.all = false) (h2 : k ∉ x.tch.wr) : ∀ v, x.eff.at k v = v := by
  cases he : x.eff with
  | wr l =>
    simp only [Ev1.tch, he] at h2
    intro v
    exact wrAt_id l h2 v
  | all h => simp [Ev1.tch, he] at h1
end
end Go.Abs
