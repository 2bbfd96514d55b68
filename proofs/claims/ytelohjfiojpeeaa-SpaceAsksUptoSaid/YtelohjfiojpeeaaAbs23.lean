/- Abs23: a part of the proofs about the tuple space (layer 8). -/
import Derived.Test.YtelohjfiojpeeaaAbs22
set_option linter.all false
namespace Go.Abs
open Go
section
variable {P : Program}

/-! ### The machine in a region that draws its order -/
def holeO : Option Entry → Bool
  | some ⟨_, _, .hole⟩ => true
  | _ => false
theorem isHole_iff {h : List Entry} {s : Nat} : isHole h s = (holeO h[s]? = true) := by
  unfold isHole holeO
  cases h[s]? with
  | none => simp
  | some e =>
    obtain ⟨T, es, st⟩ := e
    cases st <;> simp

def mkO (o : Op) : Nat := if makes o = true then 1 else 0

structure DC where
  all : List Oper
  base : Nat
  r : List Oper
  Us : List (List Nat)
  m : Nat
  T : List Tc
  U0 : List Nat
  d : Option Tmp

/-- behind an operation: it was clear of the others -/
def Dw (P : Program) (ok : Bool) (v : AV) (eff : Eff) (tc : Tc) (D : DC) (s : List Ctl) (env : Env) (h : List Entry) (Q : APost) : Prop :=
  ok = true ∧ Rn P (.dops D.all D.base D.r D.Us D.m (D.T ++ [tc]) :: s) .normal (putD env D.d v) (eff.ap h) Q
def Dv (P : Program) (v : AV) (eff : Eff) (rd : List Nat) (D : DC) (s : List Ctl) (env : Env) (h : List Entry) (Q : APost) : Prop :=
  Dw P (clear D.T (tcOf eff rd) D.U0) v eff (tcOf eff rd) D s env h Q
def Do (P : Program) (o : Op) (n : Nat) (D : DC) (s : List Ctl) (env : Env) (h : List Entry) (Q : APost) : Prop :=
  dop P env h n o fun v eff rd => Dv P v eff rd D s env h Q
def Ds (P : Program) (st : Stp) (acc : List Nat) (D : DC) (s : List Ctl) (env : Env) (h : List Entry) (Q : APost) : Prop :=
  st.wpo h (fun v wr rd => Dv P v (.wr wr) rd D s env h Q) acc
def Dd (P : Program) (e : Option Entry) (f : Entry → Stp) (acc : List Nat) (D : DC) (s : List Ctl) (env : Env) (h : List Entry) (Q : APost) : Prop := match e with
  | some e => Ds P (f e) acc D s env h Q
  | none => False
def Dm (P : Program) (ok : Bool) (st : Stp) (n : Nat) (D : DC) (s : List Ctl) (env : Env) (h : List Entry) (Q : APost) : Prop :=
  ok = true ∧ Ds P st [n] D s env h Q
/-- an operation that does not go -/
def Dx (P : Program) (D : DC) (s : List Ctl) (env : Env) (h : List Entry) (Q : APost) : Prop :=
  Rn P (.dops D.all D.base D.r D.Us D.m (D.T ++ [⟨[], [], false⟩]) :: s) .normal (putD env D.d (.tup [])) h Q
def Dg (P : Program) (x : AV) (w : Bool) (o : Op) (n : Nat) (t : Option Tmp) (D : DC) (s : List Ctl) (env : Env) (h : List Entry) (Q : APost) : Prop := match t with
  | none => False
  | some t => match x with
    | .bool b => (b = w → Do P o n D s (put env t (.bool w)) h Q) ∧ (b = !w → Dx P D s (put env t (.bool (!w))) h Q)
    | .tup [] => Dx P D s env h Q
    | _ => False
/-- an operation under a yes or a no that is not known -/
def Bd (P : Program) (b w : Bool) (o : Op) (n : Nat) (t : Tmp) (D : DC) (s : List Ctl) (env : Env) (h : List Entry) (Q : APost) : Prop :=
  (b = w → Do P o n D s (put env t (.bool w)) h Q) ∧ (b = !w → Dx P D s (put env t (.bool (!w))) h Q)
def Dp (P : Program) (t x y : AV) (D : DC) (s : List Ctl) (env : Env) (h : List Entry) (Q : APost) : Prop := match t with
  | .bool b => (b = true → Dv P x (.wr []) [] D s env h Q) ∧ (b = false → Dv P y (.wr []) [] D s env h Q)
  | _ => False
def Bq (P : Program) (b : Bool) (x y : AV) (D : DC) (s : List Ctl) (env : Env) (h : List Entry) (Q : APost) : Prop :=
  (b = true → Dv P x (.wr []) [] D s env h Q) ∧ (b = false → Dv P y (.wr []) [] D s env h Q)
def Df (P : Program) (f : AV) (ts : List TypeId) (args : List AV) (D : DC) (s : List Ctl) (env : Env) (h : List Entry) (Q : APost) : Prop := match f with
  | .fn g caps => argsOK P ts args ∧ args.all plainAV = true ∧
      ((∃ r, Pure P g (wks P ts args ++ caps) (fun r' => r' = r) ∧ Dv P r (.wr []) [] D s env h Q) ∨
       (∃ r h', FSpec P g (wks P ts args ++ caps) h (fun r' h'' => r' = r ∧ h'' = h') ∧ Dv P r (.all h') [] D s env h Q) ∨
       (∃ r rd, (∀ h2 : List Entry, (∀ k ∈ rd, h2[k]? = h[k]?) → FSpec P g (wks P ts args ++ caps) h2 (fun r' h'' => r' = r ∧ h'' = h2)) ∧ Dv P r (.wr []) rd D s env h Q))
  | _ => False
/-- a call that stands before us -/
def Dk (P : Program) (g : FuncId) (args : List AV) (D : DC) (s : List Ctl) (env : Env) (h : List Entry) (Q : APost) : Prop :=
  (∃ r, Pure P g args (fun r' => r' = r) ∧ Dv P r (.wr []) [] D s env h Q) ∨ (∃ r h', FSpec P g args h (fun r' h'' => r' = r ∧ h'' = h') ∧ Dv P r (.all h') [] D s env h Q) ∨
    (∃ r rd, (∀ h2 : List Entry, (∀ k ∈ rd, h2[k]? = h[k]?) → FSpec P g args h2 (fun r' h'' => r' = r ∧ h'' = h2)) ∧ Dv P r (.wr []) rd D s env h Q)
def Da (P : Program) (ok : Prop) (g : FuncId) (args : List AV) (D : DC) (s : List Ctl) (env : Env) (h : List Entry) (Q : APost) : Prop := ok ∧ Dk P g args D s env h Q

variable {env : Env} {h : List Entry} {s : List Ctl} {Q : APost} {D : DC} {n : Nat}

theorem r_draw {id : Nat} {ops : List Oper} {U : List (List Nat)} {H : List Entry} (hm : P.follows .mixedOrders = true) (hok : drawOK ops.toArray = true) (hU : unords ops = U) (hH : holes (mkc ops) = H)
    (hk : Rn P (.dops ops h.length ops U 0 [] :: .cut env.length :: s) .normal env (h ++ H) Q) : Rn P (.code (.region id ops.toArray true) :: s) .normal env h Q := by
  subst hU; subst hH
  simp only [Rn, awp, adraw]
  exact ⟨hm, hok, hk⟩

theorem d_nil (all : List Oper) (base : Nat) (U : List (List Nat)) (m : Nat) (T : List Tc) : Rn P (.dops all base [] U m T :: s) .normal env h Q = Rn P s .normal env h Q := rfl
theorem d_op (all r : List Oper) (base : Nat) (U0 : List Nat) (Us : List (List Nat)) (m : Nat) (T : List Tc) (d : Option Tmp) (o : Op) (ty : TypeId) (p : String) (e : Array Edge) :
    Rn P (.dops all base (⟨d, o, ty, p, e, none⟩ :: r) (U0 :: Us) m T :: s) .normal env h Q = Do P o (base + m) ⟨all, base, r, Us, m + mkO o, T, U0, d⟩ s env h Q := rfl
theorem d_guard (all r : List Oper) (base : Nat) (U0 : List Nat) (Us : List (List Nat)) (m : Nat) (T : List Tc) (d : Option Tmp) (o : Op) (ty : TypeId) (p : String) (e : Array Edge) (j : Nat) (w : Bool) :
    Rn P (.dops all base (⟨d, o, ty, p, e, some (j, w)⟩ :: r) (U0 :: Us) m T :: s) .normal env h Q = Dg P (lkO env (gslot all j)) w o (base + m) (gslot all j) ⟨all, base, r, Us, m + mkO o, T, U0, d⟩ s env h Q := by
  simp only [Rn, dwp, Dg]
  cases gslot all j <;> simp only [lkO]
  rename_i t
  cases lk env t <;> rfl
theorem dg_undef (w : Bool) (o : Op) (t : Tmp) : Dg P (.tup []) w o n (some t) D s env h Q = Dx P D s env h Q := rfl
theorem dg_b (b w : Bool) (o : Op) (t : Tmp) : Dg P (.bool b) w o n (some t) D s env h Q = Bd P b w o n t D s env h Q := rfl
theorem bd_tt (o : Op) (t : Tmp) : Bd P true true o n t D s env h Q = Do P o n D s (put env t (.bool true)) h Q := by simp [Bd]
theorem bd_ff (o : Op) (t : Tmp) : Bd P false false o n t D s env h Q = Do P o n D s (put env t (.bool false)) h Q := by simp [Bd]
theorem bd_tf (o : Op) (t : Tmp) : Bd P true false o n t D s env h Q = Dx P D s (put env t (.bool true)) h Q := by simp [Bd]
theorem bd_ft (o : Op) (t : Tmp) : Bd P false true o n t D s env h Q = Dx P D s (put env t (.bool false)) h Q := by simp [Bd]
theorem bd_yes {b : Bool} {o : Op} {t : Tmp} (h1 : b = true → Do P o n D s (put env t (.bool true)) h Q) (h2 : b = false → Dx P D s (put env t (.bool false)) h Q) : Bd P b true o n t D s env h Q := ⟨h1, h2⟩
theorem bd_no {b : Bool} {o : Op} {t : Tmp} (h1 : b = true → Dx P D s (put env t (.bool true)) h Q) (h2 : b = false → Do P o n D s (put env t (.bool false)) h Q) : Bd P b false o n t D s env h Q := ⟨h2, h1⟩
theorem dx (all r : List Oper) (base : Nat) (U0 : List Nat) (Us : List (List Nat)) (m : Nat) (T : List Tc) (d : Option Tmp) : Dx P ⟨all, base, r, Us, m, T, U0, d⟩ s env h Q =
    Rn P (.dops all base r Us m (T ++ [⟨[], [], false⟩]) :: s) .normal (putD env d (.tup [])) h Q := rfl
theorem dw_t (all r : List Oper) (base : Nat) (U0 : List Nat) (Us : List (List Nat)) (m : Nat) (T : List Tc) (d : Option Tmp) (v : AV) (eff : Eff) (tc : Tc) : Dw P true v eff tc ⟨all, base, r, Us, m, T, U0, d⟩ s env h Q =
    Rn P (.dops all base r Us m (T ++ [tc]) :: s) .normal (putD env d v) (eff.ap h) Q := by simp [Dw]
theorem dw_mk {ok : Bool} {v : AV} {eff : Eff} {tc : Tc} (h1 : ok = true) (h2 : Rn P (.dops D.all D.base D.r D.Us D.m (D.T ++ [tc]) :: s) .normal (putD env D.d v) (eff.ap h) Q) : Dw P ok v eff tc D s env h Q := ⟨h1, h2⟩
theorem dv (all r : List Oper) (base : Nat) (U0 : List Nat) (Us : List (List Nat)) (m : Nat) (T : List Tc) (d : Option Tmp) (v : AV) (eff : Eff) (rd : List Nat) : Dv P v eff rd ⟨all, base, r, Us, m, T, U0, d⟩ s env h Q =
    Dw P (clear T (tcOf eff rd) U0) v eff (tcOf eff rd) ⟨all, base, r, Us, m, T, U0, d⟩ s env h Q := rfl
theorem tcOf_wr (l : List (Nat × Entry)) (rd : List Nat) : tcOf (.wr l) rd = ⟨rd, l.map (·.1), false⟩ := rfl
theorem tcOf_all (h' : List Entry) (rd : List Nat) : tcOf (.all h') rd = ⟨rd, [], true⟩ := rfl
theorem ap_wr (l : List (Nat × Entry)) : (Eff.wr l).ap h = wrAll h l := rfl
theorem ap_all (h' : List Entry) : (Eff.all h').ap h = h' := rfl
theorem clear_nil (T : List Tc) (x : Tc) : clear T x [] = true := rfl
def clr1 (o : Option Tc) (x : Tc) : Bool := match o with | some y => apartB y x | none => false
theorem clear_cons (T : List Tc) (x : Tc) (j : Nat) (r : List Nat) : clear T x (j :: r) = (clr1 T[j]? x && clear T x r) := rfl
theorem clr1_some (y x : Tc) : clr1 (some y) x = apartB y x := rfl

theorem ds_ret (v : AV) (wr : List (Nat × Entry)) (acc : List Nat) : Ds P (.ret v wr) acc D s env h Q = Dv P v (.wr wr) acc D s env h Q := rfl
theorem ds_rd (k : Nat) (f : Entry → Stp) (acc : List Nat) : Ds P (.rd k f) acc D s env h Q = Dd P h[k]? f (acc ++ [k]) D s env h Q := by
  simp only [Ds, Stp.wpo, Dd]
  cases h[k]? <;> rfl
theorem dd_some (e : Entry) (f : Entry → Stp) (acc : List Nat) : Dd P (some e) f acc D s env h Q = Ds P (f e) acc D s env h Q := rfl
theorem dm_t (st : Stp) : Dm P true st n D s env h Q = Ds P st [n] D s env h Q := by simp [Dm]
theorem ds_yes {c : Prop} [Decidable c] {st : Stp} {acc : List Nat} (hc : c) (hk : Ds P st acc D s env h Q) : Ds P (if c then st else .fail) acc D s env h Q := by rw [if_pos hc]; exact hk
theorem ds_no {c : Prop} [Decidable c] {st : Stp} {acc : List Nat} (hc : ¬ c) (hk : Ds P st acc D s env h Q) : Ds P (if c then .fail else st) acc D s env h Q := by rw [if_neg hc]; exact hk

theorem do_move (x : Operand) : Do P (.move x) n D s env h Q = Dv P (ev env x) (.wr []) [] D s env h Q := by simp [Do, dop, stepOp, makes, step, Stp.wpo]
theorem do_assign (x : Operand) : Do P (.assign x) n D s env h Q = Dv P (ev env x) (.wr []) [] D s env h Q := by simp [Do, dop, stepOp, makes, step, Stp.wpo]
theorem do_pick (c x y : Operand) : Do P (.pick c x y) n D s env h Q = Dp P (ev env c) (ev env x) (ev env y) D s env h Q := by
  simp only [Do, dop, Dp]
  cases ev env c <;> rfl
theorem dp_b (b : Bool) (x y : AV) : Dp P (.bool b) x y D s env h Q = Bq P b x y D s env h Q := rfl
theorem bq_t (x y : AV) : Bq P true x y D s env h Q = Dv P x (.wr []) [] D s env h Q := by simp [Bq]
theorem bq_f (x y : AV) : Bq P false x y D s env h Q = Dv P y (.wr []) [] D s env h Q := by simp [Bq]
theorem bq_b (b x y : Bool) : Bq P b (.bool x) (.bool y) D s env h Q = Dv P (.bool (if b then x else y)) (.wr []) [] D s env h Q := by cases b <;> simp [Bq]
theorem bq_mk {b : Bool} {x y : AV} (h1 : b = true → Dv P x (.wr []) [] D s env h Q) (h2 : b = false → Dv P y (.wr []) [] D s env h Q) : Bq P b x y D s env h Q := ⟨h1, h2⟩
theorem do_load (T : TypeId) (x : Operand) : Do P (.load T x) n D s env h Q = Ds P (stLoad T (ev env x)) [] D s env h Q := by simp [Do, dop, stepOp, makes, step, Ds]
theorem do_store (T : TypeId) (x y : Operand) : Do P (.store T x y) n D s env h Q = Ds P (stStore P T (ev env y) (ev env x)) [] D s env h Q := by simp [Do, dop, stepOp, makes, step, Ds]
theorem do_nilCheck (x : Operand) : Do P (.nilCheck x) n D s env h Q = Ds P (stNilCheck (ev env x)) [] D s env h Q := by simp [Do, dop, stepOp, makes, step, Ds]
theorem do_unOp (op : UnOp) (T : TypeId) (x : Operand) : Do P (.unOp op T x) n D s env h Q = Ds P (stUn op (ev env x)) [] D s env h Q := by simp [Do, dop, stepOp, makes, step, Ds]
theorem do_convert (S T : TypeId) (x : Operand) : Do P (.convert S T x) n D s env h Q = Ds P (stConv P S T (ev env x)) [] D s env h Q := by simp [Do, dop, stepOp, makes, step, Ds]
theorem do_extract (x : Operand) (i : Nat) : Do P (.extract x i) n D s env h Q = Ds P (stExtract i (ev env x)) [] D s env h Q := by simp [Do, dop, stepOp, makes, step, Ds]
theorem do_index (T : TypeId) (x i : Operand) : Do P (.index T x i) n D s env h Q = Ds P (stIndex P T (ev env x) (ev env i)) [] D s env h Q := by simp [Do, dop, stepOp, makes, step, Ds]
theorem do_indexAddr (T : TypeId) (x i : Operand) : Do P (.indexAddr T x i) n D s env h Q = Ds P (stIndexAddr P T (ev env x) (ev env i)) [] D s env h Q := by simp [Do, dop, stepOp, makes, step, Ds]
theorem do_build (T : TypeId) (ps : Array (Nat × Operand)) : Do P (.build T ps) n D s env h Q = Ds P (stBuild P T (pairs env ps)) [] D s env h Q := by simp [Do, dop, stepOp, makes, step, Ds]
theorem do_fieldAddr (T : TypeId) (x : Operand) (i : Nat) : Do P (.fieldAddr T x i) n D s env h Q = Ds P (if shapeT P T = .struct then stFieldAddr P T i (ev env x) else .fail) [] D s env h Q := by simp [Do, dop, stepOp, makes, step, Ds]
theorem do_field (T : TypeId) (x : Operand) (i : Nat) : Do P (.field T x i) n D s env h Q = Ds P (if shapeT P T = .struct then stField P T i (ev env x) else .fail) [] D s env h Q := by simp [Do, dop, stepOp, makes, step, Ds]
theorem do_bin (op : BinOp) (T T2 : TypeId) (x y : Operand) : Do P (.binOp op T x y T2) n D s env h Q = (isNilConst y = false ∧ Ds P (stBin P op T (ev env x) (ev env y)) [] D s env h Q) := by simp [Do, dop, stepOp, makes, step, Ds]
theorem do_slice (T : TypeId) (x : Operand) (lo hi mx : Option Operand) : Do P (.slice T x lo hi mx) n D s env h Q =
    Ds P (if (mx.isNone || hi.isSome) = true then stSlice P T (ev env x) (lo.map (ev env)) (hi.map (ev env)) (mx.map (ev env)) else .fail) [] D s env h Q := by simp [Do, dop, stepOp, makes, step, Ds]
theorem do_len (args : Array Operand) (ts : Array TypeId) : Do P (.call { callee := .builtin .len, args := args, argTypes := ts }) n D s env h Q = Ds P (stBuiltin P .len ts.toList (evs env args) n) [] D s env h Q := by
  simp [Do, dop, stepOp, makes, step, Ds]
theorem do_clear (args : Array Operand) (ts : Array TypeId) : Do P (.call { callee := .builtin .clear, args := args, argTypes := ts }) n D s env h Q = Ds P (stBuiltin P .clear ts.toList (evs env args) n) [] D s env h Q := by
  simp [Do, dop, stepOp, makes, step, Ds]
theorem do_alloc (T : TypeId) : Do P (.alloc T) n D s env h Q = Dm P (holeO h[n]?) (if zOK P T = true then .ret (.ref n [0] T) [(n, ⟨T, [zeroAV P T], .own⟩)] else .fail) n D s env h Q := by simp [Do, dop, stepOp, makes, step, Ds, Dm, isHole_iff]
theorem do_box (T : TypeId) (x : Operand) : Do P (.box T x) n D s env h Q = Dm P (holeO h[n]?) (if tyB P (ev env x) T = true then .ret (.ref n [0] T) [(n, ⟨T, [ev env x], .own⟩)] else .fail) n D s env h Q := by simp [Do, dop, stepOp, makes, step, Ds, Dm, isHole_iff]
theorem do_buildSlice (T : TypeId) (k : Nat) (ps : Array (Nat × Operand)) : Do P (.buildSlice T k ps) n D s env h Q = Dm P (holeO h[n]?) (stBuildSlice P T k (pairs env ps) n) n D s env h Q := by simp [Do, dop, stepOp, makes, step, Ds, Dm, isHole_iff]
theorem do_makeSlice (T : TypeId) (x y : Operand) : Do P (.makeSlice T x y) n D s env h Q = Dm P (holeO h[n]?) (stMakeSlice P T (ev env x) (ev env y) n) n D s env h Q := by simp [Do, dop, stepOp, makes, step, Ds, Dm, isHole_iff]
theorem do_append (args : Array Operand) (ts : Array TypeId) : Do P (.call { callee := .builtin .append, args := args, argTypes := ts }) n D s env h Q = Dm P (holeO h[n]?) (stBuiltin P .append ts.toList (evs env args) n) n D s env h Q := by
  simp [Do, dop, stepOp, makes, step, Ds, Dm, isHole_iff]
theorem do_call (f : Operand) (args : Array Operand) (ts : Array TypeId) : Do P (.call { callee := .value f, args := args, argTypes := ts }) n D s env h Q = Df P (ev env f) ts.toList (evs env args) D s env h Q := by
  simp only [Do, dop, Df]
  cases ev env f <;> rfl
theorem df_fn (g : FuncId) (caps : List AV) (ts : List TypeId) (args : List AV) : Df P (.fn g caps) ts args D s env h Q = Da P (argsOK P ts args ∧ args.all plainAV = true) g (wks P ts args ++ caps) D s env h Q := by
  simp only [Df, Da, Dk, and_assoc]
theorem da_t (g : FuncId) (args : List AV) : Da P True g args D s env h Q = Dk P g args D s env h Q := by simp [Da]
theorem dk_pure {g : FuncId} {args : List AV} {r : AV} (hp : Pure P g args (fun r' => r' = r)) (hk : Dv P r (.wr []) [] D s env h Q) : Dk P g args D s env h Q := .inl ⟨r, hp, hk⟩
theorem dk_call {g : FuncId} {args : List AV} {r : AV} {h' : List Entry} (hp : FSpec P g args h (fun r' h'' => r' = r ∧ h'' = h')) (hk : Dv P r (.all h') [] D s env h Q) : Dk P g args D s env h Q := .inr (.inl ⟨r, h', hp, hk⟩)
/-- a call that reads some entries of the own heap, and leaves all -/
theorem dk_look {g : FuncId} {args : List AV} {r : AV} (rd : List Nat) (hp : ∀ h2 : List Entry, (∀ k ∈ rd, h2[k]? = h[k]?) → FSpec P g args h2 (fun r' h'' => r' = r ∧ h'' = h2)) (hk : Dv P r (.wr []) rd D s env h Q) : Dk P g args D s env h Q := .inr (.inr ⟨r, rd, hp, hk⟩)

theorem mkO_0 {o : Op} (h : makes o = false) : mkO o = 0 := by simp [mkO, h]

/-! ### Entries behind those of the caller -/
theorem get_at0 (h l : List Entry) : (h ++ l)[h.length]? = l[0]? := by rw [List.getElem?_append_right (Nat.le_refl _), Nat.sub_self]
theorem get_at (h l : List Entry) (i : Nat) : (h ++ l)[h.length + i]? = l[i]? := by rw [List.getElem?_append_right (Nat.le_add_right _ _), Nat.add_sub_cancel_left]
theorem get_lo {h l : List Entry} {k : Nat} (hk : k < h.length) : (h ++ l)[k]? = h[k]? := by simp [List.getElem?_append_left hk]
theorem set_at0 (h l : List Entry) (e : Entry) : (h ++ l).set h.length e = h ++ l.set 0 e := by rw [List.set_append_right _ _ (Nat.le_refl _), Nat.sub_self]
theorem set_at (h l : List Entry) (i : Nat) (e : Entry) : (h ++ l).set (h.length + i) e = h ++ l.set i e := by rw [List.set_append_right _ _ (Nat.le_add_right _ _), Nat.add_sub_cancel_left]
theorem set_lo {h l : List Entry} {k : Nat} (e : Entry) (hk : k < h.length) : (h ++ l).set k e = h.set k e ++ l := by simp [List.set_append_left _ _ hk]
theorem len_app (h l : List Entry) : (h ++ l).length = h.length + l.length := by simp
end
end Go.Abs
