/- Abs22: a part of the proofs about the tuple space (layer 8). -/
import Derived.Test.YtelohjfiojpeeaaAbs21
set_option linter.all false
namespace Go.Abs
open Go
section
variable {P : Program}

/-! ### The walk as a machine: all first order, so that simp can work it out -/

inductive Ctl where
  | code (x : Code)
  | ops (all l : List Oper)
  | cut (n : Nat)
  | blk (id : Nat)
  | dops (all : List Oper) (base : Nat) (l : List Oper) (U : List (List Nat)) (m : Nat) (T : List Tc)

def Rn (P : Program) : List Ctl → AEx → Env → List Entry → APost → Prop
  | [], e, env, h, Q => Q e env h
  | c :: s, e, env, h, Q => match c with
    | .code x => match e with
      | .normal => awp P x env h fun e env' h' => Rn P s e env' h' Q
      | .exit i => Rn P s (.exit i) env h Q
      | .ret => Rn P s .ret env h Q
    | .ops all l => match e with
      | .normal => aops P all l env h fun env' h' => Rn P s .normal env' h' Q
      | .exit i => Rn P s (.exit i) env h Q
      | .ret => Rn P s .ret env h Q
    | .cut n => Rn P s e (env.take n) h Q
    | .dops all base l U m T => match e with
      | .normal => dwp P all base l U m env h T fun env' h' => Rn P s .normal env' h' Q
      | .exit i => Rn P s (.exit i) env h Q
      | .ret => Rn P s .ret env h Q
    | .blk id => match e with
      | .normal => Rn P s .normal env h Q
      | .exit i => if i = id then Rn P s .normal env h Q else Rn P s (.exit i) env h Q
      | .ret => Rn P s .ret env h Q

/-- two ways on -/
def Bo (P : Program) (b : Bool) (s1 : List Ctl) (e1 : Env) (s2 : List Ctl) (e2 : Env) (h : List Entry) (Q : APost) : Prop :=
  (b = true → Rn P s1 .normal e1 h Q) ∧ (b = false → Rn P s2 .normal e2 h Q)
/-- one operation -/
def Ro (P : Program) (o : Op) (d : Option Tmp) (s : List Ctl) (env : Env) (h : List Entry) (Q : APost) : Prop :=
  opwp P env h o fun r h' => Rn P s .normal (putD env d r) h' Q
/-- one step -/
def Rs (P : Program) (st : Stp) (d : Option Tmp) (s : List Ctl) (env : Env) (h : List Entry) (Q : APost) : Prop :=
  st.wp h fun r h' => Rn P s .normal (putD env d r) h' Q
/-- a value -/
def Rv (P : Program) (r : AV) (d : Option Tmp) (s : List Ctl) (env : Env) (h : List Entry) (Q : APost) : Prop :=
  Rn P s .normal (putD env d r) h Q
def Rg (P : Program) (x : AV) (want : Bool) (o : Op) (d : Option Tmp) (t : Option Tmp) (s : List Ctl) (env : Env) (h : List Entry) (Q : APost) : Prop :=
  match t with
  | none => False
  | some t => match x with
    | .bool b => (b = want → Ro P o d s (put env t (.bool want)) h Q) ∧ (b = !want → Rn P s .normal (putD (put env t (.bool (!want))) d (.tup [])) h Q)
    | .tup [] => Rn P s .normal (putD env d (.tup [])) h Q
    | _ => False
/-- an operation under a yes or a no that is not known -/
def Bg (P : Program) (b want : Bool) (o : Op) (d : Option Tmp) (t : Tmp) (s : List Ctl) (env : Env) (h : List Entry) (Q : APost) : Prop :=
  (b = want → Ro P o d s (put env t (.bool want)) h Q) ∧ (b = !want → Rn P s .normal (putD (put env t (.bool (!want))) d (.tup [])) h Q)
def Rc (P : Program) (t : AV) (x y : Code) (s : List Ctl) (env : Env) (h : List Entry) (Q : APost) : Prop := match t with
  | .bool b => Bo P b (.code x :: s) env (.code y :: s) env h Q
  | _ => False
def Rp (P : Program) (t x y : AV) (d : Option Tmp) (s : List Ctl) (env : Env) (h : List Entry) (Q : APost) : Prop := match t with
  | .bool b => (b = true → Rv P x d s env h Q) ∧ (b = false → Rv P y d s env h Q)
  | _ => False
/-- one of two values, it is not known which -/
def Bp (P : Program) (b : Bool) (x y : AV) (d : Option Tmp) (s : List Ctl) (env : Env) (h : List Entry) (Q : APost) : Prop :=
  (b = true → Rv P x d s env h Q) ∧ (b = false → Rv P y d s env h Q)
def Rd (P : Program) (e : Option Entry) (f : Entry → Stp) (d : Option Tmp) (s : List Ctl) (env : Env) (h : List Entry) (Q : APost) : Prop := match e with
  | some e => Rs P (f e) d s env h Q
  | none => False
def Rm (P : Program) (ok : Bool) (r : AV) (e : Entry) (d : Option Tmp) (s : List Ctl) (env : Env) (h : List Entry) (Q : APost) : Prop :=
  ok = true ∧ Rn P s .normal (putD env d r) (h ++ [e]) Q
def Rl (P : Program) (x : Code) (s : List Ctl) (env : Env) (h : List Entry) (Q : APost) : Prop :=
  ALoop (awp P x) env h fun e env' h' => Rn P s e env' h' Q
def Rf (P : Program) (f : AV) (ts : List TypeId) (args : List AV) (d : Option Tmp) (s : List Ctl) (env : Env) (h : List Entry) (Q : APost) : Prop := match f with
  | .fn g caps => argsOK P ts args ∧ args.all plainAV = true ∧ ((FSpec P g (wks P ts args ++ caps) h fun r h' => Rn P s .normal (putD env d r) h' Q) ∨ FSpec P g (args ++ caps) h fun r h' => Rn P s .normal (putD env d r) h' Q)
  | _ => False
/-- a call that stands before us -/
def Rk (P : Program) (g : FuncId) (args raw : List AV) (d : Option Tmp) (s : List Ctl) (env : Env) (h : List Entry) (Q : APost) : Prop :=
  (FSpec P g args h fun r h' => Rn P s .normal (putD env d r) h' Q) ∨ FSpec P g raw h fun r h' => Rn P s .normal (putD env d r) h' Q
/-- a slice held against nil -/
def Rq (P : Program) (neg : Bool) (p : Option (Bool → Prop)) (ok : Bool) (d : Option Tmp) (s : List Ctl) (env : Env) (h : List Entry) (Q : APost) : Prop :=
  match p with
  | some p => ok = true ∧ ∀ b, p b → Rn P s .normal (putD env d (.bool (neg != b))) h Q
  | none => False
def Rb (P : Program) (nl : Bool) (op : BinOp) (T : TypeId) (x y : AV) (d : Option Tmp) (s : List Ctl) (env : Env) (h : List Entry) (Q : APost) : Prop :=
  match nl with
  | false => Rs P (stBin P op T x y) d s env h Q
  | true => match op with
    | .eql => Rq P false (nilEq x) (isSlice (shapeT P T)) d s env h Q
    | .neq => Rq P true (nilEq x) (isSlice (shapeT P T)) d s env h Q
    | _ => False

variable {env : Env} {h : List Entry} {s : List Ctl} {d : Option Tmp} {Q : APost}

theorem r_end (e : AEx) : Rn P [] e env h Q = Q e env h := rfl
theorem r_skip : Rn P (.code .skip :: s) .normal env h Q = Rn P s .normal env h Q := rfl
theorem r_label (l : Nat) : Rn P (.code (.label l) :: s) .normal env h Q = Rn P s .normal env h Q := rfl
theorem r_exit (i : Nat) : Rn P (.code (.exit i) :: s) .normal env h Q = Rn P s (.exit i) env h Q := rfl
theorem r_ret : Rn P (.code .ret :: s) .normal env h Q = Rn P s .ret env h Q := rfl
theorem r_seq (x y : Code) : Rn P (.code (.seq x y) :: s) .normal env h Q = Rn P (.code x :: .code y :: s) .normal env h Q := by
  simp only [Rn, awp]
  congr
theorem r_block (id : Nat) (x : Code) : Rn P (.code (.block id x) :: s) .normal env h Q = Rn P (.code x :: .blk id :: s) .normal env h Q := by
  simp only [Rn, awp]
  congr
theorem r_region (id : Nat) (ops : List Oper) : Rn P (.code (.region id ops.toArray false) :: s) .normal env h Q = Rn P (.ops ops ops :: .cut env.length :: s) .normal env h Q := by
  simp only [Rn, awp]
theorem r_loop (x : Code) : Rn P (.code (.loop x) :: s) .normal env h Q = Rl P x s env h Q := rfl
theorem r_cond (c : Operand) (x y : Code) : Rn P (.code (.cond c x y) :: s) .normal env h Q = Rc P (ev env c) x y s env h Q := by
  simp only [Rn, awp, Rc, Bo]
  cases ev env c <;> rfl
theorem r_cond_b (b : Bool) (x y : Code) : Rc P (.bool b) x y s env h Q = Bo P b (.code x :: s) env (.code y :: s) env h Q := rfl
theorem r_bo_t (s1 s2 : List Ctl) (e1 e2 : Env) : Bo P true s1 e1 s2 e2 h Q = Rn P s1 .normal e1 h Q := by simp [Bo]
theorem r_bo_f (s1 s2 : List Ctl) (e1 e2 : Env) : Bo P false s1 e1 s2 e2 h Q = Rn P s2 .normal e2 h Q := by simp [Bo]
theorem r_code_ret (x : Code) : Rn P (.code x :: s) .ret env h Q = Rn P s .ret env h Q := rfl
theorem r_code_ex (x : Code) (i : Nat) : Rn P (.code x :: s) (.exit i) env h Q = Rn P s (.exit i) env h Q := rfl
theorem r_blk_ret (i : Nat) : Rn P (.blk i :: s) .ret env h Q = Rn P s .ret env h Q := rfl
theorem r_blk (i : Nat) : Rn P (.blk i :: s) .normal env h Q = Rn P s .normal env h Q := rfl
theorem r_blk_ex (i j : Nat) : Rn P (.blk i :: s) (.exit j) env h Q = if j = i then Rn P s .normal env h Q else Rn P s (.exit j) env h Q := rfl
theorem r_cut (n : Nat) (e : AEx) : Rn P (.cut n :: s) e env h Q = Rn P s e (env.take n) h Q := by cases e <;> rfl

theorem r_nil (all : List Oper) : Rn P (.ops all [] :: s) .normal env h Q = Rn P s .normal env h Q := rfl
theorem r_op (all rest : List Oper) (o : Op) (T : TypeId) (p : String) (e : Array Edge) :
    Rn P (.ops all (⟨d, o, T, p, e, none⟩ :: rest) :: s) .normal env h Q = Ro P o d (.ops all rest :: s) env h Q := rfl
def lkO (env : Env) : Option Tmp → AV
  | some t => lk env t
  | none => .junk
theorem r_guard (all rest : List Oper) (o : Op) (T : TypeId) (p : String) (e : Array Edge) (j : Nat) (w : Bool) :
    Rn P (.ops all (⟨d, o, T, p, e, some (j, w)⟩ :: rest) :: s) .normal env h Q = Rg P (lkO env (gslot all j)) w o d (gslot all j) (.ops all rest :: s) env h Q := by
  simp only [Rn, aops, Rg]
  cases gslot all j <;> simp only [lkO]
  rename_i t
  cases lk env t <;> rfl
theorem r_g_undef (w : Bool) (o : Op) (t : Tmp) : Rg P (.tup []) w o d (some t) s env h Q = Rn P s .normal (putD env d (.tup [])) h Q := rfl
theorem r_g_b (b w : Bool) (o : Op) (t : Tmp) : Rg P (.bool b) w o d (some t) s env h Q = Bg P b w o d t s env h Q := rfl
theorem r_bg_tt (o : Op) (t : Tmp) : Bg P true true o d t s env h Q = Ro P o d s (put env t (.bool true)) h Q := by simp [Bg]
theorem r_bg_ff (o : Op) (t : Tmp) : Bg P false false o d t s env h Q = Ro P o d s (put env t (.bool false)) h Q := by simp [Bg]
theorem r_bg_tf (o : Op) (t : Tmp) : Bg P true false o d t s env h Q = Rn P s .normal (putD (put env t (.bool true)) d (.tup [])) h Q := by simp [Bg]
theorem r_bg_ft (o : Op) (t : Tmp) : Bg P false true o d t s env h Q = Rn P s .normal (putD (put env t (.bool false)) d (.tup [])) h Q := by simp [Bg]
theorem gslot_0 (o : Oper) (r : List Oper) : gslot (o :: r) 0 = o.dst := rfl
theorem gslot_succ (o : Oper) (r : List Oper) (j : Nat) : gslot (o :: r) (j + 1) = gslot r j := rfl
theorem lkO_some (t : Tmp) : lkO env (some t) = lk env t := rfl

theorem rs_ret (v : AV) (wr : List (Nat × Entry)) : Rs P (.ret v wr) d s env h Q = Rn P s .normal (putD env d v) (wrAll h wr) Q := rfl
theorem rs_rd (k : Nat) (f : Entry → Stp) : Rs P (.rd k f) d s env h Q = Rd P h[k]? f d s env h Q := by
  simp only [Rs, Stp.wp, Rd]
  cases h[k]? <;> rfl
theorem rd_some (e : Entry) (f : Entry → Stp) : Rd P (some e) f d s env h Q = Rs P (f e) d s env h Q := rfl
theorem rv (r : AV) : Rv P r d s env h Q = Rn P s .normal (putD env d r) h Q := rfl
theorem rm (r : AV) (e : Entry) : Rm P true r e d s env h Q = Rn P s .normal (putD env d r) (h ++ [e]) Q := by simp [Rm]

theorem o_move (x : Operand) : Ro P (.move x) d s env h Q = Rn P s .normal (putD env d (ev env x)) h Q := rfl
theorem o_assign (x : Operand) : Ro P (.assign x) d s env h Q = Rn P s .normal (putD env d (ev env x)) h Q := rfl
theorem o_pick (c x y : Operand) : Ro P (.pick c x y) d s env h Q = Rp P (ev env c) (ev env x) (ev env y) d s env h Q := by
  simp only [Ro, opwp, Rp]
  cases ev env c <;> rfl
theorem rp_b (b : Bool) (x y : AV) : Rp P (.bool b) x y d s env h Q = Bp P b x y d s env h Q := rfl
theorem bp_t (x y : AV) : Bp P true x y d s env h Q = Rn P s .normal (putD env d x) h Q := by simp [Bp, Rv]
theorem bp_f (x y : AV) : Bp P false x y d s env h Q = Rn P s .normal (putD env d y) h Q := by simp [Bp, Rv]
theorem bp_b (b x y : Bool) : Bp P b (.bool x) (.bool y) d s env h Q = Rn P s .normal (putD env d (.bool (if b then x else y))) h Q := by cases b <;> simp [Bp, Rv]
theorem o_load (T : TypeId) (x : Operand) : Ro P (.load T x) d s env h Q = Rs P (stLoad T (ev env x)) d s env h Q := rfl
theorem o_store (T : TypeId) (x y : Operand) : Ro P (.store T x y) d s env h Q = Rs P (stStore P T (ev env y) (ev env x)) d s env h Q := rfl
theorem o_nilCheck (x : Operand) : Ro P (.nilCheck x) d s env h Q = Rs P (stNilCheck (ev env x)) d s env h Q := rfl
theorem o_unOp (op : UnOp) (T : TypeId) (x : Operand) : Ro P (.unOp op T x) d s env h Q = Rs P (stUn op (ev env x)) d s env h Q := rfl
theorem o_convert (S T : TypeId) (x : Operand) : Ro P (.convert S T x) d s env h Q = Rs P (stConv P S T (ev env x)) d s env h Q := rfl
theorem o_extract (x : Operand) (i : Nat) : Ro P (.extract x i) d s env h Q = Rs P (stExtract i (ev env x)) d s env h Q := rfl
theorem o_index (T : TypeId) (x i : Operand) : Ro P (.index T x i) d s env h Q = Rs P (stIndex P T (ev env x) (ev env i)) d s env h Q := rfl
theorem o_indexAddr (T : TypeId) (x i : Operand) : Ro P (.indexAddr T x i) d s env h Q = Rs P (stIndexAddr P T (ev env x) (ev env i)) d s env h Q := rfl
theorem o_build (T : TypeId) (ps : Array (Nat × Operand)) : Ro P (.build T ps) d s env h Q = Rs P (stBuild P T (pairs env ps)) d s env h Q := rfl
theorem o_fieldAddr (T : TypeId) (x : Operand) (i : Nat) : Ro P (.fieldAddr T x i) d s env h Q = Rs P (if shapeT P T = .struct then stFieldAddr P T i (ev env x) else .fail) d s env h Q := rfl
theorem o_field (T : TypeId) (x : Operand) (i : Nat) : Ro P (.field T x i) d s env h Q = Rs P (if shapeT P T = .struct then stField P T i (ev env x) else .fail) d s env h Q := rfl
theorem o_alloc (T : TypeId) : Ro P (.alloc T) d s env h Q = Rm P (zOK P T) (.ref h.length [0] T) ⟨T, [zeroAV P T], .own⟩ d s env h Q := by
  by_cases hz : zOK P T = true <;> simp [Ro, opwp, makes, step, hz, Stp.wp, wrAll, Rm]
theorem o_box (T : TypeId) (x : Operand) : Ro P (.box T x) d s env h Q = Rm P (tyB P (ev env x) T) (.ref h.length [0] T) ⟨T, [ev env x], .own⟩ d s env h Q := by
  by_cases hz : tyB P (ev env x) T = true <;> simp [Ro, opwp, makes, step, hz, Stp.wp, wrAll, Rm]
/-- a step that makes an entry: it may write old ones, and writes the new one -/
def Rh (P : Program) (st : Stp) (d : Option Tmp) (s : List Ctl) (env : Env) (h : List Entry) (Q : APost) : Prop :=
  st.wp (h ++ [⟨0, [], .hole⟩]) fun r h' => Rn P s .normal (putD env d r) h' Q
def Rhd (P : Program) (e : Option Entry) (f : Entry → Stp) (d : Option Tmp) (s : List Ctl) (env : Env) (h : List Entry) (Q : APost) : Prop := match e with
  | some e => Rh P (f e) d s env h Q
  | none => False
theorem rh_new (v : AV) (e : Entry) : Rh P (.ret v [(h.length, e)]) d s env h Q = Rn P s .normal (putD env d v) (h ++ [e]) Q := by
  simp [Rh, Stp.wp, wrAll]
theorem rh_ret (v : AV) (wr : List (Nat × Entry)) : Rh P (.ret v wr) d s env h Q = Rn P s .normal (putD env d v) (wrAll (h ++ [⟨0, [], .hole⟩]) wr) Q := rfl
theorem rh_rd (k : Nat) (f : Entry → Stp) : Rh P (.rd k f) d s env h Q = Rhd P (h ++ [⟨0, [], .hole⟩])[k]? f d s env h Q := by
  simp only [Rh, Stp.wp, Rhd]
  cases (h ++ [⟨0, [], .hole⟩])[k]? <;> rfl
theorem rhd_some (e : Entry) (f : Entry → Stp) : Rhd P (some e) f d s env h Q = Rh P (f e) d s env h Q := rfl
theorem o_buildSlice (T : TypeId) (n : Nat) (ps : Array (Nat × Operand)) : Ro P (.buildSlice T n ps) d s env h Q = Rh P (stBuildSlice P T n (pairs env ps) h.length) d s env h Q := rfl
theorem o_makeSlice (T : TypeId) (x y : Operand) : Ro P (.makeSlice T x y) d s env h Q = Rh P (stMakeSlice P T (ev env x) (ev env y) h.length) d s env h Q := rfl
theorem o_append (args : Array Operand) (ts : Array TypeId) : Ro P (.call { callee := .builtin .append, args := args, argTypes := ts }) d s env h Q = Rh P (stBuiltin P .append ts.toList (evs env args) h.length) d s env h Q := rfl
theorem o_len (args : Array Operand) (ts : Array TypeId) : Ro P (.call { callee := .builtin .len, args := args, argTypes := ts }) d s env h Q = Rs P (stBuiltin P .len ts.toList (evs env args) 0) d s env h Q := rfl
theorem o_clear (args : Array Operand) (ts : Array TypeId) : Ro P (.call { callee := .builtin .clear, args := args, argTypes := ts }) d s env h Q = Rs P (stBuiltin P .clear ts.toList (evs env args) 0) d s env h Q := rfl
theorem o_min (args : Array Operand) (ts : Array TypeId) : Ro P (.call { callee := .builtin .min, args := args, argTypes := ts }) d s env h Q = Rs P (stBuiltin P .min ts.toList (evs env args) 0) d s env h Q := rfl
theorem o_max (args : Array Operand) (ts : Array TypeId) : Ro P (.call { callee := .builtin .max, args := args, argTypes := ts }) d s env h Q = Rs P (stBuiltin P .max ts.toList (evs env args) 0) d s env h Q := rfl
theorem o_slice (T : TypeId) (x : Operand) (lo hi mx : Option Operand) : Ro P (.slice T x lo hi mx) d s env h Q =
    Rs P (if (mx.isNone || hi.isSome) = true then stSlice P T (ev env x) (lo.map (ev env)) (hi.map (ev env)) (mx.map (ev env)) else .fail) d s env h Q := rfl
/-- a value that must be plain -/
def Rw (P : Program) (ok : Bool) (r : AV) (d : Option Tmp) (s : List Ctl) (env : Env) (h : List Entry) (Q : APost) : Prop :=
  ok = true ∧ Rn P s .normal (putD env d r) h Q
theorem rw_t (r : AV) : Rw P true r d s env h Q = Rn P s .normal (putD env d r) h Q := by simp [Rw]
theorem o_makeFunc (f : FuncId) (caps : Array Operand) : Ro P (.makeFunc (.func f) #[] caps) d s env h Q = Rw P ((evs env caps).all plainAV) (.fn f (evs env caps)) d s env h Q := by
  by_cases hc : (evs env caps).all plainAV = true <;> simp only [Ro, opwp, makes, step, hc, Stp.wp, wrAll, Rw, true_and, and_true, if_true, if_false, Bool.false_eq_true, false_and]
theorem isNil_tmp (t : Tmp) : isNilConst (.tmp t) = false := rfl
theorem isNil_int (k : IntKind) (n : Int) : isNilConst (.const (.int k n)) = false := rfl
theorem isNil_bool (b : Bool) : isNilConst (.const (.bool b)) = false := rfl
theorem isNil_str (b : ByteArray) : isNilConst (.const (.string b)) = false := rfl
theorem isNil_slice (l c : Nat) : isNilConst (.const (.slice none l c)) = true := rfl
theorem o_bin (op : BinOp) (T T2 : TypeId) (x y : Operand) : Ro P (.binOp op T x y T2) d s env h Q = Rb P (isNilConst y) op T (ev env x) (ev env y) d s env h Q := by
  unfold Rb
  cases hb : isNilConst y with
  | false => simp [Ro, opwp, hb, Rs]
  | true =>
    simp only [Ro, opwp, hb, if_true, Rq]
    cases nilEq (ev env x) <;> cases op <;> simp
theorem rb_f (op : BinOp) (T : TypeId) (x y : AV) : Rb P false op T x y d s env h Q = Rs P (stBin P op T x y) d s env h Q := rfl
theorem rb_eql (T : TypeId) (x y : AV) : Rb P true .eql T x y d s env h Q = Rq P false (nilEq x) (isSlice (shapeT P T)) d s env h Q := rfl
theorem rb_neq (T : TypeId) (x y : AV) : Rb P true .neq T x y d s env h Q = Rq P true (nilEq x) (isSlice (shapeT P T)) d s env h Q := rfl
theorem o_call (f : Operand) (args : Array Operand) (ts : Array TypeId) : Ro P (.call { callee := .value f, args := args, argTypes := ts }) d s env h Q = Rf P (ev env f) ts.toList (evs env args) d s env h Q := by
  simp only [Ro, opwp, Rf]
  cases ev env f <;> rfl
/-- the arguments are looked at first -/
def Ra (P : Program) (ok : Prop) (g : FuncId) (args raw : List AV) (d : Option Tmp) (s : List Ctl) (env : Env) (h : List Entry) (Q : APost) : Prop := ok ∧ Rk P g args raw d s env h Q
theorem rf_fn (g : FuncId) (caps : List AV) (ts : List TypeId) (args : List AV) : Rf P (.fn g caps) ts args d s env h Q = Ra P (argsOK P ts args ∧ args.all plainAV = true) g (wks P ts args ++ caps) (args ++ caps) d s env h Q := by
  simp only [Rf, Ra, Rk, and_assoc]
theorem ra_t (g : FuncId) (args raw : List AV) : Ra P True g args raw d s env h Q = Rk P g args raw d s env h Q := by simp [Ra]

theorem k_pure {g : FuncId} {args raw : List AV} {R : AV → Prop} (hp : Pure P g args R) (hk : ∀ r, R r → Rn P s .normal (putD env d r) h Q) : Rk P g args raw d s env h Q := .inl (call_pure hp hk)
theorem bo_mk {b : Bool} {s1 s2 : List Ctl} {e1 e2 : Env} (h1 : b = true → Rn P s1 .normal e1 h Q) (h2 : b = false → Rn P s2 .normal e2 h Q) : Bo P b s1 e1 s2 e2 h Q := ⟨h1, h2⟩
theorem bg_yes {b : Bool} {o : Op} {t : Tmp} (h1 : b = true → Ro P o d s (put env t (.bool true)) h Q) (h2 : b = false → Rn P s .normal (putD (put env t (.bool false)) d (.tup [])) h Q) : Bg P b true o d t s env h Q := ⟨h1, h2⟩
theorem bg_no {b : Bool} {o : Op} {t : Tmp} (h1 : b = true → Rn P s .normal (putD (put env t (.bool true)) d (.tup [])) h Q) (h2 : b = false → Ro P o d s (put env t (.bool false)) h Q) : Bg P b false o d t s env h Q := ⟨h2, h1⟩
theorem bp_mk {b : Bool} {x y : AV} (h1 : b = true → Rn P s .normal (putD env d x) h Q) (h2 : b = false → Rn P s .normal (putD env d y) h Q) : Bp P b x y d s env h Q := ⟨h1, h2⟩

theorem rs_yes {c : Prop} [Decidable c] {st : Stp} (hc : c) (hk : Rs P st d s env h Q) : Rs P (if c then st else .fail) d s env h Q := by rw [if_pos hc]; exact hk
theorem rs_no {c : Prop} [Decidable c] {st : Stp} (hc : ¬ c) (hk : Rs P st d s env h Q) : Rs P (if c then .fail else st) d s env h Q := by rw [if_neg hc]; exact hk
theorem rh_yes {c : Prop} [Decidable c] {st : Stp} (hc : c) (hk : Rh P st d s env h Q) : Rh P (if c then st else .fail) d s env h Q := by rw [if_pos hc]; exact hk

/-- A function without effect, by the machine. -/
theorem pure_run (hP : WF P) {f : FuncId} {fn : Func} {x : Code} {args : List AV} {R : AV → Prop} (ks : List Nat) (hf : P.funcs[f]? = some fn) (hb : fn.body = some x) (hc : callable P f = true)
    (hok : codeOK fn.ntmps x = true) (hn : args.length ≤ fn.ntmps) (hw : ∀ h, Rn P [.code x] .normal (env0 0 args ks) h fun e env' h' => e.fin = true ∧ h'.take h.length = h ∧ ares P fn.results.toList env' h' (one fun r => plainAV r = true ∧ below h.length (rz h' h.length r) = true ∧ R (rz h' h.length r))) :
    Pure P f args R := pure_code hP ks hf hb hc hok hn hw
end
end Go.Abs
