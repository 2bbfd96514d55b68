/- Abs28: a part of the proofs about the tuple space and its bytes. -/
import Derived.Test.YtilfbkhbjkjicaaAbs21
import Derived.KernelRfl
import Derived.IntWalk
set_option linter.all false
namespace Go.Abs
open Go
section
variable {P : Program}
inductive Ctl where
  | code (x : Code)
  | ops (all l : List Oper)
  | cut (n : Nat)
  | blk (id : Nat)
  | dops (all : List Oper) (base : Nat) (l : List Oper) (U : List (List Nat)) (m : Nat) (T : List Tc)
def Rn (P : Program) : List Ctl → AEx → Env → List Entry → yap → Prop
  | [], e, env, h, Q => Q e env h
  | c :: s, e, env, h, Q => match c with
    | .code x => match e with
      | .normal => awp P x env h fun e env' h' => Rn P s e env' h' Q
      | .exit i => Rn P s (.exit i) env h Q
      | .ret => Rn P s .ret env h Q
    | .ops all l => match e with
      | .normal => aops P all l env h fun env' h' => Rn P s .normal env' h' Q
      | .exit i => Rn P s (.exit i) env h Q
      | .ret => Rn P s .ret env h Q
    | .cut n => Rn P s e (env.take n) h Q
    | .dops all base l U m T => match e with
      | .normal => dwp P all base l U m env h T fun env' h' => Rn P s .normal env' h' Q
      | .exit i => Rn P s (.exit i) env h Q
      | .ret => Rn P s .ret env h Q
    | .blk id => match e with
      | .normal => Rn P s .normal env h Q
      | .exit i => if i = id then Rn P s .normal env h Q else Rn P s (.exit i) env h Q
      | .ret => Rn P s .ret env h Q
def Bo (P : Program) (b : Bool) (s1 : List Ctl) (e1 : Env) (s2 : List Ctl) (e2 : Env) (h : List Entry) (Q : yap) : Prop :=
  (b = true → Rn P s1 .normal e1 h Q) ∧ (b = false → Rn P s2 .normal e2 h Q)
def Ro (P : Program) (o : Op) (d : Option Tmp) (s : List Ctl) (env : Env) (h : List Entry) (Q : yap) : Prop :=
  opwp P env h o fun r h' => Rn P s .normal (ybf env d r) h' Q
def Rs (P : Program) (st : Stp) (d : Option Tmp) (s : List Ctl) (env : Env) (h : List Entry) (Q : yap) : Prop :=
  st.wp h fun r h' => Rn P s .normal (ybf env d r) h' Q
def Rv (P : Program) (r : AV) (d : Option Tmp) (s : List Ctl) (env : Env) (h : List Entry) (Q : yap) : Prop :=
  Rn P s .normal (ybf env d r) h Q
def Rg (P : Program) (x : AV) (want : Bool) (o : Op) (d : Option Tmp) (t : Option Tmp) (s : List Ctl) (env : Env) (h : List Entry) (Q : yap) : Prop :=
  match t with
  | none => False
  | some t => match x with
    | .bool b => (b = want → Ro P o d s (put env t (.bool want)) h Q) ∧ (b = !want → Rn P s .normal (ybf (put env t (.bool (!want))) d (.tup [])) h Q)
    | .tup [] => Rn P s .normal (ybf env d (.tup [])) h Q
    | _ => False
def Bg (P : Program) (b want : Bool) (o : Op) (d : Option Tmp) (t : Tmp) (s : List Ctl) (env : Env) (h : List Entry) (Q : yap) : Prop :=
  (b = want → Ro P o d s (put env t (.bool want)) h Q) ∧ (b = !want → Rn P s .normal (ybf (put env t (.bool (!want))) d (.tup [])) h Q)
def Rc (P : Program) (t : AV) (x y : Code) (s : List Ctl) (env : Env) (h : List Entry) (Q : yap) : Prop := match t with
  | .bool b => Bo P b (.code x :: s) env (.code y :: s) env h Q
  | _ => False
def Rp (P : Program) (t x y : AV) (d : Option Tmp) (s : List Ctl) (env : Env) (h : List Entry) (Q : yap) : Prop := match t with
  | .bool b => (b = true → Rv P x d s env h Q) ∧ (b = false → Rv P y d s env h Q)
  | _ => False
def Bp (P : Program) (b : Bool) (x y : AV) (d : Option Tmp) (s : List Ctl) (env : Env) (h : List Entry) (Q : yap) : Prop :=
  (b = true → Rv P x d s env h Q) ∧ (b = false → Rv P y d s env h Q)
def Rd (P : Program) (e : Option Entry) (f : Entry → Stp) (d : Option Tmp) (s : List Ctl) (env : Env) (h : List Entry) (Q : yap) : Prop := match e with
  | some e => Rs P (f e) d s env h Q
  | none => False
def Rm (P : Program) (ok : Bool) (r : AV) (e : Entry) (d : Option Tmp) (s : List Ctl) (env : Env) (h : List Entry) (Q : yap) : Prop :=
  ok = true ∧ Rn P s .normal (ybf env d r) (h ++ [e]) Q
def Rl (P : Program) (x : Code) (s : List Ctl) (env : Env) (h : List Entry) (Q : yap) : Prop :=
  ALoop (awp P x) env h fun e env' h' => Rn P s e env' h' Q
def Rf (P : Program) (f : AV) (ts : List TypeId) (args : List AV) (d : Option Tmp) (s : List Ctl) (env : Env) (h : List Entry) (Q : yap) : Prop := match f with
  | .fn g caps => argsR P ts args ∧ args.all zah = true ∧ ((isY caps = false ∧ ((FSpec P g (wks P ts args ++ caps) h fun r h' => Rn P s .normal (ybf env d r) h' Q) ∨ FSpec P g (args ++ caps) h fun r h' => Rn P s .normal (ybf env d r) h' Q)) ∨
      (isY caps = true ∧ YSpec P g caps args h fun r h' => Rn P s .normal (ybf env d r) h' Q))
  | _ => False
def Rk (P : Program) (g : FuncId) (args raw : List AV) (d : Option Tmp) (s : List Ctl) (env : Env) (h : List Entry) (Q : yap) : Prop :=
  (FSpec P g args h fun r h' => Rn P s .normal (ybf env d r) h' Q) ∨ FSpec P g raw h fun r h' => Rn P s .normal (ybf env d r) h' Q
def Rq (P : Program) (neg : Bool) (p : Option (Bool → Prop)) (ok : Bool) (d : Option Tmp) (s : List Ctl) (env : Env) (h : List Entry) (Q : yap) : Prop :=
  match p with
  | some p => ok = true ∧ ∀ b, p b → Rn P s .normal (ybf env d (.bool (neg != b))) h Q
  | none => False
def Rb (P : Program) (nl : Bool) (op : BinOp) (T : TypeId) (x y : AV) (d : Option Tmp) (s : List Ctl) (env : Env) (h : List Entry) (Q : yap) : Prop :=
  match nl with
  | false => Rs P (stBin P op T x y) d s env h Q
  | true => match op with
    | .eql => Rq P false (nilEq x) (qay (zab P T)) d s env h Q
    | .neq => Rq P true (nilEq x) (qay (zab P T)) d s env h Q
    | _ => False
variable {env : Env} {h : List Entry} {s : List Ctl} {d : Option Tmp} {Q : yap}
theorem r_end (e : AEx) : Rn P [] e env h Q = Q e env h := rfl
theorem r_skip : Rn P (.code .skip :: s) .normal env h Q = Rn P s .normal env h Q := rfl
theorem r_label (l : Nat) : Rn P (.code (.label l) :: s) .normal env h Q = Rn P s .normal env h Q := rfl
theorem r_exit (i : Nat) : Rn P (.code (.exit i) :: s) .normal env h Q = Rn P s (.exit i) env h Q := rfl
theorem r_ret : Rn P (.code .ret :: s) .normal env h Q = Rn P s .ret env h Q := rfl
theorem r_seq (x y : Code) : Rn P (.code (.seq x y) :: s) .normal env h Q = Rn P (.code x :: .code y :: s) .normal env h Q := by
  simp only [Rn, awp]
  congr
theorem r_block (id : Nat) (x : Code) : Rn P (.code (.block id x) :: s) .normal env h Q = Rn P (.code x :: .blk id :: s) .normal env h Q := by
  simp only [Rn, awp]
  congr
theorem r_region (id : Nat) (ops : List Oper) : Rn P (.code (.region id ops.toArray false) :: s) .normal env h Q = Rn P (.ops ops ops :: .cut env.length :: s) .normal env h Q := by
  simp only [Rn, awp]
theorem qa8 (x : Code) : Rn P (.code (.loop x) :: s) .normal env h Q = Rl P x s env h Q := rfl
theorem r_cond (c : Operand) (x y : Code) : Rn P (.code (.cond c x y) :: s) .normal env h Q = Rc P (ev env c) x y s env h Q := by
  simp only [Rn, awp, Rc, Bo]
  cases ev env c <;> rfl
theorem r_cond_b (b : Bool) (x y : Code) : Rc P (.bool b) x y s env h Q = Bo P b (.code x :: s) env (.code y :: s) env h Q := rfl
theorem r_bo_t (s1 s2 : List Ctl) (e1 e2 : Env) : Bo P true s1 e1 s2 e2 h Q = Rn P s1 .normal e1 h Q := by simp [Bo]
theorem r_bo_f (s1 s2 : List Ctl) (e1 e2 : Env) : Bo P false s1 e1 s2 e2 h Q = Rn P s2 .normal e2 h Q := by simp [Bo]
theorem r_code_ret (x : Code) : Rn P (.code x :: s) .ret env h Q = Rn P s .ret env h Q := rfl
theorem r_code_ex (x : Code) (i : Nat) : Rn P (.code x :: s) (.exit i) env h Q = Rn P s (.exit i) env h Q := rfl
theorem r_blk_ret (i : Nat) : Rn P (.blk i :: s) .ret env h Q = Rn P s .ret env h Q := rfl
theorem r_blk (i : Nat) : Rn P (.blk i :: s) .normal env h Q = Rn P s .normal env h Q := rfl
theorem r_blk_ex (i j : Nat) : Rn P (.blk i :: s) (.exit j) env h Q = if j = i then Rn P s .normal env h Q else Rn P s (.exit j) env h Q := rfl
theorem r_cut (n : Nat) (e : AEx) : Rn P (.cut n :: s) e env h Q = Rn P s e (env.take n) h Q := by cases e <;> rfl
theorem r_nil (all : List Oper) : Rn P (.ops all [] :: s) .normal env h Q = Rn P s .normal env h Q := rfl
theorem r_op (all rest : List Oper) (o : Op) (T : TypeId) (p : String) (e : Array Edge) :
    Rn P (.ops all (⟨d, o, T, p, e, none⟩ :: rest) :: s) .normal env h Q = Ro P o d (.ops all rest :: s) env h Q := rfl
def lkO (env : Env) : Option Tmp → AV
  | some t => lk env t
  | none => .junk
theorem r_guard (all rest : List Oper) (o : Op) (T : TypeId) (p : String) (e : Array Edge) (j : Nat) (w : Bool) :
    Rn P (.ops all (⟨d, o, T, p, e, some (j, w)⟩ :: rest) :: s) .normal env h Q = Rg P (lkO env (qb5 all j)) w o d (qb5 all j) (.ops all rest :: s) env h Q := by
  simp only [Rn, aops, Rg]
  cases qb5 all j <;> simp only [lkO]
  rename_i t
  cases lk env t <;> rfl
theorem r_g_undef (w : Bool) (o : Op) (t : Tmp) : Rg P (.tup []) w o d (some t) s env h Q = Rn P s .normal (ybf env d (.tup [])) h Q := rfl
theorem r_g_b (b w : Bool) (o : Op) (t : Tmp) : Rg P (.bool b) w o d (some t) s env h Q = Bg P b w o d t s env h Q := rfl
theorem r_bg_tt (o : Op) (t : Tmp) : Bg P true true o d t s env h Q = Ro P o d s (put env t (.bool true)) h Q := by simp [Bg]
theorem r_bg_ff (o : Op) (t : Tmp) : Bg P false false o d t s env h Q = Ro P o d s (put env t (.bool false)) h Q := by simp [Bg]
theorem r_bg_tf (o : Op) (t : Tmp) : Bg P true false o d t s env h Q = Rn P s .normal (ybf (put env t (.bool true)) d (.tup [])) h Q := by simp [Bg]
theorem r_bg_ft (o : Op) (t : Tmp) : Bg P false true o d t s env h Q = Rn P s .normal (ybf (put env t (.bool false)) d (.tup [])) h Q := by simp [Bg]
theorem gslot_0 (o : Oper) (r : List Oper) : qb5 (o :: r) 0 = o.dst := rfl
theorem gslot_succ (o : Oper) (r : List Oper) (j : Nat) : qb5 (o :: r) (j + 1) = qb5 r j := rfl
theorem lkO_some (t : Tmp) : lkO env (some t) = lk env t := rfl
theorem rs_ret (v : AV) (wr : List (Nat × Entry)) : Rs P (.ret v wr) d s env h Q = Rn P s .normal (ybf env d v) (yay h wr) Q := rfl
theorem rs_rd (k : Nat) (f : Entry → Stp) : Rs P (.rd k f) d s env h Q = Rd P h[k]? f d s env h Q := by
  simp only [Rs, Stp.wp, Rd]
  cases h[k]? <;> rfl
theorem rd_some (e : Entry) (f : Entry → Stp) : Rd P (some e) f d s env h Q = Rs P (f e) d s env h Q := rfl
theorem rm (r : AV) (e : Entry) : Rm P true r e d s env h Q = Rn P s .normal (ybf env d r) (h ++ [e]) Q := by simp [Rm]
theorem o_move (x : Operand) : Ro P (.move x) d s env h Q = Rn P s .normal (ybf env d (ev env x)) h Q := rfl
theorem o_assign (x : Operand) : Ro P (.assign x) d s env h Q = Rn P s .normal (ybf env d (ev env x)) h Q := rfl
theorem o_pick (c x y : Operand) : Ro P (.pick c x y) d s env h Q = Rp P (ev env c) (ev env x) (ev env y) d s env h Q := by
  simp only [Ro, opwp, Rp]
  cases ev env c <;> rfl
theorem rp_b (b : Bool) (x y : AV) : Rp P (.bool b) x y d s env h Q = Bp P b x y d s env h Q := rfl
theorem bp_t (x y : AV) : Bp P true x y d s env h Q = Rn P s .normal (ybf env d x) h Q := by simp [Bp, Rv]
theorem bp_f (x y : AV) : Bp P false x y d s env h Q = Rn P s .normal (ybf env d y) h Q := by simp [Bp, Rv]
theorem bp_b (b x y : Bool) : Bp P b (.bool x) (.bool y) d s env h Q = Rn P s .normal (ybf env d (.bool (if b then x else y))) h Q := by cases b <;> simp [Bp, Rv]
theorem o_load (T : TypeId) (x : Operand) : Ro P (.load T x) d s env h Q = Rs P (qcd T (ev env x)) d s env h Q := rfl
theorem o_store (T : TypeId) (x y : Operand) : Ro P (.store T x y) d s env h Q = Rs P (qdq P T (ev env y) (ev env x)) d s env h Q := rfl
theorem o_nilCheck (x : Operand) : Ro P (.nilCheck x) d s env h Q = Rs P (ybn (ev env x)) d s env h Q := rfl
theorem o_unOp (op : UnOp) (T : TypeId) (x : Operand) : Ro P (.unOp op T x) d s env h Q = Rs P (stUn op (ev env x)) d s env h Q := rfl
theorem o_convert (S T : TypeId) (t : Tmp) : Ro P (.convert S T (.tmp t)) d s env h Q = Rs P (qbk P S T (ev env (.tmp t))) d s env h Q := rfl
theorem o_convertI (S T : TypeId) (k : IntKind) (n : Int) : Ro P (.convert S T (.const (.int k n))) d s env h Q = Rs P (qbk P S T (.int k n)) d s env h Q := rfl
theorem o_extract (x : Operand) (i : Nat) : Ro P (.extract x i) d s env h Q = Rs P (ybv i (ev env x)) d s env h Q := rfl
theorem o_index (T : TypeId) (x i : Operand) : Ro P (.index T x i) d s env h Q = Rs P (ycs P T (ev env x) (ev env i)) d s env h Q := rfl
theorem o_indexAddr (T : TypeId) (x i : Operand) : Ro P (.indexAddr T x i) d s env h Q = Rs P (ya3 P T (ev env x) (ev env i)) d s env h Q := rfl
theorem o_build (T : TypeId) (ps : Array (Nat × Operand)) : Ro P (.build T ps) d s env h Q = Rs P (zct P T (ydj env ps)) d s env h Q := rfl
theorem o_fieldAddr (T : TypeId) (x : Operand) (i : Nat) : Ro P (.fieldAddr T x i) d s env h Q = Rs P (if zab P T = .struct then ybe P T i (ev env x) else .fail) d s env h Q := rfl
theorem o_field (T : TypeId) (x : Operand) (i : Nat) : Ro P (.field T x i) d s env h Q = Rs P (if zab P T = .struct then qcs P T i (ev env x) else .fail) d s env h Q := rfl
theorem o_alloc (T : TypeId) : Ro P (.alloc T) d s env h Q = Rm P (zOK P T) (.ref h.length [0] T) ⟨T, [qai P T], .own⟩ d s env h Q := by
  by_cases hz : zOK P T = true <;> simp [Ro, opwp, qa2, step, hz, Stp.wp, yay, Rm]
theorem o_box (T : TypeId) (x : Operand) : Ro P (.box T x) d s env h Q = Rm P (tyB P (ev env x) T) (.ref h.length [0] T) ⟨T, [ev env x], .own⟩ d s env h Q := by
  by_cases hz : tyB P (ev env x) T = true <;> simp [Ro, opwp, qa2, step, hz, Stp.wp, yay, Rm]
def Rh (P : Program) (st : Stp) (d : Option Tmp) (s : List Ctl) (env : Env) (h : List Entry) (Q : yap) : Prop :=
  st.wp (h ++ [⟨0, [], .hole⟩]) fun r h' => Rn P s .normal (ybf env d r) h' Q
def Rhd (P : Program) (e : Option Entry) (f : Entry → Stp) (d : Option Tmp) (s : List Ctl) (env : Env) (h : List Entry) (Q : yap) : Prop := match e with
  | some e => Rh P (f e) d s env h Q
  | none => False
theorem rh_new (v : AV) (e : Entry) : Rh P (.ret v [(h.length, e)]) d s env h Q = Rn P s .normal (ybf env d v) (h ++ [e]) Q := by
  simp [Rh, Stp.wp, yay]
theorem rh_ret (v : AV) (wr : List (Nat × Entry)) : Rh P (.ret v wr) d s env h Q = Rn P s .normal (ybf env d v) (yay (h ++ [⟨0, [], .hole⟩]) wr) Q := rfl
theorem rh_rd (k : Nat) (f : Entry → Stp) : Rh P (.rd k f) d s env h Q = Rhd P (h ++ [⟨0, [], .hole⟩])[k]? f d s env h Q := by
  simp only [Rh, Stp.wp, Rhd]
  cases (h ++ [⟨0, [], .hole⟩])[k]? <;> rfl
theorem ydh (e : Entry) (f : Entry → Stp) : Rhd P (some e) f d s env h Q = Rh P (f e) d s env h Q := rfl
theorem o_buildSlice (T : TypeId) (n : Nat) (ps : Array (Nat × Operand)) : Ro P (.buildSlice T n ps) d s env h Q = Rh P (qbn P T n (ydj env ps) h.length) d s env h Q := rfl
theorem o_makeSlice (T : TypeId) (x y : Operand) : Ro P (.makeSlice T x y) d s env h Q = Rh P (zbt P T (ev env x) (ev env y) h.length) d s env h Q := rfl
theorem o_append (args : Array Operand) (ts : Array TypeId) : Ro P (.call { callee := .builtin .append, args := args, argTypes := ts }) d s env h Q = Rh P (qa3 P .append ts.toList (evs env args) h.length) d s env h Q := rfl
theorem o_convertS (S T : TypeId) (b : ByteArray) : Ro P (.convert S T (.const (.string b))) d s env h Q = Rh P (ydr P S T b h.length) d s env h Q := rfl
theorem o_copy (args : Array Operand) (ts : Array TypeId) : Ro P (.call { callee := .builtin .copy, args := args, argTypes := ts }) d s env h Q = Rs P (qa3 P .copy ts.toList (evs env args) 0) d s env h Q := rfl
theorem isNil_ptr (a : Option Addr) : za6 (.const (.pointer a)) = false := rfl
theorem o_len (args : Array Operand) (ts : Array TypeId) : Ro P (.call { callee := .builtin .len, args := args, argTypes := ts }) d s env h Q = Rs P (qa3 P .len ts.toList (evs env args) 0) d s env h Q := rfl
theorem o_clear (args : Array Operand) (ts : Array TypeId) : Ro P (.call { callee := .builtin .clear, args := args, argTypes := ts }) d s env h Q = Rs P (qa3 P .clear ts.toList (evs env args) 0) d s env h Q := rfl
theorem o_cap (args : Array Operand) (ts : Array TypeId) : Ro P (.call { callee := .builtin .cap, args := args, argTypes := ts }) d s env h Q = Rs P (qa3 P .cap ts.toList (evs env args) 0) d s env h Q := rfl
theorem o_min (args : Array Operand) (ts : Array TypeId) : Ro P (.call { callee := .builtin .min, args := args, argTypes := ts }) d s env h Q = Rs P (qa3 P .min ts.toList (evs env args) 0) d s env h Q := rfl
theorem o_max (args : Array Operand) (ts : Array TypeId) : Ro P (.call { callee := .builtin .max, args := args, argTypes := ts }) d s env h Q = Rs P (qa3 P .max ts.toList (evs env args) 0) d s env h Q := rfl
theorem o_slice (T : TypeId) (x : Operand) (lo hi mx : Option Operand) : Ro P (.slice T x lo hi mx) d s env h Q =
    Rs P (if (mx.isNone || hi.isSome) = true then zdr P T (ev env x) (lo.map (ev env)) (hi.map (ev env)) (mx.map (ev env)) else .fail) d s env h Q := rfl
def Rw (P : Program) (ok : Bool) (r : AV) (d : Option Tmp) (s : List Ctl) (env : Env) (h : List Entry) (Q : yap) : Prop :=
  ok = true ∧ Rn P s .normal (ybf env d r) h Q
theorem rw_t (r : AV) : Rw P true r d s env h Q = Rn P s .normal (ybf env d r) h Q := by simp [Rw]
theorem o_makeFunc (f : FuncId) (caps : Array Operand) : Ro P (.makeFunc (.func f) #[] caps) d s env h Q = Rw P ((evs env caps).all zah) (.fn f (evs env caps)) d s env h Q := by
  by_cases hc : (evs env caps).all zah = true <;> simp only [Ro, opwp, qa2, step, hc, Stp.wp, yay, Rw, true_and, and_true, if_true, if_false, Bool.false_eq_true, false_and]
theorem isNil_tmp (t : Tmp) : za6 (.tmp t) = false := rfl
theorem isNil_int (k : IntKind) (n : Int) : za6 (.const (.int k n)) = false := rfl
theorem isNil_bool (b : Bool) : za6 (.const (.bool b)) = false := rfl
theorem isNil_str (b : ByteArray) : za6 (.const (.string b)) = false := rfl
theorem isNil_slice (l c : Nat) : za6 (.const (.slice none l c)) = true := rfl
theorem o_bin (op : BinOp) (T T2 : TypeId) (x y : Operand) : Ro P (.binOp op T x y T2) d s env h Q = Rb P (za6 y) op T (ev env x) (ev env y) d s env h Q := by
  unfold Rb
  cases hb : za6 y with
  | false => simp [Ro, opwp, hb, Rs]
  | true =>
    simp only [Ro, opwp, hb, if_true, Rq]
    cases nilEq (ev env x) <;> cases op <;> simp
theorem rb_f (op : BinOp) (T : TypeId) (x y : AV) : Rb P false op T x y d s env h Q = Rs P (stBin P op T x y) d s env h Q := rfl
theorem rb_eql (T : TypeId) (x y : AV) : Rb P true .eql T x y d s env h Q = Rq P false (nilEq x) (qay (zab P T)) d s env h Q := rfl
theorem rb_neq (T : TypeId) (x y : AV) : Rb P true .neq T x y d s env h Q = Rq P true (nilEq x) (qay (zab P T)) d s env h Q := rfl
theorem o_call (f : Operand) (args : Array Operand) (ts : Array TypeId) : Ro P (.call { callee := .value f, args := args, argTypes := ts }) d s env h Q = Rf P (ev env f) ts.toList (evs env args) d s env h Q := by
  simp only [Ro, opwp, Rf]
  cases ev env f <;> rfl
def Ra (P : Program) (ok : Prop) (g : FuncId) (args raw : List AV) (d : Option Tmp) (s : List Ctl) (env : Env) (h : List Entry) (Q : yap) : Prop := ok ∧ Rk P g args raw d s env h Q
theorem rf_fn (g : FuncId) (caps : List AV) (hy : isY caps = false) (ts : List TypeId) (args : List AV) : Rf P (.fn g caps) ts args d s env h Q = Ra P (argsR P ts args ∧ args.all zah = true) g (wks P ts args ++ caps) (args ++ caps) d s env h Q := by
  simp only [Rf, Ra, Rk, and_assoc, hy, true_and, Bool.false_eq_true, false_and, or_false]
theorem isY_nil : isY [] = false := rfl
theorem isY_int (k : IntKind) (n : Int) (r : List AV) : isY (.int k n :: r) = false := rfl
theorem isY_bool (b : Bool) (r : List AV) : isY (.bool b :: r) = false := rfl
theorem isY_str (b : ByteArray) (r : List AV) : isY (.str b :: r) = false := rfl
theorem isY_agg (T : TypeId) (vs r : List AV) : isY (.agg T vs :: r) = false := rfl
theorem isY_list (T : TypeId) (vs r : List AV) : isY (.list T vs :: r) = false := rfl
theorem isY_win (k : Nat) (p : List Nat) (T : TypeId) (a b c : Nat) (r : List AV) : isY (.win k p T a b c :: r) = false := rfl
theorem isY_ref (k : Nat) (p : List Nat) (T : TypeId) (r : List AV) : isY (.ref k p T :: r) = false := rfl
theorem isY_eref (T : TypeId) (v : AV) (r : List AV) : isY (.eref T v :: r) = false := rfl
theorem isY_nilptr (r : List AV) : isY (.nilptr :: r) = false := rfl
theorem isY_fn (f : FuncId) (caps r : List AV) : isY (.fn f caps :: r) = false := rfl
theorem isY_nilfn (r : List AV) : isY (.nilfn :: r) = false := rfl
theorem isY_nils (r : List AV) : isY (.nils :: r) = false := rfl
theorem ra_t (g : FuncId) (args raw : List AV) : Ra P True g args raw d s env h Q = Rk P g args raw d s env h Q := by simp [Ra]
theorem k_pure {g : FuncId} {args raw : List AV} {R : AV → Prop} (hp : zbp P g args R) (hk : ∀ r, R r → Rn P s .normal (ybf env d r) h Q) : Rk P g args raw d s env h Q := .inl (call_pure hp hk)
theorem bo_mk {b : Bool} {s1 s2 : List Ctl} {e1 e2 : Env} (h1 : b = true → Rn P s1 .normal e1 h Q) (h2 : b = false → Rn P s2 .normal e2 h Q) : Bo P b s1 e1 s2 e2 h Q := ⟨h1, h2⟩
theorem bg_yes {b : Bool} {o : Op} {t : Tmp} (h1 : b = true → Ro P o d s (put env t (.bool true)) h Q) (h2 : b = false → Rn P s .normal (ybf (put env t (.bool false)) d (.tup [])) h Q) : Bg P b true o d t s env h Q := ⟨h1, h2⟩
theorem bg_no {b : Bool} {o : Op} {t : Tmp} (h1 : b = true → Rn P s .normal (ybf (put env t (.bool true)) d (.tup [])) h Q) (h2 : b = false → Ro P o d s (put env t (.bool false)) h Q) : Bg P b false o d t s env h Q := ⟨h2, h1⟩
theorem bp_mk {b : Bool} {x y : AV} (h1 : b = true → Rn P s .normal (ybf env d x) h Q) (h2 : b = false → Rn P s .normal (ybf env d y) h Q) : Bp P b x y d s env h Q := ⟨h1, h2⟩
theorem rs_yes {c : Prop} [Decidable c] {st : Stp} (hc : c) (hk : Rs P st d s env h Q) : Rs P (if c then st else .fail) d s env h Q := by rw [if_pos hc]; exact hk
theorem rs_no {c : Prop} [Decidable c] {st : Stp} (hc : ¬ c) (hk : Rs P st d s env h Q) : Rs P (if c then .fail else st) d s env h Q := by rw [if_neg hc]; exact hk
theorem rh_yes {c : Prop} [Decidable c] {st : Stp} (hc : c) (hk : Rh P st d s env h Q) : Rh P (if c then st else .fail) d s env h Q := by rw [if_pos hc]; exact hk
end
end Go.Abs
set_option linter.all false
namespace Go.Abs
open Go
section
variable {P : Program}
def holeO : Option Entry → Bool
  | some ⟨_, _, .hole⟩ => true
  | _ => false
theorem yb1 {h : List Entry} {s : Nat} : isHole h s = (holeO h[s]? = true) := by
  unfold isHole holeO
  cases h[s]? with
  | none => simp
  | some e =>
    obtain ⟨T, es, st⟩ := e
    cases st <;> simp
def mkO (o : Op) : Nat := if qa2 o = true then 1 else 0
structure DC where
  all : List Oper
  base : Nat
  r : List Oper
  Us : List (List Nat)
  m : Nat
  T : List Tc
  U0 : List Nat
  d : Option Tmp
def Dw (P : Program) (ok : Bool) (v : AV) (eff : Eff) (tc : Tc) (D : DC) (s : List Ctl) (env : Env) (h : List Entry) (Q : yap) : Prop :=
  ok = true ∧ Rn P (.dops D.all D.base D.r D.Us D.m (D.T ++ [tc]) :: s) .normal (ybf env D.d v) (eff.ap h) Q
def Dv (P : Program) (v : AV) (eff : Eff) (rd : List Nat) (D : DC) (s : List Ctl) (env : Env) (h : List Entry) (Q : yap) : Prop :=
  Dw P (clear D.T (tcOf eff rd) D.U0) v eff (tcOf eff rd) D s env h Q
def Do (P : Program) (o : Op) (n : Nat) (D : DC) (s : List Ctl) (env : Env) (h : List Entry) (Q : yap) : Prop :=
  dop P env h n o fun v eff rd => Dv P v eff rd D s env h Q
def Ds (P : Program) (st : Stp) (acc : List Nat) (D : DC) (s : List Ctl) (env : Env) (h : List Entry) (Q : yap) : Prop :=
  st.wpo h (fun v wr rd => Dv P v (.wr wr) rd D s env h Q) acc
def Dd (P : Program) (e : Option Entry) (f : Entry → Stp) (acc : List Nat) (D : DC) (s : List Ctl) (env : Env) (h : List Entry) (Q : yap) : Prop := match e with
  | some e => Ds P (f e) acc D s env h Q
  | none => False
def Dm (P : Program) (ok : Bool) (st : Stp) (n : Nat) (D : DC) (s : List Ctl) (env : Env) (h : List Entry) (Q : yap) : Prop :=
  ok = true ∧ Ds P st [n] D s env h Q
def Dx (P : Program) (D : DC) (s : List Ctl) (env : Env) (h : List Entry) (Q : yap) : Prop :=
  Rn P (.dops D.all D.base D.r D.Us D.m (D.T ++ [⟨[], [], false⟩]) :: s) .normal (ybf env D.d (.tup [])) h Q
def Dg (P : Program) (x : AV) (w : Bool) (o : Op) (n : Nat) (t : Option Tmp) (D : DC) (s : List Ctl) (env : Env) (h : List Entry) (Q : yap) : Prop := match t with
  | none => False
  | some t => match x with
    | .bool b => (b = w → Do P o n D s (put env t (.bool w)) h Q) ∧ (b = !w → Dx P D s (put env t (.bool (!w))) h Q)
    | .tup [] => Dx P D s env h Q
    | _ => False
def Bd (P : Program) (b w : Bool) (o : Op) (n : Nat) (t : Tmp) (D : DC) (s : List Ctl) (env : Env) (h : List Entry) (Q : yap) : Prop :=
  (b = w → Do P o n D s (put env t (.bool w)) h Q) ∧ (b = !w → Dx P D s (put env t (.bool (!w))) h Q)
def Dp (P : Program) (t x y : AV) (D : DC) (s : List Ctl) (env : Env) (h : List Entry) (Q : yap) : Prop := match t with
  | .bool b => (b = true → Dv P x (.wr []) [] D s env h Q) ∧ (b = false → Dv P y (.wr []) [] D s env h Q)
  | _ => False
def Bq (P : Program) (b : Bool) (x y : AV) (D : DC) (s : List Ctl) (env : Env) (h : List Entry) (Q : yap) : Prop :=
  (b = true → Dv P x (.wr []) [] D s env h Q) ∧ (b = false → Dv P y (.wr []) [] D s env h Q)
def Df (P : Program) (f : AV) (ts : List TypeId) (args : List AV) (D : DC) (s : List Ctl) (env : Env) (h : List Entry) (Q : yap) : Prop := match f with
  | .fn g caps => argsR P ts args ∧ args.all zah = true ∧ isY caps = false ∧
      ((∃ r, zbp P g (wks P ts args ++ caps) (fun r' => r' = r) ∧ Dv P r (.wr []) [] D s env h Q) ∨
       (∃ r h', FSpec P g (wks P ts args ++ caps) h (fun r' h'' => r' = r ∧ h'' = h') ∧ Dv P r (.all h') [] D s env h Q) ∨
       (∃ r rd wr, (∀ h2 : List Entry, (∀ k ∈ rd, h2[k]? = h[k]?) → FSpec P g (wks P ts args ++ caps) h2 (fun r' h'' => r' = r ∧ h'' = yay h2 wr)) ∧ Dv P r (.wr wr) rd D s env h Q))
  | _ => False
def Dk (P : Program) (g : FuncId) (args : List AV) (D : DC) (s : List Ctl) (env : Env) (h : List Entry) (Q : yap) : Prop :=
  (∃ r, zbp P g args (fun r' => r' = r) ∧ Dv P r (.wr []) [] D s env h Q) ∨ (∃ r h', FSpec P g args h (fun r' h'' => r' = r ∧ h'' = h') ∧ Dv P r (.all h') [] D s env h Q) ∨
    (∃ r rd wr, (∀ h2 : List Entry, (∀ k ∈ rd, h2[k]? = h[k]?) → FSpec P g args h2 (fun r' h'' => r' = r ∧ h'' = yay h2 wr)) ∧ Dv P r (.wr wr) rd D s env h Q)
def Da (P : Program) (ok : Prop) (g : FuncId) (args : List AV) (D : DC) (s : List Ctl) (env : Env) (h : List Entry) (Q : yap) : Prop := ok ∧ Dk P g args D s env h Q
variable {env : Env} {h : List Entry} {s : List Ctl} {Q : yap} {D : DC} {n : Nat}
theorem zaa {id : Nat} {ops : List Oper} {U : List (List Nat)} {H : List Entry} (hm : P.follows .mixedOrders = true) (hok : drawOK ops.toArray = true) (hU : unords ops = U) (hH : zdc (mkc ops) = H)
    (hk : Rn P (.dops ops h.length ops U 0 [] :: .cut env.length :: s) .normal env (h ++ H) Q) : Rn P (.code (.region id ops.toArray true) :: s) .normal env h Q := by
  subst hU; subst hH
  simp only [Rn, awp, adraw]
  exact ⟨hm, hok, hk⟩
theorem d_nil (all : List Oper) (base : Nat) (U : List (List Nat)) (m : Nat) (T : List Tc) : Rn P (.dops all base [] U m T :: s) .normal env h Q = Rn P s .normal env h Q := rfl
theorem d_op (all r : List Oper) (base : Nat) (U0 : List Nat) (Us : List (List Nat)) (m : Nat) (T : List Tc) (d : Option Tmp) (o : Op) (ty : TypeId) (p : String) (e : Array Edge) :
    Rn P (.dops all base (⟨d, o, ty, p, e, none⟩ :: r) (U0 :: Us) m T :: s) .normal env h Q = Do P o (base + m) ⟨all, base, r, Us, m + mkO o, T, U0, d⟩ s env h Q := rfl
theorem d_guard (all r : List Oper) (base : Nat) (U0 : List Nat) (Us : List (List Nat)) (m : Nat) (T : List Tc) (d : Option Tmp) (o : Op) (ty : TypeId) (p : String) (e : Array Edge) (j : Nat) (w : Bool) :
    Rn P (.dops all base (⟨d, o, ty, p, e, some (j, w)⟩ :: r) (U0 :: Us) m T :: s) .normal env h Q = Dg P (lkO env (qb5 all j)) w o (base + m) (qb5 all j) ⟨all, base, r, Us, m + mkO o, T, U0, d⟩ s env h Q := by
  simp only [Rn, dwp, Dg]
  cases qb5 all j <;> simp only [lkO]
  rename_i t
  cases lk env t <;> rfl
theorem dg_undef (w : Bool) (o : Op) (t : Tmp) : Dg P (.tup []) w o n (some t) D s env h Q = Dx P D s env h Q := rfl
theorem dg_b (b w : Bool) (o : Op) (t : Tmp) : Dg P (.bool b) w o n (some t) D s env h Q = Bd P b w o n t D s env h Q := rfl
theorem bd_tt (o : Op) (t : Tmp) : Bd P true true o n t D s env h Q = Do P o n D s (put env t (.bool true)) h Q := by simp [Bd]
theorem bd_ff (o : Op) (t : Tmp) : Bd P false false o n t D s env h Q = Do P o n D s (put env t (.bool false)) h Q := by simp [Bd]
theorem bd_tf (o : Op) (t : Tmp) : Bd P true false o n t D s env h Q = Dx P D s (put env t (.bool true)) h Q := by simp [Bd]
theorem bd_ft (o : Op) (t : Tmp) : Bd P false true o n t D s env h Q = Dx P D s (put env t (.bool false)) h Q := by simp [Bd]
theorem bd_yes {b : Bool} {o : Op} {t : Tmp} (h1 : b = true → Do P o n D s (put env t (.bool true)) h Q) (h2 : b = false → Dx P D s (put env t (.bool false)) h Q) : Bd P b true o n t D s env h Q := ⟨h1, h2⟩
theorem bd_no {b : Bool} {o : Op} {t : Tmp} (h1 : b = true → Dx P D s (put env t (.bool true)) h Q) (h2 : b = false → Do P o n D s (put env t (.bool false)) h Q) : Bd P b false o n t D s env h Q := ⟨h2, h1⟩
theorem dx (all r : List Oper) (base : Nat) (U0 : List Nat) (Us : List (List Nat)) (m : Nat) (T : List Tc) (d : Option Tmp) : Dx P ⟨all, base, r, Us, m, T, U0, d⟩ s env h Q =
    Rn P (.dops all base r Us m (T ++ [⟨[], [], false⟩]) :: s) .normal (ybf env d (.tup [])) h Q := rfl
theorem dw_t (all r : List Oper) (base : Nat) (U0 : List Nat) (Us : List (List Nat)) (m : Nat) (T : List Tc) (d : Option Tmp) (v : AV) (eff : Eff) (tc : Tc) : Dw P true v eff tc ⟨all, base, r, Us, m, T, U0, d⟩ s env h Q =
    Rn P (.dops all base r Us m (T ++ [tc]) :: s) .normal (ybf env d v) (eff.ap h) Q := by simp [Dw]
theorem dw_mk {ok : Bool} {v : AV} {eff : Eff} {tc : Tc} (h1 : ok = true) (h2 : Rn P (.dops D.all D.base D.r D.Us D.m (D.T ++ [tc]) :: s) .normal (ybf env D.d v) (eff.ap h) Q) : Dw P ok v eff tc D s env h Q := ⟨h1, h2⟩
theorem dv (all r : List Oper) (base : Nat) (U0 : List Nat) (Us : List (List Nat)) (m : Nat) (T : List Tc) (d : Option Tmp) (v : AV) (eff : Eff) (rd : List Nat) : Dv P v eff rd ⟨all, base, r, Us, m, T, U0, d⟩ s env h Q =
    Dw P (clear T (tcOf eff rd) U0) v eff (tcOf eff rd) ⟨all, base, r, Us, m, T, U0, d⟩ s env h Q := rfl
theorem tcOf_wr (l : List (Nat × Entry)) (rd : List Nat) : tcOf (.wr l) rd = ⟨rd, l.map (·.1), false⟩ := rfl
theorem tcOf_all (h' : List Entry) (rd : List Nat) : tcOf (.all h') rd = ⟨rd, [], true⟩ := rfl
theorem ap_wr (l : List (Nat × Entry)) : (Eff.wr l).ap h = yay h l := rfl
theorem ap_all (h' : List Entry) : (Eff.all h').ap h = h' := rfl
theorem clear_nil (T : List Tc) (x : Tc) : clear T x [] = true := rfl
def clr1 (o : Option Tc) (x : Tc) : Bool := match o with | some y => apartB y x | none => false
theorem clear_cons (T : List Tc) (x : Tc) (j : Nat) (r : List Nat) : clear T x (j :: r) = (clr1 T[j]? x && clear T x r) := rfl
theorem clr1_some (y x : Tc) : clr1 (some y) x = apartB y x := rfl
theorem ds_ret (v : AV) (wr : List (Nat × Entry)) (acc : List Nat) : Ds P (.ret v wr) acc D s env h Q = Dv P v (.wr wr) acc D s env h Q := rfl
theorem ds_rd (k : Nat) (f : Entry → Stp) (acc : List Nat) : Ds P (.rd k f) acc D s env h Q = Dd P h[k]? f (acc ++ [k]) D s env h Q := by
  simp only [Ds, Stp.wpo, Dd]
  cases h[k]? <;> rfl
theorem dd_some (e : Entry) (f : Entry → Stp) (acc : List Nat) : Dd P (some e) f acc D s env h Q = Ds P (f e) acc D s env h Q := rfl
theorem dm_t (st : Stp) : Dm P true st n D s env h Q = Ds P st [n] D s env h Q := by simp [Dm]
theorem ds_yes {c : Prop} [Decidable c] {st : Stp} {acc : List Nat} (hc : c) (hk : Ds P st acc D s env h Q) : Ds P (if c then st else .fail) acc D s env h Q := by rw [if_pos hc]; exact hk
theorem ds_no {c : Prop} [Decidable c] {st : Stp} {acc : List Nat} (hc : ¬ c) (hk : Ds P st acc D s env h Q) : Ds P (if c then .fail else st) acc D s env h Q := by rw [if_neg hc]; exact hk
theorem do_move (x : Operand) : Do P (.move x) n D s env h Q = Dv P (ev env x) (.wr []) [] D s env h Q := by simp [Do, dop, za8, qa2, step, Stp.wpo]
theorem do_assign (x : Operand) : Do P (.assign x) n D s env h Q = Dv P (ev env x) (.wr []) [] D s env h Q := by simp [Do, dop, za8, qa2, step, Stp.wpo]
theorem do_pick (c x y : Operand) : Do P (.pick c x y) n D s env h Q = Dp P (ev env c) (ev env x) (ev env y) D s env h Q := by
  simp only [Do, dop, Dp]
  cases ev env c <;> rfl
theorem dp_b (b : Bool) (x y : AV) : Dp P (.bool b) x y D s env h Q = Bq P b x y D s env h Q := rfl
theorem bq_t (x y : AV) : Bq P true x y D s env h Q = Dv P x (.wr []) [] D s env h Q := by simp [Bq]
theorem bq_f (x y : AV) : Bq P false x y D s env h Q = Dv P y (.wr []) [] D s env h Q := by simp [Bq]
theorem bq_b (b x y : Bool) : Bq P b (.bool x) (.bool y) D s env h Q = Dv P (.bool (if b then x else y)) (.wr []) [] D s env h Q := by cases b <;> simp [Bq]
theorem bq_mk {b : Bool} {x y : AV} (h1 : b = true → Dv P x (.wr []) [] D s env h Q) (h2 : b = false → Dv P y (.wr []) [] D s env h Q) : Bq P b x y D s env h Q := ⟨h1, h2⟩
theorem do_load (T : TypeId) (x : Operand) : Do P (.load T x) n D s env h Q = Ds P (qcd T (ev env x)) [] D s env h Q := by simp [Do, dop, za8, qa2, step, Ds]
theorem do_store (T : TypeId) (x y : Operand) : Do P (.store T x y) n D s env h Q = Ds P (qdq P T (ev env y) (ev env x)) [] D s env h Q := by simp [Do, dop, za8, qa2, step, Ds]
theorem do_nilCheck (x : Operand) : Do P (.nilCheck x) n D s env h Q = Ds P (ybn (ev env x)) [] D s env h Q := by simp [Do, dop, za8, qa2, step, Ds]
theorem do_unOp (op : UnOp) (T : TypeId) (x : Operand) : Do P (.unOp op T x) n D s env h Q = Ds P (stUn op (ev env x)) [] D s env h Q := by simp [Do, dop, za8, qa2, step, Ds]
theorem do_convert (S T : TypeId) (t : Tmp) : Do P (.convert S T (.tmp t)) n D s env h Q = Ds P (qbk P S T (ev env (.tmp t))) [] D s env h Q := by simp [Do, dop, za8, qa2, step, Ds, qa5]
theorem do_convertI (S T : TypeId) (k : IntKind) (m : Int) : Do P (.convert S T (.const (.int k m))) n D s env h Q = Ds P (qbk P S T (.int k m)) [] D s env h Q := by simp [Do, dop, za8, qa2, step, Ds, qa5, ev, qb7]
theorem do_extract (x : Operand) (i : Nat) : Do P (.extract x i) n D s env h Q = Ds P (ybv i (ev env x)) [] D s env h Q := by simp [Do, dop, za8, qa2, step, Ds]
theorem do_index (T : TypeId) (x i : Operand) : Do P (.index T x i) n D s env h Q = Ds P (ycs P T (ev env x) (ev env i)) [] D s env h Q := by simp [Do, dop, za8, qa2, step, Ds]
theorem do_indexAddr (T : TypeId) (x i : Operand) : Do P (.indexAddr T x i) n D s env h Q = Ds P (ya3 P T (ev env x) (ev env i)) [] D s env h Q := by simp [Do, dop, za8, qa2, step, Ds]
theorem do_build (T : TypeId) (ps : Array (Nat × Operand)) : Do P (.build T ps) n D s env h Q = Ds P (zct P T (ydj env ps)) [] D s env h Q := by simp [Do, dop, za8, qa2, step, Ds]
theorem do_fieldAddr (T : TypeId) (x : Operand) (i : Nat) : Do P (.fieldAddr T x i) n D s env h Q = Ds P (if zab P T = .struct then ybe P T i (ev env x) else .fail) [] D s env h Q := by simp [Do, dop, za8, qa2, step, Ds]
theorem do_field (T : TypeId) (x : Operand) (i : Nat) : Do P (.field T x i) n D s env h Q = Ds P (if zab P T = .struct then qcs P T i (ev env x) else .fail) [] D s env h Q := by simp [Do, dop, za8, qa2, step, Ds]
theorem do_bin (op : BinOp) (T T2 : TypeId) (x y : Operand) : Do P (.binOp op T x y T2) n D s env h Q = (za6 y = false ∧ Ds P (stBin P op T (ev env x) (ev env y)) [] D s env h Q) := by simp [Do, dop, za8, qa2, step, Ds]
theorem do_slice (T : TypeId) (x : Operand) (lo hi mx : Option Operand) : Do P (.slice T x lo hi mx) n D s env h Q =
    Ds P (if (mx.isNone || hi.isSome) = true then zdr P T (ev env x) (lo.map (ev env)) (hi.map (ev env)) (mx.map (ev env)) else .fail) [] D s env h Q := by simp [Do, dop, za8, qa2, step, Ds]
theorem do_len (args : Array Operand) (ts : Array TypeId) : Do P (.call { callee := .builtin .len, args := args, argTypes := ts }) n D s env h Q = Ds P (qa3 P .len ts.toList (evs env args) n) [] D s env h Q := by
  simp [Do, dop, za8, qa2, step, Ds]
theorem do_clear (args : Array Operand) (ts : Array TypeId) : Do P (.call { callee := .builtin .clear, args := args, argTypes := ts }) n D s env h Q = Ds P (qa3 P .clear ts.toList (evs env args) n) [] D s env h Q := by
  simp [Do, dop, za8, qa2, step, Ds]
theorem do_alloc (T : TypeId) : Do P (.alloc T) n D s env h Q = Dm P (holeO h[n]?) (if zOK P T = true then .ret (.ref n [0] T) [(n, ⟨T, [qai P T], .own⟩)] else .fail) n D s env h Q := by simp [Do, dop, za8, qa2, step, Ds, Dm, yb1]
theorem do_box (T : TypeId) (x : Operand) : Do P (.box T x) n D s env h Q = Dm P (holeO h[n]?) (if tyB P (ev env x) T = true then .ret (.ref n [0] T) [(n, ⟨T, [ev env x], .own⟩)] else .fail) n D s env h Q := by simp [Do, dop, za8, qa2, step, Ds, Dm, yb1]
theorem do_buildSlice (T : TypeId) (k : Nat) (ps : Array (Nat × Operand)) : Do P (.buildSlice T k ps) n D s env h Q = Dm P (holeO h[n]?) (qbn P T k (ydj env ps) n) n D s env h Q := by simp [Do, dop, za8, qa2, step, Ds, Dm, yb1]
theorem do_makeSlice (T : TypeId) (x y : Operand) : Do P (.makeSlice T x y) n D s env h Q = Dm P (holeO h[n]?) (zbt P T (ev env x) (ev env y) n) n D s env h Q := by simp [Do, dop, za8, qa2, step, Ds, Dm, yb1]
theorem do_convertS (S T : TypeId) (b : ByteArray) : Do P (.convert S T (.const (.string b))) n D s env h Q = Dm P (holeO h[n]?) (ydr P S T b n) n D s env h Q := by simp [Do, dop, za8, qa2, step, Ds, Dm, yb1, qa5, constStr]
theorem do_copy (args : Array Operand) (ts : Array TypeId) : Do P (.call { callee := .builtin .copy, args := args, argTypes := ts }) n D s env h Q = Ds P (qa3 P .copy ts.toList (evs env args) n) [] D s env h Q := by
  simp [Do, dop, za8, qa2, step, Ds]
theorem do_append (args : Array Operand) (ts : Array TypeId) : Do P (.call { callee := .builtin .append, args := args, argTypes := ts }) n D s env h Q = Dm P (holeO h[n]?) (qa3 P .append ts.toList (evs env args) n) n D s env h Q := by
  simp [Do, dop, za8, qa2, step, Ds, Dm, yb1]
theorem do_call (f : Operand) (args : Array Operand) (ts : Array TypeId) : Do P (.call { callee := .value f, args := args, argTypes := ts }) n D s env h Q = Df P (ev env f) ts.toList (evs env args) D s env h Q := by
  simp only [Do, dop, Df]
  cases ev env f <;> rfl
theorem df_fn (g : FuncId) (caps : List AV) (hy : isY caps = false) (ts : List TypeId) (args : List AV) : Df P (.fn g caps) ts args D s env h Q = Da P (argsR P ts args ∧ args.all zah = true) g (wks P ts args ++ caps) D s env h Q := by
  simp only [Df, Da, Dk, and_assoc, hy, true_and]
theorem da_t (g : FuncId) (args : List AV) : Da P True g args D s env h Q = Dk P g args D s env h Q := by simp [Da]
theorem zaq {g : FuncId} {args : List AV} {r : AV} (hp : zbp P g args (fun r' => r' = r)) (hk : Dv P r (.wr []) [] D s env h Q) : Dk P g args D s env h Q := .inl ⟨r, hp, hk⟩
theorem qdv {g : FuncId} {args : List AV} {r : AV} (rd : List Nat) (wr : List (Nat × Entry)) (hp : ∀ h2 : List Entry, (∀ k ∈ rd, h2[k]? = h[k]?) → FSpec P g args h2 (fun r' h'' => r' = r ∧ h'' = yay h2 wr)) (hk : Dv P r (.wr wr) rd D s env h Q) : Dk P g args D s env h Q := .inr (.inr ⟨r, rd, wr, hp, hk⟩)
theorem zar (h l : List Entry) : (h ++ l)[h.length]? = l[0]? := by rw [List.getElem?_append_right (Nat.le_refl _), Nat.sub_self]
theorem qa9 (h l : List Entry) (i : Nat) : (h ++ l)[h.length + i]? = l[i]? := by rw [List.getElem?_append_right (Nat.le_add_right _ _), Nat.add_sub_cancel_left]
theorem set_at0 (h l : List Entry) (e : Entry) : (h ++ l).set h.length e = h ++ l.set 0 e := by rw [List.set_append_right _ _ (Nat.le_refl _), Nat.sub_self]
theorem set_at (h l : List Entry) (i : Nat) (e : Entry) : (h ++ l).set (h.length + i) e = h ++ l.set i e := by rw [List.set_append_right _ _ (Nat.le_add_right _ _), Nat.add_sub_cancel_left]
theorem set_lo {h l : List Entry} {k : Nat} (e : Entry) (hk : k < h.length) : (h ++ l).set k e = h.set k e ++ l := by simp [List.set_append_left _ _ hk]
theorem len_app (h l : List Entry) : (h ++ l).length = h.length + l.length := by simp
end
end Go.Abs
set_option linter.all false
namespace Go.Abs
open Go
section
variable {P : Program}
def bwRef (f : AV → AV) (T : TypeId) (p : List Nat) (a : AV) : Option Entry → AV
  | some e => if yb5 e.st = true then (match getE e.es p with | some v => .eref T (f v) | none => a) else a
  | none => a
def bwWin (f : AV → AV) (T : TypeId) (p : List Nat) (fr m : Nat) (a : AV) : Option Entry → AV
  | some e => if yb5 e.st = true then (match qaq e.es p fr m with | some ys => .list T (ys.map f) | none => a) else a
  | none => a
def bw (h : List Entry) : Nat → AV → AV
  | 0, a => a
  | n + 1, a => match a with
    | .ref k p T => bwRef (bw h n) T p (.ref k p T) h[k]?
    | .win k p T fr m lo => bwWin (bw h n) T p fr m (.win k p T fr m lo) h[k]?
    | .agg T vs => .agg T (vs.map (bw h n))
    | .list T es => .list T (es.map (bw h n))
    | .eref T v => .eref T (bw h n v)
    | .fn f caps => .fn f (caps.map (bw h n))
    | a => a
theorem bw_agg {h : List Entry} {n : Nat} {a : AV} : isAgg (bw h n a) = isAgg a := by
  cases n with
  | zero => rfl
  | succ n =>
    cases a <;> simp only [bw] <;> try rfl
    · unfold bwWin; (repeat' split) <;> rfl
    · unfold bwRef; (repeat' split) <;> rfl
theorem bw_isY {h : List Entry} {n : Nat} : ∀ {caps : List AV}, isY (caps.map (bw h n)) = isY caps
  | [] => rfl
  | a :: r => by
    rw [List.map_cons]
    cases n with
    | zero => cases a <;> simp only [bw, isY] <;> (rename_i vs; cases vs <;> rfl)
    | succ n =>
      cases a <;> simp only [bw] <;> try rfl
      · unfold bwWin; (repeat' split) <;> rfl
      · unfold bwRef; (repeat' split) <;> rfl
      · rename_i vs; cases vs <;> rfl
theorem bw_notY {h : List Entry} {n : Nat} {a : AV} : notY (bw h n a) = notY a := by
  cases n with
  | zero => rfl
  | succ n =>
    cases a <;> simp only [bw] <;> try rfl
    · unfold bwWin; (repeat' split) <;> rfl
    · unfold bwRef; (repeat' split) <;> rfl
    · simp only [notY, bw_isY]
theorem bw_isJ {h : List Entry} {n : Nat} {a : AV} (hj : isJ a = true) : isJ (bw h n a) = true := by
  cases n with
  | zero => exact hj
  | succ n => cases a <;> first | exact hj | (simp [isJ] at hj; done)
theorem bw_ty {h : List Entry} {n : Nat} {a : AV} {T : TypeId} (ht : yaz P a T) : yaz P (bw h n a) T := by
  cases n with
  | zero => exact ht
  | succ n =>
    cases a <;> simp only [bw] <;> try exact ht
    · unfold bwWin; (repeat' split) <;> first | exact ht | (simp only [yaz] at ht ⊢; exact ht)
    · unfold bwRef; (repeat' split) <;> first | exact ht | (simp only [yaz] at ht ⊢; exact ht)
    · simp only [yaz] at ht ⊢; exact ⟨ht.1, by rw [bw_isY]; exact ht.2⟩
def cx0 (c : Cx) : Cx := ybd c 0
theorem O_cx0 {c : Cx} {b : Nat} : ¬ (cx0 c).O b := by
  rintro ⟨k, e, he, _⟩
  simp [cx0, ybd] at he
theorem rep_bw (hP : WF P) {c : Cx} (hr : HR P c) : ∀ (n : Nat) (a : AV) (cs : List Value), zan 0 (bw c.h n a) = true → Rep P c a cs → Rep P (cx0 c) (bw c.h n a) cs
  | 0, a, cs, hb, h => ya7 a cs hb h
  | n + 1, a, cs, hb, h => by
    have IH := rep_bw hP hr n
    have IHE : ∀ (es : List AV) (T : TypeId) (cs : List Value), (es.map (bw c.h n)).all (zan 0) = true → qa0 P c es T cs → qa0 P (cx0 c) (es.map (bw c.h n)) T cs := by
      intro es T cs hb h
      refine repE_iff.2 fun i v hv => ?_
      rw [List.getElem?_map, Option.map_eq_some_iff] at hv
      obtain ⟨u, hu, rfl⟩ := hv
      obtain ⟨h1, h2⟩ := qa7 h hu
      refine ⟨bw_ty h1, IH u _ ?_ h2⟩
      exact List.all_eq_true.1 hb _ (List.mem_of_getElem? (by rw [List.getElem?_map, hu]; rfl))
    have h0 := h
    cases a <;> simp only [bw] at hb ⊢ <;> try exact ya7 _ _ hb h
    case agg T vs =>
      rw [below_agg] at hb
      simp only [Rep] at h ⊢
      refine ⟨h.1, ?_⟩
      have h2 := h.2
      split at h2
      · obtain ⟨hl, hall⟩ := repF_iff.1 h2
        refine repF_iff.2 ⟨by simp [hl], fun i v f hv hf => ?_⟩
        rw [List.getElem?_map, Option.map_eq_some_iff] at hv
        obtain ⟨u, hu, rfl⟩ := hv
        obtain ⟨h3, h4⟩ := hall i u f hu hf
        exact ⟨bw_ty h3, IH u _ (List.all_eq_true.1 hb _ (List.mem_of_getElem? (by rw [List.getElem?_map, hu]; rfl))) h4⟩
      · exact ⟨by simpa using h2.1, IHE _ _ _ hb h2.2⟩
      · exact h2.elim
    case list T es =>
      rw [zc4] at hb
      simp only [Rep] at h ⊢
      obtain ⟨a, cap, rfl, hc, h⟩ := h
      refine ⟨a, cap, by simp, by simpa using hc, fun hne => ?_⟩
      obtain ⟨b, off, C, Te, m, ha, hbk, hO, hE⟩ := h (by intro e; exact hne (by simp [e]))
      exact ⟨b, off, C, Te, m, ha, hbk, O_cx0, IHE _ _ _ hb hE⟩
    case eref T v =>
      simp only [zan] at hb
      simp only [Rep] at h ⊢
      obtain ⟨b, off, C, Te, m, rfl, hbk, hO, ht, hE⟩ := h
      exact ⟨b, off, C, Te, m, rfl, hbk, O_cx0, bw_ty ht, IH v _ hb hE⟩
    case fn f caps =>
      rw [below_fn] at hb
      simp only [Rep] at h ⊢
      rcases h with ⟨g0, g1, vs, rfl, hv⟩ | ⟨g0, l, L, rfl, hl, hO, g1, g2, g3, hv⟩
      · refine .inl ⟨by rw [bw_isY]; exact g0, ?_, vs, rfl, ?_⟩
        · rw [List.all_map]; rw [List.all_eq_true] at g1 ⊢; exact fun x hx => by rw [Function.comp, bw_notY]; exact g1 x hx
        clear h0 g0 g1
        induction caps generalizing vs with
        | nil => simp only [ya2] at hv; subst hv; simp [ya2]
        | cons a as ih =>
          simp only [List.map_cons, List.all_cons, Bool.and_eq_true] at hb
          simp only [ya2] at hv
          obtain ⟨v, r, rfl, h1, h2, h3⟩ := hv
          simp only [List.map_cons, ya2]
          exact ⟨v, r, rfl, by rw [bw_agg]; exact h1, IH a _ hb.1 h2, ih hb.2 r h3⟩
      · refine .inr ⟨by rw [bw_isY]; exact g0, l, L, rfl, hl, O_cx0, g1, g2, g3, ?_⟩
        generalize (Value.tuple #[] :: L.tmps.toList) = vs at hv
        clear h0 g0
        induction caps generalizing vs with
        | nil => simp only [zdx] at hv; subst hv; simp [zdx]
        | cons a as ih =>
          simp only [List.map_cons, List.all_cons, Bool.and_eq_true] at hb
          simp only [zdx] at hv
          obtain ⟨v, r, rfl, h1, h3⟩ := hv
          simp only [List.map_cons, zdx]
          refine ⟨v, r, rfl, ?_, ih hb.2 r h3⟩
          rcases h1 with h1 | ⟨h1, h2, h4⟩
          · exact .inl (bw_isJ h1)
          · exact .inr ⟨by rw [bw_notY]; exact h1, by rw [bw_agg]; exact h2, IH a _ hb.1 h4⟩
    case ref k p T =>
      unfold bwRef at hb ⊢
      split at hb
      · rename_i e he
        try simp only [he]
        split at hb
        · rename_i hl
          rw [if_pos hl]
          split at hb
          · rename_i v hg
            try simp only [hg]
            simp only [zan] at hb
            simp only [Rep] at h
            obtain ⟨e', b, off, he', _, hk, ho, rfl⟩ := h
            rw [he] at he'
            cases he'
            obtain ⟨C, m, hbk, _, _, hle, hes⟩ := hr.block he (qas hl) hk
            obtain ⟨h1, h2, h3⟩ := getE_rep hP hes ho hg
            simp only [Rep]
            exact ⟨b, off, C, e.T, m, rfl, hbk, O_cx0, bw_ty h1, IH v _ hb h2⟩
          · rename_i hg
            simp only [zan, decide_eq_true_eq] at hb
            omega
        · simp only [zan, decide_eq_true_eq] at hb
          omega
      · simp only [zan, decide_eq_true_eq] at hb
        omega
    case win k p T fr m lo =>
      unfold bwWin at hb ⊢
      split at hb
      · rename_i e he
        try simp only [he]
        split at hb
        · rename_i hl
          rw [if_pos hl]
          split at hb
          · rename_i ys hg
            try simp only [hg]
            have hvv : ∃ v, cs = [v] ∧ VV P c (.win k p T fr m lo) v := by
              have h' := h
              simp only [Rep] at h'
              obtain ⟨_, _, _, _, _, rfl, _⟩ := h'
              exact ⟨_, rfl, (zba rfl (by simp) (by simp)).2 ⟨rfl, h⟩⟩
            obtain ⟨v, rfl, hv⟩ := hvv
            obtain ⟨hlen, hread⟩ := zb9 hP hr hv he (qas hl) hg
            rw [zc4] at hb
            obtain ⟨_, cap0, a0, _, _, rfl, _, hmc, _⟩ := yby hv
            simp only [Rep]
            refine ⟨a0, cap0, by simp [hlen], by simp; omega, fun hne => ?_⟩
            have hm0 : m ≠ 0 := by rintro rfl; exact hne (by simp [List.eq_nil_of_length_eq_zero hlen])
            obtain ⟨b, off, C, mk, cap, hveq, hkb, hbk, _, _, _, _, hE⟩ := hread hm0
            simp only [Value.slice.injEq] at hveq
            exact ⟨b, off + fr * P.cellsOf T, C, e.T, mk, hveq.1, hbk, O_cx0, IHE _ _ _ hb hE⟩
          · simp only [zan, decide_eq_true_eq] at hb
            omega
        · simp only [zan, decide_eq_true_eq] at hb
          omega
      · simp only [zan, decide_eq_true_eq] at hb
        omega
mutual
def flat : AV → Bool
  | .int .. => true
  | .bool _ => true
  | .str _ => true
  | .agg _ vs => flatL vs
  | .tup vs => flatL vs
  | .nils => true
  | .nilptr => true
  | .nilfn => true
  | _ => false
def flatL : List AV → Bool
  | [] => true
  | v :: vs => flat v && flatL vs
end
mutual
theorem rep_flat {c c' : Cx} : ∀ (a : AV) (cs : List Value), flat a = true → Rep P c a cs → Rep P c' a cs
  | .int k m, cs, _, h => by simpa only [Rep] using h
  | .bool b, cs, _, h => by simpa only [Rep] using h
  | .str s, cs, _, h => by simpa only [Rep] using h
  | .agg T vs, cs, hb, h => by
    simp only [flat] at hb
    simp only [Rep] at h ⊢
    refine ⟨h.1, ?_⟩
    have h2 := h.2
    split at h2
    · exact repF_flat _ _ _ hb h2
    · exact ⟨h2.1, repE_flat _ _ _ hb h2.2⟩
    · exact h2.elim
  | .list T es, cs, hb, h => by simp [flat] at hb
  | .win k p T fr m lo, cs, hb, h => by simp [flat] at hb
  | .ref k p T, cs, hb, h => by simp [flat] at hb
  | .eref T v, cs, hb, h => by simp [flat] at hb
  | .nilptr, cs, _, h => by simpa only [Rep] using h
  | .fn f caps, cs, hb, h => by simp [flat] at hb
  | .nilfn, cs, _, h => by simpa only [Rep] using h
  | .nils, cs, _, h => by simpa only [Rep] using h
  | .tup _, cs, _, h => by simp only [Rep] at h
  | .junk, cs, _, h => by simp only [Rep] at h
theorem repF_flat {c c' : Cx} : ∀ (vs : List AV) (fs : List (TypeId × Nat)) (cs : List Value), flatL vs = true → zb1 P c vs fs cs → zb1 P c' vs fs cs
  | [], fs, cs, _, h => by simpa only [zb1] using h
  | v :: vs, fs, cs, hb, h => by
    simp only [flatL, Bool.and_eq_true] at hb
    simp only [zb1] at h ⊢
    obtain ⟨f, r, rfl, h1, h2, h3⟩ := h
    exact ⟨f, r, rfl, h1, rep_flat _ _ hb.1 h2, repF_flat _ _ _ hb.2 h3⟩
theorem repE_flat {c c' : Cx} : ∀ (vs : List AV) (T : TypeId) (cs : List Value), flatL vs = true → qa0 P c vs T cs → qa0 P c' vs T cs
  | [], T, cs, _, h => by simp only [qa0]
  | v :: vs, T, cs, hb, h => by
    simp only [flatL, Bool.and_eq_true] at hb
    simp only [qa0] at h ⊢
    exact ⟨h.1, rep_flat _ _ hb.1 h.2.1, repE_flat _ _ _ hb.2 h.2.2⟩
end
theorem vv_flat {c c' : Cx} {r : AV} {v : Value} (hf : flat r = true) (h : VV P c r v) : VV P c' r v := by
  cases r <;> simp only [VV] at h ⊢ <;> try (exact ⟨h.1, rep_flat _ _ hf h.2⟩)
  rename_i vs
  obtain ⟨l, rfl, h⟩ := h
  refine ⟨l, rfl, ?_⟩
  simp only [flat] at hf
  induction vs generalizing l with
  | nil => simpa only [ya2] using h
  | cons a as ih =>
    simp only [flatL, Bool.and_eq_true] at hf
    simp only [ya2] at h ⊢
    obtain ⟨v, r, rfl, h1, h2, h3⟩ := h
    exact ⟨v, r, rfl, h1, rep_flat _ _ hf.1 h2, ih hf.2 r h3⟩
theorem FSpec.borrow (hP : WF P) {f : FuncId} {args : List AV} {h : List Entry} {R : AV → Prop} (hp : zbp P f (args.map (bw h 8)) R) (hb : (args.map (bw h 8)).all (zan 0) = true) (hf : ∀ r, R r → flat r = true) :
    FSpec P f args h fun r h' => h' = h ∧ R r := by
  obtain ⟨hc, hs⟩ := hp []
  refine ⟨hc, fun κ w vs hr hv => ?_⟩
  have hr0 : HR P ⟨κ, [], w⟩ := ⟨fun k e he => by simp at he, fun k k' e e' b he => by simp at he⟩
  have hv0 : ya2 P ⟨κ, [], w⟩ (args.map (bw h 8)) vs := by
    clear hs hp
    induction args generalizing vs with
    | nil => simp only [ya2] at hv; subst hv; simp [ya2]
    | cons a as ih =>
      simp only [List.map_cons, List.all_cons, Bool.and_eq_true] at hb
      simp only [ya2] at hv
      obtain ⟨v, r, rfl, h1, h2, h3⟩ := hv
      simp only [List.map_cons, ya2]
      refine ⟨v, r, rfl, by rw [bw_agg]; exact h1, ?_, ih hb.2 r h3⟩
      exact rep_bw (c := ⟨κ, h, w⟩) hP hr 8 a _ hb.1 h2
  refine (hs κ w vs hr0 hv0).mono ?_
  rintro e w' ⟨v, r, h', κ', rfl, h1, h2, h3, rfl, h4⟩
  have hO : ∀ b, ¬ (⟨κ, [], w⟩ : Cx).O b := by
    rintro b ⟨k, e, he, _⟩
    simp at he
  have hsame : ∀ b, b < w.heap.size → w'.heap[b]? = w.heap[b]? := fun b hb => h2.frozen b hb (hO b)
  have x : Ext ⟨κ, h, w⟩ ⟨κ, h, w'⟩ := ⟨h2.os, h2.tape, h2.output, h2.size, fun b hb _ => hsame b hb, h2.shape, fun b _ hO => hO, fun k e he hn => ⟨rfl, e, he, rfl, hn, id⟩⟩
  refine ⟨v, r, h, κ, rfl, ⟨fun k e he hl => ?_, hr.apart⟩, x, vv_flat (hf r h4) h3, rfl, h4⟩
  rcases hr.blk k e he hl with hn | ⟨b, C, m, q0, q1, q2, q3, q4, q5⟩
  · exact .inl hn
  · have hlt : b < w.heap.size := qag q1
    exact .inr ⟨b, C, m, q0, (hsame b hlt).trans q1, q2, fun hf hO => q3 hf hO, q4, ybc x _ _ _ q5⟩
variable {env : Env} {h : List Entry} {s : List Ctl} {d : Option Tmp} {Q : yap} {D : DC}
theorem k_borrow (hP : WF P) {g : FuncId} {args args' raw : List AV} {r : AV} (ha : args.map (bw h 8) = args') (hp : zbp P g args' (fun r' => r' = r)) (hb : args'.all (zan 0) = true) (hf : flat r = true) (hk : Rn P s .normal (ybf env d r) h Q) : Rk P g args raw d s env h Q := by
  subst ha
  refine .inl ((FSpec.borrow hP hp hb fun r' e => by rw [e]; exact hf).mono ?_)
  rintro r' h' ⟨rfl, rfl⟩
  exact hk
end
end Go.Abs
set_option linter.all false
namespace Go.Abs
open Go
section
variable {P : Program}
def LQ (P : Program) (I : Env → List Entry → Prop) (s : List Ctl) (Q : yap) : yap := fun e env h => match e with
  | .normal => I env h
  | .exit i => Rn P s (.exit i) env h Q
  | .ret => Rn P s .ret env h Q
theorem lq_normal (I : Env → List Entry → Prop) (s : List Ctl) (Q : yap) (env : Env) (h : List Entry) : LQ P I s Q .normal env h = I env h := rfl
theorem lq_exit (I : Env → List Entry → Prop) (s : List Ctl) (Q : yap) (env : Env) (h : List Entry) (i : Nat) : LQ P I s Q (.exit i) env h = Rn P s (.exit i) env h Q := rfl
theorem lq_ret (I : Env → List Entry → Prop) (s : List Ctl) (Q : yap) (env : Env) (h : List Entry) : LQ P I s Q .ret env h = Rn P s .ret env h Q := rfl
theorem qau {x : Code} {s : List Ctl} {env : Env} {h : List Entry} {Q : yap} (I : Nat → Env → List Entry → Prop) (N : Nat) (h0 : I 0 env h)
    (hr : ∀ i env h, I i env h → i ≤ N ∧ Rn P [.code x] .normal env h (LQ P (I (i + 1)) s Q)) : Rl P x s env h Q := by
  refine ⟨I, N, h0, fun i env h hI => ⟨(hr i env h hI).1, ?_⟩⟩
  have := (hr i env h hI).2
  refine yb0 x env h ?_ this
  intro e env' h' hh
  cases e <;> exact hh
def LI {σ : Type} (E : σ → (Nat → AV) → Env) (H : σ → List Entry → List Entry) (p : σ → Prop) (x : σ) : Env → List Entry → Prop := fun env h => env = E x (lk env) ∧ (∃ g, h = H x g) ∧ p x
theorem za3 {σ : Type} {E : σ → (Nat → AV) → Env} {H : σ → List Entry → List Entry} {p : σ → Prop} {x : σ} {env : Env} {h : List Entry} (h1 : env = E x (lk env)) (h2 : ∃ g, h = H x g) (h3 : p x) : LI E H p x env h := ⟨h1, h2, h3⟩
theorem qax {x : Code} {s : List Ctl} {env : Env} {h : List Entry} {Q : yap} (E : Nat → (Nat → AV) → Env) (H : Nat → List Entry → List Entry) (p : Nat → Prop) (N : Nat) (h0 : LI E H p 0 env h)
    (hr : ∀ i (a : Nat → AV) (g : List Entry), p i → i ≤ N ∧ Rn P [.code x] .normal (E i a) (H i g) (LQ P (LI E H p (i + 1)) s Q)) : Rl P x s env h Q := by
  refine qau (fun i env h => LI E H p i env h) N h0 fun i env h hI => ?_
  obtain ⟨h1, ⟨g, h2⟩, h3⟩ := hI
  rw [h1, h2]
  exact hr i _ g h3
abbrev Fn (P : Program) (f : FuncId) (args : List AV) (r : AV) : Prop := zbp P f args fun r' => r' = r
def Fin (P : Program) (rs : List ResultVar) (h : List Entry) (R : AV → Prop) : yap := fun e env' h' => e.fin = true ∧ h'.take h.length = h ∧ ares P rs env' h' (one fun r => zah r = true ∧ zan h.length (rz h' h.length r) = true ∧ R (rz h' h.length r))
theorem qar (hP : WF P) {f : FuncId} {fn : Func} {x : Code} {args : List AV} {R : AV → Prop} (ks : List Nat) (hf : P.funcs[f]? = some fn) (rs : List ResultVar) (hb : fn.body = some x) (hrs : fn.results.toList = rs) (hc : ycb P f = true)
    (hok : ybg fn.ntmps x = true) {m : Nat} (hm : fn.ntmps = m) (hn : args.length ≤ m) (hw : ∀ h, Rn P [.code x] .normal (zaz 0 args ks) h (Fin P rs h R)) : zbp P f args R := by
  subst hrs; subst hm
  exact pure_code hP ks hf hb hc hok hn hw
def ResP (P : Program) (v : AV) (h h' : List Entry) (R : AV → Prop) : Prop := zah v = true ∧ zan h.length (rz h' h.length v) = true ∧ R (rz h' h.length v)
def CellP (P : Program) (s : Stp) (h h' : List Entry) (R : AV → Prop) : Prop := s.wp h' fun v _ => ResP P v h h' R
theorem fin_tmp (t : Tmp) (h h' : List Entry) (R : AV → Prop) (e : AEx) (env : Env) : Fin P [.tmp t] h R e env h' = (e.fin = true ∧ h'.take h.length = h ∧ ResP P (lk env t) h h' R) := rfl
theorem fin_cell (t : Tmp) (T : TypeId) (h h' : List Entry) (R : AV → Prop) (e : AEx) (env : Env) : Fin P [.cell t T] h R e env h' = (e.fin = true ∧ h'.take h.length = h ∧ CellP P (qcd T (lk env t)) h h' R) := rfl
def CellO (P : Program) (o : Option Entry) (f : Entry → Stp) (h h' : List Entry) (R : AV → Prop) : Prop := match o with | some e => CellP P (f e) h h' R | none => False
theorem cell_rd (k : Nat) (f : Entry → Stp) (h h' : List Entry) (R : AV → Prop) : CellP P (.rd k f) h h' R = CellO P h'[k]? f h h' R := by
  simp only [CellP, Stp.wp, CellO]
  cases h'[k]? <;> rfl
theorem cell_some (e : Entry) (f : Entry → Stp) (h h' : List Entry) (R : AV → Prop) : CellO P (some e) f h h' R = CellP P (f e) h h' R := rfl
theorem cell_ret (v : AV) (h h' : List Entry) (R : AV → Prop) : CellP P (.ret v []) h h' R = ResP P v h h' R := rfl
theorem res_int (k : IntKind) (n : Int) (h h' : List Entry) (R : AV → Prop) : ResP P (.int k n) h h' R = R (.int k n) := by simp [ResP, zah, rz, zan]
theorem res_bool (b : Bool) (h h' : List Entry) (R : AV → Prop) : ResP P (.bool b) h h' R = R (.bool b) := by simp [ResP, zah, rz, zan]
theorem take_self (h : List Entry) : (h.take h.length = h) = True := by simp
theorem take_app (h l : List Entry) : ((h ++ l).take h.length = h) = True := by simp
theorem qal {e k : Nat} (h1 : decide (P.bytesOf e ≤ 16384) = true) (h2 : zOK P e = true) : yam P e k = decide (k ≤ 4294967296) := by
  unfold yam
  rw [h1, h2]
  simp
section
variable {env : Env} {h : List Entry} {s : List Ctl} {d : Option Tmp} {Q : yap} {D : DC}
theorem zay {g : FuncId} {args raw : List AV} {r : AV} (hp : Fn P g args r) (hk : Rn P s .normal (ybf env d r) h Q) : Rk P g args raw d s env h Q := k_pure hp fun r' e => by rw [e]; exact hk
end
def fidx {α : Type} (p : α → Bool) (l : List α) : Int := match l.findIdx? p with
  | some j => (j : Int)
  | none => -1
theorem fidx_some {α : Type} {p : α → Bool} {l : List α} {i : Nat} {x : α} (hi : l[i]? = some x) (hx : p x = true) (hb : ∀ j y, j < i → l[j]? = some y → p y = false) : fidx p l = (i : Int) := by
  unfold fidx
  obtain ⟨hlt, rfl⟩ := List.getElem?_eq_some_iff.1 hi
  rw [List.findIdx?_eq_some_iff_getElem.2 ⟨hlt, hx, fun j hj => by simpa using hb j _ hj (List.getElem?_eq_getElem (by omega))⟩]
theorem fidx_none {α : Type} {p : α → Bool} {l : List α} (hb : ∀ j y, j < l.length → l[j]? = some y → p y = false) : fidx p l = -1 := by
  unfold fidx
  rw [List.findIdx?_eq_none_iff.2 fun x hx => ?_]
  obtain ⟨j, hj, rfl⟩ := List.getElem_of_mem hx
  simpa using hb j _ hj (List.getElem?_eq_getElem hj)
theorem zal {α : Type} (e : α → AV) {l : List α} {i : Nat} {x : α} (h : l[i]? = some x) : (l.map e).getD i .junk = e x := by
  rw [List.getD_eq_getElem?_getD, List.getElem?_map, h]; rfl
theorem zau {i n : Nat} (h : i < n) : decide ((i : Int) < (n : Int)) = true := by simpa using h
theorem ya5 {i n : Nat} (h : ¬ i < n) : decide ((i : Int) < (n : Int)) = false := by simpa using h
theorem yar {i n : Nat} (h : i < n) : (0 ≤ (i : Int) ∧ (i : Int) < (n : Int)) = True := by simp; exact h
theorem qae {i : Nat} (h : i < 9223372036854775807) : IntKind.wrap .i64 ((i : Int) + 1) = ((i + 1 : Nat) : Int) := by
  rw [IntWalk.i64_in _ (by omega)]
  simp
end
section
variable {P : Program}
theorem zc6 (k : IntKind) (n : Int) (T : TypeId) : tyB P (.int k n) T = (zab P T == .int k) := rfl
theorem ty_bool (b : Bool) (T : TypeId) : tyB P (.bool b) T = (zab P T == .bool) := rfl
theorem ty_str (b : ByteArray) (T : TypeId) : tyB P (.str b) T = (zab P T == .str) := rfl
theorem ty_agg (U : TypeId) (vs : List AV) (T : TypeId) : tyB P (.agg U vs) T = (U == T) := rfl
theorem ty_list (U : TypeId) (vs : List AV) (T : TypeId) : tyB P (.list U vs) T = (zab P T == .slice U) := rfl
theorem ty_win (k : Nat) (p : List Nat) (U : TypeId) (a b c : Nat) (T : TypeId) : tyB P (.win k p U a b c) T = (zab P T == .slice U) := rfl
theorem ty_ref (k : Nat) (p : List Nat) (U : TypeId) (T : TypeId) : tyB P (.ref k p U) T = (zab P T == .ptr U) := rfl
theorem ty_eref (U : TypeId) (v : AV) (T : TypeId) : tyB P (.eref U v) T = (zab P T == .ptr U) := rfl
theorem ty_nilptr (T : TypeId) : tyB P .nilptr T = isPtr (zab P T) := rfl
theorem ty_fn (f : FuncId) (caps : List AV) (T : TypeId) : tyB P (.fn f caps) T = (zab P T == .func && !isY caps) := rfl
theorem ty_nilfn (T : TypeId) : tyB P .nilfn T = (zab P T == .func) := rfl
theorem yci (T : TypeId) : tyB P .nils T = qay (zab P T) := rfl
theorem pl_int (k : IntKind) (n : Int) : zah (.int k n) = true := rfl
theorem pl_bool (b : Bool) : zah (.bool b) = true := rfl
theorem pl_str (b : ByteArray) : zah (.str b) = true := rfl
theorem pl_agg (U : TypeId) (vs : List AV) : zah (.agg U vs) = true := rfl
theorem pl_list (U : TypeId) (vs : List AV) : zah (.list U vs) = true := rfl
theorem pl_win (k : Nat) (p : List Nat) (U : TypeId) (a b c : Nat) : zah (.win k p U a b c) = true := rfl
theorem pl_ref (k : Nat) (p : List Nat) (U : TypeId) : zah (.ref k p U) = true := rfl
theorem pl_eref (U : TypeId) (v : AV) : zah (.eref U v) = true := rfl
theorem pl_nilptr : zah .nilptr = true := rfl
theorem pl_fn (f : FuncId) (caps : List AV) : zah (.fn f caps) = !isY caps := rfl
theorem pl_nilfn : zah .nilfn = true := rfl
theorem pl_nils : zah .nils = true := rfl
theorem qbu (n : Nat) (T : TypeId) (k : IntKind) (x : Int) : wk P n T (.int k x) = .int k x := by cases n <;> rfl
theorem wk_bool (n : Nat) (T : TypeId) (b : Bool) : wk P n T (.bool b) = .bool b := by cases n <;> rfl
theorem wk_str (n : Nat) (T : TypeId) (b : ByteArray) : wk P n T (.str b) = .str b := by cases n <;> rfl
theorem qcb (n : Nat) (T U : TypeId) (es : List AV) : wk P n T (.list U es) = .list U es := by cases n <;> rfl
theorem wk_win (n : Nat) (T : TypeId) (k : Nat) (p : List Nat) (U : TypeId) (a b c : Nat) : wk P n T (.win k p U a b c) = .win k p U a b c := by cases n <;> rfl
theorem wk_ref (n : Nat) (T : TypeId) (k : Nat) (p : List Nat) (U : TypeId) : wk P n T (.ref k p U) = .ref k p U := by cases n <;> rfl
theorem wk_eref (n : Nat) (T U : TypeId) (v : AV) : wk P n T (.eref U v) = .eref U v := by cases n <;> rfl
theorem wk_nilptr (n : Nat) (T : TypeId) : wk P n T .nilptr = .nilptr := by cases n <;> rfl
theorem wk_fn (n : Nat) (T : TypeId) (f : FuncId) (caps : List AV) : wk P n T (.fn f caps) = .fn f caps := by cases n <;> rfl
theorem wk_nilfn (n : Nat) (T : TypeId) : wk P n T .nilfn = .nilfn := by cases n <;> rfl
def wkNil (P : Program) (s : Shape) : AV := match s with | .slice e => .list e [] | _ => .nils
theorem qbr (n : Nat) (T : TypeId) : wk P (n + 1) T .nils = wkNil P (zab P T) := rfl
theorem za1 (e : TypeId) : wkNil P (.slice e) = .list e [] := rfl
def wkAgg (P : Program) (n : Nat) (T : TypeId) (vs : List AV) (s : Shape) : AV := match s with
  | .struct => .agg T (List.zipWith (fun (f : TypeId × Nat) v => wk P n f.1 v) (qaj P T) vs)
  | .arr _ e => .agg T (vs.map (wk P n e))
  | _ => .agg T vs
theorem yb2 (n : Nat) (T U : TypeId) (vs : List AV) : wk P (n + 1) T (.agg U vs) = if U = T then wkAgg P n T vs (zab P T) else .agg U vs := rfl
theorem ya6 (n : Nat) (T : TypeId) (vs : List AV) : wkAgg P n T vs .struct = .agg T (List.zipWith (fun (f : TypeId × Nat) v => wk P n f.1 v) (qaj P T) vs) := rfl
theorem zcr (n m : Nat) (T e : TypeId) (vs : List AV) : wkAgg P n T vs (.arr m e) = .agg T (vs.map (wk P n e)) := rfl
mutual
def dat : AV → Bool
  | .agg _ vs => qc8 vs
  | .list _ es => qc8 es
  | .eref _ v => dat v
  | .fn _ caps => qc8 caps
  | .win .. => false
  | .ref .. => false
  | .tup _ => false
  | .junk => false
  | _ => true
def qc8 : List AV → Bool
  | [] => true
  | v :: vs => dat v && qc8 vs
end
mutual
theorem qan {n : Nat} : ∀ (a : AV), dat a = true → zan n a = true
  | .agg _ vs, h => by simp only [dat] at h; simp only [zan]; exact zbj vs h
  | .list _ es, h => by simp only [dat] at h; simp only [zan]; exact zbj es h
  | .eref _ v, h => by simp only [dat] at h; simp only [zan]; exact qan v h
  | .fn _ caps, h => by simp only [dat] at h; simp only [zan]; exact zbj caps h
  | .win .., h => by simp [dat] at h
  | .ref .., h => by simp [dat] at h
  | .tup _, h => by simp [dat] at h
  | .junk, h => by simp [dat] at h
  | .int .., _ => rfl
  | .bool _, _ => rfl
  | .str _, _ => rfl
  | .nilptr, _ => rfl
  | .nilfn, _ => rfl
  | .nils, _ => rfl
theorem zbj {n : Nat} : ∀ (vs : List AV), qc8 vs = true → yas n vs = true
  | [], _ => rfl
  | v :: vs, h => by
    simp only [qc8, Bool.and_eq_true] at h
    simp only [yas, qan v h.1, zbj vs h.2, Bool.and_self]
end
mutual
theorem ybr {h : List Entry} {n : Nat} : ∀ (a : AV), dat a = true → rz h n a = a
  | .agg _ vs, hd => by simp only [dat] at hd; simp only [rz, datL_rz vs hd]
  | .list _ es, hd => by simp only [rz]
  | .eref _ v, hd => by simp only [rz]
  | .fn _ caps, hd => by simp only [rz]
  | .win .., h => by simp [dat] at h
  | .ref .., h => by simp [dat] at h
  | .tup _, h => by simp [dat] at h
  | .junk, h => by simp [dat] at h
  | .int .., _ => by simp only [rz]
  | .bool _, _ => by simp only [rz]
  | .str _, _ => by simp only [rz]
  | .nilptr, _ => by simp only [rz]
  | .nilfn, _ => by simp only [rz]
  | .nils, _ => by simp only [rz]
theorem datL_rz {h : List Entry} {n : Nat} : ∀ (vs : List AV), qc8 vs = true → rzL h n vs = vs
  | [], _ => by simp only [rzL]
  | v :: vs, hd => by
    simp only [qc8, Bool.and_eq_true] at hd
    simp only [rzL, ybr v hd.1, datL_rz vs hd.2]
end
mutual
theorem dat_bw {h : List Entry} : ∀ (a : AV) (n : Nat), dat a = true → bw h n a = a
  | .agg _ vs, 0, hd => rfl
  | .agg _ vs, n + 1, hd => by simp only [dat] at hd; simp only [bw, yde vs n hd]
  | .list _ es, 0, hd => rfl
  | .list _ es, n + 1, hd => by simp only [dat] at hd; simp only [bw, yde es n hd]
  | .eref _ v, 0, hd => rfl
  | .eref _ v, n + 1, hd => by simp only [dat] at hd; simp only [bw, dat_bw v n hd]
  | .fn _ caps, 0, hd => rfl
  | .fn _ caps, n + 1, hd => by simp only [dat] at hd; simp only [bw, yde caps n hd]
  | .win .., _, h => by simp [dat] at h
  | .ref .., _, h => by simp [dat] at h
  | .tup _, _, h => by simp [dat] at h
  | .junk, _, h => by simp [dat] at h
  | .int .., n, _ => by cases n <;> rfl
  | .bool _, n, _ => by cases n <;> rfl
  | .str _, n, _ => by cases n <;> rfl
  | .nilptr, n, _ => by cases n <;> rfl
  | .nilfn, n, _ => by cases n <;> rfl
  | .nils, n, _ => by cases n <;> rfl
theorem yde {h : List Entry} : ∀ (vs : List AV) (n : Nat), qc8 vs = true → vs.map (bw h n) = vs
  | [], n, _ => rfl
  | v :: vs, n, hd => by
    simp only [qc8, Bool.and_eq_true] at hd
    simp only [List.map_cons, dat_bw v n hd.1, yde vs n hd.2]
end
theorem dat_plain {a : AV} (h : dat a = true) : zah a = true := by
  cases a <;> try first | rfl | (simp [dat] at h; done)
  rename_i f caps
  cases caps with
  | nil => rfl
  | cons x r => cases x <;> first | rfl | (simp [dat, qc8] at h; done)
theorem datL_isY {l : List AV} (h : qc8 l = true) : isY l = false := by
  cases l with
  | nil => rfl
  | cons x r => cases x <;> first | rfl | (simp [dat, qc8] at h; done)
theorem qbt (T : TypeId) (vs : List AV) : dat (.agg T vs) = qc8 vs := by simp only [dat]
theorem dat_list (T : TypeId) (vs : List AV) : dat (.list T vs) = qc8 vs := by simp only [dat]
theorem dat_int (k : IntKind) (n : Int) : dat (.int k n) = true := by simp only [dat]
theorem dat_bool (b : Bool) : dat (.bool b) = true := by simp only [dat]
theorem qcl : qc8 [] = true := by simp only [qc8]
theorem yb7 (v : AV) (vs : List AV) : qc8 (v :: vs) = (dat v && qc8 vs) := by simp only [qc8]
theorem yaw {α : Type} (e : α → AV) (h : ∀ x, dat (e x) = true) : ∀ l : List α, qc8 (l.map e) = true
  | [] => qcl
  | x :: l => by simp only [List.map_cons, yb7, h x, yaw e h l, Bool.and_self]
theorem res_dat {v : AV} (hd : dat v = true) (h h' : List Entry) (R : AV → Prop) : ResP P v h h' R = R v := by
  simp [ResP, dat_plain hd, ybr v hd, qan v hd]
theorem res_mk {v : AV} {h h' : List Entry} {R : AV → Prop} (hd : dat v = true) (hr : R v) : ResP P v h h' R := by rw [res_dat hd]; exact hr
theorem res_full {v : AV} {h h' : List Entry} {R : AV → Prop} (h1 : zah v = true) (h2 : zan h.length (rz h' h.length v) = true) (h3 : R (rz h' h.length v)) : ResP P v h h' R := ⟨h1, h2, h3⟩
end
section
theorem none_before {α : Type} {p : α → Bool} {l : List α} {i : Nat} {x : α} (hx : l[i]? = some x) (hp : p x = false) (hb : ∀ j y, j < i → l[j]? = some y → p y = false) : ∀ j y, j < i + 1 → l[j]? = some y → p y = false := by
  intro j y hj hy
  by_cases h : j = i
  · subst h; rw [hx] at hy; cases hy; exact hp
  · exact hb j y (by omega) hy
theorem fidx_lt {α : Type} {p : α → Bool} {l : List α} : decide (0 ≤ fidx p l) = l.any p := by
  unfold fidx
  cases hf : l.findIdx? p with
  | none =>
    rw [List.findIdx?_eq_none_iff] at hf
    simp only [Int.reduceNeg, Int.reduceLE, decide_false]
    symm
    rw [List.any_eq_false]
    intro x hx; simpa using hf x hx
  | some j =>
    simp only [Int.natCast_nonneg, decide_true]
    rw [List.findIdx?_eq_some_iff_getElem] at hf
    obtain ⟨hj, hp, _⟩ := hf
    symm
    rw [List.any_eq_true]
    exact ⟨l[j], List.getElem_mem hj, hp⟩
def qb0 {α β : Type} (p : α → β → Bool) : List α → List β → Bool
  | [], [] => true
  | x :: r, y :: s => p x y && qb0 p r s
  | _, _ => false
theorem qcm {α β : Type} {p : α → β → Bool} : ∀ {l : List α} {m : List β}, l.length ≠ m.length → qb0 p l m = false
  | [], [], h => absurd rfl h
  | [], _ :: _, h => rfl
  | _ :: _, [], h => rfl
  | x :: r, y :: s, h => by
    simp only [qb0, qcm (l := r) (m := s) (by simpa using h), Bool.and_false]
theorem zbx {α β : Type} {p : α → β → Bool} : ∀ {l : List α} {m : List β}, l.length = m.length → (∀ j x y, j < l.length → l[j]? = some x → m[j]? = some y → p x y = true) → qb0 p l m = true
  | [], [], _, _ => rfl
  | [], _ :: _, h, _ => by simp at h
  | _ :: _, [], h, _ => by simp at h
  | x :: r, y :: s, h, hh => by
    simp only [qb0, Bool.and_eq_true]
    exact ⟨hh 0 x y (by simp) rfl rfl, zbx (by simpa using h) fun j a b hj ha hb => hh (j + 1) a b (by simpa using hj) (by simpa using ha) (by simpa using hb)⟩
theorem zbo {α β : Type} {p : α → β → Bool} : ∀ {l : List α} {m : List β} {j : Nat} {x : α} {y : β}, l[j]? = some x → m[j]? = some y → p x y = false → qb0 p l m = false
  | [], m, j, x, y, h, _, _ => by simp at h
  | _ :: _, [], j, x, y, _, h, _ => by simp at h
  | a :: r, b :: s, 0, x, y, h1, h2, h3 => by
    simp only [List.getElem?_cons_zero, Option.some.injEq] at h1 h2
    subst h1; subst h2
    simp [qb0, h3]
  | a :: r, b :: s, j + 1, x, y, h1, h2, h3 => by
    simp only [qb0, zbo (l := r) (m := s) (by simpa using h1) (by simpa using h2) h3, Bool.and_false]
theorem qbf {α β : Type} {p : α → β → Bool} {l : List α} {m : List β} {i : Nat} {x : α} {y : β} (hx : l[i]? = some x) (hy : m[i]? = some y) (hp : p x y = true) (hb : ∀ j a b, j < i → l[j]? = some a → m[j]? = some b → p a b = true) :
    ∀ j a b, j < i + 1 → l[j]? = some a → m[j]? = some b → p a b = true := by
  intro j a b hj ha hb'
  by_cases h : j = i
  · subst h; rw [hx] at ha; rw [hy] at hb'; cases ha; cases hb'; exact hp
  · exact hb j a b (by omega) ha hb'
theorem neq_len {a b : Nat} (h : a ≠ b) : ((a : Int) != (b : Int)) = true := by simp; omega
theorem eq_len {a b : Nat} (h : a = b) : ((a : Int) != (b : Int)) = false := by simp [h]
theorem bw_fnE (h : List Entry) (n : Nat) (f : FuncId) (caps : List AV) : bw h (n + 1) (.fn f caps) = .fn f (caps.map (bw h n)) := rfl
theorem bw_refE (h : List Entry) (n : Nat) (k : Nat) (p : List Nat) (T : TypeId) : bw h (n + 1) (.ref k p T) = bwRef (bw h n) T p (.ref k p T) h[k]? := rfl
theorem bw_winE (h : List Entry) (n : Nat) (k : Nat) (p : List Nat) (T : TypeId) (fr m lo : Nat) : bw h (n + 1) (.win k p T fr m lo) = bwWin (bw h n) T p fr m (.win k p T fr m lo) h[k]? := rfl
def bwRefO (f : AV → AV) (T : TypeId) (a : AV) : Option AV → AV | some v => .eref T (f v) | none => a
theorem bwRef_own (f : AV → AV) (T U : TypeId) (p : List Nat) (a : AV) (es : List AV) : bwRef f T p a (some ⟨U, es, .own⟩) = bwRefO f T a (getE es p) := by
  simp only [bwRef, yb5, if_true, bwRefO]
  all_goals (cases getE es p <;> rfl)
theorem bwRefO_some (f : AV → AV) (T : TypeId) (a v : AV) : bwRefO f T a (some v) = .eref T (f v) := rfl
def bwWinO (f : AV → AV) (T : TypeId) (a : AV) : Option (List AV) → AV | some ys => .list T (ys.map f) | none => a
theorem bwWin_own (f : AV → AV) (T U : TypeId) (p : List Nat) (fr m : Nat) (a : AV) (es : List AV) : bwWin f T p fr m a (some ⟨U, es, .own⟩) = bwWinO f T a (qaq es p fr m) := by
  simp only [bwWin, yb5, if_true, bwWinO]
  all_goals (cases qaq es p fr m <;> rfl)
theorem bwWinO_some (f : AV → AV) (T : TypeId) (a : AV) (ys : List AV) : bwWinO f T a (some ys) = .list T (ys.map f) := rfl
end
section
variable {P : Program}
theorem yac {neg ok : Bool} {p : Bool → Prop} {d : Option Tmp} {s : List Ctl} {env : Env} {h : List Entry} {Q : yap} (h1 : ok = true) (h2 : ∀ b, p b → Rn P s .normal (ybf env d (.bool (neg != b))) h Q) : Rq P neg (some p) ok d s env h Q := ⟨h1, h2⟩
theorem wk_VV {c : Cx} {r : AV} {v : Value} {T : TypeId} (ht : tyB P r T = true) (hp : zah r = true) (h : VV P c r v) : VV P c (wk P 6 T r) v := by
  obtain ⟨h1, h2⟩ := qb4 h hp
  exact qb2 (by rw [wk_agg]; exact h1) (wk_rep 6 T r _ (tyB_ok ht) h2).2
theorem fn_wk {f : FuncId} {args : List AV} {r0 r1 : AV} (T : TypeId) (hf : Fn P f args r0) (ht : tyB P r0 T = true) (hr : wk P 6 T r0 = r1) : Fn P f args r1 := by
  subst hr
  intro h
  obtain ⟨hc, hs⟩ := hf h
  refine ⟨hc, fun κ w vs hr hv => (hs κ w vs hr hv).mono ?_⟩
  rintro e w' ⟨v, r, h', κ', rfl, h1, h2, h3, h4, h5⟩
  subst h5
  refine ⟨v, _, h', κ', rfl, h1, h2, wk_VV ht ?_ h3, h4, rfl⟩
  exact tyB_plain ht
theorem pure_wk {f : FuncId} {args : List AV} {R : AV → Prop} {r1 : AV} (T : TypeId) (hf : zbp P f args R) (hR : ∀ r, R r → tyB P r T = true ∧ wk P 6 T r = r1) : Fn P f args r1 := by
  intro h
  obtain ⟨hc, hs⟩ := hf h
  refine ⟨hc, fun κ w vs hr hv => (hs κ w vs hr hv).mono ?_⟩
  rintro e w' ⟨v, r, h', κ', rfl, h1, h2, h3, h4, h5⟩
  obtain ⟨ht, hw⟩ := hR r h5
  subst hw
  refine ⟨v, _, h', κ', rfl, h1, h2, wk_VV ht ?_ h3, h4, rfl⟩
  exact tyB_plain ht
theorem rs_ite {c : Prop} [Decidable c] {a b : Stp} {d : Option Tmp} {s : List Ctl} {env : Env} {h : List Entry} {Q : yap} (h1 : c → Rs P a d s env h Q) (h2 : ¬ c → Rs P b d s env h Q) : Rs P (if c then a else b) d s env h Q := by
  split
  · exact h1 ‹_›
  · exact h2 ‹_›
theorem rh_ite {c : Prop} [Decidable c] {a b : Stp} {d : Option Tmp} {s : List Ctl} {env : Env} {h : List Entry} {Q : yap} (h1 : c → Rh P a d s env h Q) (h2 : ¬ c → Rh P b d s env h Q) : Rh P (if c then a else b) d s env h Q := by
  split
  · exact h1 ‹_›
  · exact h2 ‹_›
theorem ds_ite {c : Prop} [Decidable c] {a b : Stp} {acc : List Nat} {D : DC} {s : List Ctl} {env : Env} {h : List Entry} {Q : yap} (h1 : c → Ds P a acc D s env h Q) (h2 : ¬ c → Ds P b acc D s env h Q) : Ds P (if c then a else b) acc D s env h Q := by
  split
  · exact h1 ‹_›
  · exact h2 ‹_›
theorem res_win {k fr m lo : Nat} {p : List Nat} {T : TypeId} {h h' : List Entry} {R : AV → Prop} {e : Entry} {ys : List AV} (hk : h.length ≤ k) (he : h'[k]? = some e) (hl : yb5 e.st = true) (hg : qaq e.es p fr m = some ys) (hd : qc8 ys = true) (hR : R (.list T ys)) :
    ResP P (.win k p T fr m lo) h h' R := by
  have e1 : rz h' h.length (.win k p T fr m lo) = .list T ys := by simp only [rz, if_pos hk, he, hl, if_true, hg]
  refine ⟨rfl, ?_, ?_⟩
  · rw [e1]; simp only [zan]; exact zbj ys hd
  · rw [e1]; exact hR
end
end Go.Abs
set_option linter.all false
namespace Go.Abs
open Go
section
variable {P : Program}
def ych (P : Program) (rs : List ResultVar) (K : AV → List Entry → Prop) : yap := fun e env' h' => e.fin = true ∧ ares P rs env' h' (one fun r => K r h')
theorem fk_tmp (t : Tmp) (K : AV → List Entry → Prop) (e : AEx) (env : Env) (h' : List Entry) : ych P [.tmp t] K e env h' = (e.fin = true ∧ K (lk env t) h') := rfl
theorem fk_nil (K : AV → List Entry → Prop) (e : AEx) (env : Env) (h' : List Entry) : ych P [] K e env h' = (e.fin = true ∧ K (.tup []) h') := by simp [ych, ares, one]
def CellK (P : Program) (s : Stp) (h : List Entry) (K : AV → Prop) : Prop := s.wp h fun v _ => K v
theorem fk_ct (t u : Tmp) (T : TypeId) (K : AV → List Entry → Prop) (e : AEx) (env : Env) (h' : List Entry) : ych P [.cell t T, .tmp u] K e env h' = (e.fin = true ∧ CellK P (qcd T (lk env t)) h' fun v => [v, lk env u].all zah = true ∧ K (.tup [v, lk env u]) h') := rfl
def CellKO (P : Program) (o : Option Entry) (f : Entry → Stp) (h : List Entry) (K : AV → Prop) : Prop := match o with | some e => CellK P (f e) h K | none => False
theorem ck_rd (k : Nat) (f : Entry → Stp) (h : List Entry) (K : AV → Prop) : CellK P (.rd k f) h K = CellKO P h[k]? f h K := by
  simp only [CellK, Stp.wp, CellKO]
  cases h[k]? <;> rfl
theorem ck_some (e : Entry) (f : Entry → Stp) (h : List Entry) (K : AV → Prop) : CellKO P (some e) f h K = CellK P (f e) h K := rfl
theorem ck_ret (v : AV) (h : List Entry) (K : AV → Prop) : CellK P (.ret v []) h K = K v := rfl
theorem qa1 (hP : WF P) {f : FuncId} {fn : Func} {x : Code} {args : List AV} {h : List Entry} {K : AV → List Entry → Prop} (ks : List Nat) (hf : P.funcs[f]? = some fn) (rs : List ResultVar) (hb : fn.body = some x) (hrs : fn.results.toList = rs) (hc : ycb P f = true)
    (hok : ybg fn.ntmps x = true) {m : Nat} (hm : fn.ntmps = m) (hn : args.length ≤ m) (hw : Rn P [.code x] .normal (zaz 0 args ks) h (ych P rs K)) : FSpec P f args h K := by
  subst hrs; subst hm
  exact fspec_code hP ks hf hb hc hok hn hw
section
variable {env : Env} {h : List Entry} {s : List Ctl} {d : Option Tmp} {Q : yap} {D : DC}
theorem ya4 {g : FuncId} {args raw : List AV} {K : AV → List Entry → Prop} (hp : FSpec P g args h K) (hk : ∀ r h', K r h' → Rn P s .normal (ybf env d r) h' Q) : Rk P g args raw d s env h Q := .inl (hp.mono hk)
theorem yal {g : FuncId} {args raw : List AV} {r : AV} {h' : List Entry} (hp : FSpec P g args h fun r' h'' => r' = r ∧ h'' = h') (hk : Rn P s .normal (ybf env d r) h' Q) : Rk P g args raw d s env h Q := .inl (hp.mono fun r' h'' ⟨e1, e2⟩ => by rw [e1, e2]; exact hk)
theorem fn_tup (hP : WF P) {f : FuncId} {args : List AV} {R : AV → Prop} (hs : ∀ h, FSpec P f args h fun r h' => h'.take h.length = h ∧ ∃ l, r = .tup l ∧ yas h.length (rzL h' h.length l) = true ∧ R (.tup (rzL h' h.length l))) : zbp P f args R := by
  intro h
  refine (hs h).trim_tup hP ?_
  rintro r h' ⟨g1, l, rfl, g3, g4⟩
  refine ⟨fun k e hk he => .inl ?_, l, rfl, g3, g1, g4⟩
  have : (h'.take h.length)[k]? = h[k]? := by rw [g1]
  rw [List.getElem?_take, if_pos hk, he] at this
  exact this.symm
theorem ybm {f : FuncId} {args : List AV} {R : AV → Prop} (ts : List TypeId) {l1 : List AV} (hf : zbp P f args R) (hR : ∀ r, R r → ∃ l, r = .tup l ∧ argsOK P ts l ∧ wks P ts l = l1) : Fn P f args (.tup l1) := by
  intro h
  obtain ⟨hc, hs⟩ := hf h
  refine ⟨hc, fun κ w vs hr hv => (hs κ w vs hr hv).mono ?_⟩
  rintro e w' ⟨v, r, h', κ', rfl, h1, h2, h3, h4, h5⟩
  obtain ⟨l, rfl, ht, hw⟩ := hR r h5
  subst hw
  refine ⟨v, .tup (wks P ts l), h', κ', rfl, h1, h2, ?_, h4, rfl⟩
  simp only [VV] at h3 ⊢
  obtain ⟨l', rfl, h3⟩ := h3
  exact ⟨l', rfl, wks_rep ts l l' ht h3⟩
end
theorem yad {h l : List Entry} {k : Nat} (hk : k < h.length) : (h ++ l)[k]? = h[k]? := List.getElem?_append_left hk
theorem zae {h l : List Entry} {k : Nat} {e : Entry} (hk : k < h.length) : (h ++ l).set k e = h.set k e ++ l := set_lo e hk
theorem qac {h : List Entry} {i j : Nat} {e : Entry} (hne : i ≠ j) : (h.set i e)[j]? = h[j]? := List.getElem?_set_ne hne
theorem zad {h : List Entry} {i : Nat} {e : Entry} (hi : i < h.length) : (h.set i e)[i]? = some e := List.getElem?_set_self hi
theorem qad {h : List Entry} {i : Nat} {e e' : Entry} : (h.set i e).set i e' = h.set i e' := List.set_set ..
theorem yab {h : List Entry} {i : Nat} {e : Entry} : (h.set i e).length = h.length := List.length_set ..
theorem zaj {k n : Nat} (hk : k < n) (i : Nat) : (k = n + i) = False := by simp; omega
theorem yag {k n : Nat} (hk : k < n) (i : Nat) : (n + i = k) = False := by simp; omega
theorem za4 {k n : Nat} (hk : k < n) : (k = n) = False := by simp; omega
theorem yaj {k n : Nat} (hk : k < n) : (n = k) = False := by simp; omega
theorem qab {h l : List Entry} {k i : Nat} {e : Entry} : (h.set k e ++ l)[h.length + i]? = l[i]? := by
  have := qa9 (h.set k e) l i
  rwa [List.length_set] at this
theorem yaa {h l : List Entry} {k : Nat} {e : Entry} : (h.set k e ++ l)[h.length]? = l[0]? := by
  have := zar (h.set k e) l
  rwa [List.length_set] at this
theorem qaa {h l : List Entry} {k k' i : Nat} {e e' : Entry} : ((h.set k e).set k' e' ++ l)[h.length + i]? = l[i]? := by
  have := qa9 ((h.set k e).set k' e') l i
  simpa using this
theorem sst {h l : List Entry} {k i : Nat} {e e' : Entry} : (h.set k e ++ l).set (h.length + i) e' = h.set k e ++ l.set i e' := by
  have := set_at (h.set k e) l i e'
  rwa [List.length_set] at this
theorem zac {h : List Entry} {k : Nat} {e : Entry} (hk : h[k]? = some e) : k < h.length := (List.getElem?_eq_some_iff.1 hk).1
structure Keeps (X : Nat → Prop) (h h' : List Entry) : Prop where
  len : h.length ≤ h'.length
  old : ∀ j, j < h.length → ¬ X j → h'[j]? = h[j]?
def yc7 (X : Nat → Prop) (h h' : List Entry) : Nat → Prop := fun j => X j ∨ (h.length ≤ j ∧ j < h'.length)
theorem Keeps.refl (X : Nat → Prop) (h : List Entry) : Keeps X h h := ⟨Nat.le_refl _, fun _ _ _ => rfl⟩
theorem Keeps.trans {X : Nat → Prop} {h h' h'' : List Entry} (a : Keeps X h h') (b : Keeps (yc7 X h h') h' h'') : Keeps X h h'' :=
  ⟨Nat.le_trans a.len b.len, fun j hj hx => (b.old j (Nat.lt_of_lt_of_le hj a.len) (fun hg => hg.elim hx fun h1 => by have := h1.1; omega)).trans (a.old j hj hx)⟩
theorem grow_grow {X : Nat → Prop} {h h' h'' : List Entry} (h1 : h.length ≤ h'.length) (h2 : h'.length ≤ h''.length) : yc7 (yc7 X h h') h' h'' = yc7 X h h'' := by
  funext j
  apply propext
  simp only [yc7]
  constructor
  · rintro ((a | ⟨a, b⟩) | ⟨a, b⟩)
    · exact .inl a
    · exact .inr ⟨a, by omega⟩
    · exact .inr ⟨by omega, b⟩
  · rintro (a | ⟨a, b⟩)
    · exact .inl (.inl a)
    · by_cases hj : j < h'.length
      · exact .inl (.inr ⟨a, hj⟩)
      · exact .inr ⟨by omega, b⟩
theorem grow_self {X : Nat → Prop} {h : List Entry} : yc7 X h h = X := by
  funext j
  apply propext
  simp only [yc7]
  constructor
  · rintro (a | ⟨a, b⟩)
    · exact a
    · omega
  · exact .inl
theorem Keeps.get {X : Nat → Prop} {h h' : List Entry} (a : Keeps X h h') {j : Nat} {e : Entry} (he : h[j]? = some e) (hx : ¬ X j) : h'[j]? = some e := (a.old j (zac he) hx).trans he
theorem Keeps.take {X : Nat → Prop} {h h' : List Entry} (a : Keeps X h h') {n : Nat} (hn : n ≤ h.length) (hx : ∀ j, X j → n ≤ j) : h'.take n = h.take n := by
  apply List.ext_getElem?
  intro j
  rw [List.getElem?_take, List.getElem?_take]
  split
  · exact a.old j (by omega) fun hj => by have := hx j hj; omega
  · rfl
inductive View (X : Nat → Prop) (h : List Entry) (T : TypeId) : AV → List AV → Prop where
  | nil : View X h T .nils []
  | win {k lo : Nat} {l z : List AV} (hx : X k) (hk : h[k]? = some ⟨T, l ++ z, .own⟩) : View X h T (.win k [] T 0 l.length lo) l
theorem View.mono {X X' : Nat → Prop} {h h' : List Entry} {T : TypeId} {v : AV} {l : List AV} (hv : View X h T v l) (hX : ∀ j, X j → X' j) (hg : ∀ j es, X j → h[j]? = some ⟨T, es, .own⟩ → h'[j]? = some ⟨T, es, .own⟩) : View X' h' T v l := by
  cases hv with
  | nil => exact .nil
  | win hx hk => exact .win (hX _ hx) (hg _ _ hx hk)
theorem View.ty {X : Nat → Prop} {h : List Entry} {T U : TypeId} {v : AV} {l : List AV} (hv : View X h T v l) (hU : zab P U = .slice T) : tyB P v U = true := by
  cases hv with
  | nil => rw [yci, hU]; rfl
  | win => rw [ty_win, hU]; simp
theorem View.pl {X : Nat → Prop} {h : List Entry} {T : TypeId} {v : AV} {l : List AV} (hv : View X h T v l) : zah v = true := by cases hv <;> rfl
theorem View.bw {X : Nat → Prop} {h : List Entry} {T : TypeId} {v : AV} {l : List AV} (hv : View X h T v l) (hd : qc8 l = true) (n : Nat) : bw h (n + 1) v = .list T l ∨ (l = [] ∧ bw h (n + 1) v = .nils) := by
  cases hv with
  | nil => exact .inr ⟨rfl, rfl⟩
  | win hx hk =>
    left
    rw [bw_winE, hk, bwWin_own]
    have : qaq (l ++ ‹_›) [] 0 l.length = some l := by simp [qaq]
    rw [this, bwWinO_some, yde l n hd]
theorem View.rz {X : Nat → Prop} {h : List Entry} {T : TypeId} {v : AV} {l : List AV} {n : Nat} (hv : View X h T v l) (hn : ∀ j, X j → n ≤ j) (hd : qc8 l = true) : rz h n v = .list T l ∨ (l = [] ∧ rz h n v = .nils) := by
  cases hv with
  | nil => exact .inr ⟨rfl, by simp only [Go.Abs.rz]⟩
  | win hx hk =>
    left
    have : qaq (l ++ ‹_›) [] 0 l.length = some l := by simp [qaq]
    simp only [Go.Abs.rz, if_pos (hn _ hx), hk, yb5, if_true, this]
theorem View.set {X : Nat → Prop} {h : List Entry} {T : TypeId} {v : AV} {l : List AV} (hv : View X h T v l) {k : Nat} {e0 : Entry} (hk : h[k]? = some e0) (hT : e0.T ≠ T) (E : Entry) : View X (h.set k E) T v l :=
  hv.mono (fun _ h => h) fun j es _ hj => by
    have : k ≠ j := by rintro rfl; rw [hk] at hj; cases hj; exact hT rfl
    rw [List.getElem?_set_ne this]; exact hj
theorem View.app {X : Nat → Prop} {h : List Entry} {T : TypeId} {v : AV} {l : List AV} (hv : View X h T v l) (r : List Entry) : View X (h ++ r) T v l :=
  hv.mono (fun _ h => h) fun j es _ hj => by rw [List.getElem?_append_left (zac hj)]; exact hj
theorem View.up {X Y : Nat → Prop} {h : List Entry} {T : TypeId} {v : AV} {l : List AV} (hv : View X h T v l) (hX : ∀ j, X j → Y j) : View Y h T v l := hv.mono hX fun _ _ _ h => h
theorem grow_bd {X : Nat → Prop} {h h' : List Entry} (hb : ∀ j, X j → j < h.length) (hl : h.length ≤ h'.length) : ∀ j, yc7 X h h' j → j < h'.length := by
  rintro j (a | ⟨a, b⟩)
  · have := hb j a; omega
  · exact b
end
end Go.Abs
set_option linter.all false
namespace Go.Abs
open Go
section
variable {P : Program}
def bzWin (T : TypeId) (p : List Nat) (fr m : Nat) (a : AV) : Option Entry → AV
  | some e => if e.st = .fz then (match qaq e.es p fr m with | some ys => .list T ys | none => a) else a
  | none => a
def bz (h : List Entry) : Nat → AV → AV
  | 0, a => a
  | n + 1, a => match a with
    | .win k p T fr m lo => bzWin T p fr m (.win k p T fr m lo) h[k]?
    | .agg T vs => .agg T (vs.map (bz h n))
    | a => a
theorem bz_agg {h : List Entry} {n : Nat} {a : AV} : isAgg (bz h n a) = isAgg a := by
  cases n with
  | zero => rfl
  | succ n =>
    cases a <;> simp only [bz] <;> try rfl
    unfold bzWin; (repeat' split) <;> rfl
theorem bz_ty {h : List Entry} {n : Nat} {a : AV} {T : TypeId} (ht : yaz P a T) : yaz P (bz h n a) T := by
  cases n with
  | zero => exact ht
  | succ n =>
    cases a <;> simp only [bz] <;> try exact ht
    unfold bzWin; (repeat' split) <;> first | exact ht | (simp only [yaz] at ht ⊢; exact ht)
theorem rep_bz (hP : WF P) {c : Cx} (hr : HR P c) : ∀ (n : Nat) (a : AV) (cs : List Value), Rep P c a cs → Rep P c (bz c.h n a) cs
  | 0, a, cs, h => h
  | n + 1, a, cs, h => by
    have IH := rep_bz hP hr n
    cases a <;> simp only [bz] <;> try exact h
    case agg T vs =>
      simp only [Rep] at h ⊢
      refine ⟨h.1, ?_⟩
      have h2 := h.2
      split at h2
      · obtain ⟨hl, hall⟩ := repF_iff.1 h2
        refine repF_iff.2 ⟨by simp [hl], fun i v f hv hf => ?_⟩
        rw [List.getElem?_map, Option.map_eq_some_iff] at hv
        obtain ⟨u, hu, rfl⟩ := hv
        obtain ⟨h3, h4⟩ := hall i u f hu hf
        exact ⟨bz_ty h3, IH u _ h4⟩
      · refine ⟨by simpa using h2.1, repE_iff.2 fun i v hv => ?_⟩
        rw [List.getElem?_map, Option.map_eq_some_iff] at hv
        obtain ⟨u, hu, rfl⟩ := hv
        obtain ⟨h3, h4⟩ := qa7 h2.2 hu
        exact ⟨bz_ty h3, IH u _ h4⟩
      · exact h2.elim
    case win k p T fr m lo =>
      unfold bzWin
      split
      · rename_i e he
        split
        · rename_i hf
          split
          · rename_i ys hg
            have hvv : ∃ v, cs = [v] ∧ VV P c (.win k p T fr m lo) v := by
              have h' := h
              simp only [Rep] at h'
              obtain ⟨_, _, _, _, _, rfl, _⟩ := h'
              exact ⟨_, rfl, (zba rfl (by simp) (by simp)).2 ⟨rfl, h⟩⟩
            obtain ⟨v, rfl, hv⟩ := hvv
            obtain ⟨hlen, hread⟩ := zb9 hP hr hv he (.inr hf) hg
            obtain ⟨_, cap0, a0, _, _, rfl, _, hmc, _⟩ := yby hv
            simp only [Rep]
            refine ⟨a0, cap0, by rw [hlen], by omega, fun hne => ?_⟩
            have hm0 : m ≠ 0 := by rintro rfl; exact hne (by simp [List.eq_nil_of_length_eq_zero hlen])
            obtain ⟨b, off, C, mk, cap, hveq, hkb, hbk, _, _, _, _, hE⟩ := hread hm0
            simp only [Value.slice.injEq] at hveq
            obtain ⟨_, _, _, _, g4, _⟩ := hr.block he (.inr hf) hkb
            exact ⟨b, off + fr * P.cellsOf T, C, e.T, mk, hveq.1, hbk, g4 hf, hE⟩
          · exact h
        · exact h
      · exact h
def fzE (e : Entry) : Entry := { e with st := .fz }
theorem FSpec.give (hP : WF P) {f : FuncId} {args : List AV} {h : List Entry} {k : Nat} {e : Entry} {R : AV → Prop} (hk : h[k]? = some e) (ho : e.st = .own) (hne : e.es ≠ []) (hp : zbp P f (args.map (bz (h.set k (fzE e)) 4)) R) :
    FSpec P f args h fun r h' => h' = h.set k (fzE e) ∧ R r := by
  obtain ⟨hc, hs⟩ := hp (h.set k (fzE e))
  refine ⟨hc, fun κ w vs hr hv => ?_⟩
  have x := ext_dim (c := ⟨κ, h, w⟩) (e' := fzE e) hk rfl (by simp [fzE]) (by simp [fzE])
  have hκ : κ k ≠ none := by
    rcases hr.blk k e hk (.inl ho) with ⟨_, h2, _⟩ | ⟨b, _, _, h1, _⟩
    · exact absurd h2 hne
    · rw [show κ k = some b from h1]; simp
  have hr2 := hr_dim (c := ⟨κ, h, w⟩) (e' := fzE e) hr hk rfl (by simp [fzE]) (by simp [fzE]) (fun _ => ⟨.inl ho, hκ, e.es.length, by simp [fzE]⟩)
  have hv2 : ya2 P ⟨κ, h.set k (fzE e), w⟩ (args.map (bz (h.set k (fzE e)) 4)) vs := by
    clear hs hp
    induction args generalizing vs with
    | nil => simp only [ya2] at hv; subst hv; simp [ya2]
    | cons a as ih =>
      simp only [ya2] at hv
      obtain ⟨v, r, rfl, h1, h2, h3⟩ := hv
      simp only [List.map_cons, ya2]
      exact ⟨v, r, rfl, by rw [bz_agg]; exact h1, rep_bz (c := ⟨κ, h.set k (fzE e), w⟩) hP hr2 4 a _ (qb9 x _ _ h2), ih r h3⟩
  refine (hs κ w vs hr2 hv2).mono ?_
  rintro e' w' ⟨v, r, h', κ', rfl, h1, h2, h3, h4⟩
  exact ⟨v, r, h', κ', rfl, h1, x.trans h2, h3, h4⟩
end
end Go.Abs
set_option linter.all false
namespace Go.Abs
open Go
section
variable {P : Program}
theorem FSpec.freeze (hP : WF P) {f : FuncId} {args : List AV} {h : List Entry} {k : Nat} {e : Entry} {K : AV → List Entry → Prop} (hk : h[k]? = some e) (ho : e.st = .own) (hne : e.es ≠ []) (hp : FSpec P f args (h.set k (fzE e)) K) :
    FSpec P f args h K := by
  obtain ⟨hc, hs⟩ := hp
  refine ⟨hc, fun κ w vs hr hv => ?_⟩
  have x := ext_dim (c := ⟨κ, h, w⟩) (e' := fzE e) hk rfl (by simp [fzE]) (by simp [fzE])
  have hκ : κ k ≠ none := by
    rcases hr.blk k e hk (.inl ho) with ⟨_, h2, _⟩ | ⟨b, _, _, h1, _⟩
    · exact absurd h2 hne
    · rw [show κ k = some b from h1]; simp
  have hr2 := hr_dim (c := ⟨κ, h, w⟩) (e' := fzE e) hr hk rfl (by simp [fzE]) (by simp [fzE]) (fun _ => ⟨.inl ho, hκ, e.es.length, by simp [fzE]⟩)
  have hv2 : ya2 P ⟨κ, h.set k (fzE e), w⟩ args vs := by
    clear hs
    induction args generalizing vs with
    | nil => simp only [ya2] at hv; subst hv; simp [ya2]
    | cons a as ih =>
      simp only [ya2] at hv
      obtain ⟨v, r, rfl, h1, h2, h3⟩ := hv
      simp only [ya2]
      exact ⟨v, r, rfl, h1, qb9 x _ _ h2, ih r h3⟩
  refine (hs κ w vs hr2 hv2).mono ?_
  rintro e' w' ⟨v, r, h', κ', rfl, h1, h2, h3, h4⟩
  exact ⟨v, r, h', κ', rfl, h1, x.trans h2, h3, h4⟩
theorem FSpec.read (hP : WF P) {g : FuncId} {args args' : List AV} {r : AV} {h : List Entry} (ha : args.map (bz h 4) = args') (hp : Fn P g args' r) : FSpec P g args h fun r' h' => r' = r ∧ h' = h := by
  subst ha
  obtain ⟨hc, hs⟩ := hp h
  refine ⟨hc, fun κ w vs hr hv => ?_⟩
  have hv2 : ya2 P ⟨κ, h, w⟩ (args.map (bz h 4)) vs := by
    clear hs hp
    induction args generalizing vs with
    | nil => simp only [ya2] at hv; subst hv; simp [ya2]
    | cons a as ih =>
      simp only [ya2] at hv
      obtain ⟨v, r, rfl, h1, h2, h3⟩ := hv
      simp only [List.map_cons, ya2]
      exact ⟨v, r, rfl, by rw [bz_agg]; exact h1, rep_bz (c := ⟨κ, h, w⟩) hP hr 4 a _ h2, ih r h3⟩
  refine (hs κ w vs hr hv2).mono ?_
  rintro e' w' ⟨v, r', h', κ', rfl, h1, h2, h3, rfl, h4⟩
  exact ⟨v, r', h', κ', rfl, h1, h2, h3, h4, rfl⟩
end
end Go.Abs
