/- Abs6: a part of the proofs about the tuple space (layer 8). -/
import Derived.Test.YtelohjfiojpeeaaAbs5
import Derived.Laws.Bits
import Derived.Laws.StructEq
set_option linter.all false
namespace Go.Abs
open Go
section
variable {P : Program}

theorem vv_int_mk {c : Cx} {k : IntKind} {n : Int} : VV P c (.int k n) (.int k n) := by simp [VV, Rep, isAgg, Value.isAgg, Value.cells]
theorem vv_bool_mk {c : Cx} {b : Bool} : VV P c (.bool b) (.bool b) := by simp [VV, Rep, isAgg, Value.isAgg, Value.cells]
theorem vv_str_mk {c : Cx} {s : ByteArray} : VV P c (.str s) (.string s) := by simp [VV, Rep, isAgg, Value.isAgg, Value.cells]
theorem vv_nils_mk {c : Cx} : VV P c .nils (.slice none 0 0) := by simp [VV, Rep, isAgg, Value.isAgg, Value.cells]

theorem eqGuard_plain {op : BinOp} {T : TypeId} {x y : Operand} {a b : Value} (h1 : ∀ cs, a ≠ .agg cs) (h2 : a ≠ .nilIface) (w : World) : (eqGuard op T x y a b).run P w = .ok () w := by
  unfold eqGuard
  cases op <;> simp only [] <;> first
    | (cases a <;> first | exact absurd rfl (h1 _) | exact absurd rfl h2 | (cases b <;> simp))
    | simp

def andA (P : Program) (n : Nat) (l : List (AV × AV)) : Option Bool :=
  l.foldr (fun p acc => match eqA P n p.1 p.2, acc with | some a, some b => some (a && b) | _, _ => none) (some true)

theorem andA_cons {n : Nat} {x y : AV} {l : List (AV × AV)} {b : Bool} (h : andA P n ((x, y) :: l) = some b) : ∃ b1 b2, eqA P n x y = some b1 ∧ andA P n l = some b2 ∧ b = (b1 && b2) := by
  simp only [andA, List.foldr_cons] at h
  split at h
  · rename_i a1 a2 h1 h2
    exact ⟨a1, a2, h1, h2, by simpa using h.symm⟩
  · cases h

def EqN (P : Program) (c : Cx) (n : Nat) : Prop := ∀ (d : Nat) (x y : AV) (b : Bool) (T : TypeId) (v u : Value), eqA P n x y = some b → tyOK P x T → tyOK P y T → VV P c x v → VV P c y u → ∀ w, (Op.equalIn (d + n) T v u).run P w = .ok b w

theorem eqFields_sound (hP : WF P) {c : Cx} {n : Nat} (IH : EqN P c n) (d : Nat) {xs ys : Array Value} (w : World) : ∀ (fs : List Field) (vs us : List AV) (b : Bool), (∀ f ∈ fs, f.name ≠ "_") →
    RepF P c vs (fs.map fun f => (f.type, f.offset)) xs.toList → RepF P c us (fs.map fun f => (f.type, f.offset)) ys.toList → andA P n (vs.zip us) = some b → (Op.eqFields (d + n) xs ys fs).run P w = .ok b w
  | [], vs, us, b, _, h1, h2, h3 => by
    cases vs with
    | cons v vs => simp [RepF] at h1
    | nil => simp [andA] at h3; subst h3; simp [Op.eqFields]
  | f :: fs, vs, us, b, hn, h1, h2, h3 => by
    cases vs with
    | nil => simp [RepF] at h1
    | cons v vs =>
      cases us with
      | nil => simp [RepF] at h2
      | cons u us =>
        simp only [RepF, List.map_cons, List.cons.injEq] at h1 h2
        obtain ⟨g1, r1, ⟨rfl, rfl⟩, t1, p1, q1⟩ := h1
        obtain ⟨g2, r2, ⟨rfl, rfl⟩, t2, p2, q2⟩ := h2
        obtain ⟨b1, b2, e1, e2, rfl⟩ := andA_cons h3
        have hr := eqFields_sound hP IH d w fs vs us b2 (fun g hg => hn g (by simp [hg])) q1 q2 e2
        have hh := IH d v u b1 f.type _ _ e1 t1 t2 (vv_of_rep hP t1 p1) (vv_of_rep hP t2 p2) w
        simp only [Op.eqFields, ne_eq, hn f (by simp), not_false_eq_true, if_true, Sem.run_bind, run_part hP t1 p1, run_part hP t2 p2, Result.andThen_ok, hh]
        cases b1
        · simp
        · simpa using hr

theorem eqItems_sound (hP : WF P) {c : Cx} {n : Nat} (IH : EqN P c n) (d : Nat) {xs ys : Array Value} {e : TypeId} (w : World) : ∀ (vs us : List AV) (k : Nat) (b : Bool),
    RepE P c vs e (xs.toList.drop (k * P.cellsOf e)) → RepE P c us e (ys.toList.drop (k * P.cellsOf e)) → vs.length = us.length → andA P n (vs.zip us) = some b →
    (Op.eqItems (d + n) e (P.cellsOf e) xs ys (List.range' k vs.length)).run P w = .ok b w
  | [], us, k, b, _, _, hl, h3 => by
    simp [andA] at h3; subst h3; simp [Op.eqItems]
  | v :: vs, us, k, b, h1, h2, hl, h3 => by
    cases us with
    | nil => simp at hl
    | cons u us =>
      simp only [RepE] at h1 h2
      obtain ⟨t1, p1, q1⟩ := h1
      obtain ⟨t2, p2, q2⟩ := h2
      obtain ⟨b1, b2, e1, e2, rfl⟩ := andA_cons h3
      rw [List.drop_drop, show k * P.cellsOf e + P.cellsOf e = (k + 1) * P.cellsOf e by rw [Nat.add_mul]; omega] at q1 q2
      have hr := eqItems_sound hP IH d w vs us (k + 1) b2 q1 q2 (by simpa using hl) e2
      have hh := IH d v u b1 e _ _ e1 t1 t2 (vv_of_rep hP t1 p1) (vv_of_rep hP t2 p2) w
      simp only [List.length_cons, List.range'_succ, Op.eqItems, Sem.run_bind, run_part hP t1 p1, run_part hP t2 p2, Result.andThen_ok, hh]
      cases b1
      · simp
      · simpa using hr

theorem eqA_sound (hP : WF P) (c : Cx) : ∀ n, EqN P c n
  | 0 => by intro d x y b T v u h; simp [eqA] at h
  | n + 1 => by
    intro d x y b T v u h tx ty hx hy w
    have IH := eqA_sound hP c n
    cases x <;> simp only [eqA, reduceCtorEq] at h
    case int k a =>
      cases y <;> simp only [reduceCtorEq, Option.some.injEq] at h
      obtain rfl := vv_int hx
      obtain rfl := vv_int hy
      simp only [tyOK] at tx ty
      rw [tx] at ty
      simp only [Shape.int.injEq] at ty
      subst ty
      subst h
      exact run_equalIn_int w (d + n) T _ _ _ _ (und_int tx)
    case bool a =>
      cases y <;> simp only [reduceCtorEq, Option.some.injEq] at h
      obtain rfl := vv_bool hx
      obtain rfl := vv_bool hy
      subst h
      exact run_equalIn_bool' w (d + n) T _ _ (und_bool tx)
    case str a =>
      cases y <;> simp only [reduceCtorEq, Option.some.injEq] at h
      obtain rfl := vv_str hx
      obtain rfl := vv_str hy
      subst h
      rw [beq_toListBytes]
      exact run_equalIn_string w (d + n) T _ _ (und_str tx)
    case agg T1 vs =>
      cases y <;> simp only [reduceCtorEq] at h
      rename_i T2 us
      split at h
      · rename_i hc
        obtain ⟨rfl, ht, hl⟩ := hc
        obtain ⟨xs, rfl, h1⟩ := vv_agg hx
        obtain ⟨ys, rfl, h2⟩ := vv_agg hy
        simp only [tyOK] at tx
        subst tx
        simp only [Rep] at h1 h2
        cases hs : shapeT P T1 <;> rw [hs] at h1 h2 <;> simp only [and_false] at h1
        case struct =>
          obtain ⟨fs, hu⟩ := und_struct hs
          have hf : P.fieldsOf T1 = fs := by simp [Program.fieldsOf, hu]
          have hft : fieldsT P T1 = fs.toList.map fun f => (f.type, f.offset) := by simp [fieldsT, hu]
          simp only [eqT, hu, Bool.and_eq_true, List.all_eq_true, bne_iff_ne, ne_eq, Bool.not_eq_true'] at ht
          rw [show d + (n + 1) = (d + n) + 1 by omega, run_equalIn_struct w (d + n) T1 xs ys (by rw [hf]; exact hu) ht.1.2, hf]
          rw [hft] at h1 h2
          exact eqFields_sound hP IH d w fs.toList vs us b (fun f hf => ht.1.1 f hf) h1.2 h2.2 h
        case arr m e =>
          have hex : ∃ i, P.info? e = some i := by
            simp only [eqT, und_arr hs, Bool.and_eq_true] at ht
            exact info_of_shape (okT_spec ht.1).1
          obtain ⟨i, hi⟩ := hex
          rw [show d + (n + 1) = (d + n) + 1 by omega, run_equalIn_array w (d + n) xs ys (und_arr hs) hi]
          have := eqItems_sound hP IH d w vs us 0 b (by simpa using h1.2.2) (by simpa using h2.2.2) hl h
          rw [h1.2.1] at this
          rw [List.range_eq_range']
          exact this
      · cases h

theorem eqT_guard {T : TypeId} (h : eqT P T = true) : P.eqGuardType P.depth T = false := by
  unfold eqT at h
  split at h
  · simp only [Bool.and_eq_true, Bool.not_eq_true'] at h; exact h.2
  · simp only [Bool.and_eq_true, Bool.not_eq_true'] at h; exact h.2
  · cases h

theorem eqA_guard {n : Nat} {T1 T2 : TypeId} {vs us : List AV} {b : Bool} (h : eqA P n (.agg T1 vs) (.agg T2 us) = some b) : P.eqGuardType P.depth T1 = false := by
  cases n with
  | zero => simp [eqA] at h
  | succ n =>
    simp only [eqA] at h
    split at h
    · rename_i hc; exact eqT_guard hc.2.1
    · cases h

theorem bin_sound (hP : WF P) {c : Cx} {op : BinOp} {T : TypeId} {x y r : AV} {xo yo : Operand} {wr : List (Nat × Entry)} {v u : Value} (hv : VV P c x v) (hu : VV P c y u) (h : (stBin P op T x y).run c.h = some (r, wr)) :
    wr = [] ∧ ∃ z, ((do eqGuard op T xo yo v u; binOp op T v u) : Sem Value).run P c.w = .ok z c.w ∧ VV P c r z := by
  cases x <;> simp only [stBin] at h <;> try exact (stp_fail h).elim
  case int k a =>
    cases y <;> simp only at h <;> try exact (stp_fail h).elim
    rename_i k' b
    replace h := stp_ite h; obtain ⟨hk, h⟩ := h
    obtain rfl := vv_int hv
    obtain rfl := vv_int hu
    rw [Sem.run_bind, eqGuard_plain (by simp) (by simp)]
    simp only [Result.andThen_ok]
    cases op <;> simp only [intBin, reduceCtorEq, false_or, true_or, or_true] at h hk
    case shl =>
      split at h
      · exact (stp_fail h).elim
      · obtain ⟨rfl, rfl⟩ := stp_ret h
        rename_i hb
        exact ⟨rfl, _, by simp only [binOp, Op.shift, if_neg hb, Sem.run_pure], vv_int_mk⟩
    case shr =>
      split at h
      · exact (stp_fail h).elim
      · obtain ⟨rfl, rfl⟩ := stp_ret h
        rename_i hb
        exact ⟨rfl, _, by simp only [binOp, Op.shift, if_neg hb, Sem.run_pure], vv_int_mk⟩
    all_goals subst hk
    case quo =>
      split at h
      · exact (stp_fail h).elim
      · obtain ⟨rfl, rfl⟩ := stp_ret h
        rename_i hb
        exact ⟨rfl, _, by simp only [binOp_quo, Op.intDiv, if_neg hb, Sem.run_pure], vv_int_mk⟩
    case rem =>
      split at h
      · exact (stp_fail h).elim
      · obtain ⟨rfl, rfl⟩ := stp_ret h
        rename_i hb
        exact ⟨rfl, _, by simp only [binOp_rem, Op.intDiv, if_neg hb, Sem.run_pure], vv_int_mk⟩
    case add => obtain ⟨rfl, rfl⟩ := stp_ret h; exact ⟨rfl, _, by rw [binOp_add]; rfl, vv_int_mk⟩
    case sub => obtain ⟨rfl, rfl⟩ := stp_ret h; exact ⟨rfl, _, by rw [binOp_sub]; rfl, vv_int_mk⟩
    case mul => obtain ⟨rfl, rfl⟩ := stp_ret h; exact ⟨rfl, _, by rw [binOp_mul]; rfl, vv_int_mk⟩
    case and => obtain ⟨rfl, rfl⟩ := stp_ret h; exact ⟨rfl, _, by rw [binOp_and]; rfl, vv_int_mk⟩
    case or => obtain ⟨rfl, rfl⟩ := stp_ret h; exact ⟨rfl, _, by rw [binOp_or]; rfl, vv_int_mk⟩
    case xor => obtain ⟨rfl, rfl⟩ := stp_ret h; exact ⟨rfl, _, by rw [binOp_xor]; rfl, vv_int_mk⟩
    case andNot => obtain ⟨rfl, rfl⟩ := stp_ret h; exact ⟨rfl, _, by rw [binOp_andNot]; rfl, vv_int_mk⟩
    case eql => obtain ⟨rfl, rfl⟩ := stp_ret h; exact ⟨rfl, _, by rw [binOp_eql]; rfl, vv_bool_mk⟩
    case neq => obtain ⟨rfl, rfl⟩ := stp_ret h; exact ⟨rfl, _, by rw [binOp_neq]; rfl, vv_bool_mk⟩
    case lss => obtain ⟨rfl, rfl⟩ := stp_ret h; exact ⟨rfl, _, by rw [binOp_lss]; rfl, vv_bool_mk⟩
    case leq => obtain ⟨rfl, rfl⟩ := stp_ret h; exact ⟨rfl, _, by rw [binOp_leq]; rfl, vv_bool_mk⟩
    case gtr => obtain ⟨rfl, rfl⟩ := stp_ret h; exact ⟨rfl, _, by rw [binOp_gtr]; rfl, vv_bool_mk⟩
    case geq => obtain ⟨rfl, rfl⟩ := stp_ret h; exact ⟨rfl, _, by rw [binOp_geq]; rfl, vv_bool_mk⟩
  case bool a =>
    cases y <;> simp only at h <;> try exact (stp_fail h).elim
    rename_i b
    replace h := stp_ite h; obtain ⟨hs, h⟩ := h
    obtain rfl := vv_bool hv
    obtain rfl := vv_bool hu
    rw [Sem.run_bind, eqGuard_plain (by simp) (by simp)]
    simp only [Result.andThen_ok]
    cases op <;> simp only at h <;> try exact (stp_fail h).elim
    case eql =>
      obtain ⟨rfl, rfl⟩ := stp_ret h
      exact ⟨rfl, .bool (a == b), run_eql_bool c.w T a b (und_bool hs), vv_bool_mk⟩
    case neq =>
      obtain ⟨rfl, rfl⟩ := stp_ret h
      exact ⟨rfl, .bool (!(a == b)), run_neq_bool c.w T a b (und_bool hs), vv_bool_mk⟩
  case str a =>
    cases y <;> simp only at h <;> try exact (stp_fail h).elim
    rename_i b
    obtain rfl := vv_str hv
    obtain rfl := vv_str hu
    rw [Sem.run_bind, eqGuard_plain (by simp) (by simp)]
    simp only [Result.andThen_ok]
    cases op <;> simp only at h <;> try exact (stp_fail h).elim
    case eql =>
      obtain ⟨rfl, rfl⟩ := stp_ret h
      refine ⟨rfl, .bool (a == b), ?_, vv_bool_mk⟩
      simp only [binOp, Op.stringOp, Sem.run_pure, ← beq_toListBytes]
    case neq =>
      obtain ⟨rfl, rfl⟩ := stp_ret h
      refine ⟨rfl, .bool (!(a == b)), ?_, vv_bool_mk⟩
      simp only [binOp, Op.stringOp, Sem.run_pure, ← beq_toListBytes]

  case agg T1 vs =>
    cases y <;> simp only at h <;> try exact (stp_fail h).elim
    rename_i T2 us
    replace h := stp_ite h; obtain ⟨⟨rfl, rfl⟩, h⟩ := h
    obtain ⟨xs, rfl, h1⟩ := vv_agg hv
    obtain ⟨ys, rfl, h2⟩ := vv_agg hu
    cases he : eqA P 5 (.agg T2 vs) (.agg T2 us) with
    | none => rw [he] at h; cases op <;> exact (stp_fail h).elim
    | some b =>
      rw [he] at h
      have hg := eqA_guard he
      rw [Sem.run_bind, run_eqGuard_agg c.w op T2 xo yo xs ys hg]
      simp only [Result.andThen_ok]
      have hq := eqA_sound hP c 5 9995 _ _ b T2 _ _ he (by simp only [tyOK]) (by simp only [tyOK]) hv hu c.w
      cases op <;> simp only at h <;> try exact (stp_fail h).elim
      case eql =>
        obtain ⟨rfl, rfl⟩ := stp_ret h
        refine ⟨rfl, .bool b, ?_, vv_bool_mk⟩
        rw [run_eql_struct, hq]
        rfl
      case neq =>
        obtain ⟨rfl, rfl⟩ := stp_ret h
        refine ⟨rfl, .bool (!b), ?_, vv_bool_mk⟩
        rw [run_neq_struct, hq]
        rfl

theorem un_sound {c : Cx} {op : UnOp} {x r : AV} {wr : List (Nat × Entry)} {v : Value} (hv : VV P c x v) (h : (stUn op x).run c.h = some (r, wr)) :
    wr = [] ∧ ∃ z, (Op.unary op v).run P c.w = .ok z c.w ∧ VV P c r z := by
  cases op <;> cases x <;> simp only [stUn] at h <;> try exact (stp_fail h).elim
  case neg.int k n => obtain ⟨rfl, rfl⟩ := stp_ret h; obtain rfl := vv_int hv; exact ⟨rfl, _, rfl, vv_int_mk⟩
  case not.bool b => obtain ⟨rfl, rfl⟩ := stp_ret h; obtain rfl := vv_bool hv; exact ⟨rfl, _, rfl, vv_bool_mk⟩

theorem und_some {T : TypeId} (h : shapeT P T ≠ .other) : ∃ d, P.underlying T = some d := by
  have := shape_spec (P := P) (T := T) rfl h
  cases hd : P.underlying T with
  | none => rw [hd] at this; exact absurd this.symm h
  | some d => exact ⟨d, rfl⟩

theorem conv_sound {c : Cx} {S T : TypeId} {x r : AV} {wr : List (Nat × Entry)} {v : Value} (hv : VV P c x v) (h : (stConv P S T x).run c.h = some (r, wr)) :
    wr = [] ∧ ∃ z, (convert S T v).run P c.w = .ok z c.w ∧ VV P c r z := by
  cases x <;> simp only [stConv] at h <;> try exact (stp_fail h).elim
  rename_i k n
  cases hs : shapeT P T <;> rw [hs] at h <;> try exact (stp_fail h).elim
  rename_i k'
  replace h := stp_ite h; obtain ⟨hS, h⟩ := h
  obtain ⟨rfl, rfl⟩ := stp_ret h
  obtain rfl := vv_int hv
  obtain ⟨d, hd⟩ := und_some hS
  refine ⟨rfl, .int k' (k'.wrap n), ?_, vv_int_mk⟩
  simp only [convert, Sem.run_bind, run_underlying hd, run_underlying (und_int hs), Result.andThen_ok, Conv.intToInt, Sem.run_pure]

theorem isSlice_spec {T : TypeId} (h : isSlice (shapeT P T) = true) : ∃ e, shapeT P T = .slice e := by
  cases hs : shapeT P T <;> simp_all [isSlice]

theorem len_sound {c : Cx} {T ty : TypeId} {ts : Array TypeId} {x r : AV} {wr : List (Nat × Entry)} {v : Value} (hts : ts[0]? = some T) (hv : VV P c x v) (h : (stLen P T x).run c.h = some (r, wr)) :
    wr = [] ∧ ∃ z, (Builtin.len_ ts ty #[v]).run P c.w = .ok z c.w ∧ VV P c r z := by
  cases x <;> simp only [stLen] at h <;> try exact (stp_fail h).elim
  case win k p e fr n lo =>
    replace h := stp_ite h; obtain ⟨hs, h⟩ := h
    obtain ⟨rfl, rfl⟩ := stp_ret h
    obtain ⟨e', hs⟩ := isSlice_spec hs
    obtain ⟨en, cap, a, _, _, rfl, _⟩ := vv_win hv
    exact ⟨rfl, .int .i64 n, by simp [Builtin.len_, hts, run_underlying (und_slice hs), goInt], vv_int_mk⟩
  case list e es =>
    replace h := stp_ite h; obtain ⟨hs, h⟩ := h
    obtain ⟨rfl, rfl⟩ := stp_ret h
    obtain ⟨e', hs⟩ := isSlice_spec hs
    obtain ⟨a, cap, rfl, _⟩ := vv_list hv
    exact ⟨rfl, .int .i64 es.length, by simp [Builtin.len_, hts, run_underlying (und_slice hs), goInt], vv_int_mk⟩
  case nils =>
    replace h := stp_ite h; obtain ⟨hs, h⟩ := h
    obtain ⟨rfl, rfl⟩ := stp_ret h
    obtain ⟨e', hs⟩ := isSlice_spec hs
    obtain rfl := vv_nils hv
    exact ⟨rfl, .int .i64 0, by simp [Builtin.len_, hts, run_underlying (und_slice hs), goInt], vv_int_mk⟩
  case str s =>
    replace h := stp_ite h; obtain ⟨hs, h⟩ := h
    obtain ⟨rfl, rfl⟩ := stp_ret h
    obtain rfl := vv_str hv
    exact ⟨rfl, .int .i64 s.size, by simp [Builtin.len_, hts, run_underlying (und_str hs), goInt], vv_int_mk⟩

theorem min_sound {c : Cx} {ty : TypeId} {ts : Array TypeId} {x y r : AV} {wr : List (Nat × Entry)} {v u : Value} (hv : VV P c x v) (hu : VV P c y u) (h : (stMin .min x y).run c.h = some (r, wr)) :
    wr = [] ∧ ∃ z, (Builtin.min_ ts ty #[v, u]).run P c.w = .ok z c.w ∧ VV P c r z := by
  cases x <;> simp only [stMin] at h <;> try exact (stp_fail h).elim
  cases y <;> simp only at h <;> try exact (stp_fail h).elim
  obtain ⟨rfl, rfl⟩ := stp_ret h
  obtain rfl := vv_int hv
  obtain rfl := vv_int hu
  exact ⟨rfl, _, run_min_int2 c.w ts ty _ _ _ _, vv_int_mk⟩

theorem max_sound {c : Cx} {ty : TypeId} {ts : Array TypeId} {x y r : AV} {wr : List (Nat × Entry)} {v u : Value} (hv : VV P c x v) (hu : VV P c y u) (h : (stMin .max x y).run c.h = some (r, wr)) :
    wr = [] ∧ ∃ z, (Builtin.max_ ts ty #[v, u]).run P c.w = .ok z c.w ∧ VV P c r z := by
  cases x <;> simp only [stMin] at h <;> try exact (stp_fail h).elim
  cases y <;> simp only at h <;> try exact (stp_fail h).elim
  obtain ⟨rfl, rfl⟩ := stp_ret h
  obtain rfl := vv_int hv
  obtain rfl := vv_int hu
  exact ⟨rfl, _, run_max_int2 c.w ts ty _ _ _ _, vv_int_mk⟩

theorem nilCheck_sound {c : Cx} {x r : AV} {wr : List (Nat × Entry)} {v : Value} (hv : VV P c x v) (h : (stNilCheck x).run c.h = some (r, wr)) :
    wr = [] ∧ (∀ fn first caps, v = .func fn first caps → ∃ f, fn = .func f) ∧ v ≠ .pointer none ∧ v ≠ .nilIface ∧ v ≠ .nilFunc ∧ VV P c r v := by
  cases x <;> simp only [stNilCheck] at h <;> try exact (stp_fail h).elim
  case ref k p T => obtain ⟨rfl, rfl⟩ := stp_ret h; obtain ⟨_, _, _, _, _, _, _, rfl⟩ := vv_ref hv; exact ⟨rfl, by simp, by simp, by simp, by simp, hv⟩
  case eref T u => obtain ⟨rfl, rfl⟩ := stp_ret h; obtain ⟨_, _, _, _, _, rfl, _⟩ := vv_eref hv; exact ⟨rfl, by simp, by simp, by simp, by simp, hv⟩
  case fn f caps =>
    obtain ⟨rfl, rfl⟩ := stp_ret h
    obtain ⟨_, h2⟩ := (vv_cell rfl (by simp) (by simp)).1 hv
    simp only [Rep] at h2
    obtain ⟨vs, h2, _⟩ := h2
    simp only [List.cons.injEq, and_true] at h2
    subst h2
    exact ⟨rfl, by simp, by simp, by simp, by simp, hv⟩

theorem repV_get : ∀ {as : List AV} {vs : List Value} {c : Cx} {i : Nat} {a : AV}, RepV P c as vs → as[i]? = some a → ∃ v, vs[i]? = some v ∧ isAgg a = Value.isAgg v ∧ Rep P c a v.cells.toList
  | [], vs, c, i, a, h, hi => by simp at hi
  | b :: as, vs, c, 0, a, h, hi => by
    simp only [RepV] at h
    obtain ⟨v, r, rfl, h1, h2, _⟩ := h
    simp only [List.getElem?_cons_zero, Option.some.injEq] at hi
    subst hi
    exact ⟨v, rfl, h1, h2⟩
  | b :: as, vs, c, i + 1, a, h, hi => by
    simp only [RepV] at h
    obtain ⟨v, r, rfl, _, _, h3⟩ := h
    simp only [List.getElem?_cons_succ] at hi ⊢
    exact repV_get h3 hi

theorem vv_of_parts {c : Cx} {a : AV} {v : Value} (h1 : isAgg a = Value.isAgg v) (h2 : Rep P c a v.cells.toList) : VV P c a v := by
  cases a <;> first | exact ⟨h1, h2⟩ | (simp only [Rep] at h2)

theorem extract_sound {c : Cx} {i : Nat} {x r : AV} {wr : List (Nat × Entry)} {v : Value} (hv : VV P c x v) (h : (stExtract i x).run c.h = some (r, wr)) :
    wr = [] ∧ ∃ z, (Instr.extract v i).run P c.w = .ok z c.w ∧ VV P c r z := by
  cases x <;> simp only [stExtract] at h <;> try exact (stp_fail h).elim
  rename_i vs
  cases hi : vs[i]? with
  | none => rw [hi] at h; exact (stp_fail h).elim
  | some y =>
    rw [hi] at h
    obtain ⟨rfl, rfl⟩ := stp_ret h
    simp only [VV] at hv
    obtain ⟨l, rfl, hl⟩ := hv
    obtain ⟨u, hu, h1, h2⟩ := repV_get hl hi
    exact ⟨rfl, u, by simp [Instr.extract, hu], vv_of_parts h1 h2⟩

theorem vvs_map {c : Cx} {env : List (Nat × AV)} {a : Act} (he : ER P c env a.tmps) : ∀ (xs : List Operand), (∀ x ∈ xs, ev env x ≠ .junk ∧ ∀ vs, ev env x ≠ .tup vs) → RepV P c (xs.map (ev env)) (xs.map a.eval)
  | [], _ => by simp only [List.map_nil, RepV]
  | x :: xs, h => by
    simp only [List.map_cons, RepV]
    have hx := ev_vv he x
    obtain ⟨h1, h2⟩ := h x (by simp)
    have : isAgg (ev env x) = Value.isAgg (a.eval x) ∧ Rep P c (ev env x) (a.eval x).cells.toList := by
      cases hev : ev env x <;> rw [hev] at hx <;> first | exact hx | exact absurd hev h1 | exact absurd hev (h2 _)
    exact ⟨_, _, rfl, this.1, this.2, vvs_map he xs fun y hy => h y (by simp [hy])⟩
end
end Go.Abs
