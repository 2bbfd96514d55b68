/- Abs25: a part of the proofs about the tuple space (layer 8). -/
import Derived.Test.YtelohjfiojpeeaaAbs24
import Derived.KernelRfl
import Derived.IntWalk
set_option linter.all false
namespace Go.Abs
open Go
section
variable {P : Program}

/-! ### Loops in the machine -/
/-- behind a loop's round -/
def LQ (P : Program) (I : Env → List Entry → Prop) (s : List Ctl) (Q : APost) : APost := fun e env h => match e with
  | .normal => I env h
  | .exit i => Rn P s (.exit i) env h Q
  | .ret => Rn P s .ret env h Q
theorem lq_normal (I : Env → List Entry → Prop) (s : List Ctl) (Q : APost) (env : Env) (h : List Entry) : LQ P I s Q .normal env h = I env h := rfl
theorem lq_exit (I : Env → List Entry → Prop) (s : List Ctl) (Q : APost) (env : Env) (h : List Entry) (i : Nat) : LQ P I s Q (.exit i) env h = Rn P s (.exit i) env h Q := rfl
theorem lq_ret (I : Env → List Entry → Prop) (s : List Ctl) (Q : APost) (env : Env) (h : List Entry) : LQ P I s Q .ret env h = Rn P s .ret env h Q := rfl

theorem rl_gen {x : Code} {s : List Ctl} {env : Env} {h : List Entry} {Q : APost} (I : Nat → Env → List Entry → Prop) (N : Nat) (h0 : I 0 env h)
    (hr : ∀ i env h, I i env h → i ≤ N ∧ Rn P [.code x] .normal env h (LQ P (I (i + 1)) s Q)) : Rl P x s env h Q := by
  refine ⟨I, N, h0, fun i env h hI => ⟨(hr i env h hI).1, ?_⟩⟩
  have := (hr i env h hI).2
  refine awp_mono x env h ?_ this
  intro e env' h' hh
  cases e <;> exact hh

/-- the slots and the entries told round by round; a: slots of which nothing is told -/
def LI {σ : Type} (E : σ → (Nat → AV) → Env) (H : σ → List Entry → List Entry) (p : σ → Prop) (x : σ) : Env → List Entry → Prop := fun env h => env = E x (lk env) ∧ (∃ g, h = H x g) ∧ p x
theorem li_mk {σ : Type} {E : σ → (Nat → AV) → Env} {H : σ → List Entry → List Entry} {p : σ → Prop} {x : σ} {env : Env} {h : List Entry} (h1 : env = E x (lk env)) (h2 : ∃ g, h = H x g) (h3 : p x) : LI E H p x env h := ⟨h1, h2, h3⟩

/-- A loop that counts. -/
theorem rl_count {x : Code} {s : List Ctl} {env : Env} {h : List Entry} {Q : APost} (E : Nat → (Nat → AV) → Env) (H : Nat → List Entry → List Entry) (p : Nat → Prop) (N : Nat) (h0 : LI E H p 0 env h)
    (hr : ∀ i (a : Nat → AV) (g : List Entry), p i → i ≤ N ∧ Rn P [.code x] .normal (E i a) (H i g) (LQ P (LI E H p (i + 1)) s Q)) : Rl P x s env h Q := by
  refine rl_gen (fun i env h => LI E H p i env h) N h0 fun i env h hI => ?_
  obtain ⟨h1, ⟨g, h2⟩, h3⟩ := hI
  rw [h1, h2]
  exact hr i _ g h3

/-- A function whose answer is determined. -/
abbrev Fn (P : Program) (f : FuncId) (args : List AV) (r : AV) : Prop := Pure P f args fun r' => r' = r

/-- what the end of a function owes -/
def Fin (P : Program) (rs : List ResultVar) (h : List Entry) (R : AV → Prop) : APost := fun e env' h' => e.fin = true ∧ h'.take h.length = h ∧ ares P rs env' h' (one fun r => plainAV r = true ∧ below h.length (rz h' h.length r) = true ∧ R (rz h' h.length r))

theorem fn_run (hP : WF P) {f : FuncId} {fn : Func} {x : Code} {args : List AV} {R : AV → Prop} (ks : List Nat) (hf : P.funcs[f]? = some fn) (rs : List ResultVar) (hb : fn.body = some x) (hrs : fn.results.toList = rs) (hc : callable P f = true)
    (hok : codeOK fn.ntmps x = true) {m : Nat} (hm : fn.ntmps = m) (hn : args.length ≤ m) (hw : ∀ h, Rn P [.code x] .normal (env0 0 args ks) h (Fin P rs h R)) : Pure P f args R := by
  subst hrs; subst hm
  exact pure_code hP ks hf hb hc hok hn hw

def ResP (P : Program) (v : AV) (h h' : List Entry) (R : AV → Prop) : Prop := plainAV v = true ∧ below h.length (rz h' h.length v) = true ∧ R (rz h' h.length v)
def CellP (P : Program) (s : Stp) (h h' : List Entry) (R : AV → Prop) : Prop := s.wp h' fun v _ => ResP P v h h' R
theorem fin_tmp (t : Tmp) (h h' : List Entry) (R : AV → Prop) (e : AEx) (env : Env) : Fin P [.tmp t] h R e env h' = (e.fin = true ∧ h'.take h.length = h ∧ ResP P (lk env t) h h' R) := rfl
theorem fin_cell (t : Tmp) (T : TypeId) (h h' : List Entry) (R : AV → Prop) (e : AEx) (env : Env) : Fin P [.cell t T] h R e env h' = (e.fin = true ∧ h'.take h.length = h ∧ CellP P (stLoad T (lk env t)) h h' R) := rfl
def CellO (P : Program) (o : Option Entry) (f : Entry → Stp) (h h' : List Entry) (R : AV → Prop) : Prop := match o with | some e => CellP P (f e) h h' R | none => False
theorem cell_rd (k : Nat) (f : Entry → Stp) (h h' : List Entry) (R : AV → Prop) : CellP P (.rd k f) h h' R = CellO P h'[k]? f h h' R := by
  simp only [CellP, Stp.wp, CellO]
  cases h'[k]? <;> rfl
theorem cell_some (e : Entry) (f : Entry → Stp) (h h' : List Entry) (R : AV → Prop) : CellO P (some e) f h h' R = CellP P (f e) h h' R := rfl
theorem cell_ret (v : AV) (h h' : List Entry) (R : AV → Prop) : CellP P (.ret v []) h h' R = ResP P v h h' R := rfl
theorem res_int (k : IntKind) (n : Int) (h h' : List Entry) (R : AV → Prop) : ResP P (.int k n) h h' R = R (.int k n) := by simp [ResP, plainAV, rz, below]
theorem res_bool (b : Bool) (h h' : List Entry) (R : AV → Prop) : ResP P (.bool b) h h' R = R (.bool b) := by simp [ResP, plainAV, rz, below]
theorem res_def (v : AV) (h h' : List Entry) (R : AV → Prop) : ResP P v h h' R = (plainAV v = true ∧ below h.length (rz h' h.length v) = true ∧ R (rz h' h.length v)) := rfl
theorem take_self (h : List Entry) : (h.take h.length = h) = True := by simp
theorem take_app (h l : List Entry) : ((h ++ l).take h.length = h) = True := by simp
theorem room_of {e k : Nat} (h1 : decide (P.bytesOf e ≤ 16384) = true) (h2 : zOK P e = true) : roomOK P e k = decide (k ≤ 4294967296) := by
  unfold roomOK
  rw [h1, h2]
  simp

section
variable {env : Env} {h : List Entry} {s : List Ctl} {d : Option Tmp} {Q : APost} {D : DC}
theorem k_fn {g : FuncId} {args raw : List AV} {r : AV} (hp : Fn P g args r) (hk : Rn P s .normal (putD env d r) h Q) : Rk P g args raw d s env h Q := k_pure hp fun r' e => by rw [e]; exact hk
end
def fidx {α : Type} (p : α → Bool) (l : List α) : Int := match l.findIdx? p with
  | some j => (j : Int)
  | none => -1
theorem fidx_some {α : Type} {p : α → Bool} {l : List α} {i : Nat} {x : α} (hi : l[i]? = some x) (hx : p x = true) (hb : ∀ j y, j < i → l[j]? = some y → p y = false) : fidx p l = (i : Int) := by
  unfold fidx
  obtain ⟨hlt, rfl⟩ := List.getElem?_eq_some_iff.1 hi
  rw [List.findIdx?_eq_some_iff_getElem.2 ⟨hlt, hx, fun j hj => by simpa using hb j _ hj (List.getElem?_eq_getElem (by omega))⟩]
theorem fidx_none {α : Type} {p : α → Bool} {l : List α} (hb : ∀ j y, j < l.length → l[j]? = some y → p y = false) : fidx p l = -1 := by
  unfold fidx
  rw [List.findIdx?_eq_none_iff.2 fun x hx => ?_]
  obtain ⟨j, hj, rfl⟩ := List.getElem_of_mem hx
  simpa using hb j _ hj (List.getElem?_eq_getElem hj)
theorem getD_map {α : Type} (e : α → AV) {l : List α} {i : Nat} {x : α} (h : l[i]? = some x) : (l.map e).getD i .junk = e x := by
  rw [List.getD_eq_getElem?_getD, List.getElem?_map, h]; rfl
theorem cast_lt {i n : Nat} (h : i < n) : decide ((i : Int) < (n : Int)) = true := by simpa using h
theorem cast_ge {i n : Nat} (h : ¬ i < n) : decide ((i : Int) < (n : Int)) = false := by simpa using h
theorem in_row {i n : Nat} (h : i < n) : (0 ≤ (i : Int) ∧ (i : Int) < (n : Int)) = True := by simp; exact h
theorem wrap_succ {i : Nat} (h : i < 9223372036854775807) : IntKind.wrap .i64 ((i : Int) + 1) = ((i + 1 : Nat) : Int) := by
  rw [IntWalk.i64_in _ (by omega)]
  simp

end

section
/-! ### What is asked of values, constructor by constructor -/
variable {P : Program}
theorem ty_int (k : IntKind) (n : Int) (T : TypeId) : tyB P (.int k n) T = (shapeT P T == .int k) := rfl
theorem ty_bool (b : Bool) (T : TypeId) : tyB P (.bool b) T = (shapeT P T == .bool) := rfl
theorem ty_str (b : ByteArray) (T : TypeId) : tyB P (.str b) T = (shapeT P T == .str) := rfl
theorem ty_agg (U : TypeId) (vs : List AV) (T : TypeId) : tyB P (.agg U vs) T = (U == T) := rfl
theorem ty_list (U : TypeId) (vs : List AV) (T : TypeId) : tyB P (.list U vs) T = (shapeT P T == .slice U) := rfl
theorem ty_win (k : Nat) (p : List Nat) (U : TypeId) (a b c : Nat) (T : TypeId) : tyB P (.win k p U a b c) T = (shapeT P T == .slice U) := rfl
theorem ty_ref (k : Nat) (p : List Nat) (U : TypeId) (T : TypeId) : tyB P (.ref k p U) T = (shapeT P T == .ptr U) := rfl
theorem ty_eref (U : TypeId) (v : AV) (T : TypeId) : tyB P (.eref U v) T = (shapeT P T == .ptr U) := rfl
theorem ty_nilptr (T : TypeId) : tyB P .nilptr T = isPtr (shapeT P T) := rfl
theorem ty_fn (f : FuncId) (caps : List AV) (T : TypeId) : tyB P (.fn f caps) T = (shapeT P T == .func) := rfl
theorem ty_nilfn (T : TypeId) : tyB P .nilfn T = (shapeT P T == .func) := rfl
theorem ty_nils (T : TypeId) : tyB P .nils T = isSlice (shapeT P T) := rfl
theorem pl_int (k : IntKind) (n : Int) : plainAV (.int k n) = true := rfl
theorem pl_bool (b : Bool) : plainAV (.bool b) = true := rfl
theorem pl_str (b : ByteArray) : plainAV (.str b) = true := rfl
theorem pl_agg (U : TypeId) (vs : List AV) : plainAV (.agg U vs) = true := rfl
theorem pl_list (U : TypeId) (vs : List AV) : plainAV (.list U vs) = true := rfl
theorem pl_win (k : Nat) (p : List Nat) (U : TypeId) (a b c : Nat) : plainAV (.win k p U a b c) = true := rfl
theorem pl_ref (k : Nat) (p : List Nat) (U : TypeId) : plainAV (.ref k p U) = true := rfl
theorem pl_eref (U : TypeId) (v : AV) : plainAV (.eref U v) = true := rfl
theorem pl_nilptr : plainAV .nilptr = true := rfl
theorem pl_fn (f : FuncId) (caps : List AV) : plainAV (.fn f caps) = true := rfl
theorem pl_nilfn : plainAV .nilfn = true := rfl
theorem pl_nils : plainAV .nils = true := rfl
theorem wk_int (n : Nat) (T : TypeId) (k : IntKind) (x : Int) : wk P n T (.int k x) = .int k x := by cases n <;> rfl
theorem wk_bool (n : Nat) (T : TypeId) (b : Bool) : wk P n T (.bool b) = .bool b := by cases n <;> rfl
theorem wk_str (n : Nat) (T : TypeId) (b : ByteArray) : wk P n T (.str b) = .str b := by cases n <;> rfl
theorem wk_list (n : Nat) (T U : TypeId) (es : List AV) : wk P n T (.list U es) = .list U es := by cases n <;> rfl
theorem wk_win (n : Nat) (T : TypeId) (k : Nat) (p : List Nat) (U : TypeId) (a b c : Nat) : wk P n T (.win k p U a b c) = .win k p U a b c := by cases n <;> rfl
theorem wk_ref (n : Nat) (T : TypeId) (k : Nat) (p : List Nat) (U : TypeId) : wk P n T (.ref k p U) = .ref k p U := by cases n <;> rfl
theorem wk_eref (n : Nat) (T U : TypeId) (v : AV) : wk P n T (.eref U v) = .eref U v := by cases n <;> rfl
theorem wk_nilptr (n : Nat) (T : TypeId) : wk P n T .nilptr = .nilptr := by cases n <;> rfl
theorem wk_fn (n : Nat) (T : TypeId) (f : FuncId) (caps : List AV) : wk P n T (.fn f caps) = .fn f caps := by cases n <;> rfl
theorem wk_nilfn (n : Nat) (T : TypeId) : wk P n T .nilfn = .nilfn := by cases n <;> rfl
def wkNil (P : Program) (s : Shape) : AV := match s with | .slice e => .list e [] | _ => .nils
theorem wk_nils (n : Nat) (T : TypeId) : wk P (n + 1) T .nils = wkNil P (shapeT P T) := rfl
theorem wkNil_slice (e : TypeId) : wkNil P (.slice e) = .list e [] := rfl
def wkAgg (P : Program) (n : Nat) (T : TypeId) (vs : List AV) (s : Shape) : AV := match s with
  | .struct => .agg T (List.zipWith (fun (f : TypeId × Nat) v => wk P n f.1 v) (fieldsT P T) vs)
  | .arr _ e => .agg T (vs.map (wk P n e))
  | _ => .agg T vs
theorem wk_aggE (n : Nat) (T U : TypeId) (vs : List AV) : wk P (n + 1) T (.agg U vs) = if U = T then wkAgg P n T vs (shapeT P T) else .agg U vs := rfl
theorem wkAgg_struct (n : Nat) (T : TypeId) (vs : List AV) : wkAgg P n T vs .struct = .agg T (List.zipWith (fun (f : TypeId × Nat) v => wk P n f.1 v) (fieldsT P T) vs) := rfl
theorem wkAgg_arr (n m : Nat) (T e : TypeId) (vs : List AV) : wkAgg P n T vs (.arr m e) = .agg T (vs.map (wk P n e)) := rfl

mutual
/-- data without names -/
def dat : AV → Bool
  | .agg _ vs => datL vs
  | .list _ es => datL es
  | .eref _ v => dat v
  | .fn _ caps => datL caps
  | .win .. => false
  | .ref .. => false
  | .tup _ => false
  | .junk => false
  | _ => true
def datL : List AV → Bool
  | [] => true
  | v :: vs => dat v && datL vs
end
mutual
theorem dat_below {n : Nat} : ∀ (a : AV), dat a = true → below n a = true
  | .agg _ vs, h => by simp only [dat] at h; simp only [below]; exact datL_below vs h
  | .list _ es, h => by simp only [dat] at h; simp only [below]; exact datL_below es h
  | .eref _ v, h => by simp only [dat] at h; simp only [below]; exact dat_below v h
  | .fn _ caps, h => by simp only [dat] at h; simp only [below]; exact datL_below caps h
  | .win .., h => by simp [dat] at h
  | .ref .., h => by simp [dat] at h
  | .tup _, h => by simp [dat] at h
  | .junk, h => by simp [dat] at h
  | .int .., _ => rfl
  | .bool _, _ => rfl
  | .str _, _ => rfl
  | .nilptr, _ => rfl
  | .nilfn, _ => rfl
  | .nils, _ => rfl
theorem datL_below {n : Nat} : ∀ (vs : List AV), datL vs = true → belowL n vs = true
  | [], _ => rfl
  | v :: vs, h => by
    simp only [datL, Bool.and_eq_true] at h
    simp only [belowL, dat_below v h.1, datL_below vs h.2, Bool.and_self]
end
mutual
theorem dat_rz {h : List Entry} {n : Nat} : ∀ (a : AV), dat a = true → rz h n a = a
  | .agg _ vs, hd => by simp only [dat] at hd; simp only [rz, datL_rz vs hd]
  | .list _ es, hd => by simp only [rz]
  | .eref _ v, hd => by simp only [rz]
  | .fn _ caps, hd => by simp only [rz]
  | .win .., h => by simp [dat] at h
  | .ref .., h => by simp [dat] at h
  | .tup _, h => by simp [dat] at h
  | .junk, h => by simp [dat] at h
  | .int .., _ => by simp only [rz]
  | .bool _, _ => by simp only [rz]
  | .str _, _ => by simp only [rz]
  | .nilptr, _ => by simp only [rz]
  | .nilfn, _ => by simp only [rz]
  | .nils, _ => by simp only [rz]
theorem datL_rz {h : List Entry} {n : Nat} : ∀ (vs : List AV), datL vs = true → rzL h n vs = vs
  | [], _ => by simp only [rzL]
  | v :: vs, hd => by
    simp only [datL, Bool.and_eq_true] at hd
    simp only [rzL, dat_rz v hd.1, datL_rz vs hd.2]
end
mutual
theorem dat_bw {h : List Entry} : ∀ (a : AV) (n : Nat), dat a = true → bw h n a = a
  | .agg _ vs, 0, hd => rfl
  | .agg _ vs, n + 1, hd => by simp only [dat] at hd; simp only [bw, datL_bw vs n hd]
  | .list _ es, 0, hd => rfl
  | .list _ es, n + 1, hd => by simp only [dat] at hd; simp only [bw, datL_bw es n hd]
  | .eref _ v, 0, hd => rfl
  | .eref _ v, n + 1, hd => by simp only [dat] at hd; simp only [bw, dat_bw v n hd]
  | .fn _ caps, 0, hd => rfl
  | .fn _ caps, n + 1, hd => by simp only [dat] at hd; simp only [bw, datL_bw caps n hd]
  | .win .., _, h => by simp [dat] at h
  | .ref .., _, h => by simp [dat] at h
  | .tup _, _, h => by simp [dat] at h
  | .junk, _, h => by simp [dat] at h
  | .int .., n, _ => by cases n <;> rfl
  | .bool _, n, _ => by cases n <;> rfl
  | .str _, n, _ => by cases n <;> rfl
  | .nilptr, n, _ => by cases n <;> rfl
  | .nilfn, n, _ => by cases n <;> rfl
  | .nils, n, _ => by cases n <;> rfl
theorem datL_bw {h : List Entry} : ∀ (vs : List AV) (n : Nat), datL vs = true → vs.map (bw h n) = vs
  | [], n, _ => rfl
  | v :: vs, n, hd => by
    simp only [datL, Bool.and_eq_true] at hd
    simp only [List.map_cons, dat_bw v n hd.1, datL_bw vs n hd.2]
end
theorem dat_plain {a : AV} (h : dat a = true) : plainAV a = true := by cases a <;> first | rfl | simp [dat] at h
theorem dat_agg (T : TypeId) (vs : List AV) : dat (.agg T vs) = datL vs := by simp only [dat]
theorem dat_list (T : TypeId) (vs : List AV) : dat (.list T vs) = datL vs := by simp only [dat]
theorem dat_int (k : IntKind) (n : Int) : dat (.int k n) = true := by simp only [dat]
theorem dat_bool (b : Bool) : dat (.bool b) = true := by simp only [dat]
theorem dat_str (b : ByteArray) : dat (.str b) = true := by simp only [dat]
theorem datL_nil : datL [] = true := by simp only [datL]
theorem datL_cons (v : AV) (vs : List AV) : datL (v :: vs) = (dat v && datL vs) := by simp only [datL]
theorem datL_map {α : Type} (e : α → AV) (h : ∀ x, dat (e x) = true) : ∀ l : List α, datL (l.map e) = true
  | [] => datL_nil
  | x :: l => by simp only [List.map_cons, datL_cons, h x, datL_map e h l, Bool.and_self]
/-- data is handed out as it is -/
theorem res_dat {v : AV} (hd : dat v = true) (h h' : List Entry) (R : AV → Prop) : ResP P v h h' R = R v := by
  simp [ResP, dat_plain hd, dat_rz v hd, dat_below v hd]
theorem res_mk {v : AV} {h h' : List Entry} {R : AV → Prop} (hd : dat v = true) (hr : R v) : ResP P v h h' R := by rw [res_dat hd]; exact hr
theorem res_full {v : AV} {h h' : List Entry} {R : AV → Prop} (h1 : plainAV v = true) (h2 : below h.length (rz h' h.length v) = true) (h3 : R (rz h' h.length v)) : ResP P v h h' R := ⟨h1, h2, h3⟩
end
section
theorem none_before {α : Type} {p : α → Bool} {l : List α} {i : Nat} {x : α} (hx : l[i]? = some x) (hp : p x = false) (hb : ∀ j y, j < i → l[j]? = some y → p y = false) : ∀ j y, j < i + 1 → l[j]? = some y → p y = false := by
  intro j y hj hy
  by_cases h : j = i
  · subst h; rw [hx] at hy; cases hy; exact hp
  · exact hb j y (by omega) hy
theorem fidx_lt {α : Type} {p : α → Bool} {l : List α} : decide (0 ≤ fidx p l) = l.any p := by
  unfold fidx
  cases hf : l.findIdx? p with
  | none =>
    rw [List.findIdx?_eq_none_iff] at hf
    simp only [Int.reduceNeg, Int.reduceLE, decide_false]
    symm
    rw [List.any_eq_false]
    intro x hx; simpa using hf x hx
  | some j =>
    simp only [Int.natCast_nonneg, decide_true]
    rw [List.findIdx?_eq_some_iff_getElem] at hf
    obtain ⟨hj, hp, _⟩ := hf
    symm
    rw [List.any_eq_true]
    exact ⟨l[j], List.getElem_mem hj, hp⟩
/-- equal rows, part by part -/
def all2 {α β : Type} (p : α → β → Bool) : List α → List β → Bool
  | [], [] => true
  | x :: r, y :: s => p x y && all2 p r s
  | _, _ => false
theorem all2_length {α β : Type} {p : α → β → Bool} : ∀ {l : List α} {m : List β}, l.length ≠ m.length → all2 p l m = false
  | [], [], h => absurd rfl h
  | [], _ :: _, h => rfl
  | _ :: _, [], h => rfl
  | x :: r, y :: s, h => by
    simp only [all2, all2_length (l := r) (m := s) (by simpa using h), Bool.and_false]
theorem all2_true {α β : Type} {p : α → β → Bool} : ∀ {l : List α} {m : List β}, l.length = m.length → (∀ j x y, j < l.length → l[j]? = some x → m[j]? = some y → p x y = true) → all2 p l m = true
  | [], [], _, _ => rfl
  | [], _ :: _, h, _ => by simp at h
  | _ :: _, [], h, _ => by simp at h
  | x :: r, y :: s, h, hh => by
    simp only [all2, Bool.and_eq_true]
    exact ⟨hh 0 x y (by simp) rfl rfl, all2_true (by simpa using h) fun j a b hj ha hb => hh (j + 1) a b (by simpa using hj) (by simpa using ha) (by simpa using hb)⟩
theorem all2_false {α β : Type} {p : α → β → Bool} : ∀ {l : List α} {m : List β} {j : Nat} {x : α} {y : β}, l[j]? = some x → m[j]? = some y → p x y = false → all2 p l m = false
  | [], m, j, x, y, h, _, _ => by simp at h
  | _ :: _, [], j, x, y, _, h, _ => by simp at h
  | a :: r, b :: s, 0, x, y, h1, h2, h3 => by
    simp only [List.getElem?_cons_zero, Option.some.injEq] at h1 h2
    subst h1; subst h2
    simp [all2, h3]
  | a :: r, b :: s, j + 1, x, y, h1, h2, h3 => by
    simp only [all2, all2_false (l := r) (m := s) (by simpa using h1) (by simpa using h2) h3, Bool.and_false]
theorem none_before2 {α β : Type} {p : α → β → Bool} {l : List α} {m : List β} {i : Nat} {x : α} {y : β} (hx : l[i]? = some x) (hy : m[i]? = some y) (hp : p x y = true) (hb : ∀ j a b, j < i → l[j]? = some a → m[j]? = some b → p a b = true) :
    ∀ j a b, j < i + 1 → l[j]? = some a → m[j]? = some b → p a b = true := by
  intro j a b hj ha hb'
  by_cases h : j = i
  · subst h; rw [hx] at ha; rw [hy] at hb'; cases ha; cases hb'; exact hp
  · exact hb j a b (by omega) ha hb'
theorem neq_len {a b : Nat} (h : a ≠ b) : ((a : Int) != (b : Int)) = true := by simp; omega
theorem eq_len {a b : Nat} (h : a = b) : ((a : Int) != (b : Int)) = false := by simp [h]
theorem bw_fnE (h : List Entry) (n : Nat) (f : FuncId) (caps : List AV) : bw h (n + 1) (.fn f caps) = .fn f (caps.map (bw h n)) := rfl
theorem bw_refE (h : List Entry) (n : Nat) (k : Nat) (p : List Nat) (T : TypeId) : bw h (n + 1) (.ref k p T) = bwRef (bw h n) T p (.ref k p T) h[k]? := rfl
theorem bw_winE (h : List Entry) (n : Nat) (k : Nat) (p : List Nat) (T : TypeId) (fr m lo : Nat) : bw h (n + 1) (.win k p T fr m lo) = bwWin (bw h n) T p fr m (.win k p T fr m lo) h[k]? := rfl
theorem bw_aggE (h : List Entry) (n : Nat) (T : TypeId) (vs : List AV) : bw h (n + 1) (.agg T vs) = .agg T (vs.map (bw h n)) := rfl
def bwRefO (f : AV → AV) (T : TypeId) (a : AV) : Option AV → AV | some v => .eref T (f v) | none => a
theorem bwRef_own (f : AV → AV) (T U : TypeId) (p : List Nat) (a : AV) (es : List AV) : bwRef f T p a (some ⟨U, es, .own⟩) = bwRefO f T a (getE es p) := by
  simp only [bwRef, liveB, if_true, bwRefO]
  cases getE es p <;> rfl
theorem bwRefO_some (f : AV → AV) (T : TypeId) (a v : AV) : bwRefO f T a (some v) = .eref T (f v) := rfl
def bwWinO (f : AV → AV) (T : TypeId) (a : AV) : Option (List AV) → AV | some ys => .list T (ys.map f) | none => a
theorem bwWin_own (f : AV → AV) (T U : TypeId) (p : List Nat) (fr m : Nat) (a : AV) (es : List AV) : bwWin f T p fr m a (some ⟨U, es, .own⟩) = bwWinO f T a (winGet es p fr m) := by
  simp only [bwWin, liveB, if_true, bwWinO]
  cases winGet es p fr m <;> rfl
theorem bwWinO_some (f : AV → AV) (T : TypeId) (a : AV) (ys : List AV) : bwWinO f T a (some ys) = .list T (ys.map f) := rfl
end
section
variable {P : Program}
theorem rq_mk {neg ok : Bool} {p : Bool → Prop} {d : Option Tmp} {s : List Ctl} {env : Env} {h : List Entry} {Q : APost} (h1 : ok = true) (h2 : ∀ b, p b → Rn P s .normal (putD env d (.bool (neg != b))) h Q) : Rq P neg (some p) ok d s env h Q := ⟨h1, h2⟩

theorem wk_VV {c : Cx} {r : AV} {v : Value} {T : TypeId} (ht : tyB P r T = true) (hp : plainAV r = true) (h : VV P c r v) : VV P c (wk P 6 T r) v := by
  obtain ⟨h1, h2⟩ := plain_parts h hp
  exact vv_of_parts (by rw [wk_agg]; exact h1) (wk_rep 6 T r _ (tyB_ok ht) h2).2
/-- An answer's nil slices taken for empty ones. -/
theorem fn_wk {f : FuncId} {args : List AV} {r0 r1 : AV} (T : TypeId) (hf : Fn P f args r0) (ht : tyB P r0 T = true) (hr : wk P 6 T r0 = r1) : Fn P f args r1 := by
  subst hr
  intro h
  obtain ⟨hc, hs⟩ := hf h
  refine ⟨hc, fun κ w vs hr hv => (hs κ w vs hr hv).mono ?_⟩
  rintro e w' ⟨v, r, h', κ', rfl, h1, h2, h3, h4, h5⟩
  subst h5
  refine ⟨v, _, h', κ', rfl, h1, h2, wk_VV ht ?_ h3, h4, rfl⟩
  cases r <;> first | rfl | simp [tyB] at ht
theorem wks_rep' {c : Cx} : ∀ (ts : List TypeId) (as : List AV) (vs : List Value), argsOK P ts as → RepV P c as vs → RepV P c (wks P ts as) vs := wks_rep
theorem fn_wk_tup {f : FuncId} {args : List AV} {l : List AV} (ts : List TypeId) {l1 : List AV} (hf : Fn P f args (.tup l)) (ht : argsOK P ts l) (hr : wks P ts l = l1) : Fn P f args (.tup l1) := by
  subst hr
  intro h
  obtain ⟨hc, hs⟩ := hf h
  refine ⟨hc, fun κ w vs hr hv => (hs κ w vs hr hv).mono ?_⟩
  rintro e w' ⟨v, r, h', κ', rfl, h1, h2, h3, h4, h5⟩
  subst h5
  refine ⟨v, .tup (wks P ts l), h', κ', rfl, h1, h2, ?_, h4, rfl⟩
  simp only [VV] at h3 ⊢
  obtain ⟨l', rfl, h3⟩ := h3
  exact ⟨l', rfl, wks_rep ts l l' ht h3⟩
/-- one of two answers, the same once nil is empty -/
theorem pure_mono {f : FuncId} {args : List AV} {R R' : AV → Prop} (hf : Pure P f args R) (h : ∀ r, R r → R' r) : Pure P f args R' := fun hh => (hf hh).mono fun r h' ⟨a, b⟩ => ⟨a, h r b⟩
theorem pure_wk {f : FuncId} {args : List AV} {R : AV → Prop} {r1 : AV} (T : TypeId) (hf : Pure P f args R) (hR : ∀ r, R r → tyB P r T = true ∧ wk P 6 T r = r1) : Fn P f args r1 := by
  intro h
  obtain ⟨hc, hs⟩ := hf h
  refine ⟨hc, fun κ w vs hr hv => (hs κ w vs hr hv).mono ?_⟩
  rintro e w' ⟨v, r, h', κ', rfl, h1, h2, h3, h4, h5⟩
  obtain ⟨ht, hw⟩ := hR r h5
  subst hw
  refine ⟨v, _, h', κ', rfl, h1, h2, wk_VV ht ?_ h3, h4, rfl⟩
  cases r <;> first | rfl | simp [tyB] at ht
theorem rs_ite {c : Prop} [Decidable c] {a b : Stp} {d : Option Tmp} {s : List Ctl} {env : Env} {h : List Entry} {Q : APost} (h1 : c → Rs P a d s env h Q) (h2 : ¬ c → Rs P b d s env h Q) : Rs P (if c then a else b) d s env h Q := by
  split
  · exact h1 ‹_›
  · exact h2 ‹_›
theorem rh_ite {c : Prop} [Decidable c] {a b : Stp} {d : Option Tmp} {s : List Ctl} {env : Env} {h : List Entry} {Q : APost} (h1 : c → Rh P a d s env h Q) (h2 : ¬ c → Rh P b d s env h Q) : Rh P (if c then a else b) d s env h Q := by
  split
  · exact h1 ‹_›
  · exact h2 ‹_›
theorem ds_ite {c : Prop} [Decidable c] {a b : Stp} {acc : List Nat} {D : DC} {s : List Ctl} {env : Env} {h : List Entry} {Q : APost} (h1 : c → Ds P a acc D s env h Q) (h2 : ¬ c → Ds P b acc D s env h Q) : Ds P (if c then a else b) acc D s env h Q := by
  split
  · exact h1 ‹_›
  · exact h2 ‹_›
/-- a window into what the function made goes out as a slice that nobody writes -/
theorem res_win {k fr m lo : Nat} {p : List Nat} {T : TypeId} {h h' : List Entry} {R : AV → Prop} {e : Entry} {ys : List AV} (hk : h.length ≤ k) (he : h'[k]? = some e) (hl : liveB e.st = true) (hg : winGet e.es p fr m = some ys) (hd : datL ys = true) (hR : R (.list T ys)) :
    ResP P (.win k p T fr m lo) h h' R := by
  have e1 : rz h' h.length (.win k p T fr m lo) = .list T ys := by simp only [rz, if_pos hk, he, hl, if_true, hg]
  refine ⟨rfl, ?_, ?_⟩
  · rw [e1]; simp only [below]; exact datL_below ys hd
  · rw [e1]; exact hR
theorem winGet_all {es : List AV} {n : Nat} (h : es.length = n) : winGet es [] 0 n = some es := by
  subst h
  simp [winGet]
end
end Go.Abs
