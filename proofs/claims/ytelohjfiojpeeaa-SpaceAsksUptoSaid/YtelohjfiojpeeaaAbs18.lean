/- Abs18: a part of the proofs about the tuple space (layer 8). -/
import Derived.Test.YtelohjfiojpeeaaAbs17
set_option linter.all false
namespace Go.Abs
open Go
section
variable {P : Program}

/-! ### The precondition of a region that draws its order -/
def memB (k : Nat) : List Nat → Bool
  | [] => false
  | j :: r => decide (k = j) || memB k r
def disjB : List Nat → List Nat → Bool
  | [], _ => true
  | k :: r, l => !memB k l && disjB r l
def isE : List Nat → Bool | [] => true | _ => false
def Tc.isNone (a : Tc) : Bool := isE a.rd && (isE a.wr && !a.all)
def apartB (a b : Tc) : Bool := disjB a.wr b.rd && (disjB a.wr b.wr && (disjB a.rd b.wr && ((!a.all || b.isNone) && (!b.all || a.isNone))))
def clear (T : List Tc) (x : Tc) : List Nat → Bool
  | [] => true
  | j :: r => (match T[j]? with | some y => apartB y x | none => false) && clear T x r

theorem memB_iff {k : Nat} : ∀ {l : List Nat}, memB k l = true ↔ k ∈ l
  | [] => by simp [memB]
  | j :: r => by simp [memB, memB_iff (l := r)]
theorem disjB_spec : ∀ {a b : List Nat}, disjB a b = true → ∀ k ∈ a, k ∉ b
  | [], b, _, k, hk => by cases hk
  | j :: r, b, h, k, hk => by
    simp only [disjB, Bool.and_eq_true, Bool.not_eq_true'] at h
    rcases List.mem_cons.1 hk with rfl | hk
    · intro hb; rw [memB_iff.2 hb] at h; cases h.1
    · exact disjB_spec h.2 k hk
theorem isE_spec {l : List Nat} (h : isE l = true) : l = [] := by cases l <;> simp_all [isE]
theorem isNone_spec {a : Tc} (h : a.isNone = true) : a.none := by
  simp only [Tc.isNone, Bool.and_eq_true, Bool.not_eq_true'] at h
  exact ⟨isE_spec h.1, isE_spec h.2.1, h.2.2⟩
theorem apartB_spec {a b : Tc} (h : apartB a b = true) : ApartT a b := by
  simp only [apartB, Bool.and_eq_true, Bool.or_eq_true, Bool.not_eq_true'] at h
  obtain ⟨h1, h2, h3, h4, h5⟩ := h
  refine ⟨fun k hk => ⟨disjB_spec h1 k hk, disjB_spec h2 k hk⟩, fun k hk => disjB_spec h3 k hk, fun ha => ?_, fun hb => ?_⟩
  · rcases h4 with h4 | h4
    · rw [h4] at ha; cases ha
    · exact isNone_spec h4
  · rcases h5 with h5 | h5
    · rw [h5] at hb; cases hb
    · exact isNone_spec h5
theorem clear_spec {T : List Tc} {x : Tc} : ∀ {l : List Nat}, clear T x l = true → ∀ j ∈ l, ∃ y, T[j]? = some y ∧ ApartT y x
  | [], _, j, hj => by cases hj
  | i :: r, h, j, hj => by
    simp only [clear, Bool.and_eq_true] at h
    rcases List.mem_cons.1 hj with rfl | hj
    · cases hT : T[j]? with
      | none => rw [hT] at h; simp at h
      | some y => rw [hT] at h; exact ⟨y, rfl, apartB_spec h.1⟩
    · exact clear_spec h.2 j hj

def Stp.wpo (h : List Entry) (K : AV → List (Nat × Entry) → List Nat → Prop) : Stp → List Nat → Prop
  | .fail, _ => False
  | .ret v wr, acc => K v wr acc
  | .rd k f, acc => match h[k]? with
    | some e => Stp.wpo h K (f e) (acc ++ [k])
    | none => False

theorem wpo_out {h : List Entry} {K : AV → List (Nat × Entry) → List Nat → Prop} : ∀ {s : Stp} {rd : List Nat}, s.wpo h K rd → ∃ x, s.out h = some x ∧ K x.1 x.2.1 (rd ++ x.2.2)
  | .fail, rd, hw => by simp only [Stp.wpo] at hw
  | .ret v wr, rd, hw => ⟨_, rfl, by simp only [Stp.wpo] at hw; simpa using hw⟩
  | .rd k f, rd, hw => by
    simp only [Stp.wpo] at hw
    simp only [Stp.out]
    cases he : h[k]? with
    | none => rw [he] at hw; exact hw.elim
    | some e =>
      rw [he] at hw
      obtain ⟨x, h1, h2⟩ := wpo_out (s := f e) hw
      exact ⟨(x.1, x.2.1, k :: x.2.2), by simp only [h1, Option.map_some], by simpa using h2⟩

def isHole (h : List Entry) (s : Nat) : Prop := match h[s]? with
  | some e => e.st = .hole
  | none => False

/-- one operation whose answer is determined -/
def dop (P : Program) (env : Env) (h : List Entry) (s : Nat) (o : Op) (K : AV → Eff → List Nat → Prop) : Prop := match o with
  | .pick c x y => match ev env c with
    | .bool t => (t = true → K (ev env x) (.wr []) []) ∧ (t = false → K (ev env y) (.wr []) [])
    | _ => False
  | .call { callee := .value f, args, argTypes } => match ev env f with
    | .fn g caps => argsOK P argTypes.toList (evs env args) ∧ (evs env args).all plainAV = true ∧
        ((∃ r, Pure P g (wks P argTypes.toList (evs env args) ++ caps) (fun r' => r' = r) ∧ K r (.wr []) []) ∨
         (∃ r h', FSpec P g (wks P argTypes.toList (evs env args) ++ caps) h (fun r' h'' => r' = r ∧ h'' = h') ∧ K r (.all h') []) ∨
         (∃ r rd, (∀ h2 : List Entry, (∀ k ∈ rd, h2[k]? = h[k]?) → FSpec P g (wks P argTypes.toList (evs env args) ++ caps) h2 (fun r' h'' => r' = r ∧ h'' = h2)) ∧ K r (.wr []) rd))
    | _ => False
  | o => stepOp o = true ∧ (if makes o = true then isHole h s ∧ (step P env s o).wpo h (fun v wr rd => K v (.wr wr) rd) [s] else (step P env s o).wpo h (fun v wr rd => K v (.wr wr) rd) [])

theorem dop_comes {env : Env} {h : List Entry} {s : Nat} {o : Op} {K : AV → Eff → List Nat → Prop} (hd : dop P env h s o K) : ∃ x : Ev1, Comes P env h s o x ∧ K x.r x.eff x.rd := by
  unfold dop at hd
  split at hd
  · rename_i c x y
    cases hc : ev env c <;> rw [hc] at hd <;> try exact hd.elim
    rename_i b
    refine ⟨_, .pick hc, ?_⟩
    cases b
    · exact hd.2 rfl
    · exact hd.1 rfl
  · rename_i f args ts
    cases hf : ev env f <;> rw [hf] at hd <;> try exact hd.elim
    rename_i g caps
    obtain ⟨h1, h2, h3⟩ := hd
    rcases h3 with ⟨r, h3, h4⟩ | ⟨r, h', h3, h4⟩ | ⟨r, rd, h3, h4⟩
    · exact ⟨_, .pure hf h1 h2 h3, h4⟩
    · exact ⟨_, .call hf h1 h2 h3, h4⟩
    · exact ⟨_, .read hf h1 h2 h3, h4⟩
  · obtain ⟨h1, h2⟩ := hd
    by_cases hm : makes o = true
    · rw [if_pos hm] at h2
      obtain ⟨hh, h2⟩ := h2
      obtain ⟨x, h3, h4⟩ := wpo_out h2
      refine ⟨_, .step h1 h3 (fun _ => ?_), ?_⟩
      · unfold isHole at hh
        split at hh
        · exact ⟨_, ‹_›, hh⟩
        · exact hh.elim
      · simp only [hm, if_true]
        exact h4
    · rw [if_neg hm] at h2
      obtain ⟨x, h3, h4⟩ := wpo_out h2
      refine ⟨_, .step h1 h3 (fun hm' => absurd hm' hm), ?_⟩
      simp only [hm]
      simpa using h4

def mkn (o : Oper) : Nat := if makes o.op = true then 1 else 0
def mkc : List Oper → Nat
  | [] => 0
  | o :: r => mkn o + mkc r

def tcOf (eff : Eff) (rd : List Nat) : Tc := match eff with
  | .wr l => ⟨rd, l.map (·.1), false⟩
  | .all _ => ⟨rd, [], true⟩

def dwp (P : Program) (all : List Oper) (base : Nat) : List Oper → List (List Nat) → Nat → Env → List Entry → List Tc → (Env → List Entry → Prop) → Prop
  | [], _, _, env, h, _, K => K env h
  | o :: r, U, m, env, h, T, K =>
    match o.guard with
    | none => dop P env h (base + m) o.op fun v eff rd => clear T (tcOf eff rd) (U.headD []) = true ∧ dwp P all base r U.tail (m + mkn o) (putD env o.dst v) (eff.ap h) (T ++ [tcOf eff rd]) K
    | some g => match gslot all g.1 with
      | none => False
      | some t => match lk env t with
        | .bool b => (b = g.2 → dop P (put env t (.bool g.2)) h (base + m) o.op fun v eff rd => clear T (tcOf eff rd) (U.headD []) = true ∧ dwp P all base r U.tail (m + mkn o) (putD (put env t (.bool g.2)) o.dst v) (eff.ap h) (T ++ [tcOf eff rd]) K) ∧
            (b = !g.2 → dwp P all base r U.tail (m + mkn o) (putD (put env t (.bool (!g.2))) o.dst (.tup [])) h (T ++ [⟨[], [], false⟩]) K)
        | .tup [] => dwp P all base r U.tail (m + mkn o) (putD env o.dst (.tup [])) h (T ++ [⟨[], [], false⟩]) K
        | _ => False

/-! #### operations that touch no entry -/
def Stp.flat : Stp → Prop
  | .fail => True
  | .ret _ wr => wr = []
  | .rd _ _ => False
theorem flat_out {h : List Entry} {s : Stp} {x : AV × List (Nat × Entry) × List Nat} (hf : s.flat) (hx : s.out h = some x) : x.2 = ([], []) := by
  cases s <;> simp only [Stp.flat, Stp.out, reduceCtorEq, Option.some.injEq] at hf hx
  subst hx; subst hf; rfl
theorem flat_ite {c : Prop} [Decidable c] {a b : Stp} (h1 : a.flat) (h2 : b.flat) : (if c then a else b).flat := by split <;> assumption

theorem flat_stFieldAddr {T i x} : (stFieldAddr P T i x).flat := by
  unfold stFieldAddr; repeat' split
  all_goals simp [Stp.flat]
theorem flat_stField {T i x} : (stField P T i x).flat := by
  unfold stField; repeat' split
  all_goals simp [Stp.flat]
theorem flat_stIndexAddr {T x i} : (stIndexAddr P T x i).flat := by
  unfold stIndexAddr; repeat' split
  all_goals simp [Stp.flat]
theorem flat_stIndex {T x i} : (stIndex P T x i).flat := by
  unfold stIndex; repeat' split
  all_goals simp [Stp.flat]
theorem flat_intBin {op k a b} : (intBin op k a b).flat := by
  unfold intBin; repeat' split
  all_goals simp [Stp.flat]
theorem flat_stBin {op T x y} : (stBin P op T x y).flat := by
  unfold stBin; repeat' split
  all_goals first | exact flat_intBin | simp [Stp.flat]
theorem flat_stUn {op x} : (stUn op x).flat := by
  unfold stUn; repeat' split
  all_goals simp [Stp.flat]
theorem flat_stConv {S T x} : (stConv P S T x).flat := by
  unfold stConv; repeat' split
  all_goals simp [Stp.flat]
theorem flat_stLen {T x} : (stLen P T x).flat := by
  unfold stLen; repeat' split
  all_goals simp [Stp.flat]
theorem flat_stMin {op x y} : (stMin op x y).flat := by
  unfold stMin; repeat' split
  all_goals simp [Stp.flat]
theorem flat_stBuild {T ps} : (stBuild P T ps).flat := by
  unfold stBuild; repeat' split
  all_goals simp [Stp.flat]
theorem flat_stNilCheck {x} : (stNilCheck x).flat := by
  unfold stNilCheck; repeat' split
  all_goals simp [Stp.flat]
theorem flat_stExtract {i x} : (stExtract i x).flat := by
  unfold stExtract; repeat' split
  all_goals simp [Stp.flat]

theorem hk_flat {env : Env} {s : Nat} {o : Op} (h0 : hk o = 0) : (step P env s o).flat ∧ makes o = false := by
  cases o <;> simp [hk] at h0 <;> simp only [step, makes, and_true]
  case call c =>
    obtain ⟨callee, args, ts⟩ := c
    cases callee <;> try (simp [hk] at h0; done)
    rename_i b
    cases b <;> (try (simp [hk] at h0; done)) <;> simp only [step, makes, and_true, stBuiltin] <;> (repeat' split) <;> first | exact flat_stLen | exact flat_stMin | (simp_all [Stp.flat]) 
  case makeFunc f a b =>
    cases f <;> simp only [step] <;> (repeat' split) <;> simp [Stp.flat]
  all_goals first
    | exact flat_stBuild | exact flat_stNilCheck | exact flat_stBin | exact flat_stUn | exact flat_stConv | exact flat_stIndexAddr | exact flat_stIndex | exact flat_stExtract
    | exact flat_ite flat_stFieldAddr trivial | exact flat_ite flat_stField trivial | (simp [Stp.flat]; done) | (repeat' split) <;> simp [Stp.flat]

theorem load_out {h : List Entry} {T : TypeId} {v : AV} {x : AV × List (Nat × Entry) × List Nat} (hx : (stLoad T v).out h = some x) : x.2.1 = [] := by
  unfold stLoad at hx
  split at hx
  · split at hx
    · simp only [Stp.out] at hx
      split at hx
      · simp only [Option.map_eq_some_iff] at hx
        obtain ⟨y, hy, rfl⟩ := hx
        split at hy
        · split at hy
          · simp only [Stp.out, Option.some.injEq] at hy; subst hy; rfl
          · simp [Stp.out] at hy
        · simp [Stp.out] at hy
      · cases hx
    · simp [Stp.out] at hx
  · split at hx
    · simp only [Stp.out, Option.some.injEq] at hx; subst hx; rfl
    · simp [Stp.out] at hx
  · simp [Stp.out] at hx

theorem co_hk0 {all : List Oper} {env : Env} {h : List Entry} {s : Nat} {o : Oper} {x : Ev1} (hx : CO P all env h s o x) (h0 : hk o.op = 0) : x.tch.none := by
  rcases hx with ⟨_, hx⟩ | ⟨_, rfl⟩
  · generalize hop : o.op = op at hx h0
    cases hx with
    | step h1 h2 h3 =>
      obtain ⟨h4, h5⟩ := hk_flat (P := P) (env := env) (s := s) h0
      have := flat_out h4 h2
      simp only [h5, Ev1.tch, Tc.none, this]
      simp
    | pick hc => simp [Ev1.tch, Tc.none]
    | pure => simp [hk] at h0
    | call => simp [hk] at h0
    | read => simp [hk] at h0
  · simp [Ev1.tch, Tc.none]

theorem co_hk1 {all : List Oper} {env : Env} {h : List Entry} {s : Nat} {o : Oper} {x : Ev1} (hx : CO P all env h s o x) (h0 : hk o.op = 1) : x.tch.wr = [] ∧ x.tch.all = false := by
  rcases hx with ⟨_, hx⟩ | ⟨_, rfl⟩
  · generalize hop : o.op = op at hx h0
    cases hx with
    | step h1 h2 h3 =>
      have : ∃ T y, op = .load T y := by
        cases op <;> simp [hk] at h0
        case load T y => exact ⟨T, y, rfl⟩
        case call c =>
          obtain ⟨callee, args, ts⟩ := c
          cases callee <;> try (simp [hk] at h0; done)
          rename_i b
          cases b <;> simp [hk] at h0
      obtain ⟨T, y, rfl⟩ := this
      simp only [step] at h2
      have := load_out h2
      simp [Ev1.tch, this]
    | pick hc => simp [Ev1.tch]
    | pure => simp [hk] at h0
    | call => simp [hk] at h0
    | read => simp [hk] at h0
  · simp [Ev1.tch]

theorem none_apart {a b : Tc} (h : a.none) : ApartT a b := by
  obtain ⟨h1, h2, h3⟩ := h
  refine ⟨fun k hk => ?_, fun k hk => ?_, fun hh => ?_, fun hh => ⟨h1, h2, h3⟩⟩
  · rw [h2] at hk; cases hk
  · rw [h1] at hk; cases hk
  · rw [h3] at hh; cases hh

theorem tcOf_tch (x : Ev1) : tcOf x.eff x.rd = x.tch := by
  obtain ⟨r, eff, rd⟩ := x
  cases eff <;> rfl

theorem fold_all {V : Type} {sel : Nat → Bool} : ∀ (us : List (V → V)) (k : Nat) (v : V), (∀ j, k ≤ j → j < k + us.length → sel j = true) → fold sel us k v = fold (fun _ => true) us k v
  | [], k, v, _ => rfl
  | u :: us, k, v, h => by
    simp only [fold, if_true]
    rw [h k (Nat.le_refl _) (by simp), if_pos rfl]
    exact fold_all us (k + 1) _ fun j h1 h2 => h j (by omega) (by simp only [List.length_cons]; omega)

/-- up to a place, all of the row's beginning -/
theorem fold_pre {V : Type} (us ws : List (V → V)) (v : V) : fold (fun j => decide (j < us.length)) (us ++ ws) 0 v = fold (fun _ => true) us 0 v := by
  rw [fold_append, fold_id ws]
  · exact fold_all us 0 v fun j _ h => by simpa using h
  · intro j u _ h
    simp at h
    omega

structure Upto (ops : Array Oper) (L0 : Row) (env0 : Env) (h0 : List Entry) (env : Env) (h : List Entry) : Prop where
  env : ∀ t, lk env t = fold (fun _ => true) (uE L0 t) 0 (lk env0 t)
  h : ∀ k : Nat, h[k]? = fold (fun _ => true) (uH L0 k) 0 h0[k]?

theorem Upto.step {ops : Array Oper} {L0 : Row} {env0 env env1 : Env} {h0 h : List Entry} (u : Upto ops L0 env0 h0 env h) (o : Oper) (x : Ev1) (he : ∀ t, lk env1 t = lk env t) :
    Upto ops (L0 ++ [(o, x)]) env0 h0 (putD env1 o.dst x.r) (x.eff.ap h) := by
  refine ⟨fun t => ?_, fun k => ?_⟩
  · rw [lk_putD, he t, u.env t]
    simp only [uE, List.map_append, List.map_cons, List.map_nil, fold_append, fold, if_true]
  · rw [ap_at, u.h k]
    simp only [uH, List.map_append, List.map_cons, List.map_nil, fold_append, fold, if_true]

def TraceOK (P : Program) (ops : Array Oper) (env0 : Env) (h0 : List Entry) (K : Env → List Entry → Prop) (L0 : Row) (l : List Oper) : Prop :=
      ∃ L1 : Row, L1.map (·.1) = l ∧
        (∀ (i : Nat) (o : Oper) (x : Ev1), (L0 ++ L1)[i]? = some (o, x) → L0.length ≤ i → ∃ (env : Env) (h : List Entry) (s : Nat), (∀ t, lk env t = fold (fun j => decide (j < i)) (uE (L0 ++ L1) t) 0 (lk env0 t)) ∧ (∀ k : Nat, h[k]? = fold (fun j => decide (j < i)) (uH (L0 ++ L1) k) 0 h0[k]?) ∧ CO P ops.toList env h s o x) ∧
        (∀ (i j : Nat) (oi oj : Oper) (xi xj : Ev1), (L0 ++ L1)[i]? = some (oi, xi) → (L0 ++ L1)[j]? = some (oj, xj) → L0.length ≤ i → j < i → bef ops.toList i j = false → ApartT xj.tch xi.tch) ∧
        ∃ env' h', Upto ops (L0 ++ L1) env0 h0 env' h' ∧ K env' h'

theorem dwp_trace {ops : Array Oper} {base : Nat} {env0 : Env} {h0 : List Entry} {K : Env → List Entry → Prop} :
    ∀ (l : List Oper) (L0 : Row) (U : List (List Nat)) (m : Nat) (env : Env) (h : List Entry), ops.toList = L0.map (·.1) ++ l → (∀ i o, l[i]? = some o → U[i]? = some (unordRow ops.toList (ancs ops.toList []) (L0.length + i) o)) →
      Upto ops L0 env0 h0 env h → (∀ (i : Nat) (o : Oper) (x : Ev1), L0[i]? = some (o, x) → hk o.op = 0 → x.tch.none) → (∀ (i : Nat) (o : Oper) (x : Ev1), L0[i]? = some (o, x) → hk o.op = 1 → x.tch.wr = [] ∧ x.tch.all = false) →
      dwp P ops.toList base l U m env h (L0.map fun p => p.2.tch) K →
      TraceOK P ops env0 h0 K L0 l
  | [], L0, U, m, env, h, hops, hU, hup, hk0, hk1, hw => by
    refine ⟨[], rfl, fun i o x hi hge => ?_, fun i j oi oj xi xj hi _ hge => ?_, env, h, by simpa using hup, by simpa only [dwp] using hw⟩
    · simp only [List.append_nil] at hi
      have := (List.getElem?_eq_some_iff.1 hi).1
      omega
    · simp only [List.append_nil] at hi
      have := (List.getElem?_eq_some_iff.1 hi).1
      omega
  | o :: r, L0, U, m, env, h, hops, hU, hup, hk0, hk1, hw => by
    obtain ⟨U0, Us, rfl, hU0⟩ : ∃ U0 Us, U = U0 :: Us ∧ U0 = unordRow ops.toList (ancs ops.toList []) L0.length o := by
      have := hU 0 o (by simp)
      cases U with
      | nil => simp at this
      | cons U0 Us => exact ⟨U0, Us, rfl, by simpa using this⟩
    -- one operation done: go on
    have go : ∀ (x : Ev1) (env1 : Env), (∀ t, lk env1 t = lk env t) → CO P ops.toList env1 h (base + m) o x → clear (L0.map fun p => p.2.tch) x.tch U0 = true →
        dwp P ops.toList base r Us (m + mkn o) (putD env1 o.dst x.r) (x.eff.ap h) ((L0.map fun p => p.2.tch) ++ [x.tch]) K →
        TraceOK P ops env0 h0 K L0 (o :: r) := by
      intro x env1 he hco hcl hrest
      have hx0 : hk o.op = 0 → x.tch.none := co_hk0 hco
      have hx1 : hk o.op = 1 → x.tch.wr = [] ∧ x.tch.all = false := co_hk1 hco
      obtain ⟨L1, g1, g2, g3, env', h', g4, g5⟩ := dwp_trace r (L0 ++ [(o, x)]) Us (m + mkn o) _ _ (by simp [hops]) (fun i o' hi => by
          have := hU (i + 1) o' (by simpa using hi)
          simpa [Nat.add_assoc, Nat.add_comm 1 i] using this) (hup.step o x he)
        (fun i o' x' hi h0 => by
          rw [List.getElem?_append] at hi
          split at hi
          · exact hk0 i o' x' hi h0
          · have : i - L0.length = 0 := by
              have := (List.getElem?_eq_some_iff.1 hi).1
              simp at this; omega
            rw [this] at hi
            simp only [List.getElem?_cons_zero, Option.some.injEq, Prod.mk.injEq] at hi
            obtain ⟨rfl, rfl⟩ := hi
            exact hx0 h0)
        (fun i o' x' hi h0 => by
          rw [List.getElem?_append] at hi
          split at hi
          · exact hk1 i o' x' hi h0
          · have : i - L0.length = 0 := by
              have := (List.getElem?_eq_some_iff.1 hi).1
              simp at this; omega
            rw [this] at hi
            simp only [List.getElem?_cons_zero, Option.some.injEq, Prod.mk.injEq] at hi
            obtain ⟨rfl, rfl⟩ := hi
            exact hx1 h0)
        (by simpa using hrest)
      refine ⟨(o, x) :: L1, by simp [g1], fun i o' x' hi hge => ?_, fun i j oi oj xi xj hi hj hge hji hb => ?_, env', h', by simpa using g4, g5⟩
      · by_cases hil : i = L0.length
        · subst hil
          have : o' = o ∧ x' = x := by simpa [eq_comm] using hi
          obtain ⟨rfl, rfl⟩ := this
          refine ⟨env1, h, base + m, fun t => ?_, fun k => ?_, hco⟩
          · rw [he t, hup.env t]
            have := fold_pre (uE L0 t) (uE ((o', x') :: L1) t) (lk env0 t)
            simp only [uE, List.length_map, List.map_append] at this ⊢
            exact this.symm
          · rw [hup.h k]
            have := fold_pre (uH L0 k) (uH ((o', x') :: L1) k) h0[k]?
            simp only [uH, List.length_map, List.map_append] at this ⊢
            exact this.symm
        · have := g2 i o' x' (by simpa using hi) (by simp; omega)
          simpa using this
      · by_cases hil : i = L0.length
        · subst hil
          have : oi = o ∧ xi = x := by simpa [eq_comm] using hi
          obtain ⟨rfl, rfl⟩ := this
          have hj0 : L0[j]? = some (oj, xj) := by rwa [List.getElem?_append_left hji] at hj
          have hoj : ops.toList[j]? = some oj := by
            rw [hops, List.getElem?_append_left (by simpa using hji)]
            simp [hj0]
          by_cases hjU : j ∈ U0
          · obtain ⟨y, h1, h2⟩ := clear_spec hcl j hjU
            simp only [List.getElem?_map, hj0, Option.map_some, Option.some.injEq] at h1
            rw [← h1] at h2
            exact h2
          · rw [hU0] at hjU
            simp only [unordRow, List.mem_filter, List.mem_range, not_and, hji, true_implies, hoj, Bool.and_eq_true, Bool.not_eq_true', bne_iff_ne, ne_eq, beq_iff_eq] at hjU
            have hb' : ((ancs ops.toList []).getD L0.length 0).testBit j = false := hb
            have hcase : hk oj.op = 0 ∨ hk oi.op = 0 ∨ (hk oj.op = 1 ∧ hk oi.op = 1) := by
              by_cases c1 : hk oj.op = 0
              · exact .inl c1
              · by_cases c2 : hk oi.op = 0
                · exact .inr (.inl c2)
                · by_cases c3 : hk oj.op = 1 ∧ hk oi.op = 1
                  · exact .inr (.inr c3)
                  · exfalso
                    have h9 := hjU hb'
                    simp [c1, c2] at h9
                    exact c3 h9
            rcases hcase with c | c | ⟨c1, c2⟩
            · exact none_apart (hk0 j oj xj hj0 c)
            · exact (none_apart (hx0 c)).symm
            · obtain ⟨a1, a2⟩ := hk1 j oj xj hj0 c1
              obtain ⟨b1, b2⟩ := hx1 c2
              refine ⟨fun k hk => ?_, fun k hk => ?_, fun hh => ?_, fun hh => ?_⟩
              · rw [a1] at hk; cases hk
              · rw [b1]; simp
              · rw [a2] at hh; cases hh
              · rw [b2] at hh; cases hh
        · exact g3 i j oi oj xi xj (by simpa using hi) (by simpa using hj) (by simp; omega) hji hb
    simp only [dwp, List.headD_cons, List.tail_cons] at hw
    have hpl : ∀ (env1 : Env), (∀ t, lk env1 t = lk env t) → gv ops.toList env1 o = some true →
        dop P env1 h (base + m) o.op (fun v eff rd => clear (L0.map fun p => p.2.tch) (tcOf eff rd) U0 = true ∧ dwp P ops.toList base r Us (m + mkn o) (putD env1 o.dst v) (eff.ap h) ((L0.map fun p => p.2.tch) ++ [tcOf eff rd]) K) → TraceOK P ops env0 h0 K L0 (o :: r) := fun env1 he hg hd => by
      obtain ⟨x, h1, h2, h3⟩ := dop_comes hd
      rw [tcOf_tch] at h2 h3
      exact go x env1 he (.inl ⟨hg, h1⟩) h2 h3
    have hsk : ∀ (env1 : Env), (∀ t, lk env1 t = lk env t) → gv ops.toList env1 o = some false →
        dwp P ops.toList base r Us (m + mkn o) (putD env1 o.dst (.tup [])) h ((L0.map fun p => p.2.tch) ++ [⟨[], [], false⟩]) K → TraceOK P ops env0 h0 K L0 (o :: r) := fun env1 he hg hd => by
      refine go ⟨.tup [], .wr [], []⟩ env1 he (.inr ⟨hg, rfl⟩) ?_ hd
      have : ∀ (T : List Tc) (l : List Nat), (∀ j ∈ l, j < T.length) → clear T (Ev1.tch ⟨.tup [], .wr [], []⟩) l = true := by
        intro T l
        induction l with
        | nil => intro _; rfl
        | cons j l ih =>
          intro hlt
          simp only [clear, Bool.and_eq_true]
          refine ⟨?_, ih fun j hj => hlt j (by simp [hj])⟩
          have := hlt j (by simp)
          rw [List.getElem?_eq_getElem this]
          have hd2 : ∀ (l : List Nat), disjB l [] = true := by
            intro l
            induction l with
            | nil => rfl
            | cons a l ih => simp [disjB, memB, ih]
          simp [apartB, Ev1.tch, hd2, Tc.isNone, isE]
      refine this _ _ fun j hj => ?_
      rw [hU0] at hj
      simp only [unordRow, List.mem_filter, List.mem_range] at hj
      simpa using hj.1
    cases hg : o.guard with
    | none =>
      simp only [hg] at hw
      exact hpl env (fun _ => rfl) (by simp [gv, hg]) hw
    | some g =>
      obtain ⟨j, w⟩ := g
      simp only [hg] at hw
      cases ht : gslot ops.toList j with
      | none => simp [ht] at hw
      | some t =>
        simp only [ht] at hw
        cases hb : lk env t <;> rw [hb] at hw <;> try exact hw.elim
        · rename_i b
          have hsame : ∀ (b' : Bool), b = b' → ∀ s, lk (put env t (.bool b')) s = lk env s := by
            intro b' hbb s
            rw [lk_put]
            split
            · rename_i hs; rw [hs, hb, hbb]
            · rfl
          by_cases hbw : b = w
          · refine hpl _ (hsame w hbw) ?_ (hw.1 hbw)
            simp [gv, hg, ht, lk_put]
          · have hbn : b = !w := by cases b <;> cases w <;> simp_all
            refine hsk _ (hsame _ hbn) ?_ (hw.2 hbn)
            simp [gv, hg, ht, lk_put]
        · rename_i vs
          cases vs with
          | cons _ _ => exact hw.elim
          | nil => exact hsk env (fun _ => rfl) (by simp [gv, hg, ht, hb]) hw

theorem dop_mono {env : Env} {h : List Entry} {s : Nat} {o : Op} {K K' : AV → Eff → List Nat → Prop} (hk : ∀ v e rd, K v e rd → K' v e rd) (hd : dop P env h s o K) : dop P env h s o K' := by
  have hwpo : ∀ (st : Stp) (acc : List Nat), st.wpo h (fun v wr rd => K v (.wr wr) rd) acc → st.wpo h (fun v wr rd => K' v (.wr wr) rd) acc := by
    intro st
    induction st with
    | fail => intro acc hw; exact hw
    | ret v wr => intro acc hw; exact hk _ _ _ hw
    | rd k f ih =>
      intro acc hw
      simp only [Stp.wpo] at hw ⊢
      cases he : h[k]? with
      | none => rw [he] at hw; exact hw
      | some e => rw [he] at hw; exact ih e _ hw
  unfold dop at hd ⊢
  split at hd
  · split at hd
    · exact ⟨fun h => hk _ _ _ (hd.1 h), fun h => hk _ _ _ (hd.2 h)⟩
    · exact hd
  · split at hd
    · obtain ⟨h1, h2, h3⟩ := hd
      refine ⟨h1, h2, ?_⟩
      rcases h3 with ⟨r, h3, h4⟩ | ⟨r, h', h3, h4⟩ | ⟨r, rd, h3, h4⟩
      · exact .inl ⟨r, h3, hk _ _ _ h4⟩
      · exact .inr (.inl ⟨r, h', h3, hk _ _ _ h4⟩)
      · exact .inr (.inr ⟨r, rd, h3, hk _ _ _ h4⟩)
    · exact hd
  · refine ⟨hd.1, ?_⟩
    by_cases hm : makes o = true
    · have h2 := hd.2
      rw [if_pos hm] at h2 ⊢
      exact ⟨h2.1, hwpo _ _ h2.2⟩
    · have h2 := hd.2
      rw [if_neg hm] at h2 ⊢
      exact hwpo _ _ h2

theorem dwp_mono {all : List Oper} {base : Nat} {K K' : Env → List Entry → Prop} (hk : ∀ e h, K e h → K' e h) : ∀ (l : List Oper) (U : List (List Nat)) (m : Nat) (env : Env) (h : List Entry) (T : List Tc), dwp P all base l U m env h T K → dwp P all base l U m env h T K'
  | [], U, m, env, h, T, hw => hk _ _ hw
  | o :: r, U, m, env, h, T, hw => by
    simp only [dwp] at hw ⊢
    split at hw
    · exact dop_mono (fun v e rd hh => ⟨hh.1, dwp_mono hk r _ _ _ _ _ hh.2⟩) hw
    · split at hw
      · exact hw
      · split at hw
        · exact ⟨fun hb => dop_mono (fun v e rd hh => ⟨hh.1, dwp_mono hk r _ _ _ _ _ hh.2⟩) (hw.1 hb), fun hb => dwp_mono hk r _ _ _ _ _ (hw.2 hb)⟩
        · exact dwp_mono hk r _ _ _ _ _ hw
        · exact hw

/-- What a region that draws its order owes. -/
def adraw (P : Program) (ops : List Oper) (env : Env) (h : List Entry) (K : Env → List Entry → Prop) : Prop :=
  P.follows .mixedOrders = true ∧ drawOK ops.toArray = true ∧ dwp P ops h.length ops (unords ops) 0 env (h ++ holes (mkc ops)) [] K

theorem adraw_mono {ops : List Oper} {K K' : Env → List Entry → Prop} (hk : ∀ r h', K r h' → K' r h') {env : Env} {h : List Entry} (hw : adraw P ops env h K) : adraw P ops env h K' :=
  ⟨hw.1, hw.2.1, dwp_mono hk _ _ _ _ _ _ hw.2.2⟩

theorem adraw_sound (hP : WF P) {n id : Nat} {ops : Array Oper} (hall : ∀ o ∈ ops.toList, dstOK n o = true) {Q : Exit → Act → World → Prop} {K : Env → List Entry → Prop} {c : Cx} {env : Env} {a : Act} (hs : St P n c env a)
    (hw : adraw P ops.toList env c.h K) (hq : ∀ a' c' env', St P n c' env' a' → Ext c c' → K env' c'.h → Q .normal a' c'.w) : (Code.region id ops true).wp P Q a c.w := by
  obtain ⟨hm, hok, hd⟩ := hw
  have x1 := ext_drew (c := c) 1
  have hr1 := hr_drew hs.hr 1
  have x2 := ext_holes (c := { c with w := drewN c.w 1 }) (mkc ops.toList)
  have hr2 := hr_holes hr1 (mkc ops.toList)
  have hx := x1.trans x2
  have hs2 := hs.mono hx hr2
  obtain ⟨L, g1, g2, g3, envF, hF, g4, g5⟩ := dwp_trace (P := P) (ops := ops) (base := c.h.length) (env0 := env) (h0 := c.h ++ holes (mkc ops.toList)) (K := K) ops.toList [] (unords ops.toList) 0 env (c.h ++ holes (mkc ops.toList)) (by simp)
    (fun i o hi => by simp [unords, List.getElem?_zipIdx, hi]) ⟨fun t => by simp [uE, fold], fun k => by simp [uH, fold]⟩ (fun i o x hi => by simp at hi) (fun i o x hi => by simp at hi) (by simpa using hd)
  simp only [List.nil_append] at g1 g2 g3 g4
  have hlen : L.length = ops.size := by rw [← List.length_map (f := fun p : Oper × Ev1 => p.1), g1]; simp
  refine wp_region_any hm ?_
  have key := draw_core hP (L := L) hall (by simpa using hok) (fun i o hi => by
      have hlt : i < L.length := by rw [hlen]; exact (Array.getElem?_eq_some_iff.1 hi).1
      refine ⟨L[i].2, ?_⟩
      rw [List.getElem?_eq_getElem hlt]
      have h1 : (L.map (·.1))[i]? = some o := by rw [g1]; simpa using hi
      rw [List.getElem?_map, List.getElem?_eq_getElem hlt] at h1
      simp only [Option.map_some, Option.some.injEq] at h1
      rw [← h1])
    (fun i o x hi => by
      have h1 : (L.map (·.1))[i]? = some o := by rw [List.getElem?_map, hi]; rfl
      rw [g1] at h1
      simpa using h1) (env0 := env) (h0 := c.h ++ holes (mkc ops.toList)) (c0 := c)
    (fun i o x hi => g2 i o x hi (Nat.zero_le _)) (fun i j oi oj xi xj hi hj => g3 i j oi oj xi xj hi hj (Nat.zero_le _)) (Q := Q)
    (fun a' c' env' h1 h2 h3 h4 => by
      have e1 : ∀ t, lk envF t = lk env' t := fun t => by rw [g4.env t, h3 t]
      have e2 : c'.h = hF := List.ext_getElem? fun k => by rw [h4 k, g4.h k]
      refine hq a' c' envF ⟨h1.hr, fun t => by rw [e1 t]; exact h1.er t, h1.size, h1.defers⟩ h2 (by rw [e2]; exact g5))
    ops.size (Array.replicate ops.size false) a { c with w := drewN c.w 1, h := c.h ++ holes (mkc ops.toList) } env (by simp) (by simp) ?_ hs2 hx ?_ ?_
  · exact key
  · intro i o hi hsel
    simp only [selOf] at hsel
    exfalso
    simp [Array.getD_eq_getD_getElem?, Array.getElem?_replicate] at hsel
    revert hsel
    split <;> simp
  · intro t
    rw [fold_id]
    intro j u hj hsel
    exfalso
    simp [selOf, Array.getD_eq_getD_getElem?, Array.getElem?_replicate] at hsel
    revert hsel
    split <;> simp
  · intro k
    rw [fold_id]
    intro j u hj hsel
    exfalso
    simp [selOf, Array.getD_eq_getD_getElem?, Array.getElem?_replicate] at hsel
    revert hsel
    split <;> simp
end
end Go.Abs
