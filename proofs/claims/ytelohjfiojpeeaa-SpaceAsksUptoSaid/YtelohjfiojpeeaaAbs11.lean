/- Abs11: a part of the proofs about the tuple space (layer 8). -/
import Derived.Test.YtelohjfiojpeeaaAbs10
set_option linter.all false
namespace Go.Abs
open Go
section
variable {P : Program}

theorem plain_parts {c : Cx} {a : AV} {v : Value} (h : VV P c a v) (hp : plainAV a = true) : isAgg a = Value.isAgg v ∧ Rep P c a v.cells.toList := by
  cases a <;> first | exact h | (simp [plainAV] at hp)

theorem repV_map {c : Cx} {env : List (Nat × AV)} {a : Act} (he : ER P c env a.tmps) : ∀ (xs : List Operand), (xs.map (ev env)).all plainAV = true → RepV P c (xs.map (ev env)) (xs.map a.eval)
  | [], _ => by simp only [List.map_nil, RepV]
  | x :: xs, h => by
    simp only [List.map_cons, List.all_cons, Bool.and_eq_true] at h
    simp only [List.map_cons, RepV]
    obtain ⟨h1, h2⟩ := plain_parts (ev_vv he x) h.1
    exact ⟨_, _, rfl, h1, h2, repV_map he xs h.2⟩

theorem pairs_keys {env : List (Nat × AV)} {a : Act} (ps : Array (Nat × Operand)) : (pairs env ps).map (·.1) = (ps.map fun (x : Nat × Operand) => (x.1, a.eval x.2)).toList.map (·.1) := by
  simp [pairs]

theorem pairs_vv {c : Cx} {env : List (Nat × AV)} {a : Act} (he : ER P c env a.tmps) (ps : Array (Nat × Operand)) : ∀ (k : Nat) (p : Nat × AV) (v : Nat × Value), (pairs env ps)[k]? = some p →
    (ps.map fun (x : Nat × Operand) => (x.1, a.eval x.2)).toList[k]? = some v → VV P c p.2 v.2 := by
  intro k p v hp hv
  simp only [pairs, List.getElem?_map, Option.map_eq_some_iff, Array.toList_map] at hp hv
  obtain ⟨x, hx, rfl⟩ := hp
  obtain ⟨y, hy, rfl⟩ := hv
  rw [hx] at hy
  cases hy
  exact ev_vv he x.2

theorem ov_map {c : Cx} {env : List (Nat × AV)} {a : Act} (he : ER P c env a.tmps) (o : Option Operand) : OV P c (o.map (ev env)) (o.map a.eval) := by
  cases o with
  | none => exact trivial
  | some x => exact ev_vv he x

theorem step_sound (hP : WF P) {c : Cx} (hr : HR P c) {env : List (Nat × AV)} {a : Act} (he : ER P c env a.tmps) {s : Nat} (o : Oper) (hh : makes o.op = true → ∃ e0, c.h[s]? = some e0 ∧ e0.st = .hole) {r : AV} {wr : List (Nat × Entry)}
    (h : (step P env s o.op).run c.h = some (r, wr)) : ROK P c r wr ((execOp a.eval o).run P c.w) := by
  cases hop : o.op <;> rw [hop] at h <;> simp only [step] at h <;> try exact (stp_fail h).elim
  case move x => obtain ⟨rfl, rfl⟩ := stp_ret h; simp only [execOp, hop, Sem.run_pure, ROK]; exact done_pure hr (ev_vv he x)
  case assign x => obtain ⟨rfl, rfl⟩ := stp_ret h; simp only [execOp, hop, Sem.run_pure, ROK]; exact done_pure hr (ev_vv he x)
  case pick x y z =>
    have hx := ev_vv he x
    cases hb : ev env x <;> rw [hb] at h <;> try exact (stp_fail h).elim
    rename_i b
    rw [hb] at hx
    have hx := vv_bool hx
    cases b
    · obtain ⟨rfl, rfl⟩ := stp_ret h
      simp only [execOp, hop, hx, asBool, Sem.run_bind, Sem.run_pure, Result.andThen_ok, ROK]
      exact done_pure hr (ev_vv he z)
    · obtain ⟨rfl, rfl⟩ := stp_ret h
      simp only [execOp, hop, hx, asBool, Sem.run_bind, Sem.run_pure, Result.andThen_ok, ROK]
      exact done_pure hr (ev_vv he y)
  case alloc T =>
    obtain ⟨e0, hs, h0⟩ := hh (by rw [hop]; rfl)
    replace h := stp_ite h; obtain ⟨hz, h⟩ := h
    obtain ⟨rfl, rfl⟩ := stp_ret h
    obtain ⟨v, w', h1, h2⟩ := alloc_sound hP hr hs h0 hz
    simp only [execOp, hop]
    exact rok_value h1 h2
  case box T x =>
    obtain ⟨e0, hs, h0⟩ := hh (by rw [hop]; rfl)
    replace h := stp_ite h; obtain ⟨ht, h⟩ := h
    obtain ⟨rfl, rfl⟩ := stp_ret h
    obtain ⟨v, w', h1, h2⟩ := box_sound hP hr hs h0 ht (ev_vv he x)
    simp only [execOp, hop]
    exact rok_value h1 h2
  case build T ps =>
    obtain ⟨rfl, z, h1, h2⟩ := build_sound hP (pairs_keys ps) (pairs_vv he ps) h
    simp only [execOp, hop]
    exact rok_value h1 (done_pure hr h2)
  case buildSlice T n ps =>
    obtain ⟨e0, hs, h0⟩ := hh (by rw [hop]; rfl)
    obtain ⟨z, w', h1, h2⟩ := buildSlice_sound hP hr hs h0 (pairs_keys ps) (pairs_vv he ps) h
    simp only [execOp, hop]
    exact rok_value h1 h2
  case load T x =>
    obtain ⟨rfl, z, h1, h2⟩ := load_sound hP hr (ev_vv he x) h
    simp only [execOp, hop]
    exact rok_value h1 (done_pure hr h2)
  case store T x y =>
    obtain ⟨w', h1, h2⟩ := store_sound hP hr (ev_vv he x) (ev_vv he y) h
    simp only [execOp, hop]
    exact rok_unit h1 h2
  case nilCheck x =>
    obtain ⟨rfl, h1, h2, h3, h4, h5⟩ := nilCheck_sound (ev_vv he x) h
    simp only [execOp, hop]
    have : ROK P c r [] (Result.ok (Next.value (a.eval x)) c.w) := done_pure hr h5
    cases hx : a.eval x <;> rw [hx] at h1 h2 h3 h4 this <;> (try simp only [Sem.run_pure]) <;> try exact this
    case nilIface => exact absurd rfl h3
    case nilFunc => exact absurd rfl h4
    case func fn first caps =>
      obtain ⟨f, rfl⟩ := h1 fn first caps rfl
      exact this
  case binOp op T x y T2 =>
    obtain ⟨rfl, z, h1, h2⟩ := bin_sound (xo := x) (yo := y) hP (ev_vv he x) (ev_vv he y) h
    simp only [execOp, hop]
    exact rok_value h1 (done_pure hr h2)
  case unOp op T x =>
    obtain ⟨rfl, z, h1, h2⟩ := un_sound (ev_vv he x) h
    simp only [execOp, hop]
    exact rok_value h1 (done_pure hr h2)
  case convert S T x =>
    obtain ⟨rfl, z, h1, h2⟩ := conv_sound (ev_vv he x) h
    simp only [execOp, hop]
    exact rok_value h1 (done_pure hr h2)
  case makeFunc fn first caps =>
    cases fn <;> (try simp only at h) <;> try exact (stp_fail h).elim
    rename_i f
    replace h := stp_ite h; obtain ⟨⟨hf, hc⟩, h⟩ := h
    obtain ⟨rfl, rfl⟩ := stp_ret h
    subst hf
    simp only [execOp, hop]
    refine rok_value (v := .func (.func f) #[] (caps.map a.eval)) (by simp [Instr.makeFunc]) (done_pure hr ?_)
    refine (vv_cell rfl (by simp) (by simp)).2 ⟨rfl, ?_⟩
    simp only [Rep]
    exact ⟨caps.toList.map a.eval, by simp [← Array.toList_map], repV_map he caps.toList hc⟩
  case makeSlice T l k =>
    obtain ⟨e0, hs, h0⟩ := hh (by rw [hop]; rfl)
    obtain ⟨z, w', h1, h2⟩ := makeSlice_sound hP hr hs h0 (ev_vv he l) (ev_vv he k) h
    simp only [execOp, hop]
    exact rok_value h1 h2
  case slice T x lo hi mx =>
    replace h := stp_ite h; obtain ⟨hm, h⟩ := h
    obtain ⟨rfl, z, h1, h2⟩ := slice_sound hP hr (ev_vv he x) (ov_map he lo) (ov_map he hi) (ov_map he mx) (by cases mx <;> cases hi <;> simp_all) h
    simp only [execOp, hop]
    exact rok_value h1 (done_pure hr h2)
  case fieldAddr T x i =>
    replace h := stp_ite h; obtain ⟨hT, h⟩ := h
    obtain ⟨rfl, z, h1, h2⟩ := fieldAddr_sound hP hr hT (ev_vv he x) h
    simp only [execOp, hop]
    exact rok_value h1 (done_pure hr h2)
  case field T x i =>
    replace h := stp_ite h; obtain ⟨hT, h⟩ := h
    obtain ⟨rfl, z, h1, h2⟩ := field_sound hP hT (ev_vv he x) h
    simp only [execOp, hop]
    exact rok_value h1 (done_pure hr h2)
  case indexAddr T x i =>
    obtain ⟨rfl, z, h1, h2⟩ := indexAddr_sound hP (ev_vv he x) (ev_vv he i) h
    simp only [execOp, hop]
    exact rok_value h1 (done_pure hr h2)
  case index T x i =>
    obtain ⟨rfl, z, h1, h2⟩ := index_sound hP (ev_vv he x) (ev_vv he i) h
    simp only [execOp, hop]
    exact rok_value h1 (done_pure hr h2)
  case extract x i =>
    obtain ⟨rfl, z, h1, h2⟩ := extract_sound (ev_vv he x) h
    simp only [execOp, hop]
    exact rok_value h1 (done_pure hr h2)
  case call cl =>
    obtain ⟨cal, args, ats⟩ := cl
    cases cal <;> (try simp only at h) <;> try exact (stp_fail h).elim
    rename_i b
    have hex : execOp a.eval o = builtin b ats o.type (args.map fun | .const _ => true | _ => false) (args.map a.eval) := by
      unfold execOp
      rw [hop]
      rfl
    rw [hex]
    simp only [evs] at h
    have hargs : args.map a.eval = (args.toList.map a.eval).toArray := by rw [← Array.toList_map]
    rw [hargs]
    generalize hal : args.toList = al at h ⊢
    unfold stBuiltin at h
    split at h
    · rename_i T ts x e1 e2
      match al, e2 with
      | [x0], e2 =>
        simp only [List.map_cons, List.map_nil, List.cons.injEq, and_true] at e2
        subst e2
        obtain ⟨rfl, z, h1, h2⟩ := len_sound (ts := ats) (ty := o.type) (by rw [← Array.getElem?_toList, e1]; rfl) (ev_vv he x0) h
        simp only [builtin, List.map_cons, List.map_nil]
        exact rok_value h1 (done_pure hr h2)
    · rename_i ts x y e2
      match al, e2 with
      | [x0, y0], e2 =>
        simp only [List.map_cons, List.map_nil, List.cons.injEq, and_true] at e2
        obtain ⟨rfl, rfl⟩ := e2
        obtain ⟨rfl, z, h1, h2⟩ := min_sound (ts := ats) (ty := o.type) (ev_vv he x0) (ev_vv he y0) h
        simp only [builtin, List.map_cons, List.map_nil]
        exact rok_value h1 (done_pure hr h2)
    · rename_i ts x y e2
      match al, e2 with
      | [x0, y0], e2 =>
        simp only [List.map_cons, List.map_nil, List.cons.injEq, and_true] at e2
        obtain ⟨rfl, rfl⟩ := e2
        obtain ⟨rfl, z, h1, h2⟩ := max_sound (ts := ats) (ty := o.type) (ev_vv he x0) (ev_vv he y0) h
        simp only [builtin, List.map_cons, List.map_nil]
        exact rok_value h1 (done_pure hr h2)
    · rename_i T ts x e1 e2
      match al, e2 with
      | [x0], e2 =>
        simp only [List.map_cons, List.map_nil, List.cons.injEq, and_true] at e2
        subst e2
        obtain ⟨z, w', h1, h2⟩ := clear_sound (ts := ats) (ty := o.type) hP hr (by rw [← Array.getElem?_toList, e1]; rfl) (ev_vv he x0) h
        simp only [builtin, List.map_cons, List.map_nil]
        exact rok_value h1 h2
    · rename_i T T2 x y e1 e2
      match al, e2 with
      | [x0, y0], e2 =>
        simp only [List.map_cons, List.map_nil, List.cons.injEq, and_true] at e2
        obtain ⟨rfl, rfl⟩ := e2
        replace h := stp_ite h; obtain ⟨hT2, h⟩ := h
        obtain ⟨e0, hs, h0⟩ := hh (by rw [hop]; rfl)
        obtain ⟨z, w', h1, h2⟩ := append_sound (ty := o.type) hP hr hs h0 hT2 (ev_vv he x0) (ev_vv he y0) h
        have hats : ats = #[T, T2] := by apply Array.ext'; simpa using e1
        simp only [builtin, List.map_cons, List.map_nil, hats]
        exact rok_value h1 h2
    · exact (stp_fail h).elim
end
end Go.Abs
