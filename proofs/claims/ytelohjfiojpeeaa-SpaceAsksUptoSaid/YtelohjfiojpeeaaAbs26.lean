/- Abs26: a part of the proofs about the tuple space (layer 8). -/
import Derived.Test.YtelohjfiojpeeaaAbs25
set_option linter.all false
namespace Go.Abs
open Go
section
variable {P : Program}
/-! ### Functions that write what their caller owns -/
/-- what the end of a function owes, with the entries as they are then -/
def FinK (P : Program) (rs : List ResultVar) (K : AV → List Entry → Prop) : APost := fun e env' h' => e.fin = true ∧ ares P rs env' h' (one fun r => K r h')
theorem fk_tmp (t : Tmp) (K : AV → List Entry → Prop) (e : AEx) (env : Env) (h' : List Entry) : FinK P [.tmp t] K e env h' = (e.fin = true ∧ K (lk env t) h') := rfl
theorem fk_nil (K : AV → List Entry → Prop) (e : AEx) (env : Env) (h' : List Entry) : FinK P [] K e env h' = (e.fin = true ∧ K (.tup []) h') := by simp [FinK, ares, one]
def CellK (P : Program) (s : Stp) (h : List Entry) (K : AV → Prop) : Prop := s.wp h fun v _ => K v
theorem fk_ct (t u : Tmp) (T : TypeId) (K : AV → List Entry → Prop) (e : AEx) (env : Env) (h' : List Entry) : FinK P [.cell t T, .tmp u] K e env h' = (e.fin = true ∧ CellK P (stLoad T (lk env t)) h' fun v => [v, lk env u].all plainAV = true ∧ K (.tup [v, lk env u]) h') := rfl
def CellKO (P : Program) (o : Option Entry) (f : Entry → Stp) (h : List Entry) (K : AV → Prop) : Prop := match o with | some e => CellK P (f e) h K | none => False
theorem ck_rd (k : Nat) (f : Entry → Stp) (h : List Entry) (K : AV → Prop) : CellK P (.rd k f) h K = CellKO P h[k]? f h K := by
  simp only [CellK, Stp.wp, CellKO]
  cases h[k]? <;> rfl
theorem ck_some (e : Entry) (f : Entry → Stp) (h : List Entry) (K : AV → Prop) : CellKO P (some e) f h K = CellK P (f e) h K := rfl
theorem ck_ret (v : AV) (h : List Entry) (K : AV → Prop) : CellK P (.ret v []) h K = K v := rfl

theorem fs_run (hP : WF P) {f : FuncId} {fn : Func} {x : Code} {args : List AV} {h : List Entry} {K : AV → List Entry → Prop} (ks : List Nat) (hf : P.funcs[f]? = some fn) (rs : List ResultVar) (hb : fn.body = some x) (hrs : fn.results.toList = rs) (hc : callable P f = true)
    (hok : codeOK fn.ntmps x = true) {m : Nat} (hm : fn.ntmps = m) (hn : args.length ≤ m) (hw : Rn P [.code x] .normal (env0 0 args ks) h (FinK P rs K)) : FSpec P f args h K := by
  subst hrs; subst hm
  exact fspec_code hP ks hf hb hc hok hn hw

section
variable {env : Env} {h : List Entry} {s : List Ctl} {d : Option Tmp} {Q : APost} {D : DC}
theorem k_spec {g : FuncId} {args raw : List AV} {K : AV → List Entry → Prop} (hp : FSpec P g args h K) (hk : ∀ r h', K r h' → Rn P s .normal (putD env d r) h' Q) : Rk P g args raw d s env h Q := .inl (hp.mono hk)
theorem k_raw {g : FuncId} {args raw : List AV} {K : AV → List Entry → Prop} (hp : FSpec P g raw h K) (hk : ∀ r h', K r h' → Rn P s .normal (putD env d r) h' Q) : Rk P g args raw d s env h Q := .inr (hp.mono hk)
theorem k_det {g : FuncId} {args raw : List AV} {r : AV} {h' : List Entry} (hp : FSpec P g args h fun r' h'' => r' = r ∧ h'' = h') (hk : Rn P s .normal (putD env d r) h' Q) : Rk P g args raw d s env h Q := .inl (hp.mono fun r' h'' ⟨e1, e2⟩ => by rw [e1, e2]; exact hk)
/-- two results or more, without effect -/
theorem fn_tup (hP : WF P) {f : FuncId} {args : List AV} {R : AV → Prop} (hs : ∀ h, FSpec P f args h fun r h' => h'.take h.length = h ∧ ∃ l, r = .tup l ∧ belowL h.length (rzL h' h.length l) = true ∧ R (.tup (rzL h' h.length l))) : Pure P f args R := by
  intro h
  refine (hs h).trim_tup hP ?_
  rintro r h' ⟨g1, l, rfl, g3, g4⟩
  refine ⟨fun k e hk he => .inl ?_, l, rfl, g3, g1, g4⟩
  have : (h'.take h.length)[k]? = h[k]? := by rw [g1]
  rw [List.getElem?_take, if_pos hk, he] at this
  exact this.symm
theorem pure_wk_tup {f : FuncId} {args : List AV} {R : AV → Prop} (ts : List TypeId) {l1 : List AV} (hf : Pure P f args R) (hR : ∀ r, R r → ∃ l, r = .tup l ∧ argsOK P ts l ∧ wks P ts l = l1) : Fn P f args (.tup l1) := by
  intro h
  obtain ⟨hc, hs⟩ := hf h
  refine ⟨hc, fun κ w vs hr hv => (hs κ w vs hr hv).mono ?_⟩
  rintro e w' ⟨v, r, h', κ', rfl, h1, h2, h3, h4, h5⟩
  obtain ⟨l, rfl, ht, hw⟩ := hR r h5
  subst hw
  refine ⟨v, .tup (wks P ts l), h', κ', rfl, h1, h2, ?_, h4, rfl⟩
  simp only [VV] at h3 ⊢
  obtain ⟨l', rfl, h3⟩ := h3
  exact ⟨l', rfl, wks_rep ts l l' ht h3⟩
end

/-! ### What is known of entries -/
theorem ap_lo {h l : List Entry} {k : Nat} (hk : k < h.length) : (h ++ l)[k]? = h[k]? := List.getElem?_append_left hk
theorem st_lo {h l : List Entry} {k : Nat} {e : Entry} (hk : k < h.length) : (h ++ l).set k e = h.set k e ++ l := set_lo e hk
theorem st_ne {h : List Entry} {i j : Nat} {e : Entry} (hne : i ≠ j) : (h.set i e)[j]? = h[j]? := List.getElem?_set_ne hne
theorem st_eq {h : List Entry} {i : Nat} {e : Entry} (hi : i < h.length) : (h.set i e)[i]? = some e := List.getElem?_set_self hi
theorem st_st {h : List Entry} {i : Nat} {e e' : Entry} : (h.set i e).set i e' = h.set i e' := List.set_set ..
theorem len_st {h : List Entry} {i : Nat} {e : Entry} : (h.set i e).length = h.length := List.length_set ..
theorem ne_hi {k n : Nat} (hk : k < n) (i : Nat) : (k = n + i) = False := by simp; omega
theorem ne_hi' {k n : Nat} (hk : k < n) (i : Nat) : (n + i = k) = False := by simp; omega
theorem ne_h {k n : Nat} (hk : k < n) : (k = n) = False := by simp; omega
theorem ne_h' {k n : Nat} (hk : k < n) : (n = k) = False := by simp; omega
theorem ne_f {a b : Nat} (h : a ≠ b) : (a = b) = False := by simp [h]
theorem at_set {h l : List Entry} {k i : Nat} {e : Entry} : (h.set k e ++ l)[h.length + i]? = l[i]? := by
  have := get_at (h.set k e) l i
  rwa [List.length_set] at this
theorem at_set0 {h l : List Entry} {k : Nat} {e : Entry} : (h.set k e ++ l)[h.length]? = l[0]? := by
  have := get_at0 (h.set k e) l
  rwa [List.length_set] at this
theorem at_set2 {h l : List Entry} {k k' i : Nat} {e e' : Entry} : ((h.set k e).set k' e' ++ l)[h.length + i]? = l[i]? := by
  have := get_at ((h.set k e).set k' e') l i
  simpa using this
theorem sst {h l : List Entry} {k i : Nat} {e e' : Entry} : (h.set k e ++ l).set (h.length + i) e' = h.set k e ++ l.set i e' := by
  have := set_at (h.set k e) l i e'
  rwa [List.length_set] at this
theorem lt_some {h : List Entry} {k : Nat} {e : Entry} (hk : h[k]? = some e) : k < h.length := (List.getElem?_eq_some_iff.1 hk).1

/-- of the entries that were there, all but some are as they were -/
structure Keeps (X : Nat → Prop) (h h' : List Entry) : Prop where
  len : h.length ≤ h'.length
  old : ∀ j, j < h.length → ¬ X j → h'[j]? = h[j]?
def grow (X : Nat → Prop) (h h' : List Entry) : Nat → Prop := fun j => X j ∨ (h.length ≤ j ∧ j < h'.length)
theorem Keeps.refl (X : Nat → Prop) (h : List Entry) : Keeps X h h := ⟨Nat.le_refl _, fun _ _ _ => rfl⟩
theorem Keeps.trans {X : Nat → Prop} {h h' h'' : List Entry} (a : Keeps X h h') (b : Keeps (grow X h h') h' h'') : Keeps X h h'' :=
  ⟨Nat.le_trans a.len b.len, fun j hj hx => (b.old j (Nat.lt_of_lt_of_le hj a.len) (fun hg => hg.elim hx fun h1 => by have := h1.1; omega)).trans (a.old j hj hx)⟩
theorem grow_grow {X : Nat → Prop} {h h' h'' : List Entry} (h1 : h.length ≤ h'.length) (h2 : h'.length ≤ h''.length) : grow (grow X h h') h' h'' = grow X h h'' := by
  funext j
  apply propext
  simp only [grow]
  constructor
  · rintro ((a | ⟨a, b⟩) | ⟨a, b⟩)
    · exact .inl a
    · exact .inr ⟨a, by omega⟩
    · exact .inr ⟨by omega, b⟩
  · rintro (a | ⟨a, b⟩)
    · exact .inl (.inl a)
    · by_cases hj : j < h'.length
      · exact .inl (.inr ⟨a, hj⟩)
      · exact .inr ⟨by omega, b⟩
theorem grow_self {X : Nat → Prop} {h : List Entry} : grow X h h = X := by
  funext j
  apply propext
  simp only [grow]
  constructor
  · rintro (a | ⟨a, b⟩)
    · exact a
    · omega
  · exact .inl
theorem Keeps.get {X : Nat → Prop} {h h' : List Entry} (a : Keeps X h h') {j : Nat} {e : Entry} (he : h[j]? = some e) (hx : ¬ X j) : h'[j]? = some e := (a.old j (lt_some he) hx).trans he
theorem Keeps.take {X : Nat → Prop} {h h' : List Entry} (a : Keeps X h h') {n : Nat} (hn : n ≤ h.length) (hx : ∀ j, X j → n ≤ j) : h'.take n = h.take n := by
  apply List.ext_getElem?
  intro j
  rw [List.getElem?_take, List.getElem?_take]
  split
  · exact a.old j (by omega) fun hj => by have := hx j hj; omega
  · rfl

/-- a slice that is nil or looks into a row that may be written -/
inductive View (X : Nat → Prop) (h : List Entry) (T : TypeId) : AV → List AV → Prop where
  | nil : View X h T .nils []
  | win {k lo : Nat} {l z : List AV} (hx : X k) (hk : h[k]? = some ⟨T, l ++ z, .own⟩) : View X h T (.win k [] T 0 l.length lo) l
theorem View.mono {X X' : Nat → Prop} {h h' : List Entry} {T : TypeId} {v : AV} {l : List AV} (hv : View X h T v l) (hX : ∀ j, X j → X' j) (hg : ∀ j es, X j → h[j]? = some ⟨T, es, .own⟩ → h'[j]? = some ⟨T, es, .own⟩) : View X' h' T v l := by
  cases hv with
  | nil => exact .nil
  | win hx hk => exact .win (hX _ hx) (hg _ _ hx hk)
theorem View.ty {X : Nat → Prop} {h : List Entry} {T U : TypeId} {v : AV} {l : List AV} (hv : View X h T v l) (hU : shapeT P U = .slice T) : tyB P v U = true := by
  cases hv with
  | nil => rw [ty_nils, hU]; rfl
  | win => rw [ty_win, hU]; simp
theorem View.pl {X : Nat → Prop} {h : List Entry} {T : TypeId} {v : AV} {l : List AV} (hv : View X h T v l) : plainAV v = true := by cases hv <;> rfl
/-- a slice that is read -/
theorem View.bw {X : Nat → Prop} {h : List Entry} {T : TypeId} {v : AV} {l : List AV} (hv : View X h T v l) (hd : datL l = true) (n : Nat) : bw h (n + 1) v = .list T l ∨ (l = [] ∧ bw h (n + 1) v = .nils) := by
  cases hv with
  | nil => exact .inr ⟨rfl, rfl⟩
  | win hx hk =>
    left
    rw [bw_winE, hk, bwWin_own]
    have : winGet (l ++ ‹_›) [] 0 l.length = some l := by simp [winGet]
    rw [this, bwWinO_some, datL_bw l n hd]
theorem View.rz {X : Nat → Prop} {h : List Entry} {T : TypeId} {v : AV} {l : List AV} {n : Nat} (hv : View X h T v l) (hn : ∀ j, X j → n ≤ j) (hd : datL l = true) : rz h n v = .list T l ∨ (l = [] ∧ rz h n v = .nils) := by
  cases hv with
  | nil => exact .inr ⟨rfl, by simp only [Go.Abs.rz]⟩
  | win hx hk =>
    left
    have : winGet (l ++ ‹_›) [] 0 l.length = some l := by simp [winGet]
    simp only [Go.Abs.rz, if_pos (hn _ hx), hk, liveB, if_true, this]
theorem View.set {X : Nat → Prop} {h : List Entry} {T : TypeId} {v : AV} {l : List AV} (hv : View X h T v l) {k : Nat} {e0 : Entry} (hk : h[k]? = some e0) (hT : e0.T ≠ T) (E : Entry) : View X (h.set k E) T v l :=
  hv.mono (fun _ h => h) fun j es _ hj => by
    have : k ≠ j := by rintro rfl; rw [hk] at hj; cases hj; exact hT rfl
    rw [List.getElem?_set_ne this]; exact hj
theorem View.app {X : Nat → Prop} {h : List Entry} {T : TypeId} {v : AV} {l : List AV} (hv : View X h T v l) (r : List Entry) : View X (h ++ r) T v l :=
  hv.mono (fun _ h => h) fun j es _ hj => by rw [List.getElem?_append_left (lt_some hj)]; exact hj
theorem View.up {X Y : Nat → Prop} {h : List Entry} {T : TypeId} {v : AV} {l : List AV} (hv : View X h T v l) (hX : ∀ j, X j → Y j) : View Y h T v l := hv.mono hX fun _ _ _ h => h
theorem Keeps.sets {X : Nat → Prop} {h : List Entry} {k : Nat} (hx : X k) (E : Entry) (l : List Entry) : Keeps X h (h.set k E ++ l) :=
  ⟨by simp, fun j hj hn => by rw [List.getElem?_append_left (by simpa using hj), List.getElem?_set_ne (by rintro rfl; exact hn hx)]⟩
theorem Keeps.sets2 {X : Nat → Prop} {h : List Entry} {k k' : Nat} (hx : X k) (hx' : X k') (E E' : Entry) (l : List Entry) : Keeps X h ((h.set k E).set k' E' ++ l) :=
  ⟨by simp, fun j hj hn => by rw [List.getElem?_append_left (by simpa using hj), List.getElem?_set_ne (by rintro rfl; exact hn hx'), List.getElem?_set_ne (by rintro rfl; exact hn hx)]⟩
theorem grow_up {X : Nat → Prop} {h h' : List Entry} : ∀ j, X j → grow X h h' j := fun j h => .inl h
theorem grow_bd {X : Nat → Prop} {h h' : List Entry} (hb : ∀ j, X j → j < h.length) (hl : h.length ≤ h'.length) : ∀ j, grow X h h' j → j < h'.length := by
  rintro j (a | ⟨a, b⟩)
  · have := hb j a; omega
  · exact b
end
end Go.Abs
