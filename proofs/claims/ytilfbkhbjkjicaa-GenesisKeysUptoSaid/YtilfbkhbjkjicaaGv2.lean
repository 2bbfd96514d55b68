/- Gv2: a part of the proofs about the tuple space and its bytes. -/
import Derived.Test.YtilfbkhbjkjicaaGu
set_option linter.all false
set_option maxRecDepth 100000
set_option maxHeartbeats 0
namespace Go.Abs
open Go
open Go.Proofs.Try (prog)
/-! ### chirographlaw10.GenesisKeys -/
def keysG (k : Int) (Ks : List (List UInt8)) : Gen := ⟨k, 1, 2, Ks, []⟩
theorem keysG_small (k : Int) (Ks : List (List UInt8)) (h1 : Ks.length ≤ 10) (h2 : ∀ x ∈ Ks, x.length = 56) : (keysG k Ks).Small := ⟨by show Ks.length ≤ _; omega, fun x hx => by rw [h2 x hx]; omega, by simp [keysG]⟩
def fK10 : List (List UInt8) := (fakeG 3 1 2).Keys
theorem fK10_len : fK10.length = 10 := rfl
theorem fK10_56 {x : List UInt8} (h : x ∈ fK10) : x.length = 56 := by
  simp only [fK10, fakeG, List.mem_map] at h
  obtain ⟨i, _, rfl⟩ := h
  exact fakeK_len i
theorem fK10_form {x : List UInt8} (h : x ∈ fK10) : formK x = true := by
  simp only [fK10, fakeG, List.mem_map, List.mem_range] at h
  obtain ⟨i, hi, rfl⟩ := h
  exact formK_fake i (by omega)
theorem form_turn (i : Nat) (hi : i < 56) : formK ((fakeK 0).set i ((fakeK 0).getD i 0 ^^^ 128)) = decide (8 ≤ i) := by
  have : ∀ j : _root_.Fin 56, formK ((fakeK 0).set j.val ((fakeK 0).getD j.val 0 ^^^ 128)) = decide (8 ≤ j.val) := by decide +kernel
  exact this ⟨i, hi⟩
theorem may_keys (k : Int) (Ks : List (List UInt8)) : mayG (keysG k Ks) = (decide (0 ≤ k) && (decide (k ≤ 2) && (decide ((Ks.length : Int) = 3 * k + 1) && Ks.all formK))) := by
  have e1 : (1 : Int).fdiv 16 = 0 := rfl
  have e2 : (2 : Int).fdiv 16 = 0 := rfl
  simp only [mayG, headG, keysG, e1, e2, List.length_nil, decide_true, Bool.and_true, Bool.true_or, Bool.and_assoc]
  rfl
theorem OwnRows.take {X : Nat → Prop} {H : List Entry} {k n lo : Nat} {ls : List (List UInt8)} (o : OwnRows X H (.win k [] 30 0 n lo) ls) (hn : n = ls.length) {m : Nat} (hm : m ≤ n) (lo' : Nat) : OwnRows X H (.win k [] 30 0 m lo') (ls.take m) := by
  obtain ⟨ws, hv, hl, hi⟩ := o
  cases hv with
  | @win _ _ _ z hx hk =>
    refine ⟨ws.take m, ?_, by simp [hl], fun i w l hw hl' => hi i w l ?_ ?_⟩
    · have h1 : (ws.take m).length = m := by rw [List.length_take]; omega
      have := View.win (X := X) (h := H) (T := 30) (l := ws.take m) (z := ws.drop m ++ z) (lo := lo') hx (by rw [← List.append_assoc, List.take_append_drop]; exact hk)
      rwa [h1] at this
    · rw [List.getElem?_take] at hw; split at hw <;> first | exact hw | cases hw
    · rw [List.getElem?_take] at hl'; split at hl' <;> first | exact hl' | cases hl'
theorem OwnRows.app {X : Nat → Prop} {H : List Entry} {v : AV} {ls : List (List UInt8)} (o : OwnRows X H v ls) (l : List Entry) : OwnRows X (H ++ l) v ls :=
  o.mono (fun _ h => h) fun j T es _ _ hj => by rw [List.getElem?_append_left (lt_some hj)]; exact hj
theorem OwnRows.bzw {X : Nat → Prop} {H H2 : List Entry} {k n lo : Nat} {es : List AV} {ls : List (List UInt8)} (o : OwnRows X H (.win k [] 30 0 n lo) ls) (hk : H[k]? = some ⟨30, es, .own⟩) (he : es ≠ []) (hf : FzIn X H H2) (n' : Nat) : Go.Abs.bzd H2 (n' + 2) (.win k [] 30 0 n lo) = eKs ls := by
  obtain ⟨ws, hv, hn, hi⟩ := o
  cases hv with
  | @win _ _ _ z hx hk' =>
    rw [hk] at hk'
    cases hk'
    have hw : winGet (ws ++ z) [] 0 ws.length = some ws := by simp [winGet]
    rw [bzd_winE, hf k _ hx hk, frz_own _ _ he]
    simp only [bzdWin, if_true, hw]
    rw [eKs]
    congr 1
    apply List.ext_getElem?
    intro j
    rw [List.getElem?_map, List.getElem?_map]
    by_cases hj : j < ws.length
    · have h1 : ws[j]? = some ws[j] := List.getElem?_eq_getElem hj
      have h2 : ls[j]? = some (ls[j]'(by omega)) := List.getElem?_eq_getElem (by omega)
      obtain ⟨a, b⟩ := hi j _ _ h1 h2
      rw [h1, h2, Option.map_some, Option.map_some, a.bzd_u8 b hf n']
    · rw [List.getElem?_eq_none (by omega), List.getElem?_eq_none (by omega)]; rfl
/-- its first row is another one -/
theorem OwnRows.put0 {X : Nat → Prop} {H H2 : List Entry} {k n lo k0 lo0 : Nat} {es : List AV} {ls : List (List UInt8)} {l0 : List UInt8} (o : OwnRows X H (.win k [] 30 0 n lo) ls) (hk : H[k]? = some ⟨30, es, .own⟩) (h2 : H2[k]? = some ⟨30, es.set 0 (.win k0 [] 5 0 l0.length lo0), .own⟩)
    (hu : ∀ (j : Nat) (es : List AV), X j → H[j]? = some ⟨5, es, .own⟩ → H2[j]? = some ⟨5, es, .own⟩) (h0 : H2[k0]? = some ⟨5, l0.map eB, .own⟩) (hx0 : X k0) (hl0 : l0 ≠ []) : OwnRows X H2 (.win k [] 30 0 n lo) (ls.set 0 l0) := by
  obtain ⟨ws, hv, hn, hi⟩ := o
  cases hv with
  | @win _ _ _ z hx hk' =>
    rw [hk] at hk'
    cases hk'
    refine ⟨ws.set 0 (.win k0 [] 5 0 l0.length lo0), ?_, by simp [hn], fun i w l hw hl => ?_⟩
    · cases ws with
      | nil =>
        have := View.win (X := X) (h := H2) (T := 30) (l := []) (z := z.set 0 (.win k0 [] 5 0 l0.length lo0)) (lo := lo) hx (by simpa using h2)
        exact this
      | cons w ws =>
        have := View.win (X := X) (h := H2) (T := 30) (l := .win k0 [] 5 0 l0.length lo0 :: ws) (z := z) (lo := lo) hx (by simpa using h2)
        simpa using this
    · rw [List.getElem?_set] at hw hl
      by_cases e : 0 = i
      · subst e
        rw [if_pos rfl] at hw hl
        split at hw
        · rename_i h3
          rw [if_pos (by omega)] at hl
          cases hw; cases hl
          refine ⟨?_, hl0⟩
          have := View.win (X := X) (h := H2) (T := 5) (l := l0.map eB) (z := []) (lo := lo0) hx0 (by rw [List.append_nil]; exact h0)
          rwa [List.length_map] at this
        · cases hw
      · rw [if_neg e] at hw hl
        obtain ⟨a, b⟩ := hi i w l hw hl
        exact ⟨a.mono (fun _ h => h) fun j es hj he => hu j es hj he, b⟩
theorem c_GenesisKeys (f n : Int) (turn : Bool) (at' : Int) : Fn prog 7 [.int .i64 f, .int .i64 n, .bool turn, .int .i64 at'] (.bool true) := by
  refine run_7 rfl fun h => ?_
  obtain ⟨k5, hk5, hk0, hk9⟩ := mod_small9 f 5 (by omega)
  obtain ⟨m', hm', hm0, hm9⟩ := mod_small9 n 11 (by omega)
  obtain ⟨m, rfl⟩ : ∃ m : Nat, m' = (m : Int) := ⟨m'.toNat, by omega⟩
  obtain ⟨i', hi', hi0, hi9⟩ := mod_small9 at' 56 (by omega)
  obtain ⟨i, rfl⟩ : ∃ i : Nat, i' = (i : Int) := ⟨i'.toNat, by omega⟩
  obtain ⟨k, hk⟩ : ∃ k, k = k5 - 1 := ⟨_, rfl⟩
  have w1 : IntKind.wrap .i64 (k5 - 1) = k := by rw [← hk]; exact IntWalk.i64_in _ (by omega)
  have w2 : IntKind.wrap .i64 (3 * k) = 3 * k := IntWalk.i64_in _ (by omega)
  have w3 : IntKind.wrap .i64 (3 * k + 1) = 3 * k + 1 := IntWalk.i64_in _ (by omega)
  have c3N : ((3 : Nat) : Int) = 3 := rfl
  repeat' (first
    | simp (implicitDefEqProofs := false) only [push_cast, reduceIte, reduceCtorEq, Nat.reduceAdd, Nat.reduceSub, Nat.reduceEqDiff, Nat.reduceLT, Nat.reduceLeDiff, Nat.reduceBEq, Nat.reduceMul, Int.reduceLT, Int.reduceLE, Int.reduceEq, Int.reduceToNat, Int.reduceMul, Int.reduceNeg, Go.Proofs.Try.f7, hk5, w1, hm', ap_lo, st_lo, st_ne, st_eq, len_st, st_st, sst, at_set, at_set0, at_set2, List.replicate_succ, List.drop_zero]
    | refine Sp2.f ?_ ?_
    | refine Spl.f ?_ ?_ <;> intro hb
    | refine rq_mk rfl (fun b hb => ?_))
  refine k_spec (c_Fake 3 1 2 (by omega) _) fun v H hP => ?_
  obtain ⟨hT, v, rfl, ho⟩ := hP
  obtain ⟨ws, hv, hwl, hws⟩ := id ho
  have hw10 : ws.length = 10 := hwl
  obtain ⟨kk, lo, z, rfl, hx, hkkE⟩ := hv.cons (by rintro rfl; simp at hw10)
  have hHl : h.length ≤ H.length := by rw [← hT]; simp; omega
  have hkl := lt_some hkkE
  have fin : ∀ (may : Bool) (Ks : List (List UInt8)) (H9 : List Entry) (v9 : AV), mayG (keysG k Ks) = may → H9.take h.length = h → Ks.length ≤ 10 → (∀ x ∈ Ks, x.length = 56) → (∀ H2, FzIn (fun j => h.length ≤ j) H9 H2 → bzd H2 3 v9 = eKs Ks) →
      FSpec prog 38 [ownG (keysG k Ks) v9] H9 fun r' h' => r' = .bool may ∧ h'.take h.length = h := fun may Ks H9 v9 h1 h2 h3 h4 h5 => by
    have m1 := c_gMay (keysG k Ks) (keysG_small k Ks h3 h4)
    rw [h1] at m1
    have hX : ∀ j, (h.length ≤ j ∧ j < H9.length) → j ∈ List.range' h.length (H9.length - h.length) := fun j hj => by rw [List.mem_range'_1]; omega
    refine FSpec.frzL wfp (List.range' h.length (H9.length - h.length)) H9 ((FSpec.readd wfp 4 (ownG_bzd rfl (h5 _ ?_)) m1).mono fun r' h' ⟨e1, e2⟩ => ⟨e1, ?_⟩)
    · intro j e hj he
      exact FzIn.mk hX j e ⟨hj, lt_some he⟩ he
    · rw [e2, frzL_take _ _ fun k hk => by rw [List.mem_range'_1] at hk; exact hk.1]; exact h2
  have hne10 : ws ++ z ≠ [] := by intro e; have := congrArg List.length e; rw [List.length_append, List.length_nil] at this; omega
  have hmm : (fK10.take m).length = m := by rw [List.length_take, fK10_len]; omega
  have nofin : ∀ lo' : Nat, ∀ l : List Entry, ∃ b, b = (decide (0 ≤ k) && (decide (k ≤ 2) && ((m : Int) == 3 * k + 1))) ∧
      FSpec prog 38 [ownG (keysG k (fK10.take m)) (.win kk [] 30 0 m lo')] (H ++ l) fun r' h' => r' = .bool b ∧ h'.take h.length = h := fun lo' l => by
    refine ⟨_, rfl, fin _ (fK10.take m) (H ++ l) _ ?_ (by rw [List.take_append_of_le_length hHl]; exact hT) (by omega) (fun x hx => fK10_56 (List.mem_of_mem_take hx)) fun H2 hF => ?_⟩
    · have ha : (fK10.take m).all formK = true := by rw [List.all_eq_true]; exact fun x hx => fK10_form (List.mem_of_mem_take hx)
      rw [may_keys, ha, hmm, Bool.and_true]
      rfl
    · exact ((ho.take hwl (by omega) lo').app l).bzw (es := ws ++ z) (by rw [List.getElem?_append_left hkl]; exact hkkE) hne10 hF 1
  obtain ⟨w0, hw0⟩ : ∃ w0, ws[0]? = some w0 := ⟨_, List.getElem?_eq_getElem (by omega)⟩
  obtain ⟨hv0, _⟩ := hws 0 w0 (fakeK 0) hw0 rfl
  have hK56 := fakeK_len 0
  have hft := form_turn
  have h00 : fK10[0]? = some (fakeK 0) := rfl
  generalize fakeK 0 = K0 at hv0 hK56 hft h00
  obtain ⟨k0, lo0, z0, rfl, hx0, hk0E⟩ := hv0.cons (by intro e; have := congrArg List.length e; rw [List.length_map, List.length_nil] at this; omega)
  have hk0l := lt_some hk0E
  have g0 : (ws ++ z)[0]? = some (.win k0 [] 5 0 (K0.map eB).length lo0) := by rw [List.getElem?_append_left (by omega)]; exact hw0
  have hkk0 : kk ≠ k0 := by
    rintro rfl
    rw [hkkE] at hk0E
    have := congrArg (fun o => o.map Entry.T) hk0E
    simp at this
  have a1 : decide (K0.length ≤ 4294967296) = true := by simp; omega
  have a2 : (K0.length ≤ 0) = False := by apply eq_false; omega
  have a3 : (K0.length ≤ (K0.map eB ++ z0).length) = True := by apply eq_true; simp
  have a4 : List.take K0.length (K0.map eB ++ z0) = K0.map eB := by rw [List.take_append_of_le_length (by simp), List.take_of_length_le (by simp)]
  have hiK : i < K0.length := by omega
  obtain ⟨x, hxx⟩ : ∃ x, K0[i]? = some x := ⟨_, List.getElem?_eq_getElem hiK⟩
  have a7 : (K0.map eB)[i]? = some (.int .u8 x.toNat) := by rw [List.getElem?_map, hxx]; rfl
  have a8 : bits .xor .u8 (x.toNat : Int) 128 = ((x ^^^ 128).toNat : Int) := xor_u8 x 128
  have a9 : ∀ y : UInt8, (K0.map eB).set i (.int .u8 y.toNat) = (K0.set i y).map eB := fun y => by rw [List.map_set]; rfl
  have a10 : K0.set i (x ^^^ 128) ≠ [] := by intro e; have := congrArg List.length e; rw [List.length_set, List.length_nil] at this; omega
  have hf2 : formK (K0.set i (x ^^^ 128)) = decide (8 ≤ i) := by
    have := hft i (by omega)
    rwa [List.getD_eq_getElem?_getD, hxx] at this
  have tfin : ∀ (lo' : Nat) (l : List Entry), 0 < m → l[2]? = some (⟨5, (K0.set i (x ^^^ 128)).map eB, .own⟩ : Entry) → ∃ b, b = (decide (0 ≤ k) && (decide (k ≤ 2) && ((m : Int) == 3 * k + 1)) && decide (8 ≤ (i : Int))) ∧
      FSpec prog 38 [ownG (keysG k ((fK10.take m).set 0 (K0.set i (x ^^^ 128)))) (.win kk [] 30 0 m lo')] (H.set kk (⟨30, (ws ++ z).set 0 (.win (H.length + 2) [] 5 0 K0.length K0.length), .own⟩ : Entry) ++ l) fun r' h' => r' = .bool b ∧ h'.take h.length = h := fun lo' l hm1 hl2 => by
    refine ⟨_, rfl, fin _ ((fK10.take m).set 0 (K0.set i (x ^^^ 128))) _ _ ?_ ?_ (by simp [fK10_len]; omega) (fun y hy => ?_) fun H2 hF => ?_⟩
    · have ha : ((fK10.take m).set 0 (K0.set i (x ^^^ 128))).all formK = decide (8 ≤ i) := by
        obtain ⟨m1, rfl⟩ : ∃ m1, m = m1 + 1 := ⟨m - 1, by omega⟩
        have hF0 : fK10 = K0 :: fK10.drop 1 := by
          apply List.ext_getElem?
          intro j
          cases j with
          | zero => rw [h00]; rfl
          | succ j => rw [List.getElem?_cons_succ, List.getElem?_drop]; congr 1; omega
        rw [hF0, List.take_succ_cons, List.set_cons_zero, List.all_cons, hf2]
        have : ((fK10.drop 1).take m1).all formK = true := by rw [List.all_eq_true]; exact fun x hx => fK10_form (List.mem_of_mem_drop (List.mem_of_mem_take hx))
        rw [this, Bool.and_true]
      rw [may_keys, ha, List.length_set, hmm]
      have : decide (8 ≤ i) = decide (8 ≤ (i : Int)) := by congr 1; apply propext; omega
      rw [this]
      simp only [Bool.and_assoc]
      rfl
    · rw [List.take_append_of_le_length (by simp; omega), List.take_set_of_le (by omega)]; exact hT
    · rcases List.mem_or_eq_of_mem_set hy with hy | rfl
      · exact fK10_56 (List.mem_of_mem_take hy)
      · rw [List.length_set]; exact hK56
    · have o2 : OwnRows (fun j => h.length ≤ j) (H.set kk (⟨30, (ws ++ z).set 0 (.win (H.length + 2) [] 5 0 K0.length K0.length), .own⟩ : Entry) ++ l) (.win kk [] 30 0 m lo') ((fK10.take m).set 0 (K0.set i (x ^^^ 128))) := by
        have hKl : (K0.set i (x ^^^ 128)).length = K0.length := by simp
        refine (ho.take hwl (by omega) lo').put0 (l0 := K0.set i (x ^^^ 128)) (k0 := H.length + 2) (lo0 := K0.length) hkkE ?_ (fun j es hj he => ?_) ?_ (by omega) a10
        · rw [hKl, List.getElem?_append_left (by simpa using hkl), List.getElem?_set_self hkl]
        · have : kk ≠ j := by
            rintro rfl
            rw [hkkE] at he
            have := congrArg (fun o => o.map Entry.T) he
            simp at this
          rw [List.getElem?_append_left (by simpa using lt_some he), List.getElem?_set_ne this]; exact he
        · rw [gt0i]; exact hl2
      exact o2.bzw (es := (ws ++ z).set 0 (.win (H.length + 2) [] 5 0 K0.length K0.length)) (by rw [List.getElem?_append_left (by simpa using hkl), List.getElem?_set_self hkl]) (by intro e; have := congrArg List.length e; rw [List.length_set] at this; exact hne10 (List.eq_nil_of_length_eq_zero this)) hF 1
  have hm10 : m < 10 ∨ m = 10 := by omega
  rcases hm10 with hm10 | hm10
  · have c1 : decide ((m : Int) < (ws.length : Int)) = true := by rw [hw10]; simp; omega
    have c2 : ((0 : Int) ≤ (m : Int) ∧ ((m : Int) ≤ (ws.length : Int) ∨ (m : Int) ≤ (lo : Int))) = True := by apply eq_true; omega
    by_cases hm1 : 0 < m
    · have c3 : decide ((0 : Int) < (m : Int)) = true := by simp; omega
      have c4 : ((0 : Int) < (m : Int)) = True := by apply eq_true; omega
      cases turn
      · clear c3
        have c3 : true = true := rfl
        repeat' (first
    | simp (implicitDefEqProofs := false) only [push_cast, reduceIte, reduceCtorEq, Nat.reduceAdd, Nat.reduceSub, Nat.reduceEqDiff, Nat.reduceLT, Nat.reduceLeDiff, Nat.reduceBEq, Nat.reduceMul, Int.reduceLT, Int.reduceLE, Int.reduceEq, Int.reduceToNat, Int.reduceMul, Int.reduceNeg, Go.Proofs.Try.f7, hk5, w1, w2, w3, hm', hi', c3N, c2, c1, c3, hkkE, hkl, Int.toNat_natCast, Nat.sub_zero, ap_lo, st_lo, st_ne, st_eq, len_st, st_st, sst, at_set, at_set0, at_set2, List.replicate_succ, List.drop_zero]
    | refine Sp2.f ?_ ?_
    | refine Spl.f ?_ ?_ <;> intro hb
    | refine rq_mk rfl (fun b hb => ?_)
    | refine k_fn c_told10 ?_)
        all_goals
          obtain ⟨b, hb9, hsp⟩ := nofin (max ws.length lo) _
          refine k_spec hsp fun r' H9 hP => ?_
          obtain ⟨rfl, hT9⟩ := hP
          repeat' (first
    | simp (implicitDefEqProofs := false) only [push_cast, reduceIte, reduceCtorEq, Nat.reduceAdd, Nat.reduceSub, Nat.reduceEqDiff, Nat.reduceLT, Nat.reduceLeDiff, Nat.reduceBEq, Nat.reduceMul, Int.reduceLT, Int.reduceLE, Int.reduceEq, Int.reduceToNat, Int.reduceMul, Int.reduceNeg, Go.Proofs.Try.f7, ap_lo, st_lo, st_ne, st_eq, len_st, st_st, sst, at_set, at_set0, at_set2, List.replicate_succ, List.drop_zero]
    | refine Sp2.f ?_ ?_
    | refine Spl.f ?_ ?_ <;> intro hb
    | refine rq_mk rfl (fun b hb => ?_))
          refine ⟨hT9, ?_⟩
          simp_all
      · skip
        repeat' (first
    | simp (implicitDefEqProofs := false) only [push_cast, reduceIte, reduceCtorEq, Nat.reduceAdd, Nat.reduceSub, Nat.reduceEqDiff, Nat.reduceLT, Nat.reduceLeDiff, Nat.reduceBEq, Nat.reduceMul, Int.reduceLT, Int.reduceLE, Int.reduceEq, Int.reduceToNat, Int.reduceMul, Int.reduceNeg, Go.Proofs.Try.f7, hk5, w1, w2, w3, hm', hi', c3N, c1, c2, c3, c4, hkkE, hkl, hk0E, hk0l, hkk0, g0, a1, a2, a3, a4, a7, a8, a9, in_row hiK, Nat.le_refl, List.length_map, Int.toNat_natCast, Nat.sub_zero, ap_lo, st_lo, st_ne, st_eq, len_st, st_st, sst, at_set, at_set0, at_set2, List.replicate_succ, List.drop_zero]
    | refine Sp2.f ?_ ?_
    | refine Spl.f ?_ ?_ <;> intro hb
    | refine rq_mk rfl (fun b hb => ?_)
    | refine k_fn c_told10 ?_)
        all_goals
          obtain ⟨b, hb9, hsp⟩ := tfin (max ws.length lo) [⟨72, [.agg 72 [.int .i64 k, .int .i64 1, .int .i64 2, .win kk [] 30 0 m (max ws.length lo), .nils]], .own⟩, ⟨5, [], .dead⟩, ⟨5, (K0.set i (x ^^^ 128)).map eB, .own⟩] hm1 rfl
          refine k_spec hsp fun r' H9 hP => ?_
          obtain ⟨rfl, hT9⟩ := hP
          repeat' (first
    | simp (implicitDefEqProofs := false) only [push_cast, reduceIte, reduceCtorEq, Nat.reduceAdd, Nat.reduceSub, Nat.reduceEqDiff, Nat.reduceLT, Nat.reduceLeDiff, Nat.reduceBEq, Nat.reduceMul, Int.reduceLT, Int.reduceLE, Int.reduceEq, Int.reduceToNat, Int.reduceMul, Int.reduceNeg, Go.Proofs.Try.f7, ap_lo, st_lo, st_ne, st_eq, len_st, st_st, sst, at_set, at_set0, at_set2, List.replicate_succ, List.drop_zero]
    | refine Sp2.f ?_ ?_
    | refine Spl.f ?_ ?_ <;> intro hb
    | refine rq_mk rfl (fun b hb => ?_))
          refine ⟨hT9, ?_⟩
          simp_all
    · have c3 : decide ((0 : Int) < (m : Int)) = false := by simp; omega
      cases turn
      · clear c3
        have c3 : true = true := rfl
        repeat' (first
    | simp (implicitDefEqProofs := false) only [push_cast, reduceIte, reduceCtorEq, Nat.reduceAdd, Nat.reduceSub, Nat.reduceEqDiff, Nat.reduceLT, Nat.reduceLeDiff, Nat.reduceBEq, Nat.reduceMul, Int.reduceLT, Int.reduceLE, Int.reduceEq, Int.reduceToNat, Int.reduceMul, Int.reduceNeg, Go.Proofs.Try.f7, hk5, w1, w2, w3, hm', hi', c3N, c2, c1, c3, hkkE, hkl, Int.toNat_natCast, Nat.sub_zero, ap_lo, st_lo, st_ne, st_eq, len_st, st_st, sst, at_set, at_set0, at_set2, List.replicate_succ, List.drop_zero]
    | refine Sp2.f ?_ ?_
    | refine Spl.f ?_ ?_ <;> intro hb
    | refine rq_mk rfl (fun b hb => ?_)
    | refine k_fn c_told10 ?_)
        all_goals
          obtain ⟨b, hb9, hsp⟩ := nofin (max ws.length lo) _
          refine k_spec hsp fun r' H9 hP => ?_
          obtain ⟨rfl, hT9⟩ := hP
          repeat' (first
    | simp (implicitDefEqProofs := false) only [push_cast, reduceIte, reduceCtorEq, Nat.reduceAdd, Nat.reduceSub, Nat.reduceEqDiff, Nat.reduceLT, Nat.reduceLeDiff, Nat.reduceBEq, Nat.reduceMul, Int.reduceLT, Int.reduceLE, Int.reduceEq, Int.reduceToNat, Int.reduceMul, Int.reduceNeg, Go.Proofs.Try.f7, ap_lo, st_lo, st_ne, st_eq, len_st, st_st, sst, at_set, at_set0, at_set2, List.replicate_succ, List.drop_zero]
    | refine Sp2.f ?_ ?_
    | refine Spl.f ?_ ?_ <;> intro hb
    | refine rq_mk rfl (fun b hb => ?_))
          refine ⟨hT9, ?_⟩
          simp_all
      · skip
        repeat' (first
    | simp (implicitDefEqProofs := false) only [push_cast, reduceIte, reduceCtorEq, Nat.reduceAdd, Nat.reduceSub, Nat.reduceEqDiff, Nat.reduceLT, Nat.reduceLeDiff, Nat.reduceBEq, Nat.reduceMul, Int.reduceLT, Int.reduceLE, Int.reduceEq, Int.reduceToNat, Int.reduceMul, Int.reduceNeg, Go.Proofs.Try.f7, hk5, w1, w2, w3, hm', hi', c3N, c2, c1, c3, hkkE, hkl, Int.toNat_natCast, Nat.sub_zero, ap_lo, st_lo, st_ne, st_eq, len_st, st_st, sst, at_set, at_set0, at_set2, List.replicate_succ, List.drop_zero]
    | refine Sp2.f ?_ ?_
    | refine Spl.f ?_ ?_ <;> intro hb
    | refine rq_mk rfl (fun b hb => ?_)
    | refine k_fn c_told10 ?_)
        all_goals
          obtain ⟨b, hb9, hsp⟩ := nofin (max ws.length lo) _
          refine k_spec hsp fun r' H9 hP => ?_
          obtain ⟨rfl, hT9⟩ := hP
          repeat' (first
    | simp (implicitDefEqProofs := false) only [push_cast, reduceIte, reduceCtorEq, Nat.reduceAdd, Nat.reduceSub, Nat.reduceEqDiff, Nat.reduceLT, Nat.reduceLeDiff, Nat.reduceBEq, Nat.reduceMul, Int.reduceLT, Int.reduceLE, Int.reduceEq, Int.reduceToNat, Int.reduceMul, Int.reduceNeg, Go.Proofs.Try.f7, ap_lo, st_lo, st_ne, st_eq, len_st, st_st, sst, at_set, at_set0, at_set2, List.replicate_succ, List.drop_zero]
    | refine Sp2.f ?_ ?_
    | refine Spl.f ?_ ?_ <;> intro hb
    | refine rq_mk rfl (fun b hb => ?_))
          refine ⟨hT9, ?_⟩
          simp_all
  · obtain rfl : m = ws.length := by omega
    have c1 : decide ((ws.length : Int) < (ws.length : Int)) = false := by simp
    have hm1 : 0 < ws.length := by omega
    have c3 : decide ((0 : Int) < (ws.length : Int)) = true := by simp; omega
    have c4 : ((0 : Int) < (ws.length : Int)) = True := by apply eq_true; omega
    have c2 : true = true := rfl
    cases turn
    · clear c3
      have c3 : true = true := rfl
      repeat' (first
    | simp (implicitDefEqProofs := false) only [push_cast, reduceIte, reduceCtorEq, Nat.reduceAdd, Nat.reduceSub, Nat.reduceEqDiff, Nat.reduceLT, Nat.reduceLeDiff, Nat.reduceBEq, Nat.reduceMul, Int.reduceLT, Int.reduceLE, Int.reduceEq, Int.reduceToNat, Int.reduceMul, Int.reduceNeg, Go.Proofs.Try.f7, hk5, w1, w2, w3, hm', hi', c3N, c2, c1, c3, hkkE, hkl, Int.toNat_natCast, Nat.sub_zero, ap_lo, st_lo, st_ne, st_eq, len_st, st_st, sst, at_set, at_set0, at_set2, List.replicate_succ, List.drop_zero]
    | refine Sp2.f ?_ ?_
    | refine Spl.f ?_ ?_ <;> intro hb
    | refine rq_mk rfl (fun b hb => ?_)
    | refine k_fn c_told10 ?_)
      all_goals
        obtain ⟨b, hb9, hsp⟩ := nofin lo _
        refine k_spec hsp fun r' H9 hP => ?_
        obtain ⟨rfl, hT9⟩ := hP
        repeat' (first
    | simp (implicitDefEqProofs := false) only [push_cast, reduceIte, reduceCtorEq, Nat.reduceAdd, Nat.reduceSub, Nat.reduceEqDiff, Nat.reduceLT, Nat.reduceLeDiff, Nat.reduceBEq, Nat.reduceMul, Int.reduceLT, Int.reduceLE, Int.reduceEq, Int.reduceToNat, Int.reduceMul, Int.reduceNeg, Go.Proofs.Try.f7, ap_lo, st_lo, st_ne, st_eq, len_st, st_st, sst, at_set, at_set0, at_set2, List.replicate_succ, List.drop_zero]
    | refine Sp2.f ?_ ?_
    | refine Spl.f ?_ ?_ <;> intro hb
    | refine rq_mk rfl (fun b hb => ?_))
        refine ⟨hT9, ?_⟩
        simp_all
    · skip
      repeat' (first
    | simp (implicitDefEqProofs := false) only [push_cast, reduceIte, reduceCtorEq, Nat.reduceAdd, Nat.reduceSub, Nat.reduceEqDiff, Nat.reduceLT, Nat.reduceLeDiff, Nat.reduceBEq, Nat.reduceMul, Int.reduceLT, Int.reduceLE, Int.reduceEq, Int.reduceToNat, Int.reduceMul, Int.reduceNeg, Go.Proofs.Try.f7, hk5, w1, w2, w3, hm', hi', c3N, c1, c2, c3, c4, hkkE, hkl, hk0E, hk0l, hkk0, g0, a1, a2, a3, a4, a7, a8, a9, in_row hiK, Nat.le_refl, List.length_map, Int.toNat_natCast, Nat.sub_zero, ap_lo, st_lo, st_ne, st_eq, len_st, st_st, sst, at_set, at_set0, at_set2, List.replicate_succ, List.drop_zero]
    | refine Sp2.f ?_ ?_
    | refine Spl.f ?_ ?_ <;> intro hb
    | refine rq_mk rfl (fun b hb => ?_)
    | refine k_fn c_told10 ?_)
      all_goals
        obtain ⟨b, hb9, hsp⟩ := tfin lo [⟨72, [.agg 72 [.int .i64 k, .int .i64 1, .int .i64 2, .win kk [] 30 0 ws.length lo, .nils]], .own⟩, ⟨5, [], .dead⟩, ⟨5, (K0.set i (x ^^^ 128)).map eB, .own⟩] hm1 rfl
        refine k_spec hsp fun r' H9 hP => ?_
        obtain ⟨rfl, hT9⟩ := hP
        repeat' (first
    | simp (implicitDefEqProofs := false) only [push_cast, reduceIte, reduceCtorEq, Nat.reduceAdd, Nat.reduceSub, Nat.reduceEqDiff, Nat.reduceLT, Nat.reduceLeDiff, Nat.reduceBEq, Nat.reduceMul, Int.reduceLT, Int.reduceLE, Int.reduceEq, Int.reduceToNat, Int.reduceMul, Int.reduceNeg, Go.Proofs.Try.f7, ap_lo, st_lo, st_ne, st_eq, len_st, st_st, sst, at_set, at_set0, at_set2, List.replicate_succ, List.drop_zero]
    | refine Sp2.f ?_ ?_
    | refine Spl.f ?_ ?_ <;> intro hb
    | refine rq_mk rfl (fun b hb => ?_))
        refine ⟨hT9, ?_⟩
        simp_all

end Go.Abs
