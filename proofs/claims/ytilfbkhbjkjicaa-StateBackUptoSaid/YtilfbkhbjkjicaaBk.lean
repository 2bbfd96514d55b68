/- Bk: a part of the proofs about the tuple space and its bytes. -/
import Derived.Test.YtilfbkhbjkjicaaOn
import Derived.Test.YtilfbkhbjkjicaaMv
import Derived.Test.YtilfbkhbjkjicaaCi
set_option linter.all false
set_option maxRecDepth 100000
set_option maxHeartbeats 0
namespace Go.Abs
open Go
open Go.Proofs.Try (prog)
/-! ### chirographref1.Same, StateBack -/
theorem c_Same1 (a b : List UInt8) : Fn prog 17 [eBs a, eBs b] (.bool (a == b)) := by
  have cA := conv_str a
  have cB := conv_str b
  have hs := str_same a b
  refine run_17 rfl fun h => ?_
  repeat' (first
    | simp (implicitDefEqProofs := false) only [push_cast, reduceIte, reduceCtorEq, Nat.reduceAdd, Nat.reduceSub, Nat.reduceEqDiff, Nat.reduceLT, Nat.reduceLeDiff, Nat.reduceBEq, Nat.reduceMul, Int.reduceLT, Int.reduceLE, Int.reduceEq, Int.reduceToNat, Int.reduceMul, Int.reduceNeg, Go.Proofs.Try.f17, cA, cB, hs, isc_tmp, ap_lo, st_lo, st_ne, st_eq, len_st, st_st, sst, at_set, at_set0, at_set2, at_set20, sst2, List.replicate_succ, List.drop_zero]
    | refine Sp2.f ?_ ?_
    | refine Spl.f ?_ ?_ <;> intro hb
    | refine rq_mk rfl (fun b hb => ?_))
theorem mod_len (n : Int) {m : Nat} (hm : 1 ≤ m) (h2 : m ≤ 1000000) : ∃ k : Nat, IntKind.wrap .i64 ((IntKind.wrap .u64 n).tmod (IntKind.wrap .u64 (m : Int))) = (k : Int) ∧ k < m := by
  have e : IntKind.wrap .u64 (m : Int) = (m : Int) := by rw [wrap_u64]; omega
  rw [e]
  obtain ⟨d, h, h0, h1⟩ := mod_small n (m : Int) (by omega)
  exact ⟨d.toNat, by rw [h]; omega, by omega⟩
theorem xor_u8 (x c : UInt8) : bits .xor .u8 (x.toNat : Int) (c.toNat : Int) = ((x ^^^ c).toNat : Int) := by
  show IntKind.wrap .u8 ((BitVec.ofInt 8 (x.toNat : Int) ^^^ BitVec.ofInt 8 (c.toNat : Int)).toNat : Int) = _
  have hx := x.toNat_lt
  have hc := c.toNat_lt
  have h1 : ((x.toNat : Int) % ((2 ^ 8 : Nat) : Int)).toNat = x.toNat := by omega
  have h2 : ((c.toNat : Int) % ((2 ^ 8 : Nat) : Int)).toNat = c.toNat := by omega
  have h3 := Nat.xor_lt_two_pow (n := 8) (show x.toNat < 2 ^ 8 by omega) (show c.toNat < 2 ^ 8 by omega)
  rw [BitVec.toNat_xor, BitVec.toNat_ofInt, BitVec.toNat_ofInt, h1, h2, wrap_u8, UInt8.toNat_xor]
  omega
/-- a row of bytes of one's own, given up -/
theorem k_giveBs {g : FuncId} {raw : List AV} {r : AV} {l : List UInt8} {es : List AV} {k n lo : Nat} {env : Env} {h : List Entry} {s : List Ctl} {d : Option Tmp} {Q : APost} (hk : h[k]? = some (⟨5, es, .own⟩ : Entry)) (he : es = l.map eB) (hl : l ≠ []) (hn : n = l.length) (hp : Fn prog g [eBs l] r)
    (hk2 : Rn prog s .normal (putD env d r) (h.set k ⟨5, l.map eB, .fz⟩) Q) : Rk prog g [.win k [] 5 0 n lo] raw d s env h Q := by
  subst he; subst hn
  refine k_give wfp hk rfl (by simpa using hl) ?_ hp hk2
  have hw : winGet (l.map eB) [] 0 l.length = some (l.map eB) := by simp [winGet, List.take_of_length_le]
  simp only [List.map_cons, List.map_nil, bz_winE, fzE, List.getElem?_set_self (lt_some hk), bzWin, if_true, hw]
  rfl
/-- .. read again -/
theorem k_readBs {g : FuncId} {raw a : List AV} {a' : List AV} {r : AV} {l : List UInt8} {k n lo : Nat} {env : Env} {h : List Entry} {s : List Ctl} {d : Option Tmp} {Q : APost} (hk : h[k]? = some (⟨5, l.map eB, .fz⟩ : Entry)) (hn : n = l.length) (ha : a.map (bz h 4) = a') (hp : Fn prog g (a' ++ [eBs l]) r)
    (hk2 : Rn prog s .normal (putD env d r) h Q) : Rk prog g (a ++ [.win k [] 5 0 n lo]) raw d s env h Q := by
  subst hn
  refine k_read wfp ?_ hp hk2
  have hw : winGet (l.map eB) [] 0 l.length = some (l.map eB) := by simp [winGet, List.take_of_length_le]
  rw [List.map_append, ha]
  simp only [List.map_cons, List.map_nil, bz_winE, hk, bzWin, if_true, hw]
  rfl
theorem mayS_small {s : Spc} (h : mayS s = true) : s.Small := by
  simp only [mayS, mayH, Bool.and_eq_true, decide_eq_true_eq, List.all_eq_true] at h
  obtain ⟨⟨⟨⟨h1, h7⟩, h8⟩, h9⟩, h10⟩ := h
  have hl := all2_len h10
  refine ⟨⟨by omega, fun x hx => by have := mayT_len (mayI_T (h7 x hx)); omega⟩, ⟨by omega, fun x hx => ?_⟩, ⟨by simp at hl; omega, fun x hx => ?_⟩, by simpa using hl⟩
  · have := h9 x hx
    simp only [mayW, Bool.and_eq_true] at this
    have := mayP_len this.2; omega
  · obtain ⟨c, _, hp⟩ := all2_mem h10 x hx
    have := mayL_len hp; omega
theorem set_xor0 {B : List UInt8} {k : Nat} {x : UInt8} (hx : B[k]? = some x) : B.set k (x ^^^ 0) = B := by
  apply List.ext_getElem?
  intro j
  rw [List.getElem?_set]
  split
  · rename_i e
    subst e
    rw [if_pos (List.getElem?_eq_some_iff.1 hx).1, hx, UInt8.xor_zero]
  · rfl
theorem set_xor1 {B : List UInt8} {k : Nat} {x c : UInt8} (hx : B[k]? = some x) (h : B.set k (x ^^^ c) = B) : c = 0 := by
  have e : (B.set k (x ^^^ c))[k]? = some (x ^^^ c) := List.getElem?_set_self (List.getElem?_eq_some_iff.1 hx).1
  rw [h, hx] at e
  have e : x = x ^^^ c := by simpa using e
  have : x ^^^ c = x ^^^ 0 := by rw [← e, UInt8.xor_zero]
  exact UInt8.xor_right_inj x |>.1 this
theorem u8z (c : UInt8) : ((c.toNat : Int) == 0) = (c == 0) := by
  have := eqB c 0
  simpa using this
theorem u8z' (c : UInt8) : ((c.toNat : Int) != 0) = !(c == 0) := by rw [bne, u8z]
theorem c_StateBack (l : List Asked) (at' : Int) (c : UInt8) (hl : l.length ≤ 4294967296) (hR : ∀ x ∈ l, x.R.Ok) :
    Fn prog 10 [.list 62 (l.map eA), .int .i64 at', .int .u8 c.toNat] (.bool true) := by
  have b00 : ((0 : Int) != 0) = false := rfl
  have b20 : ((2 : Int) != 0) = true := rfl
  have b22 : ((2 : Int) != 2) = false := rfl
  have e22 : ((2 : Int) == 2) = true := rfl
  have e00 : ((0 : Int) == 0) = true := rfl
  refine run_10 rfl fun h => ?_
  repeat' (first
    | simp (implicitDefEqProofs := false) only [push_cast, reduceIte, reduceCtorEq, Nat.reduceAdd, Nat.reduceSub, Nat.reduceEqDiff, Nat.reduceLT, Nat.reduceLeDiff, Nat.reduceBEq, Nat.reduceMul, Int.reduceLT, Int.reduceLE, Int.reduceEq, Int.reduceToNat, Int.reduceMul, Int.reduceNeg, Go.Proofs.Try.f10, eS_ty, eS_pl, eS_wk, List.length_map, ap_lo, st_lo, st_ne, st_eq, len_st, st_st, sst, at_set, at_set0, at_set2, at_set20, sst2, List.replicate_succ, List.drop_zero]
    | refine Sp2.f ?_ ?_
    | refine Spl.f ?_ ?_ <;> intro hb
    | refine rq_mk rfl (fun b hb => ?_)
    | refine r_draw (U := [[], [], [], [], [], [], [], [], [], [], [], []]) (H := []) hmix (by kernel_rfl) (by decide +kernel) (by kernel_rfl) ?_
    | refine k_fn (c_New 15 15) ?_)
  refine rl_gen (M9 l 40 h (fun i n a => [(0, .list 62 (l.map eA)), (1, .int .i64 at'), (2, .int .u8 c.toNat), (6, .bool false), (7, .ref h.length [0] 29), (8, .int .i64 n), (9, .int .i64 i), (10, a 10), (11, a 11), (12, a 12), (13, a 13), (14, a 14), (16, a 16), (18, a 18), (19, a 19), (20, a 20), (21, a 21), (22, a 22), (23, a 23), (32, a 32), (67, a 67), (80, a 80), (110, a 110), (129, a 129)])) l.length (m9_mk (newS 15 15) 0 MS.new (AF.new 15 15) (Nat.zero_le _) (by omega) rfl rfl) ?_
  rintro i env hh ⟨s, n, hs, ha, hi, hi30, rfl, henv⟩
  refine ⟨hi, ?_⟩
  rw [henv]
  generalize lk env = a
  clear henv env
  have hdo : i < l.length ∧ i < 40 ∨ (¬ i < l.length ∨ ¬ i < 40) := by omega
  rcases hdo with ⟨hlt, h40⟩ | hend
  · obtain ⟨x, hx⟩ : ∃ x, l[i]? = some x := ⟨_, List.getElem?_eq_getElem hlt⟩
    have hxR := hR x (List.mem_of_getElem? hx)
    have hi9 : i < 9223372036854775807 := by omega
    have f40 : decide ((i : Int) < 40) = true := by simp; omega
    generalize hn' : IntKind.wrap .i64 (n + IntKind.wrap .i64 ((IntKind.wrap .u64 x.D).tmod 20)) = n'
    have d1 := c_Do s n' x.R hs.small hxR.small
    have hs' : MS (doS s n' x.R).1 := hs.do
    have ha' : AF Fld.In (doS s n' x.R).1 := ha.doS hxR.T hxR.P
    generalize doS s n' x.R = out at d1 hs' ha'
    obtain ⟨s', rs⟩ := out
    simp only at d1 hs' ha'
    repeat' (first
    | simp (implicitDefEqProofs := false) only [push_cast, reduceIte, reduceCtorEq, Nat.reduceAdd, Nat.reduceSub, Nat.reduceEqDiff, Nat.reduceLT, Nat.reduceLeDiff, Nat.reduceBEq, Nat.reduceMul, Int.reduceLT, Int.reduceLE, Int.reduceEq, Int.reduceToNat, Int.reduceMul, Int.reduceNeg, Go.Proofs.Try.f10, eRs, eS_ty, eS_pl, eS_wk, eA, eQ_ty, eQ_pl, eQ_wk, hn', f40, List.length_map, cast_lt hlt, in_row hlt, getD_map eA hx, Int.toNat_natCast, wrap_succ hi9, ap_lo, st_lo, st_ne, st_eq, len_st, st_st, sst, at_set, at_set0, at_set2, at_set20, sst2, List.replicate_succ, List.drop_zero]
    | refine Sp2.f ?_ ?_
    | refine Spl.f ?_ ?_ <;> intro hb
    | refine rq_mk rfl (fun b hb => ?_)
    | refine r_draw (U := [[], [], [], [], [], [], [], [], [], [], [], []]) (H := []) hmix (by kernel_rfl) (by decide +kernel) (by kernel_rfl) ?_
    | refine dk_pure d1 ?_)
    exact m9_mk s' n' hs' ha' hlt (by omega) rfl rfl
  · have cend : (decide ((i : Int) < (l.length : Int)) = false ∨ (decide ((i : Int) < (l.length : Int)) = true ∧ decide ((i : Int) < 40) = false)) := by
      by_cases hh : i < l.length
      · exact .inr ⟨cast_lt hh, by simp; omega⟩
      · exact .inl (cast_ge hh)
    have hmay := ms_may hs
    have hin := ha.isIn
    have hsm := hs.small
    have hB := putS_len hmay
    have hB1 : 1 ≤ (putS s).length := by simp [putS, nb, beN_len]; omega
    have p1 := c_sPut s hsm
    rw [hmay] at p1
    have g1 := c_sGet (putS s) (by omega)
    rw [getS_put hmay hin] at g1
    have e1 := c_sSame s s hsm hsm
    rw [sameS_rfl] at e1
    obtain ⟨k, hk, hkl⟩ := mod_len at' hB1 (by omega)
    have g2 := c_sGet ((putS s).take k) (by simp; omega)
    rw [getS_take hmay hin hkl] at g2
    have g3 := c_sGet (putS s ++ [c]) (by simp; omega)
    rw [getS_more hmay hin c] at g3
    have hL : stLen prog 30 (eBs (putS s)) = .ret (.int .i64 (putS s).length) [] := by rw [eBs, stLen_list, List.length_map]; rfl
    have z0 : (((putS s).length : Int) == 0) = false := by rw [beq_eq_false_iff_ne]; omega
    have n0 : (IntKind.wrap .u64 ((putS s).length : Int) = 0) = False := by
      rw [wrap_u64]; apply eq_false; omega
    have hkle : ((0 : Int) ≤ (k : Int) ∧ (k : Int) ≤ ((putS s).length : Int)) = True := by apply eq_true; omega
    have hmt : List.take k ((putS s).map eB) = ((putS s).take k).map eB := List.map_take.symm
    have q0 : (0 = (putS s).length) = False := by apply eq_false; omega
    have q1 : ((putS s).length = 0) = False := by apply eq_false; omega
    have q2 : ((putS s).length ≤ 0) = False := by apply eq_false; omega
    have q3 : ((putS s).length + 1 ≤ (putS s).length) = False := by apply eq_false; omega
    have q4 : decide ((putS s).length ≤ 4294967296) = true := by simp; omega
    have q5 : decide ((putS s).length + 1 ≤ 4294967296) = true := by simp; omega
    have q5' : ((putS s).length ≤ 4294967295) = True := by apply eq_true; omega
    have q6 : List.take (putS s).length ((putS s).map eB) = (putS s).map eB := by rw [List.take_of_length_le]; simp
    obtain ⟨x, hx⟩ : ∃ x, (putS s)[k]? = some x := ⟨_, List.getElem?_eq_getElem hkl⟩
    have q7 : ((putS s).map eB)[k]? = some (.int .u8 x.toNat) := by rw [List.getElem?_map, hx]; rfl
    have q8 := xor_u8 x c
    have q9 : ∀ y : UInt8, ((putS s).map eB).set k (.int .u8 y.toNat) = ((putS s).set k y).map eB := fun y => by rw [List.map_set]; rfl
    clear hend ha hi hi30
    obtain ⟨T, hTT⟩ : ∃ T, T = (putS s).set k (x ^^^ c) := ⟨_, rfl⟩
    have hTl : T.length = (putS s).length := by rw [hTT]; simp
    have g4 := c_sGet T (by omega)
    generalize hBB : putS s = B at *
    rcases cend with ce | ⟨ce, ce2⟩
    · repeat' (first
    | simp (implicitDefEqProofs := false) only [push_cast, reduceIte, reduceCtorEq, Nat.reduceAdd, Nat.reduceSub, Nat.reduceEqDiff, Nat.reduceLT, Nat.reduceLeDiff, Nat.reduceBEq, Nat.reduceMul, Int.reduceLT, Int.reduceLE, Int.reduceEq, Int.reduceToNat, Int.reduceMul, Int.reduceNeg, Go.Proofs.Try.f10, eS_ty, eS_pl, eS_wk, eBs, b00, b20, b22, z0, n0, hk, hkle, hmt, ce, q0, q1, q2, q3, q4, q5, q5', q6, q7, q8, q9, in_row hkl, Nat.le_refl, List.length_map, Int.toNat_natCast, ap_lo, st_lo, st_ne, st_eq, len_st, st_st, sst, at_set, at_set0, at_set2, at_set20, sst2, List.replicate_succ, List.drop_zero]
    | refine Sp2.f ?_ ?_
    | refine Spl.f ?_ ?_ <;> intro hb
    | refine rq_mk rfl (fun b hb => ?_)
    | refine r_draw (U := [[], [], [], [], [], [], [], [], [], [], [], []]) (H := []) hmix (by kernel_rfl) (by decide +kernel) (by kernel_rfl) ?_
    | refine k_fn p1 ?_
    | refine k_fn g1 ?_
    | refine k_fn e1 ?_
    | refine k_fn g2 ?_)
      refine k_giveBs (k := h.length + 6) (n := B.length + 1) (l := B ++ [c]) (es := B.map eB ++ [.int .u8 c.toNat]) ?_ (by rw [List.map_append]; rfl) (by simp) (by simp) g3 ?_
      · exact get_at h _ 6
      repeat' (first
    | simp (implicitDefEqProofs := false) only [push_cast, reduceIte, reduceCtorEq, Nat.reduceAdd, Nat.reduceSub, Nat.reduceEqDiff, Nat.reduceLT, Nat.reduceLeDiff, Nat.reduceBEq, Nat.reduceMul, Int.reduceLT, Int.reduceLE, Int.reduceEq, Int.reduceToNat, Int.reduceMul, Int.reduceNeg, Go.Proofs.Try.f10, eS_ty, eS_pl, eS_wk, eBs, b00, b20, b22, z0, n0, hk, hkle, hmt, q0, q1, q2, q3, q4, q5, q5', q6, q7, q8, q9, in_row hkl, Nat.le_refl, List.length_map, Int.toNat_natCast, ap_lo, st_lo, st_ne, st_eq, len_st, st_st, sst, at_set, at_set0, at_set2, at_set20, sst2, List.replicate_succ, List.drop_zero]
    | refine Sp2.f ?_ ?_
    | refine Spl.f ?_ ?_ <;> intro hb
    | refine rq_mk rfl (fun b hb => ?_)
    | refine r_draw (U := [[], [], [], [], [], [], [], [], [], [], [], []]) (H := []) hmix (by kernel_rfl) (by decide +kernel) (by kernel_rfl) ?_)
      have hT9 : ∀ l : List Entry, l[9]? = some (⟨5, (B.set k (x ^^^ c)).map eB, .own⟩ : Entry) → (h ++ l)[h.length + 9]? = some (⟨5, (B.set k (x ^^^ c)).map eB, .own⟩ : Entry) := fun l hl => by rw [get_at]; exact hl
      have hF9 : ∀ l : List Entry, l[9]? = some (⟨5, (B.set k (x ^^^ c)).map eB, .fz⟩ : Entry) → (h ++ l)[h.length + 9]? = some (⟨5, (B.set k (x ^^^ c)).map eB, .fz⟩ : Entry) := fun l hl => by rw [get_at]; exact hl
      rw [hTT] at g4 hTl
      have hz1 := u8z c
      have hz2 := u8z' c
      cases hG : getS (B.set k (x ^^^ c)) with
      | none =>
        have hc : (c == 0) = false := by
          rw [beq_eq_false_iff_ne]
          rintro rfl
          rw [set_xor0 hx, ← hBB, getS_put hmay hin] at hG
          cases hG
        rw [hc] at hz2
        rw [hG] at g4
        refine k_giveBs (k := h.length + 9) (n := B.length) (l := B.set k (x ^^^ c)) (es := (B.set k (x ^^^ c)).map eB) ?_ rfl (by intro e; rw [e] at hTl; simp at hTl; omega) (by simp) g4 ?_
        · exact hT9 _ rfl
        repeat' (first
    | simp (implicitDefEqProofs := false) only [push_cast, reduceIte, reduceCtorEq, Nat.reduceAdd, Nat.reduceSub, Nat.reduceEqDiff, Nat.reduceLT, Nat.reduceLeDiff, Nat.reduceBEq, Nat.reduceMul, Int.reduceLT, Int.reduceLE, Int.reduceEq, Int.reduceToNat, Int.reduceMul, Int.reduceNeg, Go.Proofs.Try.f10, eS_ty, eS_pl, eS_wk, b00, b20, b22, e22, hz2, ap_lo, st_lo, st_ne, st_eq, len_st, st_st, sst, at_set, at_set0, at_set2, at_set20, sst2, List.replicate_succ, List.drop_zero]
    | refine Sp2.f ?_ ?_
    | refine Spl.f ?_ ?_ <;> intro hb
    | refine rq_mk rfl (fun b hb => ?_)
    | refine r_draw (U := [[], [], [], [], [], [], [], [], [], [], [], []]) (H := []) hmix (by kernel_rfl) (by decide +kernel) (by kernel_rfl) ?_
    | refine k_fn c_told9 ?_)
      | some y =>
        obtain ⟨hy, hyB⟩ := getS_some hG
        have hys := mayS_small hy
        have p2 := c_sPut y hys
        rw [hy, hyB] at p2
        have s2 := c_sSame y s hys hsm
        have hfin : sameS y s = (c == 0) := by
          rw [← put_same hy hmay (getS_in hG) hin, hyB, hBB]
          cases hc : (c == 0) with
          | true => rw [eq_of_beq hc, set_xor0 hx]; simp
          | false =>
            rw [beq_eq_false_iff_ne]
            intro e
            rw [set_xor1 hx e] at hc
            simp at hc
        rw [hfin] at s2
        have s1 := c_Same1 (B.set k (x ^^^ c)) (B.set k (x ^^^ c))
        rw [beq_self_eq_true] at s1
        rw [hG] at g4
        refine k_giveBs (k := h.length + 9) (n := B.length) (l := B.set k (x ^^^ c)) (es := (B.set k (x ^^^ c)).map eB) ?_ rfl (by intro e; rw [e] at hTl; simp at hTl; omega) (by simp) g4 ?_
        · exact hT9 _ rfl
        repeat' (first
    | simp (implicitDefEqProofs := false) only [push_cast, reduceIte, reduceCtorEq, Nat.reduceAdd, Nat.reduceSub, Nat.reduceEqDiff, Nat.reduceLT, Nat.reduceLeDiff, Nat.reduceBEq, Nat.reduceMul, Int.reduceLT, Int.reduceLE, Int.reduceEq, Int.reduceToNat, Int.reduceMul, Int.reduceNeg, Go.Proofs.Try.f10, eS_ty, eS_pl, eS_wk, eBs_ty, eBs_pl, eBs_wk, b00, b20, b22, e00, hz1, beq_self_eq_true, ap_lo, st_lo, st_ne, st_eq, len_st, st_st, sst, at_set, at_set0, at_set2, at_set20, sst2, List.replicate_succ, List.drop_zero]
    | refine Sp2.f ?_ ?_
    | refine Spl.f ?_ ?_ <;> intro hb
    | refine rq_mk rfl (fun b hb => ?_)
    | refine r_draw (U := [[], [], [], [], [], [], [], [], [], [], [], []]) (H := []) hmix (by kernel_rfl) (by decide +kernel) (by kernel_rfl) ?_
    | refine k_fn c_told9 ?_
    | refine k_fn p2 ?_
    | refine k_fn s2 ?_)
        refine k_readBs (k := h.length + 9) (a := [eBs (B.set k (x ^^^ c))]) (a' := [eBs (B.set k (x ^^^ c))]) ?_ hTl.symm (by simp only [List.map_cons, List.map_nil, bz_dat 4 _ (eBs_dat _)]) s1 ?_
        · exact hF9 _ rfl
        repeat' (first
    | simp (implicitDefEqProofs := false) only [push_cast, reduceIte, reduceCtorEq, Nat.reduceAdd, Nat.reduceSub, Nat.reduceEqDiff, Nat.reduceLT, Nat.reduceLeDiff, Nat.reduceBEq, Nat.reduceMul, Int.reduceLT, Int.reduceLE, Int.reduceEq, Int.reduceToNat, Int.reduceMul, Int.reduceNeg, Go.Proofs.Try.f10, eS_ty, eS_pl, eS_wk, eBs_ty, eBs_pl, eBs_wk, b00, b20, b22, e00, hz1, beq_self_eq_true, ap_lo, st_lo, st_ne, st_eq, len_st, st_st, sst, at_set, at_set0, at_set2, at_set20, sst2, List.replicate_succ, List.drop_zero]
    | refine Sp2.f ?_ ?_
    | refine Spl.f ?_ ?_ <;> intro hb
    | refine rq_mk rfl (fun b hb => ?_)
    | refine r_draw (U := [[], [], [], [], [], [], [], [], [], [], [], []]) (H := []) hmix (by kernel_rfl) (by decide +kernel) (by kernel_rfl) ?_
    | refine k_fn s2 ?_)
    · repeat' (first
    | simp (implicitDefEqProofs := false) only [push_cast, reduceIte, reduceCtorEq, Nat.reduceAdd, Nat.reduceSub, Nat.reduceEqDiff, Nat.reduceLT, Nat.reduceLeDiff, Nat.reduceBEq, Nat.reduceMul, Int.reduceLT, Int.reduceLE, Int.reduceEq, Int.reduceToNat, Int.reduceMul, Int.reduceNeg, Go.Proofs.Try.f10, eS_ty, eS_pl, eS_wk, eBs, b00, b20, b22, z0, n0, hk, hkle, hmt, ce, ce2, q0, q1, q2, q3, q4, q5, q5', q6, q7, q8, q9, in_row hkl, Nat.le_refl, List.length_map, Int.toNat_natCast, ap_lo, st_lo, st_ne, st_eq, len_st, st_st, sst, at_set, at_set0, at_set2, at_set20, sst2, List.replicate_succ, List.drop_zero]
    | refine Sp2.f ?_ ?_
    | refine Spl.f ?_ ?_ <;> intro hb
    | refine rq_mk rfl (fun b hb => ?_)
    | refine r_draw (U := [[], [], [], [], [], [], [], [], [], [], [], []]) (H := []) hmix (by kernel_rfl) (by decide +kernel) (by kernel_rfl) ?_
    | refine k_fn p1 ?_
    | refine k_fn g1 ?_
    | refine k_fn e1 ?_
    | refine k_fn g2 ?_)
      refine k_giveBs (k := h.length + 6) (n := B.length + 1) (l := B ++ [c]) (es := B.map eB ++ [.int .u8 c.toNat]) ?_ (by rw [List.map_append]; rfl) (by simp) (by simp) g3 ?_
      · exact get_at h _ 6
      repeat' (first
    | simp (implicitDefEqProofs := false) only [push_cast, reduceIte, reduceCtorEq, Nat.reduceAdd, Nat.reduceSub, Nat.reduceEqDiff, Nat.reduceLT, Nat.reduceLeDiff, Nat.reduceBEq, Nat.reduceMul, Int.reduceLT, Int.reduceLE, Int.reduceEq, Int.reduceToNat, Int.reduceMul, Int.reduceNeg, Go.Proofs.Try.f10, eS_ty, eS_pl, eS_wk, eBs, b00, b20, b22, z0, n0, hk, hkle, hmt, q0, q1, q2, q3, q4, q5, q5', q6, q7, q8, q9, in_row hkl, Nat.le_refl, List.length_map, Int.toNat_natCast, ap_lo, st_lo, st_ne, st_eq, len_st, st_st, sst, at_set, at_set0, at_set2, at_set20, sst2, List.replicate_succ, List.drop_zero]
    | refine Sp2.f ?_ ?_
    | refine Spl.f ?_ ?_ <;> intro hb
    | refine rq_mk rfl (fun b hb => ?_)
    | refine r_draw (U := [[], [], [], [], [], [], [], [], [], [], [], []]) (H := []) hmix (by kernel_rfl) (by decide +kernel) (by kernel_rfl) ?_)
      have hT9 : ∀ l : List Entry, l[9]? = some (⟨5, (B.set k (x ^^^ c)).map eB, .own⟩ : Entry) → (h ++ l)[h.length + 9]? = some (⟨5, (B.set k (x ^^^ c)).map eB, .own⟩ : Entry) := fun l hl => by rw [get_at]; exact hl
      have hF9 : ∀ l : List Entry, l[9]? = some (⟨5, (B.set k (x ^^^ c)).map eB, .fz⟩ : Entry) → (h ++ l)[h.length + 9]? = some (⟨5, (B.set k (x ^^^ c)).map eB, .fz⟩ : Entry) := fun l hl => by rw [get_at]; exact hl
      rw [hTT] at g4 hTl
      have hz1 := u8z c
      have hz2 := u8z' c
      cases hG : getS (B.set k (x ^^^ c)) with
      | none =>
        have hc : (c == 0) = false := by
          rw [beq_eq_false_iff_ne]
          rintro rfl
          rw [set_xor0 hx, ← hBB, getS_put hmay hin] at hG
          cases hG
        rw [hc] at hz2
        rw [hG] at g4
        refine k_giveBs (k := h.length + 9) (n := B.length) (l := B.set k (x ^^^ c)) (es := (B.set k (x ^^^ c)).map eB) ?_ rfl (by intro e; rw [e] at hTl; simp at hTl; omega) (by simp) g4 ?_
        · exact hT9 _ rfl
        repeat' (first
    | simp (implicitDefEqProofs := false) only [push_cast, reduceIte, reduceCtorEq, Nat.reduceAdd, Nat.reduceSub, Nat.reduceEqDiff, Nat.reduceLT, Nat.reduceLeDiff, Nat.reduceBEq, Nat.reduceMul, Int.reduceLT, Int.reduceLE, Int.reduceEq, Int.reduceToNat, Int.reduceMul, Int.reduceNeg, Go.Proofs.Try.f10, eS_ty, eS_pl, eS_wk, b00, b20, b22, e22, hz2, ap_lo, st_lo, st_ne, st_eq, len_st, st_st, sst, at_set, at_set0, at_set2, at_set20, sst2, List.replicate_succ, List.drop_zero]
    | refine Sp2.f ?_ ?_
    | refine Spl.f ?_ ?_ <;> intro hb
    | refine rq_mk rfl (fun b hb => ?_)
    | refine r_draw (U := [[], [], [], [], [], [], [], [], [], [], [], []]) (H := []) hmix (by kernel_rfl) (by decide +kernel) (by kernel_rfl) ?_
    | refine k_fn c_told9 ?_)
      | some y =>
        obtain ⟨hy, hyB⟩ := getS_some hG
        have hys := mayS_small hy
        have p2 := c_sPut y hys
        rw [hy, hyB] at p2
        have s2 := c_sSame y s hys hsm
        have hfin : sameS y s = (c == 0) := by
          rw [← put_same hy hmay (getS_in hG) hin, hyB, hBB]
          cases hc : (c == 0) with
          | true => rw [eq_of_beq hc, set_xor0 hx]; simp
          | false =>
            rw [beq_eq_false_iff_ne]
            intro e
            rw [set_xor1 hx e] at hc
            simp at hc
        rw [hfin] at s2
        have s1 := c_Same1 (B.set k (x ^^^ c)) (B.set k (x ^^^ c))
        rw [beq_self_eq_true] at s1
        rw [hG] at g4
        refine k_giveBs (k := h.length + 9) (n := B.length) (l := B.set k (x ^^^ c)) (es := (B.set k (x ^^^ c)).map eB) ?_ rfl (by intro e; rw [e] at hTl; simp at hTl; omega) (by simp) g4 ?_
        · exact hT9 _ rfl
        repeat' (first
    | simp (implicitDefEqProofs := false) only [push_cast, reduceIte, reduceCtorEq, Nat.reduceAdd, Nat.reduceSub, Nat.reduceEqDiff, Nat.reduceLT, Nat.reduceLeDiff, Nat.reduceBEq, Nat.reduceMul, Int.reduceLT, Int.reduceLE, Int.reduceEq, Int.reduceToNat, Int.reduceMul, Int.reduceNeg, Go.Proofs.Try.f10, eS_ty, eS_pl, eS_wk, eBs_ty, eBs_pl, eBs_wk, b00, b20, b22, e00, hz1, beq_self_eq_true, ap_lo, st_lo, st_ne, st_eq, len_st, st_st, sst, at_set, at_set0, at_set2, at_set20, sst2, List.replicate_succ, List.drop_zero]
    | refine Sp2.f ?_ ?_
    | refine Spl.f ?_ ?_ <;> intro hb
    | refine rq_mk rfl (fun b hb => ?_)
    | refine r_draw (U := [[], [], [], [], [], [], [], [], [], [], [], []]) (H := []) hmix (by kernel_rfl) (by decide +kernel) (by kernel_rfl) ?_
    | refine k_fn c_told9 ?_
    | refine k_fn p2 ?_
    | refine k_fn s2 ?_)
        refine k_readBs (k := h.length + 9) (a := [eBs (B.set k (x ^^^ c))]) (a' := [eBs (B.set k (x ^^^ c))]) ?_ hTl.symm (by simp only [List.map_cons, List.map_nil, bz_dat 4 _ (eBs_dat _)]) s1 ?_
        · exact hF9 _ rfl
        repeat' (first
    | simp (implicitDefEqProofs := false) only [push_cast, reduceIte, reduceCtorEq, Nat.reduceAdd, Nat.reduceSub, Nat.reduceEqDiff, Nat.reduceLT, Nat.reduceLeDiff, Nat.reduceBEq, Nat.reduceMul, Int.reduceLT, Int.reduceLE, Int.reduceEq, Int.reduceToNat, Int.reduceMul, Int.reduceNeg, Go.Proofs.Try.f10, eS_ty, eS_pl, eS_wk, eBs_ty, eBs_pl, eBs_wk, b00, b20, b22, e00, hz1, beq_self_eq_true, ap_lo, st_lo, st_ne, st_eq, len_st, st_st, sst, at_set, at_set0, at_set2, at_set20, sst2, List.replicate_succ, List.drop_zero]
    | refine Sp2.f ?_ ?_
    | refine Spl.f ?_ ?_ <;> intro hb
    | refine rq_mk rfl (fun b hb => ?_)
    | refine r_draw (U := [[], [], [], [], [], [], [], [], [], [], [], []]) (H := []) hmix (by kernel_rfl) (by decide +kernel) (by kernel_rfl) ?_
    | refine k_fn s2 ?_)

end Go.Abs
