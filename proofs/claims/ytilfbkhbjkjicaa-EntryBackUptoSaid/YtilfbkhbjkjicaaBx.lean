/- Bx: a part of the proofs about the tuple space and its bytes. -/
import Derived.Test.YtilfbkhbjkjicaaCt
import Derived.Test.YtilfbkhbjkjicaaGv
import Derived.Test.YtilfbkhbjkjicaaEb
set_option linter.all false
set_option maxRecDepth 100000
set_option maxHeartbeats 0
namespace Go.Abs
open Go
open Go.Proofs.Try (prog)
/-! ### bytes: as texts, given up, turned -/
theorem u64_range9 (n : Int) : 0 ≤ IntKind.wrap .u64 n ∧ IntKind.wrap .u64 n ≤ 18446744073709551615 := by
  rw [wrap_u64]; omega
theorem mod_small9 (n m : Int) (hm : 1 ≤ m ∧ m ≤ 1000000) : ∃ k, IntKind.wrap .i64 ((IntKind.wrap .u64 n).tmod m) = k ∧ 0 ≤ k ∧ k < m := by
  have h := u64_range9 n
  rw [IntWalk.rem_in _ _ h.1]
  have h1 := Int.emod_nonneg (IntKind.wrap .u64 n) (show m ≠ 0 by omega)
  have h2 := Int.emod_lt_of_pos (IntKind.wrap .u64 n) (show 0 < m by omega)
  exact ⟨_, IntWalk.i64_in _ (by omega), h1, h2⟩
theorem ba_data (a b : ByteArray) : (a == b) = (a.data == b.data) := rfl
theorem ba_eq {a b : ByteArray} (h : (a == b) = true) : a = b := by
  rw [ba_data, beq_iff_eq] at h
  cases a; cases b; simp_all
theorem strA_eB' : ∀ l : List UInt8, l.map (fun x => u8A (eB x)) = l
  | [] => rfl
  | x :: l => by
    rw [List.map_cons, strA_eB' l]
    simp [u8A, eB]
theorem strA_map (l : List UInt8) : strA (l.map eB) = ⟨l.toArray⟩ := by
  have := strA_eB' l
  rw [strA, List.map_map]
  exact congrArg (fun x => (⟨x.toArray⟩ : ByteArray)) this
theorem str_same (a b : List UInt8) : (strA (a.map eB) == strA (b.map eB)) = (a == b) := by
  rw [strA_map, strA_map, ba_data]
  by_cases h : a = b
  · subst h; simp
  · have e1 : (a == b) = false := by simpa using h
    rw [e1, beq_eq_false_iff_ne]
    intro e
    apply h
    simpa using e
theorem conv_str (a : List UInt8) : stConv prog 30 9 (eBs a) = .ret (.str (strA (a.map eB))) [] := by
  rw [eBs, stConv_list, if_pos ⟨sh_30, sh_5, sh_9⟩]
theorem c_Same1 (a b : List UInt8) : Fn prog 17 [eBs a, eBs b] (.bool (a == b)) := by
  have cA := conv_str a
  have cB := conv_str b
  have hs := str_same a b
  refine run_17 rfl fun h => ?_
  repeat' (first
    | simp (implicitDefEqProofs := false) only [push_cast, reduceIte, reduceCtorEq, Nat.reduceAdd, Nat.reduceSub, Nat.reduceEqDiff, Nat.reduceLT, Nat.reduceLeDiff, Nat.reduceBEq, Nat.reduceMul, Int.reduceLT, Int.reduceLE, Int.reduceEq, Int.reduceToNat, Int.reduceMul, Int.reduceNeg, Go.Proofs.Try.f17, cA, cB, hs, isc_tmp, ap_lo, st_lo, st_ne, st_eq, len_st, st_st, sst, at_set, at_set0, at_set2, List.replicate_succ, List.drop_zero]
    | refine Sp2.f ?_ ?_
    | refine Spl.f ?_ ?_ <;> intro hb
    | refine rq_mk rfl (fun b hb => ?_))
theorem mod_len (n : Int) {m : Nat} (hm : 1 ≤ m) (h2 : m ≤ 1000000) : ∃ k : Nat, IntKind.wrap .i64 ((IntKind.wrap .u64 n).tmod (IntKind.wrap .u64 (m : Int))) = (k : Int) ∧ k < m := by
  have e : IntKind.wrap .u64 (m : Int) = (m : Int) := by rw [wrap_u64]; omega
  rw [e]
  obtain ⟨d, h, h0, h1⟩ := mod_small9 n (m : Int) (by omega)
  exact ⟨d.toNat, by rw [h]; omega, by omega⟩
theorem xor_u8 (x c : UInt8) : bits .xor .u8 (x.toNat : Int) (c.toNat : Int) = ((x ^^^ c).toNat : Int) := by
  show IntKind.wrap .u8 ((BitVec.ofInt 8 (x.toNat : Int) ^^^ BitVec.ofInt 8 (c.toNat : Int)).toNat : Int) = _
  have hx := x.toNat_lt
  have hc := c.toNat_lt
  have h1 : ((x.toNat : Int) % ((2 ^ 8 : Nat) : Int)).toNat = x.toNat := by omega
  have h2 : ((c.toNat : Int) % ((2 ^ 8 : Nat) : Int)).toNat = c.toNat := by omega
  have h3 := Nat.xor_lt_two_pow (n := 8) (show x.toNat < 2 ^ 8 by omega) (show c.toNat < 2 ^ 8 by omega)
  rw [BitVec.toNat_xor, BitVec.toNat_ofInt, BitVec.toNat_ofInt, h1, h2, wrap_u8, UInt8.toNat_xor]
  omega
theorem k_giveBs {g : FuncId} {raw : List AV} {r : AV} {l : List UInt8} {es : List AV} {k n lo : Nat} {env : Env} {h : List Entry} {s : List Ctl} {d : Option Tmp} {Q : APost} (hk : h[k]? = some (⟨5, es, .own⟩ : Entry)) (he : es = l.map eB) (hl : l ≠ []) (hn : n = l.length) (hp : Fn prog g [eBs l] r)
    (hk2 : Rn prog s .normal (putD env d r) (h.set k ⟨5, l.map eB, .fz⟩) Q) : Rk prog g [.win k [] 5 0 n lo] raw d s env h Q := by
  subst he; subst hn
  refine k_give wfp hk rfl (by simpa using hl) ?_ hp hk2
  have hw : winGet (l.map eB) [] 0 l.length = some (l.map eB) := by simp [winGet, List.take_of_length_le]
  simp only [List.map_cons, List.map_nil, bz_winE, fzE, List.getElem?_set_self (lt_some hk), bzWin, if_true, hw]
  rfl
theorem k_readBs {g : FuncId} {raw a : List AV} {a' : List AV} {r : AV} {l : List UInt8} {k n lo : Nat} {env : Env} {h : List Entry} {s : List Ctl} {d : Option Tmp} {Q : APost} (hk : h[k]? = some (⟨5, l.map eB, .fz⟩ : Entry)) (hn : n = l.length) (ha : a.map (bz h 4) = a') (hp : Fn prog g (a' ++ [eBs l]) r)
    (hk2 : Rn prog s .normal (putD env d r) h Q) : Rk prog g (a ++ [.win k [] 5 0 n lo]) raw d s env h Q := by
  subst hn
  refine k_read wfp ?_ hp hk2
  have hw : winGet (l.map eB) [] 0 l.length = some (l.map eB) := by simp [winGet, List.take_of_length_le]
  rw [List.map_append, ha]
  simp only [List.map_cons, List.map_nil, bz_winE, hk, bzWin, if_true, hw]
  rfl
theorem set_xor0 {B : List UInt8} {k : Nat} {x : UInt8} (hx : B[k]? = some x) : B.set k (x ^^^ 0) = B := by
  apply List.ext_getElem?
  intro j
  rw [List.getElem?_set]
  split
  · rename_i e
    subst e
    rw [if_pos (List.getElem?_eq_some_iff.1 hx).1, hx, UInt8.xor_zero]
  · rfl
theorem set_xor1 {B : List UInt8} {k : Nat} {x c : UInt8} (hx : B[k]? = some x) (h : B.set k (x ^^^ c) = B) : c = 0 := by
  have e : (B.set k (x ^^^ c))[k]? = some (x ^^^ c) := List.getElem?_set_self (List.getElem?_eq_some_iff.1 hx).1
  rw [h, hx] at e
  have e : x = x ^^^ c := by simpa using e
  have : x ^^^ c = x ^^^ 0 := by rw [← e, UInt8.xor_zero]
  exact UInt8.xor_right_inj x |>.1 this
theorem u8z (c : UInt8) : ((c.toNat : Int) == 0) = (c == 0) := by
  have := eqB c 0
  simpa using this
theorem u8z' (c : UInt8) : ((c.toNat : Int) != 0) = !(c == 0) := by rw [bne, u8z]
theorem k_readBs0 {g : FuncId} {raw a : List AV} {a' : List AV} {r : AV} {l : List UInt8} {k n lo : Nat} {env : Env} {h : List Entry} {s : List Ctl} {d : Option Tmp} {Q : APost} (hk : h[k]? = some (⟨5, l.map eB, .fz⟩ : Entry)) (hn : n = l.length) (ha : a.map (bz h 4) = a') (hp : Fn prog g (eBs l :: a') r)
    (hk2 : Rn prog s .normal (putD env d r) h Q) : Rk prog g (.win k [] 5 0 n lo :: a) raw d s env h Q := by
  subst hn
  refine k_read wfp ?_ hp hk2
  have hw : winGet (l.map eB) [] 0 l.length = some (l.map eB) := by simp [winGet, List.take_of_length_le]
  rw [List.map_cons, ha]
  simp only [bz_winE, hk, bzWin, if_true, hw]
  rfl
theorem fld_same {x y : Fld} (h : x.same y = true) : x = y := by
  simp only [Fld.same, Bool.and_eq_true] at h
  obtain ⟨h1, h2, h3⟩ := h
  have h1 := eq_of_beq h1
  have h2 := eq_of_beq h2
  have h3 := ba_eq h3
  cases x; cases y; simp_all
theorem all2_eq {α : Type} {p : α → α → Bool} (hp : ∀ x y, p x y = true → x = y) : ∀ {l m : List α}, all2 p l m = true → l = m
  | [], [], _ => rfl
  | [], _ :: _, h => by simp [all2] at h
  | _ :: _, [], h => by simp [all2] at h
  | x :: l, y :: m, h => by
    simp only [all2, Bool.and_eq_true] at h
    rw [hp x y h.1, all2_eq hp h.2]
theorem sameT_eq {l m : List Fld} (h : sameT l m = true) : l = m := all2_eq (fun _ _ => fld_same) h

end Go.Abs
