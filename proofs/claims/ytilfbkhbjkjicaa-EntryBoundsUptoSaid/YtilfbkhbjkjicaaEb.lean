/- Eb: a part of the proofs about the tuple space and its bytes. -/
import Derived.Test.YtilfbkhbjkjicaaTg
import Derived.Test.YtilfbkhbjkjicaaSf
set_option linter.all false
set_option maxRecDepth 100000
set_option maxHeartbeats 0
namespace Go.Abs
open Go
open Go.Proofs.Try (prog)
structure PS (n : Nat) (h0 : List Entry) (k : Nat) (l : List UInt8) (cs : List (Nat × Entry)) (H : List Entry) : Prop where
  tk : H.take n = h0
  ln : n ≤ H.length
  ex : ∃ X : Nat → Prop, (∀ j, X j → n ≤ j) ∧ Wr X k l H ∧ ∀ c ∈ cs, H[c.1]? = some c.2 ∧ ¬ X c.1
theorem PS.got {n : Nat} {h0 : List Entry} {k : Nat} {l : List UInt8} {cs : List (Nat × Entry)} {H : List Entry} (p : PS n h0 k l cs H) {c : Nat × Entry} (hc : c ∈ cs) : H[c.1]? = some c.2 := by
  obtain ⟨_, _, X, _, _, h⟩ := p
  exact (h c hc).1
theorem PS.call {f : FuncId} {args : List AV} {n : Nat} {h0 : List Entry} {k : Nat} {l l' : List UInt8} {cs : List (Nat × Entry)} {H : List Entry} (p : PS n h0 k l cs H) (hw : ∀ X, Wr X k l H → WMth f args X k H l') :
    FSpec prog f (.ref k [0] 94 :: args) H fun r' h'' => r' = .tup [] ∧ PS n h0 k l' cs h'' := by
  obtain ⟨tk, ln, X, hX, w, hc⟩ := p
  refine (hw X w).mono fun r' h'' ⟨e, w2, kp⟩ => ⟨e, (kp.take ln hX).trans tk, Nat.le_trans ln kp.len, ybh X H h'', zcw hX ln, w2, fun c hcs => ?_⟩
  obtain ⟨a, b⟩ := hc c hcs
  refine ⟨kp.get a b, fun hg => hg.elim b fun hg => ?_⟩
  have := qab a
  omega
theorem PS.add {n : Nat} {h0 : List Entry} {k : Nat} {l : List UInt8} {cs : List (Nat × Entry)} {H : List Entry} (p : PS n h0 k l cs H) (E : Entry) : PS n h0 k l ((H.length, E) :: cs) (H ++ [E]) := by
  obtain ⟨tk, ln, X, hX, w, hc⟩ := p
  refine ⟨by rw [List.take_append_of_le_length ln]; exact tk, by simp; omega, X, hX, w.app _, fun c hcs => ?_⟩
  rcases List.mem_cons.1 hcs with rfl | hcs
  · exact ⟨zao .., fun hx => absurd (w.bd _ hx) (Nat.lt_irrefl _)⟩
  · obtain ⟨a, b⟩ := hc c hcs
    exact ⟨by rw [List.getElem?_append_left (qab a)]; exact a, b⟩
theorem PS.less {n : Nat} {h0 : List Entry} {k : Nat} {l : List UInt8} {c : Nat × Entry} {cs : List (Nat × Entry)} {H : List Entry} (p : PS n h0 k l (c :: cs) H) : PS n h0 k l cs H := by
  obtain ⟨tk, ln, X, hX, w, hc⟩ := p
  exact ⟨tk, ln, X, hX, w, fun d hd => hc d (List.mem_cons_of_mem _ hd)⟩
theorem PS.len {n : Nat} {h0 : List Entry} {k : Nat} {l : List UInt8} {cs : List (Nat × Entry)} {H : List Entry} (p : PS n h0 k l cs H) : l.length ≤ 100000000 := by
  obtain ⟨_, _, X, _, w, _⟩ := p
  exact w.big
theorem PS.num {n : Nat} {h0 : List Entry} {k : Nat} {l : List UInt8} {cs : List (Nat × Entry)} {H : List Entry} (p : PS n h0 k l cs H) (v : Int) (m : Nat) (h1 : 1 ≤ m) (h8 : m ≤ 8) (hl : l.length ≤ 10000000) :
    FSpec prog 53 [.ref k [0] 94, .int .u64 v, .int .i64 m] H fun r' h'' => r' = .tup [] ∧ PS n h0 k (l ++ beN v m) cs h'' :=
  p.call fun X w => c_WNum w v m h1 h8 (by omega)
theorem PS.text {n : Nat} {h0 : List Entry} {k : Nat} {l : List UInt8} {cs : List (Nat × Entry)} {H : List Entry} (p : PS n h0 k l cs H) (b : List UInt8) (hl : l.length + b.length ≤ 10000000) :
    FSpec prog 54 [.ref k [0] 94, eBs b] H fun r' h'' => r' = .tup [] ∧ PS n h0 k (l ++ zbb b) cs h'' :=
  p.call fun X w => c_WText w b (by omega)
theorem PS.bytes {n : Nat} {h0 : List Entry} {k : Nat} {l : List UInt8} {cs : List (Nat × Entry)} {H : List Entry} (p : PS n h0 k l cs H) :
    FSpec prog 57 [.ref k [0] 94] H fun r' h'' => r' = eBs l ∧ h'' = H := by
  obtain ⟨_, _, X, _, w, _⟩ := p
  exact c_WBytes w
end Go.Abs
set_option linter.all false
set_option maxRecDepth 100000
set_option maxHeartbeats 0
namespace Go.Abs
open Go
open Go.Proofs.Try (prog)
end Go.Abs
set_option linter.all false
set_option maxRecDepth 100000
set_option maxHeartbeats 0
namespace Go.Abs
open Go
open Go.Proofs.Try (prog)
theorem flatL_map {α : Type} (f : α → AV) (hf : ∀ x, flat (f x) = true) : ∀ l : List α, flatL (l.map f) = true
  | [] => rfl
  | x :: l => by rw [List.map_cons, flatL, hf, flatL_map f hf l]; rfl
theorem eH_flat (l : List UInt8) : flat (eH l) = true := by rw [eH, flat]; exact flatL_map eB (fun _ => rfl) l
theorem bwV {H : List Entry} {k n lo : Nat} {l : List UInt8} {es : List AV} (z : List AV) (hk : H[k]? = some ⟨5, es, .own⟩) (hes : es = l.map eB ++ z) (hn : n = l.length) :
    [bw H 8 (.win k [] 5 0 n lo)] = [.list 5 (l.map eB)] := by
  have hv : View (fun _ => True) H 5 (.win k [] 5 0 n lo) (l.map eB) := View.mk' z trivial hk hes (by rw [hn]; simp)
  subst hes; subst hn
  rw [bw_winE, hk, ycz]
  have : qam (l.map eB ++ z) [] 0 l.length = some (l.map eB) := by simp [qam]
  rw [this, qcm, ycm _ _ (qal eB eB_dat l)]
end Go.Abs
set_option linter.all false
set_option maxRecDepth 100000
set_option maxHeartbeats 0
namespace Go.Abs
open Go
open Go.Proofs.Try (prog)
theorem all2_beq : ∀ l m : List UInt8, ycf (fun x y : UInt8 => x == y) l m = (l == m)
  | [], [] => rfl
  | [], _ :: _ => rfl
  | _ :: _, [] => rfl
  | x :: l, y :: m => by simp [ycf, all2_beq l m]
theorem eqB (x y : UInt8) : ((x.toNat : Int) == (y.toNat : Int)) = (x == y) := by
  by_cases h : x = y
  · subst h; simp
  · have : x.toNat ≠ y.toNat := fun e => h (UInt8.toNat_inj.mp e)
    have e1 : ((x.toNat : Int) == (y.toNat : Int)) = false := by simp only [beq_eq_false_iff_ne]; omega
    rw [e1]
    exact (beq_eq_false_iff_ne.mpr h).symm
theorem c_Equal_B (l m : List UInt8) (hl : l.length ≤ 4294967296) (hm : m.length ≤ 4294967296) : Fn prog 69 [eBs l, eBs m] (.bool (l == m)) := by
  rw [← all2_beq]
  refine run_69 rfl fun h => ?_
  by_cases hlen : l.length = m.length
  · repeat' (first
    | simp (implicitDefEqProofs := false) only [push_cast, reduceIte, reduceCtorEq, Nat.reduceAdd, Nat.reduceSub, Nat.reduceEqDiff, Nat.reduceLT, Nat.reduceLeDiff, Nat.reduceBEq, Nat.reduceMul, Int.reduceLT, Int.reduceLE, Int.reduceEq, Int.reduceToNat, Int.reduceMul, Int.reduceNeg, Go.Proofs.Try.f69, eBs, List.length_map, eq_len hlen]
    | refine Sp2.f ?_ ?_
    | refine Spl.f ?_ ?_ <;> intro hb
    | refine yac rfl (fun b hb => ?_)
    | refine zaa (U := [[], [], [], [], [], [], [], [], []]) (H := []) yae (by kernel_rfl) (by decide +kernel) (by kernel_rfl) ?_)
    refine zaz (fun i a => [(0, eBs l), (1, eBs m), (4, .bool false), (5, a 5), (10, a 10), (12, .int .i64 l.length), (13, .int .i64 i), (14, a 14), (24, a 24)]) (fun _ g => h ++ g) (fun i => i ≤ l.length ∧ ∀ j x y, j < i → l[j]? = some x → m[j]? = some y → (x == y) = true) l.length (za4 rfl ⟨[], (List.append_nil h).symm⟩ ⟨Nat.zero_le _, fun j x y hj => absurd hj (Nat.not_lt_zero j)⟩) ?_
    rintro i a g' ⟨hi, hinv⟩
    refine ⟨hi, ?_⟩
    by_cases hlt : i < l.length
    · have hlt' : i < m.length := by omega
      have hx : l[i]? = some l[i] := List.getElem?_eq_getElem hlt
      have hy : m[i]? = some m[i] := List.getElem?_eq_getElem hlt'
      have hq := eqB l[i] m[i]
      repeat' (first
    | simp (implicitDefEqProofs := false) only [push_cast, reduceIte, reduceCtorEq, Nat.reduceAdd, Nat.reduceSub, Nat.reduceEqDiff, Nat.reduceLT, Nat.reduceLeDiff, Nat.reduceBEq, Nat.reduceMul, Int.reduceLT, Int.reduceLE, Int.reduceEq, Int.reduceToNat, Int.reduceMul, Int.reduceNeg, Go.Proofs.Try.f69, eBs, List.length_map, yaz hlt, yas hlt, yas hlt', zar eB hx, zar eB hy, eB, eqA, hq, Int.toNat_natCast, yag (show i < 9223372036854775807 by omega)]
    | refine Sp2.f ?_ ?_
    | refine Spl.f ?_ ?_ <;> intro hb
    | refine yac rfl (fun b hb => ?_)
    | refine zaa (U := [[], [], [], [], [], [], [], [], []]) (H := []) yae (by kernel_rfl) (by decide +kernel) (by kernel_rfl) ?_
    | refine za4 ?_ ⟨_, rfl⟩ ?_)
      · have hb := ‹((l[i].toNat : Int) != (m[i].toNat : Int)) = true›
        rw [bne, hq, Bool.not_eq_true'] at hb
        rw [zbq hx hy hb]
      · have hb := ‹((l[i].toNat : Int) != (m[i].toNat : Int)) = false›
        rw [bne, hq, Bool.not_eq_false'] at hb
        exact ⟨hlt, qbg hx hy hb hinv⟩
    · repeat' (first
    | simp (implicitDefEqProofs := false) only [push_cast, reduceIte, reduceCtorEq, Nat.reduceAdd, Nat.reduceSub, Nat.reduceEqDiff, Nat.reduceLT, Nat.reduceLeDiff, Nat.reduceBEq, Nat.reduceMul, Int.reduceLT, Int.reduceLE, Int.reduceEq, Int.reduceToNat, Int.reduceMul, Int.reduceNeg, Go.Proofs.Try.f69, List.length_map, ya3 hlt]
    | refine Sp2.f ?_ ?_
    | refine Spl.f ?_ ?_ <;> intro hb
    | refine yac rfl (fun b hb => ?_)
    | refine zaa (U := [[], [], [], [], [], [], [], [], []]) (H := []) yae (by kernel_rfl) (by decide +kernel) (by kernel_rfl) ?_)
      rw [qbz hlen fun j x y hj => hinv j x y (by omega)]
  · repeat' (first
    | simp (implicitDefEqProofs := false) only [push_cast, reduceIte, reduceCtorEq, Nat.reduceAdd, Nat.reduceSub, Nat.reduceEqDiff, Nat.reduceLT, Nat.reduceLeDiff, Nat.reduceBEq, Nat.reduceMul, Int.reduceLT, Int.reduceLE, Int.reduceEq, Int.reduceToNat, Int.reduceMul, Int.reduceNeg, Go.Proofs.Try.f69, eBs, List.length_map, neq_len hlen]
    | refine Sp2.f ?_ ?_
    | refine Spl.f ?_ ?_ <;> intro hb
    | refine yac rfl (fun b hb => ?_)
    | refine zaa (U := [[], [], [], [], [], [], [], [], []]) (H := []) yae (by kernel_rfl) (by decide +kernel) (by kernel_rfl) ?_)
    rw [yca hlen]
end Go.Abs
