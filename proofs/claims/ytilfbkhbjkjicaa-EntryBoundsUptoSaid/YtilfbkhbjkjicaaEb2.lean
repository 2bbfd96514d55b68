/- Eb2: a part of the proofs about the tuple space and its bytes. -/
import Derived.Test.YtilfbkhbjkjicaaSt
import Derived.Test.YtilfbkhbjkjicaaEt
import Derived.Test.YtilfbkhbjkjicaaRb
import Derived.Test.YtilfbkhbjkjicaaPz
set_option linter.all false
set_option maxRecDepth 100000
set_option maxHeartbeats 0
namespace Go.Abs
open Go
open Go.Proofs.Try (prog)
def rqA (x : Req) : AV := .agg 60 [.int .i64 x.Client, .int .i64 x.Seq, .int .i64 x.Kind, .nils, .nils, .int .i64 x.Lease]
def bare (x : Req) : Prop := x.P = [] ∧ x.T = []
theorem rqA_wkd {x : Req} (h : bare x) (n : Nat) : wkd prog (n + 2) 60 (rqA x) = eQ x := by
  obtain ⟨a, b, c, P, T, l⟩ := x
  obtain ⟨rfl, rfl⟩ := h
  simp only [rqA, wkd_aggE, zb4, wkd_int, wkd_nils, qan, sh_60, fl_60, sh_24, List.zipWith_cons_cons, List.zipWith_nil_left, if_true]
  rfl
theorem rqs_wkd {l : List Req} (h : ∀ x ∈ l, bare x) (n : Nat) : (l.map rqA).map (wkd prog (n + 2) 60) = l.map eQ := by
  rw [List.map_map]
  exact List.map_congr_left fun x hx => rqA_wkd (h x hx) n
theorem rqA_bzd (H : List Entry) (n : Nat) (x : Req) : Go.Abs.bzd H n (rqA x) = rqA x := qdn n _ rfl
theorem wEnt0 {H : List Entry} {k m lo : Nat} {l : List Req} {z : List AV} (hm : m = l.length) (hk : H[k]? = some ⟨60, l.map rqA ++ z, .fz⟩) (n : Int) : Go.Abs.bzd H 3 (.agg 49 [.int .i64 n, .win k [] 60 0 m lo]) = .agg 49 [.int .i64 n, .list 60 (l.map rqA)] := by
  subst hm
  have hw : qam (l.map rqA ++ z) [] 0 l.length = some (l.map rqA) := by simp [qam]
  have hbz : (l.map rqA).map (Go.Abs.bzd H 1) = l.map rqA := by
    have : ∀ l : List Req, (l.map rqA).map (Go.Abs.bzd H 1) = l.map rqA := fun l => by
      induction l with
      | nil => rfl
      | cons x l ih => rw [List.map_cons, List.map_cons, ih, rqA_bzd]
    exact this l
  show AV.agg 49 [Go.Abs.bzd H 2 (.int .i64 n), Go.Abs.bzd H 2 (.win k [] 60 0 l.length lo)] = _
  rw [bzd_winS hk hw, hbz]; rfl
theorem wEntW {l : List Req} (hb : ∀ x ∈ l, bare x) (n : Int) : wkd prog 6 49 (.agg 49 [.int .i64 n, .list 60 (l.map rqA)]) = eE ⟨n, l⟩ := by
  simp only [wkd_aggE, zb4, wkd_int, wkd_list, sh_49, fl_49, List.zipWith_cons_cons, List.zipWith_nil_left, if_true, rqs_wkd hb]
  rfl
theorem wEntT (l : List Req) (n : Int) : tyB prog (.agg 49 [.int .i64 n, .list 60 (l.map rqA)]) 49 = true := by simp [tyB]
theorem wEnt1 {g : FuncId} {r : AV} {H : List Entry} {k m lo : Nat} {l : List Req} {z : List AV} (hb : ∀ x ∈ l, bare x) (hm : m = l.length) (hk : H[k]? = some ⟨60, l.map rqA ++ z, .fz⟩) (n : Int)
    (hp : Fn prog g [eE ⟨n, l⟩] r) : FSpec prog g [.agg 49 [.int .i64 n, .win k [] 60 0 m lo]] H fun r' h' => r' = r ∧ h' = H :=
  FSpec.readw wfp 3 [(6, 49)] (args1 := [.agg 49 [.int .i64 n, .list 60 (l.map rqA)]]) (by rw [List.map_cons, List.map_nil, wEnt0 hm hk]) ⟨wEntT l n, trivial⟩ (by rw [wkds, wEntW hb]; rfl) hp
theorem wEnt2 {g : FuncId} {r : AV} {H : List Entry} {k m lo : Nat} {l : List Req} {z : List AV} (hb : ∀ x ∈ l, bare x) (hm : m = l.length) (hk : H[k]? = some ⟨60, l.map rqA ++ z, .fz⟩) (s : Spc) (n : Int)
    (hp : Fn prog g [eS s, eE ⟨n, l⟩] r) : FSpec prog g [eS s, .agg 49 [.int .i64 n, .win k [] 60 0 m lo]] H fun r' h' => r' = r ∧ h' = H :=
  FSpec.readw wfp 3 [(0, 29), (6, 49)] (args1 := [eS s, .agg 49 [.int .i64 n, .list 60 (l.map rqA)]]) (by rw [List.map_cons, List.map_cons, List.map_nil, qdn _ _ (zc8 s), wEnt0 hm hk]) ⟨yb9 s, wEntT l n, trivial⟩ (by rw [wkds, wkds, wEntW hb]; rfl) hp
def rB (i : Nat) : Req := ⟨((i % 4 : Nat) : Int), (i : Int) + 1, 8, [], [], 0⟩
def lB (n : Nat) : List Req := (List.range n).map rB
theorem zcv (n : Nat) : ∀ x ∈ lB n, bare x := fun x hx => by
  obtain ⟨i, _, rfl⟩ := List.mem_map.1 hx; exact ⟨rfl, rfl⟩
theorem zco (n : Nat) : (lB n).length = n := by simp [lB]
theorem lB_snoc (n : Nat) : lB (n + 1) = lB n ++ [rB n] := by simp [lB, List.range_succ]
theorem rB_may {i : Nat} (h : i ≤ 10) : qcp (rB i) = true := by
  have : ∀ j : _root_.Fin 11, qcp (rB j.val) = true := by decide +kernel
  exact this ⟨i, by omega⟩
theorem lB_may {n : Nat} (h : n ≤ 10) (t : Int) : zc2 ⟨t, lB n⟩ = (decide (0 ≤ t) && (decide (t ≤ 1099511627776) && (decide (1 ≤ n) && decide (n ≤ 8)))) := by
  have ha : (lB n).all qcp = true := by
    rw [List.all_eq_true]
    intro x hx
    obtain ⟨i, hi, rfl⟩ := List.mem_map.1 hx
    exact rB_may (by have := List.mem_range.1 hi; omega)
  simp only [zc2, headE, ha, zco, Bool.and_true]
theorem lB_does : ∀ n : _root_.Fin 9, ∀ j : _root_.Fin 3, ((doN ⟨[0, 1, 1099511627776].getD j.val 0, lB n.val⟩ (qb2 0 0) n.val).2.length == n.val && (n.val == 0 || (doN ⟨[0, 1, 1099511627776].getD j.val 0, lB n.val⟩ (qb2 0 0) n.val).1.Now == [0, 1, 1099511627776].getD j.val 0)) = true := by decide +kernel
end Go.Abs
