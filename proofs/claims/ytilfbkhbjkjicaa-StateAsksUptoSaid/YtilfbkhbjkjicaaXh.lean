/- Xh: a part of the proofs about the tuple space and its bytes. -/
import Derived.Test.YtilfbkhbjkjicaaXp
import Derived.Test.YtilfbkhbjkjicaaR3
import Derived.Test.YtilfbkhbjkjicaaSy
set_option linter.all false
set_option maxRecDepth 100000
set_option maxHeartbeats 0
namespace Go.Abs
open Go
open Go.Proofs.Try (prog)
theorem at6 {g : FuncId} {args : List AV} {r : AV} {k : Nat} {s s' : RS} (c : ∀ {h : List Entry}, h[k]? = some (rE s) → FSpec prog g args h fun r' h' => r' = r ∧ h' = h.set k (rE s')) {H : List Entry} (hk : k < H.length) (l : List Entry) :
    FSpec prog g args (H.set k (rE s) ++ l) fun r' h' => r' = r ∧ h' = H.set k (rE s') ++ l := by
  have := c (h := H.set k (rE s) ++ l) (by rw [List.getElem?_append_left (by simpa using hk), List.getElem?_set_self hk])
  rwa [List.set_append_left _ _ (by simpa using hk), List.set_set] at this
theorem num6_len (s : RS) : (zco s).2.l.length ≤ s.l.length := by
  unfold zco; split
  · exact s.num_len 8
  · exact s.num_len 8
theorem yes6_len (s : RS) : (qde s).2.l.length ≤ s.l.length := by
  unfold qde; simp only; split
  · exact s.num_len 1
  · exact s.num_len 1
theorem qds (s : RS) : (qba s).2.l.length ≤ s.l.length := by
  unfold qba; split
  · exact s.text_len 1000
  · split
    · exact s.text_len 1000
    · exact s.text_len 1000
theorem getT_len6 (b : List UInt8) : ((qc7 b).getD []).length ≤ 6 := by
  cases h : qc7 b with
  | none => simp
  | some l => exact (zck (getT_inv h).1).2.1
theorem qda (s : RS) : (qba s).1.length ≤ 6 := by
  unfold qba; split
  · simp
  · split
    · exact getT_len6 _
    · simp
theorem num6_bad {s : RS} (h : s.w = true) : (zco s).2.w = true := by
  unfold zco; rw [s.num_bad h]; rw [if_neg (show ¬ (4611686018427387904 : Int) ≤ 0 by decide)]
theorem yes6_bad {s : RS} (h : s.w = true) : (qde s).2.w = true := by
  unfold qde; rw [s.num_bad h]; rfl
theorem rowR6_bad {s : RS} (h : s.w = true) : (qba s).2.w = true := by
  have ht := s.text_bad h 1000
  unfold qba; split
  · exact ht
  · split
    · exact ht
    · rfl
theorem yc2 {s : RS} (h : s.w = true) (n : Nat) : (s.num n).2.w = true := by rw [s.num_bad h]
theorem getI6_bad {s : RS} (h : s.w = true) : (qbo s).2.w = true := rowR6_bad (num6_bad (yc2 h 1))
theorem getW6_bad {s : RS} (h : s.w = true) : (ybo s).2.w = true := rowR6_bad (yes6_bad (yc2 (yc2 h 1) 4))
theorem getL6_bad {c : Int} {s : RS} (h : s.w = true) : (ydd c s).2.w = true := rowR6_bad (yes6_bad (yc2 (yc2 h 4) 1))
theorem qck {α : Type} {f : RS → α × RS} (hf : ∀ {s}, s.w = true → (f s).2.w = true) : ∀ (n : Nat) {s : RS}, s.w = true → (zag f n s).2.w = true
  | 0, s, h => h
  | n + 1, s, h => qck hf n (hf h)
theorem gL6_bad {s : RS} (h : s.w = true) : ∀ j, (gL6 s j).2.w = true
  | 0 => h
  | j + 1 => getL6_bad (c := (j : Int)) (gL6_bad h j)
theorem zdd {α : Type} (f : RS → α × RS) : ∀ (i j : Nat) (s : RS), (zag f (i + j) s).2 = (zag f j (zag f i s).2).2
  | 0, j, s => by simp [zag]
  | i + 1, j, s => by rw [show i + 1 + j = (i + j) + 1 by omega]; exact zdd f i j (f s).2
theorem okS_bad {p : Spc × RS} (h : p.2.w = true) : okS p = none := by rw [okS, fine_bad h, if_neg (by simp)]
theorem tail6_bad {a r w : Int} {I : List Itm} {s : RS} (h : s.w = true) : okS (tail6 a r w I s) = none := okS_bad (gL6_bad (qck (fun h => getW6_bad h) _ (yc2 h 1)) 4)
theorem getI6_less (s : RS) : (qbo s).2.l.length ≤ s.l.length := Nat.le_trans (qds _) (Nat.le_trans (num6_len _) (s.num_len 1))
theorem getW6_less (s : RS) : (ybo s).2.l.length ≤ s.l.length := Nat.le_trans (qds _) (Nat.le_trans (yes6_len _) (Nat.le_trans (RS.num_len _ 4) (s.num_len 1)))
theorem getL6_less (c : Int) (s : RS) : (ydd c s).2.l.length ≤ s.l.length := Nat.le_trans (qds _) (Nat.le_trans (yes6_len _) (Nat.le_trans (RS.num_len _ 1) (s.num_len 4)))
theorem ycx {α : Type} {f : RS → α × RS} (hf : ∀ s, (f s).2.l.length ≤ s.l.length) : ∀ (n : Nat) (s : RS), (zag f n s).2.l.length ≤ s.l.length
  | 0, s => Nat.le_refl _
  | n + 1, s => Nat.le_trans (ycx hf n (f s).2) (hf s)
theorem gL6_less (s : RS) : ∀ j, (gL6 s j).2.l.length ≤ s.l.length
  | 0 => Nat.le_refl _
  | j + 1 => Nat.le_trans (getL6_less (j : Int) _) (gL6_less s j)
theorem gL6_all (s : RS) : ∀ j, ∀ x ∈ (gL6 s j).1, x.T.length ≤ 4294967296
  | 0 => by simp [gL6]
  | j + 1 => by
    intro x hx
    rw [gL6, List.mem_append, List.mem_singleton] at hx
    rcases hx with hx | rfl
    · exact gL6_all s j x hx
    · exact Nat.le_trans (qda _) (by omega)
structure G6 (n : Nat) (h0 : List Entry) (s : RS) (z : AV) (H : List Entry) : Prop where
  tk : H.take n = h0
  t2 : H[n]? = some ⟨29, [z], .own⟩
  r : H[n + 1]? = some (rE s)
theorem G6.to {n : Nat} {h0 : List Entry} {s s' : RS} {z : AV} {H : List Entry} (g : G6 n h0 s z H) : G6 n h0 s' z (H.set (n + 1) (rE s')) :=
  ⟨by rw [List.take_set_of_le (by omega)]; exact g.tk, by rw [List.getElem?_set_ne (by omega)]; exact g.t2, List.getElem?_set_self (zac g.r)⟩
theorem G6.put {n : Nat} {h0 : List Entry} {s : RS} {z : AV} {H : List Entry} (g : G6 n h0 s z H) (E : Entry) : G6 n h0 s z (H.set (n + 2) E) :=
  ⟨by rw [List.take_set_of_le (by omega)]; exact g.tk, by rw [List.getElem?_set_ne (by omega)]; exact g.t2, by rw [List.getElem?_set_ne (by omega)]; exact g.r⟩
theorem G6.keep {n : Nat} {h0 : List Entry} {s : RS} {z : AV} {H H' : List Entry} (g : G6 n h0 s z H) {T : TypeId} (hT : T = 87 ∨ T = 89) (hn : h0.length = n) (hk : ∀ j e, H[j]? = some e → (¬ n ≤ j ∨ e.T ≠ T) → H'[j]? = some e) : G6 n h0 s z H' :=
  ⟨by
    subst hn
    exact tk11 g.tk (by have := zac g.t2; omega) fun j e hj hjl => hk j e hj (.inl (by omega)),
   hk _ _ g.t2 (.inr (by rcases hT with rfl | rfl <;> (show 29 ≠ _; decide))), hk _ _ g.r (.inr (by rcases hT with rfl | rfl <;> (show 115 ≠ _; decide)))⟩
end Go.Abs
set_option linter.all false
set_option maxRecDepth 100000
set_option maxHeartbeats 0
namespace Go.Abs
open Go
open Go.Proofs.Try (prog)
theorem c_GetSpace6 (b : List UInt8) (hb : b.length ≤ 1000000) : Fn prog 21 [eBs b] (.tup [eS ((ydm b).getD zSp), .int .i64 (if (ydm b).isSome = true then 0 else 2)]) := by
  rw [← getS6_eq]
  refine ybm (R := fun r => ∃ l, r = .tup l ∧ argsOK prog [29, 3] l ∧ wks prog [29, 3] l = [eS ((zdu b).getD zSp), .int .i64 (if (zdu b).isSome = true then 0 else 2)]) [29, 3] (fn_tup wfp fun h => ?_) fun r hr => ?_
  rotate_left
  · obtain ⟨l, rfl, h1, h2⟩ := hr
    exact ⟨l, rfl, h1, h2⟩
  refine frun_21 rfl ?_
  have hR : (⟨115, [.agg 115 [eBs b, .bool false]], .own⟩ : Entry) = rE ⟨b, false⟩ := rfl
  repeat' (first
    | simp (implicitDefEqProofs := false) only [push_cast, reduceIte, reduceCtorEq, Nat.reduceAdd, Nat.reduceSub, Nat.reduceEqDiff, Nat.reduceLT, Nat.reduceLeDiff, Nat.reduceBEq, Nat.reduceMul, Int.reduceLT, Int.reduceLE, Int.reduceEq, Int.reduceToNat, Int.reduceMul, Int.reduceNeg, Go.Proofs.Try.f21, zas, qat, yat, hR, yad, zae, qac, zad, yab, qad, sst, qab, yaa, qaa, List.replicate_succ, List.drop_zero]
    | refine Sp2.f ?_ ?_
    | refine Spl.f ?_ ?_ <;> intro hb
    | refine yac rfl (fun b hb => ?_))
  generalize hH : HAppend.hAppend h _ = H
  obtain ⟨z0, g0⟩ : ∃ z0, G6 h.length h ⟨b, false⟩ z0 H := ⟨_, by rw [← hH]; simp, by rw [← hH]; exact zar .., by rw [← hH]; exact qa9 ..⟩
  have hHl : H.length = h.length + 2 := by rw [← hH]; simp
  clear hH
  have hkl : h.length + 1 < H.length := by omega
  obtain ⟨s1, hs1⟩ : ∃ s1, s1 = (zco ⟨b, false⟩).2 := ⟨_, rfl⟩
  obtain ⟨s2, hs2⟩ : ∃ s2, s2 = (s1.num 1).2 := ⟨_, rfl⟩
  obtain ⟨s3, hs3⟩ : ∃ s3, s3 = (s2.num 1).2 := ⟨_, rfl⟩
  obtain ⟨s4, hs4⟩ : ∃ s4, s4 = (s3.num 1).2 := ⟨_, rfl⟩
  obtain ⟨w0, hw0⟩ : ∃ w0, w0 = (zco ⟨b, false⟩).1 := ⟨_, rfl⟩
  obtain ⟨w3, hw3⟩ : ∃ w3, w3 = IntKind.i64.wrap (s1.num 1).1 := ⟨_, rfl⟩
  obtain ⟨w4, hw4⟩ : ∃ w4, w4 = IntKind.i64.wrap (s2.num 1).1 := ⟨_, rfl⟩
  have L1 : s1.l.length ≤ 1000000 := by rw [hs1]; exact Nat.le_trans (num6_len _) hb
  have L2 : s2.l.length ≤ 1000000 := by rw [hs2]; exact Nat.le_trans (RS.num_len _ _) L1
  have L3 : s3.l.length ≤ 1000000 := by rw [hs3]; exact Nat.le_trans (RS.num_len _ _) L2
  have L4 : s4.l.length ≤ 1000000 := by rw [hs4]; exact Nat.le_trans (RS.num_len _ _) L3
  have hrg := s3.num_range 1
  obtain ⟨N, hN⟩ : ∃ N : Nat, (N : Int) = (s3.num 1).1 := ⟨(s3.num 1).1.toNat, by omega⟩
  have hNw : IntKind.wrap .i64 (s3.num 1).1 = (N : Int) := by rw [qam hrg.1 (by omega)]; omega
  have hpar : zdu b = okS (tail6 w0 w3 w4 (zag qbo N s4).1 (zag qbo N s4).2) := by
    rw [zdu, qcv, ← hs1, ← hs2, ← hs3, ← hs4, ← hw0, ← hw3, ← hw4, ← hN, Int.toNat_natCast]
  have hn0 : FSpec prog 70 [.ref (h.length + 1) [0] 115] H fun r' h' => r' = .int .i64 w0 ∧ h' = H.set (h.length + 1) (rE s1) := by
    have := c_number6 g0.r (by show b.length ≤ _; omega)
    rw [← hs1, ← hw0] at this; exact this
  have hn1 : ∀ l, FSpec prog 71 [.ref (h.length + 1) [0] 115, .int .i64 1] (H.set (h.length + 1) (rE s1) ++ l) fun r' h' => r' = .int .u64 (s1.num 1).1 ∧ h' = H.set (h.length + 1) (rE s2) ++ l := fun l => by
    rw [hs2]; exact at6 (fun hk => zb8 hk 1 (by omega) (by omega) (by omega)) hkl l
  have hn2 : ∀ l, FSpec prog 71 [.ref (h.length + 1) [0] 115, .int .i64 1] (H.set (h.length + 1) (rE s2) ++ l) fun r' h' => r' = .int .u64 (s2.num 1).1 ∧ h' = H.set (h.length + 1) (rE s3) ++ l := fun l => by
    rw [hs3]; exact at6 (fun hk => zb8 hk 1 (by omega) (by omega) (by omega)) hkl l
  have hn3 : ∀ l, FSpec prog 71 [.ref (h.length + 1) [0] 115, .int .i64 1] (H.set (h.length + 1) (rE s3) ++ l) fun r' h' => r' = .int .u64 (s3.num 1).1 ∧ h' = H.set (h.length + 1) (rE s4) ++ l := fun l => by
    rw [hs4]; exact at6 (fun hk => zb8 hk 1 (by omega) (by omega) (by omega)) hkl l
  repeat' (first
    | simp (implicitDefEqProofs := false) only [push_cast, reduceIte, reduceCtorEq, Nat.reduceAdd, Nat.reduceSub, Nat.reduceEqDiff, Nat.reduceLT, Nat.reduceLeDiff, Nat.reduceBEq, Nat.reduceMul, Int.reduceLT, Int.reduceLE, Int.reduceEq, Int.reduceToNat, Int.reduceMul, Int.reduceNeg, Go.Proofs.Try.f21, hNw, hkl, zds, ← hw3, ← hw4, zaj hkl, yag hkl, za4 hkl, yaj hkl, yad, zae, qac, zad, yab, qad, sst, qab, yaa, qaa, List.replicate_succ, List.drop_zero]
    | refine Sp2.f ?_ ?_
    | refine Spl.f ?_ ?_ <;> intro hb
    | refine yac rfl (fun b hb => ?_)
    | refine yal hn0 ?_
    | refine yal (hn1 _) ?_
    | refine yal (hn2 _) ?_
    | refine yal (hn3 _) ?_)
  have g4 : G6 h.length h s4 z0 (H.set (h.length + 1) (rE s4) ++ [(⟨29, [.agg 29 [.int .i64 w0, .nils, .nils, .int .i64 w3, .int .i64 w4, zL]], .own⟩ : Entry)]) :=
    ⟨by rw [List.take_append_of_le_length (by simp; omega)]; exact (g0.to (s' := s4)).tk, by rw [List.getElem?_append_left (by simp; omega)]; exact (g0.to (s' := s4)).t2, by rw [List.getElem?_append_left (by simp; omega)]; exact (g0.to (s' := s4)).r⟩
  have k4 : (H.set (h.length + 1) (rE s4) ++ [(⟨29, [.agg 29 [.int .i64 w0, .nils, .nils, .int .i64 w3, .int .i64 w4, zL]], .own⟩ : Entry)])[h.length + 2]? = some ⟨29, [.agg 29 [.int .i64 w0, .nils, .nils, .int .i64 w3, .int .i64 w4, zL]], .own⟩ := by
    have := zar (H.set (h.length + 1) (rE s4)) [(⟨29, [.agg 29 [.int .i64 w0, .nils, .nils, .int .i64 w3, .int .i64 w4, zL]], .own⟩ : Entry)]
    rw [List.length_set, hHl] at this; exact this
  rw [hHl]
  generalize hH4 : H.set (h.length + 1) (rE s4) ++ [(⟨29, [.agg 29 [.int .i64 w0, .nils, .nils, .int .i64 w3, .int .i64 w4, zL]], .own⟩ : Entry)] = H4 at g4 k4
  have hH4' := hH4
  simp only [zL, zR] at hH4'
  rw [hH4']
  clear hH4 hH4' hn0 hn1 hn2 hn3 g0 hkl hHl H
  rw [← qa8]
  refine qce 2 (fun e env' H => e = .normal ∧ ∃ fI s5 v1, G6 h.length h s5 z0 H ∧ s5.l.length ≤ 1000000 ∧ fI.length ≤ 256 ∧ (∀ x ∈ fI, x.T.length ≤ 4294967296) ∧ View (fun j => h.length ≤ j) H 87 v1 (fI.map eI) ∧ NilOr v1 (fI.map eI) ∧
    H[h.length + 2]? = some (⟨29, [.agg 29 [.int .i64 w0, v1, .nils, .int .i64 w3, .int .i64 w4, zL]], .own⟩ : Entry) ∧ okS (tail6 w0 w3 w4 fI s5) = zdu b ∧
    env' = (fun a : Nat → AV => [(0, eBs b), (2, .ref h.length [0] 29), (3, .int .i64 0), (4, .ref (h.length + 1) [0] 115), (5, .ref (h.length + 2) [0] 29), (6, a 6), (7, a 7), (8, a 8), (9, a 9), (10, a 10), (11, a 11), (12, a 12), (39, a 39), (70, a 70), (94, a 94), (123, a 123)]) (lk env')) ?_ ?_
  · simp only [List.take_succ_cons, List.take_zero, qa8]
    refine qau (fun i env' H => i ≤ N ∧ G6 h.length h (zag qbo i s4).2 z0 H ∧ (∃ v1, View (fun j => h.length ≤ j) H 87 v1 ((zag qbo i s4).1.map eI) ∧ NilOr v1 ((zag qbo i s4).1.map eI) ∧ H[h.length + 2]? = some (⟨29, [.agg 29 [.int .i64 w0, v1, .nils, .int .i64 w3, .int .i64 w4, zL]], .own⟩ : Entry) ∧
      env' = (fun a : Nat → AV => [(0, eBs b), (2, .ref h.length [0] 29), (3, .int .i64 0), (4, .ref (h.length + 1) [0] 115), (5, .ref (h.length + 2) [0] 29), (6, .int .i64 N), (7, .int .i64 (i : Int)), (8, a 8), (9, a 9), (10, a 10), (11, a 11), (12, a 12), (39, a 39), (70, a 70), (94, a 94), (123, a 123)]) (lk env'))) N ⟨Nat.zero_le _, g4, .nils, .nil, fun _ => rfl, k4, rfl⟩ ?_
    clear g4 k4 H4
    rintro i env H ⟨hi, g, v1, hv, hnI, hk, henv⟩
    refine ⟨hi, ?_⟩
    rw [henv]
    generalize lk env = a
    clear henv env
    have hls : (zag qbo i s4).2.l.length ≤ 1000000 := Nat.le_trans (ycx getI6_less i s4) L4
    have hln := ybb qbo i s4
    have hr := g.r
    have hrl := zac hr
    have hkl := zac hk
    by_cases hgo : i < N ∧ (zag qbo i s4).2.w = false
    · obtain ⟨hlt, hw⟩ := hgo
      have c1 : decide ((i : Int) < (N : Int)) = true := by simpa using hlt
      have hsn := ybw qbo i s4
      generalize (zag qbo i s4).2 = s at g hsn hls hw hr
      generalize hfs : (zag qbo i s4).1 = fs at hv hsn hln hnI
      have hrE := hr
      rw [qct hw] at hrE
      obtain ⟨t1, ht1⟩ : ∃ t1, t1 = (s.num 1).2 := ⟨_, rfl⟩
      obtain ⟨t2, ht2⟩ : ∃ t2, t2 = (zco t1).2 := ⟨_, rfl⟩
      obtain ⟨t3, ht3⟩ : ∃ t3, t3 = (qba t2).2 := ⟨_, rfl⟩
      have l1 : t1.l.length ≤ 1000000 := by rw [ht1]; exact Nat.le_trans (RS.num_len _ _) hls
      have l2 : t2.l.length ≤ 1000000 := by rw [ht2]; exact Nat.le_trans (num6_len _) l1
      have q1 : FSpec prog 71 [.ref (h.length + 1) [0] 115, .int .i64 1] H fun r' h' => r' = .int .u64 (s.num 1).1 ∧ h' = H.set (h.length + 1) (rE t1) := by rw [ht1]; exact zb8 hr 1 (by omega) (by omega) (by omega)
      have q2 : ∀ l, FSpec prog 70 [.ref (h.length + 1) [0] 115] (H.set (h.length + 1) (rE t1) ++ l) fun r' h' => r' = .int .i64 (zco t1).1 ∧ h' = H.set (h.length + 1) (rE t2) ++ l := fun l => by
        rw [ht2]; exact at6 (fun hk => c_number6 hk (by omega)) hrl l
      have q3 : ∀ l, FSpec prog 72 [.ref (h.length + 1) [0] 115] (H.set (h.length + 1) (rE t2) ++ l) fun r' h' => r' = eFs (qba t2).1 ∧ h' = H.set (h.length + 1) (rE t3) ++ l := fun l => by
        rw [ht3]; exact at6 (fun hk => c_some6 hk (by omega)) hrl l
      obtain ⟨X, hX⟩ : ∃ X : Itm, X = ⟨IntKind.i64.wrap (s.num 1).1, (zco t1).1, (qba t2).1⟩ := ⟨_, rfl⟩
      have hx : qbo s = (X, t3) := by rw [hX, ht3, ht2, ht1]; rfl
      have hXe : eI X = .agg 87 [.int .i64 (IntKind.i64.wrap (s.num 1).1), .int .i64 (zco t1).1, eFs (qba t2).1] := by rw [hX]; rfl
      have la := hv.lenAV
      rw [List.length_map] at la
      have e7 : decide (fs.length + 1 ≤ 4294967296) = true := by simp; omega
      have hv3 := ((hv.set hr (show (rE s).T ≠ 87 from (by decide : 115 ≠ 87)) (rE t3)).app [(⟨87, [eI X], .own⟩ : Entry)]).app [(⟨87, [eI X], .own⟩ : Entry)]
      obtain ⟨v6, H6, hv6, hl6, hk6, happ⟩ := yb4 (P := prog) (eI X) hv3
      have g3 : G6 h.length h t3 z0 (H.set (h.length + 1) (rE t3) ++ [(⟨87, [eI X], .own⟩ : Entry)] ++ [(⟨87, [eI X], .own⟩ : Entry)]) :=
        ⟨by rw [List.append_assoc, List.take_append_of_le_length (by simp; omega)]; exact (g.to (s' := t3)).tk, by rw [List.append_assoc, List.getElem?_append_left (by simp; omega)]; exact (g.to (s' := t3)).t2, by rw [List.append_assoc, List.getElem?_append_left (by simp; omega)]; exact (g.to (s' := t3)).r⟩
      have k3 : (H.set (h.length + 1) (rE t3) ++ [(⟨87, [eI X], .own⟩ : Entry)] ++ [(⟨87, [eI X], .own⟩ : Entry)])[h.length + 2]? = some (⟨29, [.agg 29 [.int .i64 w0, v1, .nils, .int .i64 w3, .int .i64 w4, zL]], .own⟩ : Entry) := by
        rw [List.append_assoc, List.getElem?_append_left (by simpa using hkl), List.getElem?_set_ne (by omega)]; exact hk
      have g6 := g3.keep (.inl rfl) rfl hk6
      have k6 := hk6 _ _ k3 (.inr (by show 29 ≠ 87; decide))
      have k6l := zac k6
      have hty6 := hv6.ty (P := prog) (U := 22) sh_22
      have hpl6 := hv6.pl
      rw [show (H.set (h.length + 1) (rE t3) ++ [(⟨87, [eI X], .own⟩ : Entry)] ++ [(⟨87, [eI X], .own⟩ : Entry)]).length = H.length + 2 by simp] at happ
      rw [List.append_assoc, List.cons_append, List.nil_append] at happ
      rw [hXe] at happ
      have k3s : ∀ (E : Entry) (l : List Entry), (H.set (h.length + 1) E ++ l)[h.length + 2]? = some (⟨29, [.agg 29 [.int .i64 w0, v1, .nils, .int .i64 w3, .int .i64 w4, zL]], .own⟩ : Entry) := fun E l => by
        rw [List.getElem?_append_left (by simpa using hkl), List.getElem?_set_ne (by omega)]; exact hk
      repeat' (first
    | simp (implicitDefEqProofs := false) only [push_cast, reduceIte, reduceCtorEq, Nat.reduceAdd, Nat.reduceSub, Nat.reduceEqDiff, Nat.reduceLT, Nat.reduceLeDiff, Nat.reduceBEq, Nat.reduceMul, Int.reduceLT, Int.reduceLE, Int.reduceEq, Int.reduceToNat, Int.reduceMul, Int.reduceNeg, Go.Proofs.Try.f21, c1, hrE, hrl, hkl, hk, k3s, k6, k6l, la, e7, hty6, hpl6, zds, yav, yax, zax, zaj hrl, yag hrl, za4 hrl, yaj hrl, zaj hkl, yag hkl, za4 hkl, yaj hkl, Int.toNat_natCast, qae (show i < 9223372036854775807 by omega), yad, zae, qac, zad, yab, qad, sst, qab, yaa, qaa, List.replicate_succ, List.drop_zero]
    | refine Sp2.f ?_ ?_
    | refine Spl.f ?_ ?_ <;> intro hb
    | refine yac rfl (fun b hb => ?_)
    | refine yal q1 ?_
    | refine yal (q2 _) ?_
    | refine yal (q3 _) ?_
    | refine happ _ _ _ _ ?_)
      · omega
      have vB := (hv6.up (Y := fun j => h.length ≤ j) fun j hj => by rcases hj with a | ⟨a, _⟩; exact a; simp only [List.length_append, List.length_set] at a; omega).set k6 (show 29 ≠ 87 by decide)
      rw [hsn, hx]
      refine ⟨hlt, g6.put _, v6, ?_, fun h => by simp at h, rfl⟩
      rw [List.map_append]
      exact vB _
    · have sI := yb6 (f := qbo) (p := fun x : Itm => x.T.length ≤ 4294967296) (fun s => by have := qda (zco (s.num 1).2).2; simp only [qbo]; omega) i s4
      cases hw : (zag qbo i s4).2.w with
      | true =>
        have hg : zdu b = none := by
          obtain ⟨j, hj⟩ : ∃ j, N = i + j := ⟨N - i, by omega⟩
          rw [hpar]; apply tail6_bad; rw [hj, zdd]; exact qck (fun h => getI6_bad h) j hw
        have hrE := hr
        rw [qcn hw] at hrE
        cases c1 : decide ((i : Int) < (N : Int))
        all_goals repeat' (first
    | simp (implicitDefEqProofs := false) only [push_cast, reduceIte, reduceCtorEq, Nat.reduceAdd, Nat.reduceSub, Nat.reduceEqDiff, Nat.reduceLT, Nat.reduceLeDiff, Nat.reduceBEq, Nat.reduceMul, Int.reduceLT, Int.reduceLE, Int.reduceEq, Int.reduceToNat, Int.reduceMul, Int.reduceNeg, Go.Proofs.Try.f21, c1, hrE, hrl, yad, zae, qac, zad, yab, qad, sst, qab, yaa, qaa, List.replicate_succ, List.drop_zero]
    | refine Sp2.f ?_ ?_
    | refine Spl.f ?_ ?_ <;> intro hb
    | refine yac rfl (fun b hb => ?_))
        all_goals exact ⟨_, _, _, g, hls, by omega, sI, hv, hnI, hk, by rw [hg]; exact tail6_bad hw⟩
      | false =>
        have hiN : i = N := by rw [hw] at hgo; simp at hgo; omega
        subst hiN
        have c1 : decide ((i : Int) < (i : Int)) = false := by simp
        repeat' (first
    | simp (implicitDefEqProofs := false) only [push_cast, reduceIte, reduceCtorEq, Nat.reduceAdd, Nat.reduceSub, Nat.reduceEqDiff, Nat.reduceLT, Nat.reduceLeDiff, Nat.reduceBEq, Nat.reduceMul, Int.reduceLT, Int.reduceLE, Int.reduceEq, Int.reduceToNat, Int.reduceMul, Int.reduceNeg, Go.Proofs.Try.f21, c1, yad, zae, qac, zad, yab, qad, sst, qab, yaa, qaa, List.replicate_succ, List.drop_zero]
    | refine Sp2.f ?_ ?_
    | refine Spl.f ?_ ?_ <;> intro hb
    | refine yac rfl (fun b hb => ?_))
        exact ⟨_, _, _, g, hls, by omega, sI, hv, hnI, hk, hpar.symm⟩
  clear hpar hNw hN hrg N g4 k4 H4 L1 L2 L3 L4 hs1 hs2 hs3 hs4 s1 s2 s3 s4 hw0 hw3 hw4
  rintro _ env' H ⟨rfl, fI, s5, v1, g, hls, hfI, sI, hv1, hnI, hk, hpar, henv⟩
  rw [henv]
  generalize lk env' = a
  clear henv env'
  simp only [List.drop_succ_cons, List.drop_zero]
  have hrg := s5.num_range 1
  obtain ⟨M, hM⟩ : ∃ M : Nat, (M : Int) = (s5.num 1).1 := ⟨(s5.num 1).1.toNat, by omega⟩
  have hMw : IntKind.wrap .i64 (s5.num 1).1 = (M : Int) := by rw [qam hrg.1 (by omega)]; omega
  obtain ⟨s6, hs6⟩ : ∃ s6, s6 = (s5.num 1).2 := ⟨_, rfl⟩
  have hpar2 : zdu b = okS (⟨w0, fI, (zag ybo M s6).1, w3, w4, (gL6 (zag ybo M s6).2 4).1⟩, (gL6 (zag ybo M s6).2 4).2) := by
    rw [← hpar, tail6, ← hM, ← hs6, Int.toNat_natCast]
  have hn1 : FSpec prog 71 [.ref (h.length + 1) [0] 115, .int .i64 1] H fun r' h' => r' = .int .u64 (s5.num 1).1 ∧ h' = H.set (h.length + 1) (rE s6) := by rw [hs6]; exact zb8 g.r 1 (by omega) (by omega) (by omega)
  have L6 : s6.l.length ≤ 1000000 := by rw [hs6]; exact Nat.le_trans (RS.num_len _ _) hls
  have g6 := g.to (s' := s6)
  have v16 := hv1.set g.r (show (rE s5).T ≠ 87 from (by decide : 115 ≠ 87)) (rE s6)
  have k6 : (H.set (h.length + 1) (rE s6))[h.length + 2]? = _ := (List.getElem?_set_ne (by omega)).trans hk
  generalize H.set (h.length + 1) (rE s6) = H6 at hn1 g6 v16 k6
  clear g hv1 hk hpar hls hs6
  repeat' (first
    | simp (implicitDefEqProofs := false) only [push_cast, reduceIte, reduceCtorEq, Nat.reduceAdd, Nat.reduceSub, Nat.reduceEqDiff, Nat.reduceLT, Nat.reduceLeDiff, Nat.reduceBEq, Nat.reduceMul, Int.reduceLT, Int.reduceLE, Int.reduceEq, Int.reduceToNat, Int.reduceMul, Int.reduceNeg, Go.Proofs.Try.f21, hMw, yad, zae, qac, zad, yab, qad, sst, qab, yaa, qaa, List.replicate_succ, List.drop_zero]
    | refine Sp2.f ?_ ?_
    | refine Spl.f ?_ ?_ <;> intro hb
    | refine yac rfl (fun b hb => ?_)
    | refine yal hn1 ?_)
  have hM256 : M ≤ 256 := by omega
  clear hn1 hMw hrg hM H s5
  rw [← qa8]
  refine qce 2 (fun e env' H => e = .normal ∧ ∃ fW s7 v1 v2, G6 h.length h s7 z0 H ∧ s7.l.length ≤ 1000000 ∧ fW.length ≤ 256 ∧ (∀ x ∈ fW, x.P.length ≤ 4294967296) ∧ View (fun j => h.length ≤ j) H 87 v1 (fI.map eI) ∧ NilOr v1 (fI.map eI) ∧ View (fun j => h.length ≤ j) H 89 v2 (fW.map eW) ∧ NilOr v2 (fW.map eW) ∧
    H[h.length + 2]? = some (⟨29, [.agg 29 [.int .i64 w0, v1, v2, .int .i64 w3, .int .i64 w4, zL]], .own⟩ : Entry) ∧ okS (⟨w0, fI, fW, w3, w4, (gL6 s7 4).1⟩, (gL6 s7 4).2) = zdu b ∧
    env' = (fun a : Nat → AV => [(0, eBs b), (2, .ref h.length [0] 29), (3, .int .i64 0), (4, .ref (h.length + 1) [0] 115), (5, .ref (h.length + 2) [0] 29), (6, a 6), (7, a 7), (8, a 8), (9, a 9), (10, a 10), (11, a 11), (12, a 12), (39, a 39), (70, a 70), (94, a 94), (123, a 123)]) (lk env')) ?_ ?_
  · simp only [List.take_succ_cons, List.take_zero, qa8]
    refine qau (fun i env' H => i ≤ M ∧ G6 h.length h (zag ybo i s6).2 z0 H ∧ (∃ v1 v2, View (fun j => h.length ≤ j) H 87 v1 (fI.map eI) ∧ NilOr v1 (fI.map eI) ∧ View (fun j => h.length ≤ j) H 89 v2 ((zag ybo i s6).1.map eW) ∧ NilOr v2 ((zag ybo i s6).1.map eW) ∧ H[h.length + 2]? = some (⟨29, [.agg 29 [.int .i64 w0, v1, v2, .int .i64 w3, .int .i64 w4, zL]], .own⟩ : Entry) ∧
      env' = (fun a : Nat → AV => [(0, eBs b), (2, .ref h.length [0] 29), (3, .int .i64 0), (4, .ref (h.length + 1) [0] 115), (5, .ref (h.length + 2) [0] 29), (6, .int .i64 M), (7, a 7), (8, a 8), (9, .int .i64 (i : Int)), (10, a 10), (11, a 11), (12, a 12), (39, a 39), (70, a 70), (94, a 94), (123, a 123)]) (lk env'))) M ⟨Nat.zero_le _, g6, v1, .nils, v16, hnI, .nil, fun _ => rfl, k6, rfl⟩ ?_
    clear g6 k6 v16 hnI H6 v1
    rintro i env H ⟨hi, g, v1, v2, hv1, hnI, hv, hnW, hk, henv⟩
    refine ⟨hi, ?_⟩
    rw [henv]
    generalize lk env = a
    clear henv env
    have hls : (zag ybo i s6).2.l.length ≤ 1000000 := Nat.le_trans (ycx getW6_less i s6) L6
    have hln := ybb ybo i s6
    have hr := g.r
    have hrl := zac hr
    have hkl := zac hk
    by_cases hgo : i < M ∧ (zag ybo i s6).2.w = false
    · obtain ⟨hlt, hw⟩ := hgo
      have c1 : decide ((i : Int) < (M : Int)) = true := by simpa using hlt
      have hsn := ybw ybo i s6
      generalize (zag ybo i s6).2 = s at g hsn hls hw hr
      generalize hfs : (zag ybo i s6).1 = fs at hv hsn hln hnW
      have hrE := hr
      rw [qct hw] at hrE
      obtain ⟨t1, ht1⟩ : ∃ t1, t1 = (s.num 1).2 := ⟨_, rfl⟩
      obtain ⟨t2, ht2⟩ : ∃ t2, t2 = (t1.num 4).2 := ⟨_, rfl⟩
      obtain ⟨t3, ht3⟩ : ∃ t3, t3 = (qde t2).2 := ⟨_, rfl⟩
      obtain ⟨t4, ht4⟩ : ∃ t4, t4 = (qba t3).2 := ⟨_, rfl⟩
      have l1 : t1.l.length ≤ 1000000 := by rw [ht1]; exact Nat.le_trans (RS.num_len _ _) hls
      have l2 : t2.l.length ≤ 1000000 := by rw [ht2]; exact Nat.le_trans (RS.num_len _ _) l1
      have l3 : t3.l.length ≤ 1000000 := by rw [ht3]; exact Nat.le_trans (yes6_len _) l2
      have q1 : FSpec prog 71 [.ref (h.length + 1) [0] 115, .int .i64 1] H fun r' h' => r' = .int .u64 (s.num 1).1 ∧ h' = H.set (h.length + 1) (rE t1) := by rw [ht1]; exact zb8 hr 1 (by omega) (by omega) (by omega)
      have q2 : ∀ l, FSpec prog 71 [.ref (h.length + 1) [0] 115, .int .i64 4] (H.set (h.length + 1) (rE t1) ++ l) fun r' h' => r' = .int .u64 (t1.num 4).1 ∧ h' = H.set (h.length + 1) (rE t2) ++ l := fun l => by
        rw [ht2]; exact at6 (fun hk => zb8 hk 4 (by omega) (by omega) (by omega)) hrl l
      have q3 : ∀ l, FSpec prog 73 [.ref (h.length + 1) [0] 115] (H.set (h.length + 1) (rE t2) ++ l) fun r' h' => r' = .bool (qde t2).1 ∧ h' = H.set (h.length + 1) (rE t3) ++ l := fun l => by
        rw [ht3]; exact at6 (fun hk => c_yes6 hk (by omega)) hrl l
      have q4 : ∀ l, FSpec prog 72 [.ref (h.length + 1) [0] 115] (H.set (h.length + 1) (rE t3) ++ l) fun r' h' => r' = eFs (qba t3).1 ∧ h' = H.set (h.length + 1) (rE t4) ++ l := fun l => by
        rw [ht4]; exact at6 (fun hk => c_some6 hk (by omega)) hrl l
      obtain ⟨X, hX⟩ : ∃ X : Wtr, X = ⟨IntKind.i64.wrap (s.num 1).1, IntKind.i64.wrap (t1.num 4).1, (qde t2).1, (qba t3).1⟩ := ⟨_, rfl⟩
      have hx : ybo s = (X, t4) := by rw [hX, ht4, ht3, ht2, ht1]; rfl
      have hXe : eW X = .agg 89 [.int .i64 (IntKind.i64.wrap (s.num 1).1), .int .i64 (IntKind.i64.wrap (t1.num 4).1), .bool (qde t2).1, eFs (qba t3).1] := by rw [hX]; rfl
      have la := hv.lenAV
      rw [List.length_map] at la
      have e7 : decide (fs.length + 1 ≤ 4294967296) = true := by simp; omega
      have hv3 := ((hv.set hr (show (rE s).T ≠ 89 from (by decide : 115 ≠ 89)) (rE t4)).app [(⟨89, [eW X], .own⟩ : Entry)]).app [(⟨89, [eW X], .own⟩ : Entry)]
      have hi3 := ((hv1.set hr (show (rE s).T ≠ 87 from (by decide : 115 ≠ 87)) (rE t4)).app [(⟨89, [eW X], .own⟩ : Entry)]).app [(⟨89, [eW X], .own⟩ : Entry)]
      obtain ⟨v6, H6, hv6, hl6, hk6, happ⟩ := yb4 (P := prog) (eW X) hv3
      have g3 : G6 h.length h t4 z0 (H.set (h.length + 1) (rE t4) ++ [(⟨89, [eW X], .own⟩ : Entry)] ++ [(⟨89, [eW X], .own⟩ : Entry)]) :=
        ⟨by rw [List.append_assoc, List.take_append_of_le_length (by simp; omega)]; exact (g.to (s' := t4)).tk, by rw [List.append_assoc, List.getElem?_append_left (by simp; omega)]; exact (g.to (s' := t4)).t2, by rw [List.append_assoc, List.getElem?_append_left (by simp; omega)]; exact (g.to (s' := t4)).r⟩
      have k3 : (H.set (h.length + 1) (rE t4) ++ [(⟨89, [eW X], .own⟩ : Entry)] ++ [(⟨89, [eW X], .own⟩ : Entry)])[h.length + 2]? = some (⟨29, [.agg 29 [.int .i64 w0, v1, v2, .int .i64 w3, .int .i64 w4, zL]], .own⟩ : Entry) := by
        rw [List.append_assoc, List.getElem?_append_left (by simpa using hkl), List.getElem?_set_ne (by omega)]; exact hk
      have g6 := g3.keep (.inr rfl) rfl hk6
      have k6 := hk6 _ _ k3 (.inr (by show 29 ≠ 89; decide))
      have k6l := zac k6
      have vI := View.mono (X' := fun j => h.length ≤ j) (h' := H6) hi3 (fun _ hj => hj) fun j es _ hj => hk6 j _ hj (.inr (by show 87 ≠ 89; decide))
      have hty6 := hv6.ty (P := prog) (U := 23) sh_23
      have hpl6 := hv6.pl
      rw [show (H.set (h.length + 1) (rE t4) ++ [(⟨89, [eW X], .own⟩ : Entry)] ++ [(⟨89, [eW X], .own⟩ : Entry)]).length = H.length + 2 by simp] at happ
      rw [List.append_assoc, List.cons_append, List.nil_append] at happ
      rw [hXe] at happ
      have k3s : ∀ (E : Entry) (l : List Entry), (H.set (h.length + 1) E ++ l)[h.length + 2]? = some (⟨29, [.agg 29 [.int .i64 w0, v1, v2, .int .i64 w3, .int .i64 w4, zL]], .own⟩ : Entry) := fun E l => by
        rw [List.getElem?_append_left (by simpa using hkl), List.getElem?_set_ne (by omega)]; exact hk
      repeat' (first
    | simp (implicitDefEqProofs := false) only [push_cast, reduceIte, reduceCtorEq, Nat.reduceAdd, Nat.reduceSub, Nat.reduceEqDiff, Nat.reduceLT, Nat.reduceLeDiff, Nat.reduceBEq, Nat.reduceMul, Int.reduceLT, Int.reduceLE, Int.reduceEq, Int.reduceToNat, Int.reduceMul, Int.reduceNeg, Go.Proofs.Try.f21, c1, hrE, hrl, hkl, hk, k3s, k6, k6l, la, e7, hty6, hpl6, zds, yav, yax, zax, zaj hrl, yag hrl, za4 hrl, yaj hrl, zaj hkl, yag hkl, za4 hkl, yaj hkl, Int.toNat_natCast, qae (show i < 9223372036854775807 by omega), yad, zae, qac, zad, yab, qad, sst, qab, yaa, qaa, List.replicate_succ, List.drop_zero]
    | refine Sp2.f ?_ ?_
    | refine Spl.f ?_ ?_ <;> intro hb
    | refine yac rfl (fun b hb => ?_)
    | refine yal q1 ?_
    | refine yal (q2 _) ?_
    | refine yal (q3 _) ?_
    | refine yal (q4 _) ?_
    | refine happ _ _ _ _ ?_)
      · omega
      have vB := (hv6.up (Y := fun j => h.length ≤ j) fun j hj => by rcases hj with a | ⟨a, _⟩; exact a; simp only [List.length_append, List.length_set] at a; omega).set k6 (show 29 ≠ 89 by decide)
      rw [hsn, hx]
      refine ⟨hlt, g6.put _, v1, v6, vI.set k6 (show 29 ≠ 87 by decide) _, hnI, ?_, fun h => by simp at h, rfl⟩
      rw [List.map_append]
      exact vB _
    · have sW := yb6 (f := ybo) (p := fun x : Wtr => x.P.length ≤ 4294967296) (fun s => by have := qda (qde ((s.num 1).2.num 4).2).2; simp only [ybo]; omega) i s6
      cases hw : (zag ybo i s6).2.w with
      | true =>
        have hg : zdu b = none := by
          obtain ⟨j, hj⟩ : ∃ j, M = i + j := ⟨M - i, by omega⟩
          rw [hpar2]; apply okS_bad; apply gL6_bad; rw [hj, zdd]; exact qck (fun h => getW6_bad h) j hw
        have hrE := hr
        rw [qcn hw] at hrE
        cases c1 : decide ((i : Int) < (M : Int))
        all_goals repeat' (first
    | simp (implicitDefEqProofs := false) only [push_cast, reduceIte, reduceCtorEq, Nat.reduceAdd, Nat.reduceSub, Nat.reduceEqDiff, Nat.reduceLT, Nat.reduceLeDiff, Nat.reduceBEq, Nat.reduceMul, Int.reduceLT, Int.reduceLE, Int.reduceEq, Int.reduceToNat, Int.reduceMul, Int.reduceNeg, Go.Proofs.Try.f21, c1, hrE, hrl, yad, zae, qac, zad, yab, qad, sst, qab, yaa, qaa, List.replicate_succ, List.drop_zero]
    | refine Sp2.f ?_ ?_
    | refine Spl.f ?_ ?_ <;> intro hb
    | refine yac rfl (fun b hb => ?_))
        all_goals exact ⟨_, _, _, _, g, hls, by omega, sW, hv1, hnI, hv, hnW, hk, by rw [hg]; exact okS_bad (gL6_bad hw 4)⟩
      | false =>
        have hiN : i = M := by rw [hw] at hgo; simp at hgo; omega
        subst hiN
        have c1 : decide ((i : Int) < (i : Int)) = false := by simp
        repeat' (first
    | simp (implicitDefEqProofs := false) only [push_cast, reduceIte, reduceCtorEq, Nat.reduceAdd, Nat.reduceSub, Nat.reduceEqDiff, Nat.reduceLT, Nat.reduceLeDiff, Nat.reduceBEq, Nat.reduceMul, Int.reduceLT, Int.reduceLE, Int.reduceEq, Int.reduceToNat, Int.reduceMul, Int.reduceNeg, Go.Proofs.Try.f21, c1, yad, zae, qac, zad, yab, qad, sst, qab, yaa, qaa, List.replicate_succ, List.drop_zero]
    | refine Sp2.f ?_ ?_
    | refine Spl.f ?_ ?_ <;> intro hb
    | refine yac rfl (fun b hb => ?_))
        exact ⟨_, _, _, _, g, hls, by omega, sW, hv1, hnI, hv, hnW, hk, hpar2.symm⟩
  clear hpar2 hM256 M L6 s6 g6 k6 v16 hnI v1 H6
  rintro _ env' H ⟨rfl, fW, s7, v1, v2, g, hls, hfW, sW, hv1, hnI, hv2, hnW, hk, hpar, henv⟩
  rw [henv]
  generalize lk env' = a
  clear henv env'
  simp only [List.drop_succ_cons, List.drop_zero]
  repeat' (first
    | simp (implicitDefEqProofs := false) only [push_cast, reduceIte, reduceCtorEq, Nat.reduceAdd, Nat.reduceSub, Nat.reduceEqDiff, Nat.reduceLT, Nat.reduceLeDiff, Nat.reduceBEq, Nat.reduceMul, Int.reduceLT, Int.reduceLE, Int.reduceEq, Int.reduceToNat, Int.reduceMul, Int.reduceNeg, Go.Proofs.Try.f21, yad, zae, qac, zad, yab, qad, sst, qab, yaa, qaa, List.replicate_succ, List.drop_zero]
    | refine Sp2.f ?_ ?_
    | refine Spl.f ?_ ?_ <;> intro hb
    | refine yac rfl (fun b hb => ?_))
  refine qau (fun k env' H => k ≤ 4 ∧ G6 h.length h (gL6 s7 k).2 z0 H ∧ View (fun j => h.length ≤ j) H 87 v1 (fI.map eI) ∧ View (fun j => h.length ≤ j) H 89 v2 (fW.map eW) ∧ H[h.length + 2]? = some (⟨29, [.agg 29 [.int .i64 w0, v1, v2, .int .i64 w3, .int .i64 w4, .agg 27 ((gL6 s7 k).1.map eR ++ List.replicate (4 - k) zR)]], .own⟩ : Entry) ∧
    env' = (fun a : Nat → AV => [(0, eBs b), (2, .ref h.length [0] 29), (3, .int .i64 0), (4, .ref (h.length + 1) [0] 115), (5, .ref (h.length + 2) [0] 29), (6, a 6), (7, a 7), (8, a 8), (9, a 9), (10, a 10), (11, .int .i64 (k : Int)), (12, a 12), (39, a 39), (70, a 70), (94, a 94), (123, a 123)]) (lk env')) 4 ⟨Nat.zero_le _, g, hv1, hv2, hk, rfl⟩ ?_
  clear g hk hv1 hv2
  clear a H
  rintro k env H ⟨hk4, g, hv1, hv2, hk, henv⟩
  refine ⟨hk4, ?_⟩
  rw [henv]
  generalize lk env = a
  clear henv env
  have hls7 : (gL6 s7 k).2.l.length ≤ 1000000 := Nat.le_trans (gL6_less s7 k) hls
  have hr := g.r
  have hrl := zac hr
  have hkl := zac hk
  by_cases hlt : k < 4
  · have c1 : decide ((k : Int) < 4) = true := by simp; omega
    have hsn : gL6 s7 (k + 1) = ((gL6 s7 k).1 ++ [(ydd k (gL6 s7 k).2).1], (ydd k (gL6 s7 k).2).2) := rfl
    have hln := gL6_len s7 k
    have hr5 : (0 ≤ (k : Int) ∧ (k : Int) < 4) = True := by simp; omega
    have hrep : List.replicate (4 - k) zR = zR :: List.replicate (4 - (k + 1)) zR := by
      rw [show 4 - k = (4 - (k + 1)) + 1 by omega]; rfl
    rw [hrep] at hk
    generalize (gL6 s7 k).2 = s at g hsn hls7 hr
    generalize hfs : (gL6 s7 k).1 = fs at hk hsn hln
    have gp1 : (fs.map eR ++ zR :: List.replicate (4 - (k + 1)) zR)[k]? = some zR := by rw [List.getElem?_append_right (by simp [hln])]; simp [hln]
    have gp2 : ∀ y, (fs.map eR ++ zR :: List.replicate (4 - (k + 1)) zR).set k y = fs.map eR ++ y :: List.replicate (4 - (k + 1)) zR := fun y => by rw [List.set_append_right _ _ (by simp [hln])]; simp [hln]
    obtain ⟨t1, ht1⟩ : ∃ t1, t1 = (s.num 4).2 := ⟨_, rfl⟩
    obtain ⟨t2, ht2⟩ : ∃ t2, t2 = (t1.num 1).2 := ⟨_, rfl⟩
    obtain ⟨t3, ht3⟩ : ∃ t3, t3 = (qde t2).2 := ⟨_, rfl⟩
    obtain ⟨t4, ht4⟩ : ∃ t4, t4 = (qba t3).2 := ⟨_, rfl⟩
    have l1 : t1.l.length ≤ 1000000 := by rw [ht1]; exact Nat.le_trans (RS.num_len _ _) hls7
    have l2 : t2.l.length ≤ 1000000 := by rw [ht2]; exact Nat.le_trans (RS.num_len _ _) l1
    have l3 : t3.l.length ≤ 1000000 := by rw [ht3]; exact Nat.le_trans (yes6_len _) l2
    have q1 : FSpec prog 71 [.ref (h.length + 1) [0] 115, .int .i64 4] H fun r' h' => r' = .int .u64 (s.num 4).1 ∧ h' = H.set (h.length + 1) (rE t1) := by rw [ht1]; exact zb8 hr 4 (by omega) (by omega) (by omega)
    have q2 : ∀ l, FSpec prog 71 [.ref (h.length + 1) [0] 115, .int .i64 1] (H.set (h.length + 1) (rE t1) ++ l) fun r' h' => r' = .int .u64 (t1.num 1).1 ∧ h' = H.set (h.length + 1) (rE t2) ++ l := fun l => by
      rw [ht2]; exact at6 (fun hk => zb8 hk 1 (by omega) (by omega) (by omega)) hrl l
    have q3 : ∀ l, FSpec prog 73 [.ref (h.length + 1) [0] 115] (H.set (h.length + 1) (rE t2) ++ l) fun r' h' => r' = .bool (qde t2).1 ∧ h' = H.set (h.length + 1) (rE t3) ++ l := fun l => by
      rw [ht3]; exact at6 (fun hk => c_yes6 hk (by omega)) hrl l
    have q4 : ∀ l, FSpec prog 72 [.ref (h.length + 1) [0] 115] (H.set (h.length + 1) (rE t3) ++ l) fun r' h' => r' = eFs (qba t3).1 ∧ h' = H.set (h.length + 1) (rE t4) ++ l := fun l => by
      rw [ht4]; exact at6 (fun hk => c_some6 hk (by omega)) hrl l
    have hx : ydd k s = (⟨k, IntKind.i64.wrap (s.num 4).1, IntKind.i64.wrap (t1.num 1).1, (qba t3).1, (qde t2).1⟩, t4) := by rw [ht4, ht3, ht2, ht1]; rfl
    obtain ⟨X, hX⟩ : ∃ X, X = (⟨26, [.agg 26 [.int .i64 (k : Int), .int .i64 (IntKind.i64.wrap (s.num 4).1), .int .i64 (IntKind.i64.wrap (t1.num 1).1), eFs (qba t3).1, .bool (qde t2).1]], .own⟩ : Entry) := ⟨_, rfl⟩
    have g4 : G6 h.length h t4 z0 (H.set (h.length + 1) (rE t4) ++ [X]) :=
      ⟨by rw [List.take_append_of_le_length (by simp; omega)]; exact (g.to (s' := t4)).tk, by rw [List.getElem?_append_left (by simp; omega)]; exact (g.to (s' := t4)).t2, by rw [List.getElem?_append_left (by simp; omega)]; exact (g.to (s' := t4)).r⟩
    have k4 : (H.set (h.length + 1) (rE t4) ++ [X])[h.length + 2]? = _ := (List.getElem?_append_left (by simpa using hkl)).trans ((List.getElem?_set_ne (by omega)).trans hk)
    have vI := ((hv1.set hr (show (rE s).T ≠ 87 from (by decide : 115 ≠ 87)) (rE t4)).app [X]).set k4 (show 29 ≠ 87 by decide)
    have vW := ((hv2.set hr (show (rE s).T ≠ 89 from (by decide : 115 ≠ 89)) (rE t4)).app [X]).set k4 (show 29 ≠ 89 by decide)
    have hset : ∀ E, (H.set (h.length + 1) (rE t4) ++ [X]).set (h.length + 2) E = (H.set (h.length + 1) (rE t4)).set (h.length + 2) E ++ [X] := fun E => List.set_append_left _ _ (by simpa using hkl)
    have k3s : ∀ (E : Entry) (l : List Entry), (H.set (h.length + 1) E ++ l)[h.length + 2]? = some (⟨29, [.agg 29 [.int .i64 w0, v1, v2, .int .i64 w3, .int .i64 w4, .agg 27 (fs.map eR ++ zR :: List.replicate (4 - (k + 1)) zR)]], .own⟩ : Entry) := fun E l => by
      rw [List.getElem?_append_left (by simpa using hkl), List.getElem?_set_ne (by omega)]; exact hk
    repeat' (first
    | simp (implicitDefEqProofs := false) only [push_cast, reduceIte, reduceCtorEq, Nat.reduceAdd, Nat.reduceSub, Nat.reduceEqDiff, Nat.reduceLT, Nat.reduceLeDiff, Nat.reduceBEq, Nat.reduceMul, Int.reduceLT, Int.reduceLE, Int.reduceEq, Int.reduceToNat, Int.reduceMul, Int.reduceNeg, Go.Proofs.Try.f21, c1, hr5, qbz, hrl, hkl, hk, k3s, gp1, gp2, zds, yav, yax, zax, zaj hrl, yag hrl, za4 hrl, yaj hrl, zaj hkl, yag hkl, za4 hkl, yaj hkl, Int.toNat_natCast, qae (show k < 9223372036854775807 by omega), yad, zae, qac, zad, yab, qad, sst, qab, yaa, qaa, List.replicate_succ, List.drop_zero]
    | refine Sp2.f ?_ ?_
    | refine Spl.f ?_ ?_ <;> intro hb
    | refine yac rfl (fun b hb => ?_)
    | refine yal q1 ?_
    | refine yal (q2 _) ?_
    | refine yal (q3 _) ?_
    | refine yal (q4 _) ?_)
    rw [hsn, hx]
    simp only [← hX, ← hset]
    refine ⟨by omega, g4.put _, vI _, vW _, ?_⟩
    simp only [List.map_append, List.map_cons, List.map_nil, List.append_assoc, List.cons_append, List.nil_append, eR]
  · have hk4' : k = 4 := by omega
    subst hk4'
    clear hk4 hlt
    have c1 : decide (((4 : Nat) : Int) < 4) = false := by decide
    have hlL := gL6_len s7 4
    have hsm0 : (⟨w0, fI, fW, w3, w4, (gL6 s7 4).1⟩ : Spc).Small := ⟨⟨by show fI.length ≤ _; omega, sI⟩, ⟨by show fW.length ≤ _; omega, sW⟩, ⟨by show (gL6 s7 4).1.length ≤ _; omega, gL6_all s7 4⟩, hlL⟩
    have hk : H[h.length + 2]? = some (⟨29, [.agg 29 [.int .i64 w0, v1, v2, .int .i64 w3, .int .i64 w4, eL (gL6 s7 4).1]], .own⟩ : Entry) := by
      rw [hk]; simp [eL]
    generalize (gL6 s7 4).1 = fL at hk hlL hpar hsm0
    generalize (gL6 s7 4).2 = s8 at g hpar hls7 hr
    obtain ⟨p, hp⟩ : ∃ p, p = (⟨w0, fI, fW, w3, w4, fL⟩ : Spc) := ⟨_, rfl⟩
    rw [← hp] at hsm0 hpar
    have hE := c_1End hr (by omega)
    have hkl := zac hk
    have b20 : ((2 : Int) != 0) = true := rfl
    have b00 : ((0 : Int) != 0) = false := rfl
    have hT2 := g.t2
    have hlT := zac hT2
    rw [← hpar]
    cases hfi : s8.fine with
    | false =>
      rw [hfi] at hE
      have hE2 : FSpec prog 74 [.ref (h.length + 1) [0] 115] H fun r' h' => r' = .int .i64 2 ∧ h' = H := hE
      have hg : okS (p, s8) = none := by rw [okS, if_neg (by rw [hfi]; simp)]
      rw [hg]
      repeat' (first
    | simp (implicitDefEqProofs := false) only [push_cast, reduceIte, reduceCtorEq, Nat.reduceAdd, Nat.reduceSub, Nat.reduceEqDiff, Nat.reduceLT, Nat.reduceLeDiff, Nat.reduceBEq, Nat.reduceMul, Int.reduceLT, Int.reduceLE, Int.reduceEq, Int.reduceToNat, Int.reduceMul, Int.reduceNeg, Go.Proofs.Try.f21, c1, qbz, qbq, hT2, hlT, b20, b00, yad, zae, qac, zad, yab, qad, sst, qab, yaa, qaa, List.replicate_succ, List.drop_zero]
    | refine Sp2.f ?_ ?_
    | refine Spl.f ?_ ?_ <;> intro hb
    | refine yac rfl (fun b hb => ?_)
    | refine yal hE2 ?_)
      exact qdt _ _ g.tk _
    | true =>
      rw [hfi] at hE
      have hE2 : FSpec prog 74 [.ref (h.length + 1) [0] 115] H fun r' h' => r' = .int .i64 0 ∧ h' = H := hE
      obtain ⟨H1, y1, l1, e1, f1⟩ := hv1.give wfp hnI
      have g1 := g.keep (.inl rfl) rfl e1
      have k1 := e1 _ _ hk (.inr (by show 29 ≠ 87; decide))
      have hv2' := View.mono hv2 (fun _ h => h) fun j es _ hj => e1 j _ hj (.inr (by show 89 ≠ 87; decide))
      obtain ⟨H2, y2, l2, e2, f2⟩ := View.give wfp hv2' hnW
      have g2 := g1.keep (.inr rfl) rfl e2
      have k2 := e2 _ _ k1 (.inr (by show 29 ≠ 89; decide))
      have y1 := y1.mono (fun _ h => h) fun j es _ hj => e2 j _ hj (.inr (by show 87 ≠ 89; decide))
      obtain ⟨x1, q1⟩ := y1.ex (U := 22) sh_22
      obtain ⟨x2, q2⟩ := y2.ex (U := 23) sh_23
      have hmay : FSpec prog 14 [.agg 29 [.int .i64 w0, x1, x2, .int .i64 w3, .int .i64 w4, eL fL]] H (fun r' h' => r' = .bool (zbw p) ∧ h' = H2) :=
        f1 _ _ _ (f2 _ _ _ (FSpec.read wfp (args' := [eS p]) (by
          simp only [List.map_cons, List.map_nil, bz_aggE, bz_intE, q1.bz, q2.bz, bz_dat 3 _ (eL_dat fL), hp]; rfl) (by rw [← mayM6_eq]; exact c_MaySpace6 p hsm0)))
      have w1 : wk prog 5 22 v1 = x1 := q1.wk 4
      have w2 : wk prog 5 23 v2 = x2 := q2.wk 4
      have t1 := q1.ty
      have t2 := q2.ty
      have p1 := q1.pl
      have p2 := q2.pl
      have hkl2 := zac k2
      have hT3 := g2.t2
      have hlT3 := zac hT3
      cases hma : zbw p with
      | false =>
        rw [hma] at hmay
        have hg : okS (p, s8) = none := by rw [okS, if_neg (by simp [hma])]
        rw [hg]
        repeat' (first
    | simp (implicitDefEqProofs := false) only [push_cast, reduceIte, reduceCtorEq, Nat.reduceAdd, Nat.reduceSub, Nat.reduceEqDiff, Nat.reduceLT, Nat.reduceLeDiff, Nat.reduceBEq, Nat.reduceMul, Int.reduceLT, Int.reduceLE, Int.reduceEq, Int.reduceToNat, Int.reduceMul, Int.reduceNeg, Go.Proofs.Try.f21, c1, qbz, hk, hkl, w1, w2, t1, t2, p1, p2, eL_wk, qbq, k2, hkl2, hT2, hlT, hT3, hlT3, b20, b00, yad, zae, qac, zad, yab, qad, sst, qab, yaa, qaa, List.replicate_succ, List.drop_zero]
    | refine Sp2.f ?_ ?_
    | refine Spl.f ?_ ?_ <;> intro hb
    | refine yac rfl (fun b hb => ?_)
    | refine yal hE2 ?_
    | refine yal hmay ?_)
        exact qdt _ _ g2.tk _
      | true =>
        rw [hma] at hmay
        have hg : okS (p, s8) = some p := by rw [okS, if_pos ⟨hfi, hma⟩]
        rw [hg]
        repeat' (first
    | simp (implicitDefEqProofs := false) only [push_cast, reduceIte, reduceCtorEq, Nat.reduceAdd, Nat.reduceSub, Nat.reduceEqDiff, Nat.reduceLT, Nat.reduceLeDiff, Nat.reduceBEq, Nat.reduceMul, Int.reduceLT, Int.reduceLE, Int.reduceEq, Int.reduceToNat, Int.reduceMul, Int.reduceNeg, Go.Proofs.Try.f21, c1, qbz, hk, hkl, w1, w2, t1, t2, p1, p2, eL_wk, qbq, k2, hkl2, hT2, hlT, hT3, hlT3, b20, b00, yad, zae, qac, zad, yab, qad, sst, qab, yaa, qaa, List.replicate_succ, List.drop_zero]
    | refine Sp2.f ?_ ?_
    | refine Spl.f ?_ ?_ <;> intro hb
    | refine yac rfl (fun b hb => ?_)
    | refine yal hE2 ?_
    | refine yal hmay ?_)
        rw [hp]
        exact get_good g2.tk y1 y2 hT3 _
end Go.Abs
