/- Wk4: a part of the proofs about the tuple space and its bytes. -/
import Derived.Test.YtilfbkhbjkjicaaWk3
set_option linter.all false
set_option maxRecDepth 100000
set_option maxHeartbeats 0
namespace Go.Abs
open Go
open Go.Proofs.Try (prog)
theorem zcv {X : Nat → Prop} {h : List Entry} {T U : TypeId} {v : AV} {l : List AV} (hv : View X h T v l) (hd : zc4 l = true) (hU : yab prog U = .slice T) (n m : Nat) : bw h (n + 1) (wk prog (m + 1) U v) = .list T l := by
  cases hv with
  | nil => rw [zbb, hU, yap]; rfl
  | win hx hk =>
    rw [wk_win]
    rcases View.bw (View.win (lo := _) hx hk) hd n with h | ⟨h1, h2⟩
    · exact h
    · rw [bw_winE, hk, qdr] at h2 ⊢
      have : qaw (l ++ ‹_›) [] 0 l.length = some l := by simp [qaw]
      rw [this, zdg, qc3 l n hd]
theorem bw_work {h : List Entry} {k : Nat} {s : Spc} {r : Req} {vi vw vo : AV} (hk : h[k]? = some (wkE s r vi vw vo)) : bw h 8 (.ref k [0] 148) =
    .eref 148 (.agg 148 [.agg 29 [.int .i64 s.Now, bw h 5 vi, bw h 5 vw, .int .i64 s.Read, .int .i64 s.Write, eL s.Last], eQ r, bw h 6 vo]) := by
  rw [bw_refE, hk, wkE, qc4]
  simp only [getE, List.getElem?_cons_zero, za7, qce, bw_aggE, List.map_cons, List.map_nil, qcd _ _ (ydc _), qcd _ _ (eQ_dat _)]
  rfl
theorem bw_below {X : Nat → Prop} {h : List Entry} {T : TypeId} {v : AV} {l : List AV} (hv : View X h T v l) (hd : zc4 l = true) (n : Nat) : qam 0 (bw h (n + 1) v) = true := by
  rcases hv.bw hd n with e | ⟨_, e⟩ <;> rw [e]
  · simp only [qam]; exact yaw _ hd
  · rfl
theorem c_fullO {X : Nat → Prop} {k : Nat} {s : Spc} {r : Req} {out : List Rpl} {h : List Entry} (g : Int) (hI : s.Items.length ≤ 4294967296) (hw : WS X k s r out h) :
    FSpec prog 160 [.ref k [0] 148, .int .i64 g] h fun r' h'' => r' = .bool (qcs s r g) ∧ h'' = h := by
  obtain ⟨b, o, vi, vw, vo, hk, h1, h2, h3⟩ := hw
  have hvi : bw h 5 vi = eIs s.Items ∨ (s.Items = [] ∧ bw h 5 vi = .nils) := by
    rcases h1.bw (zal eI ycd _) 4 with e | ⟨e, e'⟩
    · exact .inl e
    · exact .inr ⟨by simpa using e, e'⟩
  refine (FSpec.borrow wfp (args := [.ref k [0] 148, .int .i64 g]) (R := fun r' => r' = .bool (qcs s r g)) ?_ ?_ (by rintro r' rfl; rfl)).mono fun r' h' ⟨e1, e2⟩ => ⟨e2, e1⟩
  · simp only [List.map_cons, List.map_nil, bw_work hk]
    exact c_full s r g hI hvi
  · simp only [List.map_cons, List.map_nil, bw_work hk, List.all_cons, List.all_nil, Bool.and_true, qam, zaq, bw_below h1 (zal eI ycd _) 4, bw_below h2 (zal eW eW_dat _) 4, bw_below h3 (zal eR zby _) 5, zap _ (ydc _), zap _ (eQ_dat _), Bool.and_self]
    rfl
theorem c_FindO {X : Nat → Prop} {k : Nat} {s : Spc} {r : Req} {out : List Rpl} {h : List Entry} {vi vw vo : AV} (hI : smallI s.Items) (hP : r.P.length ≤ 4294967296) (h1 : View X h 87 vi (s.Items.map eI)) (h2 : View X h 89 vw (s.Waiters.map eW)) :
    FSpec prog 146 [.agg 29 [.int .i64 s.Now, wk prog 5 22 vi, wk prog 5 23 vw, .int .i64 s.Read, .int .i64 s.Write, eL s.Last], eFs r.P] h fun r' h'' => r' = .int .i64 (za6 s r.P) ∧ h'' = h := by
  have e : [.agg 29 [.int .i64 s.Now, wk prog 5 22 vi, wk prog 5 23 vw, .int .i64 s.Read, .int .i64 s.Write, eL s.Last], eFs r.P].map (bw h 8) = [eS s, eFs r.P] := by
    simp only [List.map_cons, List.map_nil, bw_aggE, zcv h1 (zal eI ycd _) zbr 6 4, zcv h2 (zal eW eW_dat _) ybs 6 4, qcd _ _ (ydc _), qcd _ _ (ycj _), eS, eIs, eWs]
    rfl
  refine (FSpec.borrow wfp (R := fun r' => r' = .int .i64 (za6 s r.P)) ?_ ?_ (by rintro r' rfl; rfl)).mono fun r' h' ⟨e1, e2⟩ => ⟨e2, e1⟩
  · rw [e]; exact c_Find s r.P hI hP
  · rw [e]; simp only [List.all_cons, List.all_nil, Bool.and_true, zap (n := 0) _ (zcj s), zap (n := 0) _ (ycj r.P), Bool.and_self]
def rep (r : Req) (kd : Int) (t : List Fld) : Rpl := ⟨r.Client, r.Seq, kd, t, false⟩
def ya1 (s : Spc) (r : Req) (kd : Int) (t : List Fld) : Spc := { s with Last := s.Last.set r.Client.toNat (rep r kd t) }
structure Rdy (s : Spc) (r : Req) (out : List Rpl) : Prop where
  l4 : s.Last.length = 4
  wl : s.Waiters.length ≤ 1000
  il : s.Items.length ≤ 1000
  ol : out.length ≤ 1000
  cl : ∀ x ∈ s.Waiters, qar x.Client = true ∧ x.P.length ≤ 4294967296
  it : ∀ x ∈ s.Items, x.T.length ≤ 4294967296
  now : 0 ≤ s.Now ∧ s.Now ≤ 1099511627776
  rc : qar r.Client = true
  rT : r.T.length ≤ 4294967296
  rP : r.P.length ≤ 4294967296
  ls : r.Lease ≤ 1099511627776
theorem Rdy.small {s : Spc} {r : Req} {out : List Rpl} (h : Rdy s r out) : smallI s.Items := ⟨by have := h.il; omega, h.it⟩
theorem Rdy.pi {s : Spc} {r : Req} {out : List Rpl} (h : Rdy s r out) : PI s r out [] s.Waiters s out := ⟨rfl, rfl, rfl, rfl, h.l4, by have := h.ol; have := h.wl; omega, by have := h.wl; simp; omega, h.cl⟩
theorem Rdy.tell {s : Spc} {r : Req} {out : List Rpl} (h : Rdy s r out) (kd : Int) (t : List Fld) (o : List Rpl) (ho : o.length ≤ 1000) : Rdy (ya1 s r kd t) r o :=
  ⟨by simp [ya1, h.l4], h.wl, h.il, ho, h.cl, h.it, h.now, h.rc, h.rT, h.rP, h.ls⟩
theorem Rdy.take {s : Spc} {r : Req} {out : List Rpl} (h : Rdy s r out) (i : Nat) : Rdy { s with Items := s.Items.eraseIdx i } r out :=
  ⟨h.l4, h.wl, by have := h.il; have := List.length_eraseIdx_le s.Items i; show (s.Items.eraseIdx i).length ≤ 1000; omega, h.ol, h.cl, fun x hx => h.it x (List.mem_of_mem_eraseIdx hx), h.now, h.rc, h.rT, h.rP, h.ls⟩
def Mtn (f : FuncId) (args : List AV) (X : Nat → Prop) (k : Nat) (r : Req) (h : List Entry) (s' : Spc) (out' : List Rpl) : Prop :=
  FSpec prog f (.ref k [0] 148 :: args) h fun r' h' => r' = .tup [] ∧ WS (zbf X h h') k s' r out' h' ∧ Keeps X h h'
theorem Mth.n {f : FuncId} {args : List AV} {X : Nat → Prop} {k : Nat} {r : Req} {h : List Entry} {s' : Spc} {out' : List Rpl} (m : Mth f args X k r h s' out') : Mtn f args X k r h s' out' := by
  obtain ⟨h', w1, w2, w3⟩ := m
  exact w3.mono fun r' h'' ⟨e1, e2⟩ => by subst e2; exact ⟨e1, w1, w2⟩
theorem zb6 {X : Nat → Prop} {k : Nat} {s : Spc} {r : Req} {out : List Rpl} {h : List Entry} (kd : Int) (t : List Fld) (ht : t.length ≤ 4294967296) (hr : Rdy s r out) (hw : WS X k s r out h) :
    Mth 143 [.int .i64 kd, eFs t] X k r h (ya1 s r kd t) (out ++ [rep r kd t]) := by
  obtain ⟨c, hc, hc4⟩ := qbn hr.rc
  have := c_tell kd t c hc hc4 hr.l4 ht (by have := hr.ol; omega) hw
  have e : r.Client.toNat = c := by rw [hc]; rfl
  rw [ya1, e]
  exact this
theorem qc0 {f : FuncId} {args : List AV} {X : Nat → Prop} {k : Nat} {r : Req} {h : List Entry} {s' : Spc} {out' : List Rpl} {raw : List AV} {d : Option Tmp} {st : List Ctl} {env : Env} {Q : zau} (m : Mtn f args X k r h s' out')
    (hk : ∀ h', WS (zbf X h h') k s' r out' h' → Keeps X h h' → Rn prog st .normal (zbh env d (.tup [])) h' Q) : Rk prog f (.ref k [0] 148 :: args) raw d st env h Q :=
  zax m fun r' h' ⟨e, w1, w2⟩ => by rw [e]; exact hk h' w1 w2
theorem WS.seq {X : Nat → Prop} {h h1 h2 : List Entry} {k : Nat} {s : Spc} {r : Req} {out : List Rpl} (w : WS (zbf (zbf X h h1) h1 h2) k s r out h2) (a : Keeps X h h1) (b : Keeps (zbf X h h1) h1 h2) : WS (zbf X h h2) k s r out h2 := by
  rw [grow_grow a.len b.len] at w; exact w
def qa9 (s : Spc) (r : Req) (out : List Rpl) : Spc × List Rpl := if qcs s r (-1) = true then (ya1 s r 5 [], out ++ [rep r 5 []]) else qa3 r [] s.Waiters (ya1 s r 1 []) (out ++ [rep r 1 []])
theorem c_bring {X : Nat → Prop} {k : Nat} {s : Spc} {r : Req} {out : List Rpl} {h : List Entry} (ho : out.length < 1000) (hr : Rdy s r out) (hw : WS X k s r out h) :
    Mtn 144 [] X k r h (qa9 s r out).1 (qa9 s r out).2 := by
  have hf := c_fullO (-1) (by have := hr.il; omega) hw
  refine frun_144 rfl ?_
  by_cases hfu : qcs s r (-1) = true
  · have e : qa9 s r out = (ya1 s r 5 [], out ++ [rep r 5 []]) := by rw [qa9, if_pos hfu]
    rw [e]
    repeat' (first
    | simp (implicitDefEqProofs := false) only [push_cast, reduceIte, reduceCtorEq, Nat.reduceAdd, Nat.reduceSub, Nat.reduceEqDiff, Nat.reduceLT, Nat.reduceLeDiff, Nat.reduceBEq, Nat.reduceMul, Int.reduceLT, Int.reduceLE, Int.reduceEq, Int.reduceToNat, Int.reduceMul, Int.reduceNeg, Go.Proofs.Try.f144, hfu]
    | refine Sp2.f ?_ ?_
    | refine Spl.f ?_ ?_ <;> intro hb
    | refine qac rfl (fun b hb => ?_)
    | refine qa1 hf ?_
    | refine qc0 (zb6 5 [] (by simp) hr hw).n fun h1 w1 p1 => ?_)
    exact ⟨w1, p1⟩
  · have e : qa9 s r out = qa3 r [] s.Waiters (ya1 s r 1 []) (out ++ [rep r 1 []]) := by rw [qa9, if_neg hfu]
    have hfu : qcs s r (-1) = false := by simpa using hfu
    rw [e]
    have hr1 := hr.tell 1 [] (out ++ [rep r 1 []]) (by simp; omega)
    repeat' (first
    | simp (implicitDefEqProofs := false) only [push_cast, reduceIte, reduceCtorEq, Nat.reduceAdd, Nat.reduceSub, Nat.reduceEqDiff, Nat.reduceLT, Nat.reduceLeDiff, Nat.reduceBEq, Nat.reduceMul, Int.reduceLT, Int.reduceLE, Int.reduceEq, Int.reduceToNat, Int.reduceMul, Int.reduceNeg, Go.Proofs.Try.f144, hfu]
    | refine Sp2.f ?_ ?_
    | refine Spl.f ?_ ?_ <;> intro hb
    | refine qac rfl (fun b hb => ?_)
    | refine qa1 hf ?_
    | refine qc0 (zb6 1 [] (by simp) hr hw).n fun h1 w1 p1 => ?_
    | refine qc0 (args := []) (c_put w1 hr1.pi hr1.rT (by have := hr1.il; omega) hr1.now hr1.ls) fun h2 w2 p2 => ?_)
    exact ⟨w2.seq p1 p2, p1.trans p2⟩
end Go.Abs
