/- R7: a part of the proofs about the tuple space and its bytes. -/
import Derived.Test.YtilfbkhbjkjicaaR4
import Derived.Test.YtilfbkhbjkjicaaGv
set_option linter.all false
set_option maxRecDepth 100000
set_option maxHeartbeats 0
namespace Go.Abs
open Go
open Go.Proofs.Try (prog)
def gE (s : Spc) (vi vw vo : AV) : Entry := ⟨132, [.agg 132 [.agg 29 [.int .i64 s.Now, vi, vw, .int .i64 s.Read, .int .i64 s.Write, eL s.Last], vo]], .own⟩
inductive GV (X : Nat → Prop) (h : List Entry) (T : TypeId) : AV → List AV → Prop where
  | flat {l : List AV} : GV X h T (.list T l) l
  | view {v : AV} {l : List AV} (hv : View X h T v l) : GV X h T v l
theorem GV.set {X : Nat → Prop} {h : List Entry} {T : TypeId} {v : AV} {l : List AV} (hv : GV X h T v l) {k : Nat} {e0 : Entry} (hk : h[k]? = some e0) (hT : e0.T ≠ T) (E : Entry) : GV X (h.set k E) T v l := by
  cases hv with
  | flat => exact .flat
  | view hv => exact .view (hv.set hk hT E)
theorem GV.app {X : Nat → Prop} {h : List Entry} {T : TypeId} {v : AV} {l : List AV} (hv : GV X h T v l) (r : List Entry) : GV X (h ++ r) T v l := by
  cases hv with
  | flat => exact .flat
  | view hv => exact .view (hv.app r)
theorem GV.up {X Y : Nat → Prop} {h : List Entry} {T : TypeId} {v : AV} {l : List AV} (hv : GV X h T v l) (hX : ∀ j, X j → Y j) : GV Y h T v l := by
  cases hv with
  | flat => exact .flat
  | view hv => exact .view (hv.up hX)
theorem GV.mono {X : Nat → Prop} {h h' : List Entry} {T : TypeId} {v : AV} {l : List AV} (hv : GV X h T v l) (hg : ∀ j es, X j → h[j]? = some ⟨T, es, .own⟩ → h'[j]? = some ⟨T, es, .own⟩) : GV X h' T v l := by
  cases hv with
  | flat => exact .flat
  | view hv => exact .view (hv.mono (fun _ h => h) hg)
theorem GV.len {X : Nat → Prop} {h : List Entry} {T U : TypeId} {v : AV} {l : List AV} (hv : GV X h T v l) (hU : yab prog U = .slice T) : zcw prog U v = .ret (.int .i64 l.length) [] := by
  have hs : za2 (yab prog U) = true := by rw [hU]; rfl
  cases hv with
  | flat => rw [stLen_list, if_pos hs]
  | view hv =>
    cases hv with
    | nil => rw [stLen_nils, if_pos hs]; rfl
    | win hx hk => rw [stLen_win, if_pos hs]
theorem GV.at {X : Nat → Prop} {h : List Entry} {T U : TypeId} {v : AV} {l : List AV} {i : Nat} {e : AV} (hv : GV X h T v l) (hi : l[i]? = some e) (hU : yab prog U = .slice T) (hok : okT prog T = true) :
    ∃ p, qa4 prog U v (.int .i64 i) = .ret p [] ∧ ∀ (d : Option Tmp) (s : List Ctl) (env : Env) (Q : zau), Rs prog (qcg T p) d s env h Q = Rn prog s .normal (zbh env d e) h Q := by
  have hlt : i < l.length := (List.getElem?_eq_some_iff.1 hi).1
  have hin : 0 ≤ (i : Int) ∧ (i : Int) < (l.length : Int) := by omega
  cases hv with
  | flat =>
    refine ⟨.eref T (l.getD i .junk), ?_, fun d s env Q => ?_⟩
    · rw [ycr, if_pos ⟨hU, hok⟩, if_pos hin, Int.toNat_natCast]
    · rw [stLoad_eref, if_pos rfl, rs_ret, List.getD_eq_getElem?_getD, hi]; rfl
  | view hv =>
    cases hv with
    | nil => simp at hlt
    | @win k lo _ z hx hk =>
      refine ⟨.ref k [i] T, ?_, fun d s env Q => ?_⟩
      · rw [ycw, if_pos ⟨hU, hok⟩, if_pos hin, Int.toNat_natCast, Nat.zero_add]; rfl
      · have hg : (l ++ z)[i]? = some e := by rw [List.getElem?_append_left hlt]; exact hi
        rw [stLoad_ref, if_pos rfl, rs_rd, hk, rd_some]
        simp only [yb7, if_true, getE, hg, za7, rs_ret]
        rfl
structure GS (X : Nat → Prop) (k : Nat) (s : Spc) (out : List Rpl) (h : List Entry) : Prop where
  bd : ∀ j, X j → j < h.length
  own : X k
  ex : ∃ vi vw vo, h[k]? = some (gE s vi vw vo) ∧ View X h 87 vi (s.Items.map eI) ∧ GV X h 89 vw (s.Waiters.map eW) ∧ View X h 26 vo (out.map eR)
def Gth (f : FuncId) (args : List AV) (X : Nat → Prop) (k : Nat) (h : List Entry) (s' : Spc) (out' : List Rpl) : Prop :=
  ∃ h', GS (zbf X h h') k s' out' h' ∧ Keeps X h h' ∧ FSpec prog f (.ref k [0] 132 :: args) h fun r' h'' => r' = .tup [] ∧ h'' = h'
theorem c_Gtell0 {X : Nat → Prop} {k : Nat} {s : Spc} {r : Req} {out : List Rpl} {h : List Entry} (kd : Int) (t : List Fld) (c : Nat) (hc : r.Client = c) (hc4 : c < 4) (hL : s.Last.length = 4) (ht : t.length ≤ 4294967296) (ho : out.length < 4294967296) (hw : GS X k s out h) :
    Gth 91 [eQ r, .int .i64 kd, eFs t] X k h { s with Last := s.Last.set c (rep r kd t) } (out ++ [rep r kd t]) := by
  obtain ⟨b, o, vi, vw, vo, hk, h1, h2, h3⟩ := hw
  have hkl := yac hk
  generalize hl : out.map eR = l at h3
  have hlen : l.length < 4294967296 := by rw [← hl]; simpa using ho
  have hlr : (out ++ [rep r kd t]).map eR = l ++ [eR (rep r kd t)] := by simp [← hl]
  have tI : 132 ≠ 87 := by decide
  have tW : 132 ≠ 89 := by decide
  have tR : 132 ≠ 26 := by decide
  have uI : 26 ≠ 87 := by decide
  have uW : 26 ≠ 89 := by decide
  have hr4 : (0 ≤ (c : Int) ∧ (c : Int) < ((4 : Nat) : Int)) = True := by simp; omega
  have hr5 : (0 ≤ (c : Int) ∧ (c : Int) < 4) = True := by simp; omega
  have hcl : c < (s.Last.map eR).length := by simp [hL]; omega
  have hg : (s.Last.map eR)[c]? = some (s.Last.map eR)[c] := List.getElem?_eq_getElem hcl
  obtain ⟨rc, rs, rk, rp, rt, rl⟩ := r
  simp only at hc
  subst hc
  have hset : (s.Last.map eR).set c (eR (rep ⟨c, rs, rk, rp, rt, rl⟩ kd t)) = (s.Last.set c (rep ⟨c, rs, rk, rp, rt, rl⟩ kd t)).map eR := (List.map_set ..).symm
  simp only [eR, eFs, rep] at hset
  cases h3 with
  | nil =>
    refine ⟨?hh1, ?ws, ?kp, frun_91 rfl ?wk⟩
    case wk =>
      repeat' (first
    | simp (implicitDefEqProofs := false) only [push_cast, reduceIte, reduceCtorEq, Nat.reduceAdd, Nat.reduceSub, Nat.reduceEqDiff, Nat.reduceLT, Nat.reduceLeDiff, Nat.reduceBEq, Nat.reduceMul, Int.reduceLT, Int.reduceLE, Int.reduceEq, Int.reduceToNat, Int.reduceMul, Int.reduceNeg, Go.Proofs.Try.f91, hk, gE, hkl, eQ, eR, eFs, eL, hg, hset, hr4, hr5, ybg, Int.toNat_natCast, List.length_map, zad, yae, qad, zae, zab, qae, sst, qab, qaa, yaa, zac, qaq, List.replicate_succ, List.drop_zero, zaf hkl, yad hkl, qak hkl, yaf hkl]
    | refine Sp2.f ?_ ?_
    | refine Spl.f ?_ ?_ <;> intro hb
    | refine qac rfl (fun b hb => ?_)
    | refine zaa (U := [[], [], [], [], [], [], [], [], []]) (H := []) zag (by kernel_rfl) (by decide +kernel) (by kernel_rfl) ?_
    | refine zaa (U := [[], [], [], [], [], [], [4], [], [], [], []]) (H := [⟨0, [], .hole⟩, ⟨0, [], .hole⟩]) zag (by kernel_rfl) (by decide +kernel) (by kernel_rfl) ?_)
      rfl
    case kp => exact Keeps.sets o _ _
    case ws =>
      refine ⟨ya2 b (by simp), .inl o, vi, vw, _, by rw [zad (by simpa using hkl), zae hkl]; rfl, ((h1.set hk tI _).app _).up za4, ((h2.set hk tW _).app _).up za4, ?_⟩
      rw [hlr]
      exact View.win' [] (.inr ⟨by omega, by simp⟩) qab rfl rfl
  | @win ko lo _ z hx2 hko =>
    have hkol := yac hko
    have hne : ko ≠ k := by rintro rfl; rw [hk] at hko; cases hko
    have hst3 : ∀ a b c : Entry, ((h.set k a).set ko b).set k c = (h.set ko b).set k c := fun a b c => by rw [List.set_comm _ _ hne.symm, List.set_set]
    have htk : (l ++ z).take l.length = l := by simp
    have hle : l.length ≤ (l ++ z).length := by simp
    have hdr : (l ++ z).drop (l.length + 1) = z.drop 1 := by rw [List.drop_append]; simp
    by_cases hfit : l.length + 1 ≤ lo
    · have hfit := eq_true hfit
      refine ⟨?hh2, ?ws, ?kp, frun_91 rfl ?wk⟩
      case wk =>
        repeat' (first
    | simp (implicitDefEqProofs := false) only [push_cast, reduceIte, reduceCtorEq, Nat.reduceAdd, Nat.reduceSub, Nat.reduceEqDiff, Nat.reduceLT, Nat.reduceLeDiff, Nat.reduceBEq, Nat.reduceMul, Int.reduceLT, Int.reduceLE, Int.reduceEq, Int.reduceToNat, Int.reduceMul, Int.reduceNeg, Go.Proofs.Try.f91, hk, hko, hst3, hfit, htk, hdr, hle, hkol, hne, Ne.symm hne, qds hne, qds (Ne.symm hne), zaf hkol, yad hkol, qak hkol, yaf hkol, gE, hkl, eQ, eR, eFs, eL, hg, hset, hr4, hr5, ybg, Int.toNat_natCast, List.length_map, zad, yae, qad, zae, zab, qae, sst, qab, qaa, yaa, zac, qaq, List.replicate_succ, List.drop_zero, zaf hkl, yad hkl, qak hkl, yaf hkl]
    | refine Sp2.f ?_ ?_
    | refine Spl.f ?_ ?_ <;> intro hb
    | refine qac rfl (fun b hb => ?_)
    | refine zaa (U := [[], [], [], [], [], [], [], [], []]) (H := []) zag (by kernel_rfl) (by decide +kernel) (by kernel_rfl) ?_
    | refine zaa (U := [[], [], [], [], [], [], [4], [], [], [], []]) (H := [⟨0, [], .hole⟩, ⟨0, [], .hole⟩]) zag (by kernel_rfl) (by decide +kernel) (by kernel_rfl) ?_)
        all_goals first
          | omega
          | rfl
      case kp => exact Keeps.sets2 hx2 o _ _ _
      case ws =>
        refine ⟨ya2 b (by simp), .inl o, vi, vw, _, by rw [zad (by simpa using hkl), zae (by simpa using hkl)]; rfl, (((h1.set hko uI _).set ((qad hne).trans hk) tI _).app _).up za4, (((h2.set hko uW _).set ((qad hne).trans hk) tW _).app _).up za4, ?_⟩
        rw [hlr]
        exact View.win' (z.drop 1) (.inl hx2) (by rw [zad (by simpa using hkol), qad (Ne.symm hne), zae hkol]) (by simp [eR, eFs, rep]) (by simp)
    · have hfit := eq_false hfit
      refine ⟨?hh3, ?ws, ?kp, frun_91 rfl ?wk⟩
      case wk =>
        repeat' (first
    | simp (implicitDefEqProofs := false) only [push_cast, reduceIte, reduceCtorEq, Nat.reduceAdd, Nat.reduceSub, Nat.reduceEqDiff, Nat.reduceLT, Nat.reduceLeDiff, Nat.reduceBEq, Nat.reduceMul, Int.reduceLT, Int.reduceLE, Int.reduceEq, Int.reduceToNat, Int.reduceMul, Int.reduceNeg, Go.Proofs.Try.f91, hk, hko, hst3, hfit, htk, hdr, hle, hkol, hne, Ne.symm hne, qds hne, qds (Ne.symm hne), zaf hkol, yad hkol, qak hkol, yaf hkol, gE, hkl, eQ, eR, eFs, eL, hg, hset, hr4, hr5, ybg, Int.toNat_natCast, List.length_map, zad, yae, qad, zae, zab, qae, sst, qab, qaa, yaa, zac, qaq, List.replicate_succ, List.drop_zero, zaf hkl, yad hkl, qak hkl, yaf hkl]
    | refine Sp2.f ?_ ?_
    | refine Spl.f ?_ ?_ <;> intro hb
    | refine qac rfl (fun b hb => ?_)
    | refine zaa (U := [[], [], [], [], [], [], [], [], []]) (H := []) zag (by kernel_rfl) (by decide +kernel) (by kernel_rfl) ?_
    | refine zaa (U := [[], [], [], [], [], [], [4], [], [], [], []]) (H := [⟨0, [], .hole⟩, ⟨0, [], .hole⟩]) zag (by kernel_rfl) (by decide +kernel) (by kernel_rfl) ?_)
        all_goals first
          | omega
          | rfl
      case kp => exact Keeps.sets2 hx2 o _ _ _
      case ws =>
        refine ⟨ya2 b (by simp), .inl o, vi, vw, _, by rw [zad (by simpa using hkl), zae (by simpa using hkl)]; rfl, (((h1.set hko uI _).set ((qad hne).trans hk) tI _).app _).up za4, (((h2.set hko uW _).set ((qad hne).trans hk) tW _).app _).up za4, ?_⟩
        rw [hlr]
        exact View.win' [] (.inr ⟨by omega, by simp⟩) yaa (by simp [eR, eFs, rep]) (by simp)
end Go.Abs
set_option linter.all false
set_option maxRecDepth 100000
set_option maxHeartbeats 0
namespace Go.Abs
open Go
open Go.Proofs.Try (prog)
theorem ydx {X : Nat → Prop} {h : List Entry} {T : TypeId} {v : AV} {l : List AV} (hv : View X h T v l) : lenAV v = l.length := by cases hv <;> rfl
structure PG (X : Nat → Prop) (k : Nat) (s : Spc) (r : Req) (out : List Rpl) (h : List Entry) (j : Nat) (left : List Wtr) (s1 : Spc) (out1 : List Rpl) (tk : Bool) (vi vw vo vl : AV) (h1 : List Entry) : Prop where
  go : if tk = true then qa3 r [] s.Waiters s out = ({ s1 with Waiters := left ++ s.Waiters.drop j }, out1) else qa3 r left (s.Waiters.drop j) s1 out1 = qa3 r [] s.Waiters s out
  nw : s1.Now = s.Now
  it : s1.Items = s.Items
  rw : s1.Read = s.Read ∧ s1.Write = s.Write
  l4 : s1.Last.length = 4
  g : h1[k]? = some (gE s1 vi vw vo)
  vi : View X h1 87 vi (s.Items.map eI)
  vw : GV X h1 89 vw (s.Waiters.map eW)
  vo : View (zbf X h h1) h1 26 vo (out1.map eR)
  vl : View (fun i => h.length < i ∧ i < h1.length) h1 89 vl (left.map eW)
  bx : h1[h.length]? = some ⟨60, [eQ r], .own⟩
  kp : Keeps X h h1
  ol : out1.length ≤ out.length + j
  ll : left.length ≤ j
def PGv (X : Nat → Prop) (k : Nat) (s : Spc) (r : Req) (out : List Rpl) (h : List Entry) (E : AV → Bool → Nat → (Nat → AV) → Env) (j : Nat) (env : Env) (h1 : List Entry) : Prop :=
  j ≤ s.Waiters.length ∧ ∃ left s1 out1 tk vi vw vo vl, PG X k s r out h j left s1 out1 tk vi vw vo vl h1 ∧ env = E vl tk j (lk env)
theorem PG.left {X : Nat → Prop} {k : Nat} {s : Spc} {r : Req} {out : List Rpl} {h : List Entry} {j : Nat} {left : List Wtr} {s1 : Spc} {out1 : List Rpl} {tk : Bool} {vi vw vo vl v' : AV} {hh h' l : List Entry} {x : Wtr}
    (pg : PG X k s r out h j left s1 out1 tk vi vw vo vl hh) (b : ∀ j, X j → j < h.length) (o : X k) (q1 : View (zbf (fun i => h.length < i ∧ i < hh.length) (hh ++ l) h') h' 89 v' (left.map eW ++ [eW x])) (q2 : (hh ++ l).length ≤ h'.length)
    (q3 : ∀ j e, (hh ++ l)[j]? = some e → (¬ (h.length < j ∧ j < hh.length) ∨ e.T ≠ 89) → h'[j]? = some e)
    (go : if tk = true then qa3 r [] s.Waiters s out = ({ s1 with Waiters := (left ++ [x]) ++ s.Waiters.drop (j + 1) }, out1) else qa3 r (left ++ [x]) (s.Waiters.drop (j + 1)) s1 out1 = qa3 r [] s.Waiters s out) :
    PG X k s r out h (j + 1) (left ++ [x]) s1 out1 tk vi vw vo v' h' := by
  have hl := pg.kp.len
  have hbx := yac pg.bx
  have q2' : hh.length ≤ h'.length := by simp at q2; omega
  have kX : ∀ j e, X j → hh[j]? = some e → h'[j]? = some e := fun j e hx he => q3 j e (by rw [zad (yac he)]; exact he) (.inl fun hc => by have := b j hx; omega)
  refine ⟨go, pg.nw, pg.it, pg.rw, pg.l4, kX k _ o pg.g, pg.vi.mono (fun _ h => h) fun j es hx he => kX j _ hx he, pg.vw.mono fun j es hx he => kX j _ hx he, ?_, ?_, ?_, ⟨by omega, fun j hj hx => ?_⟩, by have := pg.ol; omega, by have := pg.ll; simp; omega⟩
  · refine pg.vo.mono (fun j hj => hj.elim .inl fun a => .inr ⟨a.1, by omega⟩) fun j es _ he => q3 j _ (by rw [zad (yac he)]; exact he) (.inr (by show 26 ≠ 89; decide))
  · rw [List.map_append, List.map_cons, List.map_nil]
    refine q1.up fun j hj => hj.elim (fun a => ⟨a.1, by omega⟩) fun a => ⟨by have := a.1; simp at this; omega, a.2⟩
  · exact q3 _ _ (by rw [zad hbx]; exact pg.bx) (.inl fun hc => Nat.lt_irrefl _ hc.1)
  · have he : h[j]? = some h[j] := List.getElem?_eq_getElem hj
    have he1 := pg.kp.get he hx
    rw [he]
    exact q3 _ _ (by rw [zad (yac he1)]; exact he1) (.inl fun hc => by omega)
theorem PG.told {X : Nat → Prop} {k : Nat} {s : Spc} {r : Req} {out : List Rpl} {h : List Entry} {j : Nat} {left : List Wtr} {s1 s2 : Spc} {out1 : List Rpl} {vi vw vo vl v' : AV} {hh HA l : List Entry} {x : Wtr} {y : Rpl} {n : Nat}
    (pg : PG X k s r out h j left s1 out1 false vi vw vo vl hh) (b : ∀ j, X j → j < h.length) (o : X k) (hn : hh.length ≤ n) (hnl : n < (hh ++ l).length)
    (q1 : View (fun i => zbf X h hh i ∨ i = n) HA 26 v' (out1.map eR ++ [eR y])) (q2 : HA.length = (hh ++ l).length)
    (q3 : ∀ j e, (hh ++ l)[j]? = some e → j ≠ n → (¬ zbf X h hh j ∨ e.T ≠ 26) → HA[j]? = some e)
    (hs : s2.Now = s1.Now ∧ s2.Items = s1.Items ∧ s2.Read = s1.Read ∧ s2.Write = s1.Write ∧ s2.Last.length = s1.Last.length)
    (go : if x.Take = true then qa3 r [] s.Waiters s out = ({ s2 with Waiters := left ++ s.Waiters.drop (j + 1) }, out1 ++ [y]) else qa3 r left (s.Waiters.drop (j + 1)) s2 (out1 ++ [y]) = qa3 r [] s.Waiters s out) :
    PG X k s r out h (j + 1) left s2 (out1 ++ [y]) x.Take vi vw v' vl (HA.set k (gE s2 vi vw v')) := by
  have hl := pg.kp.len
  have hbx := yac pg.bx
  have hkl := yac pg.g
  have hk := b k o
  have q2' : HA.length = hh.length + l.length := by rw [q2]; simp
  have tI : 132 ≠ 87 := by decide
  have tW : 132 ≠ 89 := by decide
  have tR : 132 ≠ 26 := by decide
  have old : ∀ (j : Nat) (e : Entry), hh[j]? = some e → e.T ≠ 26 → HA[j]? = some e := fun j e he ht => q3 j e (by rw [zad (yac he)]; exact he) (by have := yac he; omega) (.inr ht)
  have gk := old k _ pg.g tR
  refine ⟨go, hs.1.trans pg.nw, hs.2.1.trans pg.it, ⟨hs.2.2.1.trans pg.rw.1, hs.2.2.2.1.trans pg.rw.2⟩, hs.2.2.2.2.trans pg.l4, zae (by omega), ?_, ?_, ?_, ?_, ?_, ⟨by rw [zab]; omega, fun j hj hx => ?_⟩, by have := pg.ol; simp; omega, by have := pg.ll; omega⟩
  · exact (pg.vi.mono (fun _ h => h) fun j es hx he => old j _ he (by simp)).set gk tI _
  · exact (pg.vw.mono fun j es hx he => old j _ he (by simp)).set gk tW _
  · rw [List.map_append, List.map_cons, List.map_nil]
    refine (q1.set gk tR _).up fun j hj => hj.elim (fun hj => hj.elim .inl fun a => .inr ⟨a.1, by rw [zab]; omega⟩) fun a => .inr ⟨by omega, by rw [zab]; omega⟩
  · refine ((pg.vl.mono (fun _ h => h) fun j es hx he => old j _ he (by simp)).set gk tW _).up fun j hj => ⟨hj.1, by rw [zab]; omega⟩
  · rw [qad (by omega)]
    exact old _ _ pg.bx (by show 60 ≠ 26; decide)
  · have he : h[j]? = some h[j] := List.getElem?_eq_getElem hj
    have he1 := pg.kp.get he hx
    rw [he, qad (by rintro rfl; exact hx o)]
    exact q3 _ _ (by rw [zad (yac he1)]; exact he1) (by have := yac he1; omega) (.inl fun hc => hc.elim hx fun a => by omega)
theorem PG.fin {X : Nat → Prop} {k : Nat} {s : Spc} {r : Req} {out : List Rpl} {h : List Entry} {j : Nat} {left : List Wtr} {s1 s2 : Spc} {out1 : List Rpl} {tk : Bool} {vi vw vo vl v : AV} {hh L : List Entry}
    (pg : PG X k s r out h j left s1 out1 tk vi vw vo vl hh) (b : ∀ j, X j → j < h.length) (o : X k) (hw : s2.Waiters = left)
    (hv : View (fun i => hh.length ≤ i ∧ i < hh.length + L.length) (hh.set k (gE s2 v vl vo) ++ L) 87 v (s2.Items.map eI)) :
    GS (zbf X h (hh.set k (gE s2 v vl vo) ++ L)) k s2 out1 (hh.set k (gE s2 v vl vo) ++ L) ∧ Keeps X h (hh.set k (gE s2 v vl vo) ++ L) := by
  have hk1 := yac pg.g
  have hl := pg.kp.len
  have tW : 132 ≠ 89 := by decide
  have tR : 132 ≠ 26 := by decide
  refine ⟨⟨ya2 b (by simp; omega), .inl o, v, vl, vo, by rw [zad (by simpa using hk1)]; exact zae hk1, ?_, ?_, ?_⟩, ⟨by simp; omega, fun j hj hx => ?_⟩⟩
  · exact hv.up fun i hi => .inr ⟨by omega, by simp; omega⟩
  · rw [hw]; exact .view (((pg.vl.set pg.g tW _).app _).up fun i hi => .inr ⟨by omega, by simp; omega⟩)
  · exact ((pg.vo.set pg.g tR _).app _).up fun i hi => hi.elim .inl fun a => .inr ⟨a.1, by simp; omega⟩
  · have he : h[j]? = some h[j] := List.getElem?_eq_getElem hj
    have he1 := pg.kp.get he hx
    rw [zad (by simp; omega), qad (by rintro rfl; exact hx o), he]
    exact he1
theorem c_Gput {X : Nat → Prop} {k : Nat} {s : Spc} {r : Req} {out : List Rpl} {h : List Entry} (hr : Rdy s r out) (hw : GS X k s out h) :
    FSpec prog 130 [.ref k [0] 132, eQ r] h fun r' h' => r' = .tup [] ∧ GS (zbf X h h') k (qa3 r [] s.Waiters s out).1 (qa3 r [] s.Waiters s out).2 h' ∧ Keeps X h h' := by
  obtain ⟨b, o, vi0, vw0, vo0, hk, h1, h2, h3⟩ := hw
  have hkl := yac hk
  refine frun_130 rfl ?_
  repeat' (first
    | simp (implicitDefEqProofs := false) only [push_cast, reduceIte, reduceCtorEq, Nat.reduceAdd, Nat.reduceSub, Nat.reduceEqDiff, Nat.reduceLT, Nat.reduceLeDiff, Nat.reduceBEq, Nat.reduceMul, Int.reduceLT, Int.reduceLE, Int.reduceEq, Int.reduceToNat, Int.reduceMul, Int.reduceNeg, Go.Proofs.Try.f130, hk, gE, hkl, zay, zaz, zad, yae, qad, zae, zab, qae, sst, qab, qaa, yaa, zac, qaq, List.replicate_succ, List.drop_zero, zaf hkl, yad hkl, qak hkl, yaf hkl]
    | refine Sp2.f ?_ ?_
    | refine Spl.f ?_ ?_ <;> intro hb
    | refine qac rfl (fun b hb => ?_)
    | refine zaa (U := [[], [], [], [], [], [], [4], [], [], [], []]) (H := [⟨0, [], .hole⟩, ⟨0, [], .hole⟩]) zag (by kernel_rfl) (by decide +kernel) (by kernel_rfl) ?_
    | refine zaa (U := [[], [], [], [], [], [], [], [], [], [], [], []]) (H := []) zag (by kernel_rfl) (by decide +kernel) (by kernel_rfl) ?_
    | refine zaa (U := [[], [], [], [], [], [], [], [], []]) (H := []) zag (by kernel_rfl) (by decide +kernel) (by kernel_rfl) ?_
    | refine zaa (U := [[], [], [], [], [], [], [], [], []]) (H := []) zag (by kernel_rfl) (by decide +kernel) (by kernel_rfl) ?_
    | refine zaa (U := [[], [], [], [], [], [], [1], [], [], [1, 7], [], [], [1, 7], [], [1, 6, 7], [], [], [], [], []]) (H := [⟨0, [], .hole⟩, ⟨0, [], .hole⟩, ⟨0, [], .hole⟩, ⟨0, [], .hole⟩]) zag (by kernel_rfl) (by decide +kernel) (by kernel_rfl) ?_)
  refine zbl (PGv X k s r out h (fun vl tk j a => [(0, .ref k [0] 132), (1, eQ r), (3, .ref h.length [0] 60), (4, vl), (5, .bool tk), (6, .int .i64 j), (7, a 7), (8, a 8), (9, a 9), (17, a 17), (36, a 36), (69, a 69), (89, a 89), (92, a 92)])) s.Waiters.length ?_ ?_
  · refine ⟨Nat.zero_le _, [], s, out, false, vi0, vw0, vo0, .nils, ⟨?_, rfl, rfl, ⟨rfl, rfl⟩, hr.l4, ?_, h1.app _, h2.app _, (h3.app _).up za4, .nil, ?_, Keeps.app _ _ _, Nat.le_refl _, Nat.le_refl _⟩, rfl⟩
    · rw [if_neg (by decide), List.drop_zero]
    · rw [zad hkl]; exact hk
    · rw [yas]; rfl
  rintro j env hh ⟨hj, left, s1, out1, tk, vi, vw, vo, vl, pg, henv⟩
  refine ⟨hj, ?_⟩
  rw [henv]
  generalize lk env = a
  clear henv env
  have a0 := pg.g
  have a1 := pg.bx
  have hk1 := yac a0
  have hb1 := yac a1
  by_cases hlt : j < s.Waiters.length
  · obtain ⟨x, hx⟩ : ∃ x, s.Waiters[j]? = some x := ⟨_, List.getElem?_eq_getElem hlt⟩
    obtain ⟨hcl, hxP⟩ := hr.cl x (List.mem_of_getElem? hx)
    have hm := c_Match6 x.P r.T hxP hr.rT
    have hj9 : j < 9223372036854775807 := by have := hr.wl; omega
    have hdr : s.Waiters.drop j = x :: s.Waiters.drop (j + 1) := by rw [List.drop_eq_getElem?_toList_append, hx]; rfl
    have hgo := pg.go
    have gw0 : za7 (eW x) [0] = some (.int .i64 x.Client) := rfl
    have gw1 : za7 (eW x) [1] = some (.int .i64 x.Seq) := rfl
    have gw2 : za7 (eW x) [2] = some (.bool x.Take) := rfl
    have gw3 : za7 (eW x) [3] = some (eFs x.P) := rfl
    have gq0 : za7 (eQ r) [0] = some (.int .i64 r.Client) := rfl
    have gq4 : za7 (eQ r) [4] = some (eFs r.T) := rfl
    rw [hdr] at hgo
    have hll : lenAV vl = left.length := by have := ydx pg.vl; simpa using this
    have hro : decide (left.length + 1 ≤ 4294967296) = true := by have := pg.ll; have := hr.wl; simp; omega
    obtain ⟨p, hidx, hldx⟩ := pg.vw.at (i := j) (e := eW x) (by rw [List.getElem?_map, hx]; rfl) ybs ok_89
    simp (implicitDefEqProofs := false) only [push_cast, reduceIte, reduceCtorEq, Nat.reduceAdd, Nat.reduceSub, Nat.reduceEqDiff, Nat.reduceLT, Nat.reduceLeDiff, Nat.reduceBEq, Nat.reduceMul, Int.reduceLT, Int.reduceLE, Int.reduceEq, Int.reduceToNat, Int.reduceMul, Int.reduceNeg, Go.Proofs.Try.f130] at hldx
    have hlW : zcw prog 23 vw = .ret (.int .i64 s.Waiters.length) [] := by have := pg.vw.len (U := 23) ybs; simpa using this
    obtain ⟨v', h', q1, q2, q3, happ0⟩ := rh_app (P := prog) (eW x) (pg.vl.app [⟨89, [eW x], .own⟩, ⟨89, [eW x], .own⟩])
    have e2 : (hh ++ [(⟨89, [eW x], .own⟩ : Entry), ⟨89, [eW x], .own⟩]).length = hh.length + 2 := by simp
    have happ : ∀ (d : Option Tmp) (st : List Ctl) (en : Env) (Q : zau), Rn prog st .normal (zbh en d v') h' Q → Rh prog (qan 89 [eW x] (hh.length + 2) vl) d st en (hh ++ [(⟨89, [eW x], .own⟩ : Entry), ⟨89, [eW x], .own⟩]) Q := fun d st en Q hq => by
      have := happ0 d st en Q hq
      rwa [e2] at this
    clear happ0
    cases tk with
    | true =>
      rw [if_pos rfl] at hgo
      repeat' (first
    | simp (implicitDefEqProofs := false) only [push_cast, reduceIte, reduceCtorEq, Nat.reduceAdd, Nat.reduceSub, Nat.reduceEqDiff, Nat.reduceLT, Nat.reduceLeDiff, Nat.reduceBEq, Nat.reduceMul, Int.reduceLT, Int.reduceLE, Int.reduceEq, Int.reduceToNat, Int.reduceMul, Int.reduceNeg, Go.Proofs.Try.f130, hll, hro, gw0, gw1, gw2, gw3, gq0, gq4, hlW, hidx, hldx, a0, a1, gE, hk1, hb1, yaj hlt, eW_ty, eW_pl, eW_wk, yak, qal, zak, Int.toNat_natCast, List.length_map, qaf hj9, zad, yae, qad, zae, zab, qae, sst, qab, qaa, yaa, zac, qaq, List.replicate_succ, List.drop_zero, zaf hk1, yad hk1, qak hk1, yaf hk1, zaf hb1, yad hb1, qak hb1, yaf hb1]
    | refine Sp2.f ?_ ?_
    | refine Spl.f ?_ ?_ <;> intro hb
    | refine qac rfl (fun b hb => ?_)
    | refine zaa (U := [[], [], [], [], [], [], [4], [], [], [], []]) (H := [⟨0, [], .hole⟩, ⟨0, [], .hole⟩]) zag (by kernel_rfl) (by decide +kernel) (by kernel_rfl) ?_
    | refine zaa (U := [[], [], [], [], [], [], [], [], [], [], [], []]) (H := []) zag (by kernel_rfl) (by decide +kernel) (by kernel_rfl) ?_
    | refine zaa (U := [[], [], [], [], [], [], [], [], []]) (H := []) zag (by kernel_rfl) (by decide +kernel) (by kernel_rfl) ?_
    | refine zaa (U := [[], [], [], [], [], [], [], [], []]) (H := []) zag (by kernel_rfl) (by decide +kernel) (by kernel_rfl) ?_
    | refine zaa (U := [[], [], [], [], [], [], [1], [], [], [1, 7], [], [], [1, 7], [], [1, 6, 7], [], [], [], [], []]) (H := [⟨0, [], .hole⟩, ⟨0, [], .hole⟩, ⟨0, [], .hole⟩, ⟨0, [], .hole⟩]) zag (by kernel_rfl) (by decide +kernel) (by kernel_rfl) ?_
    | refine happ _ _ _ _ ?_)
      all_goals first
        | (have := pg.ll; have := pg.ol; have := hr.wl; have := hr.ol; omega)
        | skip
      refine ⟨hlt, left ++ [x], s1, out1, true, vi, vw, vo, v', pg.left b o q1 q2 q3 ?_, rfl⟩
      rw [if_pos rfl, hgo]
      simp
    | false =>
      rw [if_neg (by decide)] at hgo
      cases hmb : ya6 x.P r.T with
      | false =>
        rw [hmb] at hm
        repeat' (first
    | simp (implicitDefEqProofs := false) only [push_cast, reduceIte, reduceCtorEq, Nat.reduceAdd, Nat.reduceSub, Nat.reduceEqDiff, Nat.reduceLT, Nat.reduceLeDiff, Nat.reduceBEq, Nat.reduceMul, Int.reduceLT, Int.reduceLE, Int.reduceEq, Int.reduceToNat, Int.reduceMul, Int.reduceNeg, Go.Proofs.Try.f130, hll, hro, gw0, gw1, gw2, gw3, gq0, gq4, hlW, hidx, hldx, a0, a1, gE, hk1, hb1, yaj hlt, eW_ty, eW_pl, eW_wk, yak, qal, zak, Int.toNat_natCast, List.length_map, qaf hj9, zad, yae, qad, zae, zab, qae, sst, qab, qaa, yaa, zac, qaq, List.replicate_succ, List.drop_zero, zaf hk1, yad hk1, qak hk1, yaf hk1, zaf hb1, yad hb1, qak hb1, yaf hb1]
    | refine Sp2.f ?_ ?_
    | refine Spl.f ?_ ?_ <;> intro hb
    | refine qac rfl (fun b hb => ?_)
    | refine zaa (U := [[], [], [], [], [], [], [4], [], [], [], []]) (H := [⟨0, [], .hole⟩, ⟨0, [], .hole⟩]) zag (by kernel_rfl) (by decide +kernel) (by kernel_rfl) ?_
    | refine zaa (U := [[], [], [], [], [], [], [], [], [], [], [], []]) (H := []) zag (by kernel_rfl) (by decide +kernel) (by kernel_rfl) ?_
    | refine zaa (U := [[], [], [], [], [], [], [], [], []]) (H := []) zag (by kernel_rfl) (by decide +kernel) (by kernel_rfl) ?_
    | refine zaa (U := [[], [], [], [], [], [], [], [], []]) (H := []) zag (by kernel_rfl) (by decide +kernel) (by kernel_rfl) ?_
    | refine zaa (U := [[], [], [], [], [], [], [1], [], [], [1, 7], [], [], [1, 7], [], [1, 6, 7], [], [], [], [], []]) (H := [⟨0, [], .hole⟩, ⟨0, [], .hole⟩, ⟨0, [], .hole⟩, ⟨0, [], .hole⟩]) zag (by kernel_rfl) (by decide +kernel) (by kernel_rfl) ?_
    | refine zat hm ?_
    | refine happ _ _ _ _ ?_)
        all_goals first
          | (have := pg.ll; have := pg.ol; have := hr.wl; have := hr.ol; omega)
          | skip
        refine ⟨hlt, left ++ [x], s1, out1, false, vi, vw, vo, v', pg.left b o q1 q2 q3 ?_, rfl⟩
        rw [if_neg (by decide), ← hgo]
        simp only [qa3, hmb, Bool.false_eq_true, if_false]
      | true =>
        rw [hmb] at hm
        obtain ⟨c, hc, hc4⟩ := qbn hcl
        have hct : x.Client.toNat = c := by rw [hc]; rfl
        have hcm : c < s1.Last.length := by rw [pg.l4]; exact hc4
        have hy : s1.Last[c]? = some (zam s1 c) := by simp [zam, List.getD_eq_getElem?_getD, List.getElem?_eq_getElem hcm]
        have hr4 : (0 ≤ x.Client ∧ x.Client < ((4 : Nat) : Int)) = True := by rw [hc]; simp; omega
        have hr5 : (0 ≤ x.Client ∧ x.Client < 4) = True := by rw [hc]; simp; omega
        have gLs : za7 (eL s1.Last) [x.Client.toNat, 1] = some (.int .i64 (zam s1 c).Seq) := by
          simp only [eL, za7, hct, List.getElem?_map, hy, Option.map_some, eR, List.getElem?_cons_succ, List.getElem?_cons_zero]
        have sLs : setP (eL s1.Last) [x.Client.toNat] (.agg 26 [.int .i64 x.Client, .int .i64 x.Seq, .int .i64 2, eFs r.T, .bool true]) = some (eL (s1.Last.set c (yc0 x r))) := by
          simp only [eL, setP, hct, List.getElem?_map, hy, Option.map_some, List.map_set]; rfl
        obtain ⟨vA, wr, rd, p1, p2, p3, hds⟩ := ds_app (P := prog) (n := hh.length + 3) (eh := ⟨0, [], .hole⟩) (.agg 26 [.int .i64 x.Client, .int .i64 x.Seq, .int .i64 2, eFs r.T, .bool true]) (za8 hh [⟨89, [eW x], .own⟩, ⟨26, [.agg 26 [.int .i64 x.Client, .int .i64 x.Seq, .int .i64 2, eFs r.T, .bool true]], .own⟩, ⟨26, [.agg 26 [.int .i64 x.Client, .int .i64 x.Seq, .int .i64 2, eFs r.T, .bool true]], .own⟩, ⟨0, [], .hole⟩] 3) rfl (pg.vo.app [⟨89, [eW x], .own⟩, ⟨26, [.agg 26 [.int .i64 x.Client, .int .i64 x.Seq, .int .i64 2, eFs r.T, .bool true]], .own⟩, ⟨26, [.agg 26 [.int .i64 x.Client, .int .i64 x.Seq, .int .i64 2, eFs r.T, .bool true]], .own⟩, ⟨0, [], .hole⟩])
        have hho : lenAV vo = out1.length := by have := ydx pg.vo; simpa using this
        have hro2 : decide (out1.length + 1 ≤ 4294967296) = true := by have := pg.ol; have := hr.wl; have := hr.ol; simp; omega
        have hvt : tyB prog vA 63 = true := p1.ty ybq
        generalize hHA : qax _ wr = HA at p1 p2 p3
        have hXh : ∀ i, zbf X h hh i → i < hh.length := fun i hi => hi.elim (fun hx => by have := b i hx; omega) And.right
        have aK : HA[k]? = some (gE s1 vi vw vo) := p3 k _ (by rw [zad hk1]; exact a0) (by omega) (.inr (by show 132 ≠ 26; decide))
        have hkA := yac aK
        have g7 : ∀ E : Entry, (HA.set k E)[hh.length]? = some ⟨89, [eW x], .own⟩ := fun E => by
          rw [qad (by omega)]
          exact p3 _ _ (by rw [yas]; rfl) (by omega) (.inr (by show 89 ≠ 26; decide))
        have g8 : ∀ E : Entry, (HA.set k E)[hh.length + 1]? = some ⟨26, [.agg 26 [.int .i64 x.Client, .int .i64 x.Seq, .int .i64 2, eFs r.T, .bool true]], .own⟩ := fun E => by
          rw [qad (by omega)]
          exact p3 _ _ (by rw [za8]; rfl) (by omega) (.inl fun hg => by have := hXh _ hg; omega)
        have gk : ∀ E : Entry, (HA.set k E)[k]? = some E := fun E => zae hkA
        by_cases hq : (zam s1 c).Seq = x.Seq
        · have hqb : ((zam s1 c).Seq == x.Seq) = true := by simp [hq]
          have ht : yba x s1 r = { s1 with Last := s1.Last.set c (yc0 x r) } := by unfold yba; rw [hct, if_pos hq]
          repeat' (first
    | simp (implicitDefEqProofs := false) only [push_cast, reduceIte, reduceCtorEq, Nat.reduceAdd, Nat.reduceSub, Nat.reduceEqDiff, Nat.reduceLT, Nat.reduceLeDiff, Nat.reduceBEq, Nat.reduceMul, Int.reduceLT, Int.reduceLE, Int.reduceEq, Int.reduceToNat, Int.reduceMul, Int.reduceNeg, Go.Proofs.Try.f130, gw0, gw1, gw2, gw3, gq0, gq4, hlW, hidx, hldx, a0, a1, gE, hk1, hb1, yaj hlt, eW_ty, eW_pl, eW_wk, yak, qal, zak, Int.toNat_natCast, List.length_map, qaf hj9, zad, yae, qad, zae, zab, qae, sst, qab, qaa, yaa, zac, qaq, List.replicate_succ, List.drop_zero, zaf hk1, yad hk1, qak hk1, yaf hk1, zaf hb1, yad hb1, qak hb1, yaf hb1, hr4, hr5, ybg, gLs, sLs, hho, hro2, hvt, hHA, aK, hkA, g7, g8, gk, hqb]
    | refine Sp2.f ?_ ?_
    | refine Spl.f ?_ ?_ <;> intro hb
    | refine qac rfl (fun b hb => ?_)
    | refine zaa (U := [[], [], [], [], [], [], [4], [], [], [], []]) (H := [⟨0, [], .hole⟩, ⟨0, [], .hole⟩]) zag (by kernel_rfl) (by decide +kernel) (by kernel_rfl) ?_
    | refine zaa (U := [[], [], [], [], [], [], [], [], [], [], [], []]) (H := []) zag (by kernel_rfl) (by decide +kernel) (by kernel_rfl) ?_
    | refine zaa (U := [[], [], [], [], [], [], [], [], []]) (H := []) zag (by kernel_rfl) (by decide +kernel) (by kernel_rfl) ?_
    | refine zaa (U := [[], [], [], [], [], [], [], [], []]) (H := []) zag (by kernel_rfl) (by decide +kernel) (by kernel_rfl) ?_
    | refine zaa (U := [[], [], [], [], [], [], [1], [], [], [1, 7], [], [], [1, 7], [], [1, 6, 7], [], [], [], [], []]) (H := [⟨0, [], .hole⟩, ⟨0, [], .hole⟩, ⟨0, [], .hole⟩, ⟨0, [], .hole⟩]) zag (by kernel_rfl) (by decide +kernel) (by kernel_rfl) ?_
    | refine zat hm ?_
    | refine hds _ _ _ _ _ ?_)
          all_goals first
            | (have := pg.ll; have := pg.ol; have := hr.wl; have := hr.ol; omega)
            | skip
          refine ⟨hlt, left, { s1 with Last := s1.Last.set c (yc0 x r) }, out1 ++ [yc0 x r], x.Take, vi, vw, vA, vl, pg.told (n := hh.length + 3) (y := yc0 x r) b o (by omega) (by simp) p1 p2 p3 ⟨rfl, rfl, rfl, rfl, by simp⟩ ?_, rfl⟩
          rw [← hgo]
          simp only [qa3, hmb, if_true, ht]
          cases x.Take <;> rfl
        · have hqb : ((zam s1 c).Seq == x.Seq) = false := by simp [hq]
          have ht : yba x s1 r = s1 := by unfold yba; rw [hct, if_neg hq]
          repeat' (first
    | simp (implicitDefEqProofs := false) only [push_cast, reduceIte, reduceCtorEq, Nat.reduceAdd, Nat.reduceSub, Nat.reduceEqDiff, Nat.reduceLT, Nat.reduceLeDiff, Nat.reduceBEq, Nat.reduceMul, Int.reduceLT, Int.reduceLE, Int.reduceEq, Int.reduceToNat, Int.reduceMul, Int.reduceNeg, Go.Proofs.Try.f130, gw0, gw1, gw2, gw3, gq0, gq4, hlW, hidx, hldx, a0, a1, gE, hk1, hb1, yaj hlt, eW_ty, eW_pl, eW_wk, yak, qal, zak, Int.toNat_natCast, List.length_map, qaf hj9, zad, yae, qad, zae, zab, qae, sst, qab, qaa, yaa, zac, qaq, List.replicate_succ, List.drop_zero, zaf hk1, yad hk1, qak hk1, yaf hk1, zaf hb1, yad hb1, qak hb1, yaf hb1, hr4, hr5, ybg, gLs, sLs, hho, hro2, hvt, hHA, aK, hkA, g7, g8, gk, hqb]
    | refine Sp2.f ?_ ?_
    | refine Spl.f ?_ ?_ <;> intro hb
    | refine qac rfl (fun b hb => ?_)
    | refine zaa (U := [[], [], [], [], [], [], [4], [], [], [], []]) (H := [⟨0, [], .hole⟩, ⟨0, [], .hole⟩]) zag (by kernel_rfl) (by decide +kernel) (by kernel_rfl) ?_
    | refine zaa (U := [[], [], [], [], [], [], [], [], [], [], [], []]) (H := []) zag (by kernel_rfl) (by decide +kernel) (by kernel_rfl) ?_
    | refine zaa (U := [[], [], [], [], [], [], [], [], []]) (H := []) zag (by kernel_rfl) (by decide +kernel) (by kernel_rfl) ?_
    | refine zaa (U := [[], [], [], [], [], [], [], [], []]) (H := []) zag (by kernel_rfl) (by decide +kernel) (by kernel_rfl) ?_
    | refine zaa (U := [[], [], [], [], [], [], [1], [], [], [1, 7], [], [], [1, 7], [], [1, 6, 7], [], [], [], [], []]) (H := [⟨0, [], .hole⟩, ⟨0, [], .hole⟩, ⟨0, [], .hole⟩, ⟨0, [], .hole⟩]) zag (by kernel_rfl) (by decide +kernel) (by kernel_rfl) ?_
    | refine zat hm ?_
    | refine hds _ _ _ _ _ ?_)
          all_goals first
            | (have := pg.ll; have := pg.ol; have := hr.wl; have := hr.ol; omega)
            | skip
          refine ⟨hlt, left, s1, out1 ++ [yc0 x r], x.Take, vi, vw, vA, vl, pg.told (n := hh.length + 3) (y := yc0 x r) b o (by omega) (by simp) p1 p2 p3 ⟨rfl, rfl, rfl, rfl, by simp⟩ ?_, rfl⟩
          rw [← hgo]
          simp only [qa3, hmb, if_true, ht]
          cases x.Take <;> rfl
  · have hlW : zcw prog 23 vw = .ret (.int .i64 s.Waiters.length) [] := by have := pg.vw.len (U := 23) ybs; simpa using this
    have hgo := pg.go
    rw [List.drop_of_length_le (by omega)] at hgo
    have hvlt : tyB prog vl 23 = true := pg.vl.ty ybs
    have gq0 : za7 (eQ r) [0] = some (.int .i64 r.Client) := rfl
    have gq4 : za7 (eQ r) [4] = some (eFs r.T) := rfl
    have gq5 : za7 (eQ r) [5] = some (.int .i64 r.Lease) := rfl
    have hgk : ∀ E : Entry, (hh.set k E)[k]? = some E := fun E => zae hk1
    have hgb : ∀ E : Entry, (hh.set k E)[h.length]? = some ⟨60, [eQ r], .own⟩ := fun E => by rw [qad (by have := b k o; omega)]; exact a1
    have tI : 132 ≠ 87 := by decide
    have tW : 132 ≠ 89 := by decide
    have tR : 132 ≠ 26 := by decide
    have hlen := pg.kp.len
    cases tk with
    | true =>
      rw [if_pos rfl, List.append_nil] at hgo
      repeat' (first
    | simp (implicitDefEqProofs := false) only [push_cast, reduceIte, reduceCtorEq, Nat.reduceAdd, Nat.reduceSub, Nat.reduceEqDiff, Nat.reduceLT, Nat.reduceLeDiff, Nat.reduceBEq, Nat.reduceMul, Int.reduceLT, Int.reduceLE, Int.reduceEq, Int.reduceToNat, Int.reduceMul, Int.reduceNeg, Go.Proofs.Try.f130, yal hlt, hlW, a0, a1, gE, hk1, hb1, gq0, gq4, gq5, hvlt, yak, qal, zak, Int.toNat_natCast, List.length_map, hgk, hgb, zad, yae, qad, zae, zab, qae, sst, qab, qaa, yaa, zac, qaq, List.replicate_succ, List.drop_zero, zaf hk1, yad hk1, qak hk1, yaf hk1, zaf hb1, yad hb1, qak hb1, yaf hb1]
    | refine Sp2.f ?_ ?_
    | refine Spl.f ?_ ?_ <;> intro hb
    | refine qac rfl (fun b hb => ?_)
    | refine zaa (U := [[], [], [], [], [], [], [4], [], [], [], []]) (H := [⟨0, [], .hole⟩, ⟨0, [], .hole⟩]) zag (by kernel_rfl) (by decide +kernel) (by kernel_rfl) ?_
    | refine zaa (U := [[], [], [], [], [], [], [], [], [], [], [], []]) (H := []) zag (by kernel_rfl) (by decide +kernel) (by kernel_rfl) ?_
    | refine zaa (U := [[], [], [], [], [], [], [], [], []]) (H := []) zag (by kernel_rfl) (by decide +kernel) (by kernel_rfl) ?_
    | refine zaa (U := [[], [], [], [], [], [], [], [], []]) (H := []) zag (by kernel_rfl) (by decide +kernel) (by kernel_rfl) ?_
    | refine zaa (U := [[], [], [], [], [], [], [1], [], [], [1, 7], [], [], [1, 7], [], [1, 6, 7], [], [], [], [], []]) (H := [⟨0, [], .hole⟩, ⟨0, [], .hole⟩, ⟨0, [], .hole⟩, ⟨0, [], .hole⟩]) zag (by kernel_rfl) (by decide +kernel) (by kernel_rfl) ?_)
      rw [hgo]
      refine ⟨⟨ya2 b (by simpa using hlen), .inl o, vi, vl, vo, zae hk1, ?_, ?_, ?_⟩, ?_⟩
      · rw [pg.it]; exact (pg.vi.set a0 tI _).up za4
      · exact .view ((pg.vl.set a0 tW _).up fun j hj => .inr ⟨by omega, by rw [zab]; exact hj.2⟩)
      · exact (pg.vo.set a0 tR _).up fun j hj => hj.elim .inl fun a => .inr ⟨a.1, by rw [zab]; exact a.2⟩
      · exact pg.kp.trans ⟨by simp, fun j hj hx => qad (by rintro rfl; exact hx (.inl o))⟩
    | false =>
      rw [if_neg (by decide)] at hgo
      have hgo2 : qa3 r [] s.Waiters s out = ({ s1 with Waiters := left, Items := s1.Items ++ [zbg s1 r] }, out1) := by rw [← hgo]; rfl
      rw [hgo2]
      have hnow : 0 ≤ s1.Now ∧ s1.Now ≤ 1099511627776 := by rw [pg.nw]; exact hr.now
      have hitm : (s1.Items ++ [zbg s1 r]).map eI = s.Items.map eI ++ [eI (zbg s1 r)] := by rw [pg.it]; simp
      have hvi := pg.vi
      generalize s.Items.map eI = li at hvi hitm
      by_cases hL0 : 0 < r.Lease
      · have hle : decide (0 < r.Lease) = true := by simpa using hL0
        have hwr : IntKind.wrap .i64 (s1.Now + r.Lease) = s1.Now + r.Lease := by have := hr.ls; exact IntWalk.i64_in _ (by omega)
        have hit : eI (zbg s1 r) = .agg 87 [.int .i64 r.Client, .int .i64 (s1.Now + r.Lease), eFs r.T] := by simp only [zbg, if_pos hL0, eI]
        have hfin := fun (v : AV) (L : List Entry) => @PG.fin X k s r out h j left s1 { s1 with Waiters := left, Items := s1.Items ++ [zbg s1 r] } out1 false vi vw vo vl v hh L pg b o rfl
        cases hvi with
        | nil =>
          repeat' (first
    | simp (implicitDefEqProofs := false) only [push_cast, reduceIte, reduceCtorEq, Nat.reduceAdd, Nat.reduceSub, Nat.reduceEqDiff, Nat.reduceLT, Nat.reduceLeDiff, Nat.reduceBEq, Nat.reduceMul, Int.reduceLT, Int.reduceLE, Int.reduceEq, Int.reduceToNat, Int.reduceMul, Int.reduceNeg, Go.Proofs.Try.f130, zda, hle, hwr, a0, a1, gE, hk1, hb1, gq0, gq4, gq5, hvlt, yal hlt, hlW, yak, qal, zak, Int.toNat_natCast, List.length_map, hgk, hgb, zad, yae, qad, zae, zab, qae, sst, qab, qaa, yaa, zac, qaq, List.replicate_succ, List.drop_zero, zaf hk1, yad hk1, qak hk1, yaf hk1, zaf hb1, yad hb1, qak hb1, yaf hb1]
    | refine Sp2.f ?_ ?_
    | refine Spl.f ?_ ?_ <;> intro hb
    | refine qac rfl (fun b hb => ?_)
    | refine zaa (U := [[], [], [], [], [], [], [4], [], [], [], []]) (H := [⟨0, [], .hole⟩, ⟨0, [], .hole⟩]) zag (by kernel_rfl) (by decide +kernel) (by kernel_rfl) ?_
    | refine zaa (U := [[], [], [], [], [], [], [], [], [], [], [], []]) (H := []) zag (by kernel_rfl) (by decide +kernel) (by kernel_rfl) ?_
    | refine zaa (U := [[], [], [], [], [], [], [], [], []]) (H := []) zag (by kernel_rfl) (by decide +kernel) (by kernel_rfl) ?_
    | refine zaa (U := [[], [], [], [], [], [], [], [], []]) (H := []) zag (by kernel_rfl) (by decide +kernel) (by kernel_rfl) ?_
    | refine zaa (U := [[], [], [], [], [], [], [1], [], [], [1, 7], [], [], [1, 7], [], [1, 6, 7], [], [], [], [], []]) (H := [⟨0, [], .hole⟩, ⟨0, [], .hole⟩, ⟨0, [], .hole⟩, ⟨0, [], .hole⟩]) zag (by kernel_rfl) (by decide +kernel) (by kernel_rfl) ?_)
          refine hfin _ _ ?_
          show View _ _ _ _ ((s1.Items ++ [zbg s1 r]).map eI)
          rw [hitm, hit]
          exact View.mk' (es := [.agg 87 [.int .i64 r.Client, .int .i64 (s1.Now + r.Lease), eFs r.T]]) [] ⟨by omega, by simp⟩ qab rfl rfl
        | @win kw lo _ z hxw hkw =>
          have hkwl := yac hkw
          have hne : kw ≠ k := by rintro rfl; rw [a0] at hkw; cases hkw
          have hgw : ∀ E : Entry, (hh.set k E)[kw]? = some ⟨87, li ++ z, .own⟩ := fun E => by rw [qad (Ne.symm hne)]; exact hkw
          have htk : (li ++ z).take li.length = li := by simp
          have hle2 : li.length ≤ (li ++ z).length := by simp
          have hsm : li.length ≤ 1000 := by
            have h1 : li.length = s1.Items.length := by have := congrArg List.length hitm; simp at this; omega
            have := hr.il
            rw [h1, pg.it]; omega
          by_cases hz : li = []
          · subst hz
            repeat' (first
    | simp (implicitDefEqProofs := false) only [push_cast, reduceIte, reduceCtorEq, Nat.reduceAdd, Nat.reduceSub, Nat.reduceEqDiff, Nat.reduceLT, Nat.reduceLeDiff, Nat.reduceBEq, Nat.reduceMul, Int.reduceLT, Int.reduceLE, Int.reduceEq, Int.reduceToNat, Int.reduceMul, Int.reduceNeg, Go.Proofs.Try.f130, zda, Nat.zero_le, hgw, hkwl, hle2, hle, hwr, a0, a1, gE, hk1, hb1, gq0, gq4, gq5, hvlt, yal hlt, hlW, yak, qal, zak, Int.toNat_natCast, List.length_map, hgk, hgb, zad, yae, qad, zae, zab, qae, sst, qab, qaa, yaa, zac, qaq, List.replicate_succ, List.drop_zero, zaf hk1, yad hk1, qak hk1, yaf hk1, zaf hb1, yad hb1, qak hb1, yaf hb1, zaf hkwl, yad hkwl, qak hkwl, yaf hkwl]
    | refine Sp2.f ?_ ?_
    | refine Spl.f ?_ ?_ <;> intro hb
    | refine qac rfl (fun b hb => ?_)
    | refine zaa (U := [[], [], [], [], [], [], [4], [], [], [], []]) (H := [⟨0, [], .hole⟩, ⟨0, [], .hole⟩]) zag (by kernel_rfl) (by decide +kernel) (by kernel_rfl) ?_
    | refine zaa (U := [[], [], [], [], [], [], [], [], [], [], [], []]) (H := []) zag (by kernel_rfl) (by decide +kernel) (by kernel_rfl) ?_
    | refine zaa (U := [[], [], [], [], [], [], [], [], []]) (H := []) zag (by kernel_rfl) (by decide +kernel) (by kernel_rfl) ?_
    | refine zaa (U := [[], [], [], [], [], [], [], [], []]) (H := []) zag (by kernel_rfl) (by decide +kernel) (by kernel_rfl) ?_
    | refine zaa (U := [[], [], [], [], [], [], [1], [], [], [1, 7], [], [], [1, 7], [], [1, 6, 7], [], [], [], [], []]) (H := [⟨0, [], .hole⟩, ⟨0, [], .hole⟩, ⟨0, [], .hole⟩, ⟨0, [], .hole⟩]) zag (by kernel_rfl) (by decide +kernel) (by kernel_rfl) ?_)
            refine hfin _ _ ?_
            show View _ _ _ _ ((s1.Items ++ [zbg s1 r]).map eI)
            rw [hitm, hit]
            exact View.mk' (es := [.agg 87 [.int .i64 r.Client, .int .i64 (s1.Now + r.Lease), eFs r.T]]) [] ⟨by omega, by simp⟩ qab rfl rfl
          · have hz1 : (li.length ≤ 0) = False := by simp; exact hz
            have hz2 : (li.length + 1 ≤ li.length) = False := by simp
            repeat' (first
    | simp (implicitDefEqProofs := false) only [push_cast, reduceIte, reduceCtorEq, Nat.reduceAdd, Nat.reduceSub, Nat.reduceEqDiff, Nat.reduceLT, Nat.reduceLeDiff, Nat.reduceBEq, Nat.reduceMul, Int.reduceLT, Int.reduceLE, Int.reduceEq, Int.reduceToNat, Int.reduceMul, Int.reduceNeg, Go.Proofs.Try.f130, zda, List.take_length, hgw, hkwl, htk, hle2, hz1, hz2, hle, hwr, a0, a1, gE, hk1, hb1, gq0, gq4, gq5, hvlt, yal hlt, hlW, yak, qal, zak, Int.toNat_natCast, List.length_map, hgk, hgb, zad, yae, qad, zae, zab, qae, sst, qab, qaa, yaa, zac, qaq, List.replicate_succ, List.drop_zero, zaf hk1, yad hk1, qak hk1, yaf hk1, zaf hb1, yad hb1, qak hb1, yaf hb1, zaf hkwl, yad hkwl, qak hkwl, yaf hkwl]
    | refine Sp2.f ?_ ?_
    | refine Spl.f ?_ ?_ <;> intro hb
    | refine qac rfl (fun b hb => ?_)
    | refine zaa (U := [[], [], [], [], [], [], [4], [], [], [], []]) (H := [⟨0, [], .hole⟩, ⟨0, [], .hole⟩]) zag (by kernel_rfl) (by decide +kernel) (by kernel_rfl) ?_
    | refine zaa (U := [[], [], [], [], [], [], [], [], [], [], [], []]) (H := []) zag (by kernel_rfl) (by decide +kernel) (by kernel_rfl) ?_
    | refine zaa (U := [[], [], [], [], [], [], [], [], []]) (H := []) zag (by kernel_rfl) (by decide +kernel) (by kernel_rfl) ?_
    | refine zaa (U := [[], [], [], [], [], [], [], [], []]) (H := []) zag (by kernel_rfl) (by decide +kernel) (by kernel_rfl) ?_
    | refine zaa (U := [[], [], [], [], [], [], [1], [], [], [1, 7], [], [], [1, 7], [], [1, 6, 7], [], [], [], [], []]) (H := [⟨0, [], .hole⟩, ⟨0, [], .hole⟩, ⟨0, [], .hole⟩, ⟨0, [], .hole⟩]) zag (by kernel_rfl) (by decide +kernel) (by kernel_rfl) ?_)
            all_goals first
              | omega
              | skip
            refine hfin _ _ ?_
            show View _ _ _ _ ((s1.Items ++ [zbg s1 r]).map eI)
            rw [hitm, hit]
            exact View.mk' (es := li ++ [.agg 87 [.int .i64 r.Client, .int .i64 (s1.Now + r.Lease), eFs r.T]]) [] ⟨by omega, by simp⟩ qab (by simp) (by simp)
      · have hle : decide (0 < r.Lease) = false := by simpa using hL0
        have hit : eI (zbg s1 r) = .agg 87 [.int .i64 r.Client, .int .i64 0, eFs r.T] := by simp only [zbg, if_neg hL0, eI]
        have hfin := fun (v : AV) (L : List Entry) => @PG.fin X k s r out h j left s1 { s1 with Waiters := left, Items := s1.Items ++ [zbg s1 r] } out1 false vi vw vo vl v hh L pg b o rfl
        cases hvi with
        | nil =>
          repeat' (first
    | simp (implicitDefEqProofs := false) only [push_cast, reduceIte, reduceCtorEq, Nat.reduceAdd, Nat.reduceSub, Nat.reduceEqDiff, Nat.reduceLT, Nat.reduceLeDiff, Nat.reduceBEq, Nat.reduceMul, Int.reduceLT, Int.reduceLE, Int.reduceEq, Int.reduceToNat, Int.reduceMul, Int.reduceNeg, Go.Proofs.Try.f130, zda, hle, a0, a1, gE, hk1, hb1, gq0, gq4, gq5, hvlt, yal hlt, hlW, yak, qal, zak, Int.toNat_natCast, List.length_map, hgk, hgb, zad, yae, qad, zae, zab, qae, sst, qab, qaa, yaa, zac, qaq, List.replicate_succ, List.drop_zero, zaf hk1, yad hk1, qak hk1, yaf hk1, zaf hb1, yad hb1, qak hb1, yaf hb1]
    | refine Sp2.f ?_ ?_
    | refine Spl.f ?_ ?_ <;> intro hb
    | refine qac rfl (fun b hb => ?_)
    | refine zaa (U := [[], [], [], [], [], [], [4], [], [], [], []]) (H := [⟨0, [], .hole⟩, ⟨0, [], .hole⟩]) zag (by kernel_rfl) (by decide +kernel) (by kernel_rfl) ?_
    | refine zaa (U := [[], [], [], [], [], [], [], [], [], [], [], []]) (H := []) zag (by kernel_rfl) (by decide +kernel) (by kernel_rfl) ?_
    | refine zaa (U := [[], [], [], [], [], [], [], [], []]) (H := []) zag (by kernel_rfl) (by decide +kernel) (by kernel_rfl) ?_
    | refine zaa (U := [[], [], [], [], [], [], [], [], []]) (H := []) zag (by kernel_rfl) (by decide +kernel) (by kernel_rfl) ?_
    | refine zaa (U := [[], [], [], [], [], [], [1], [], [], [1, 7], [], [], [1, 7], [], [1, 6, 7], [], [], [], [], []]) (H := [⟨0, [], .hole⟩, ⟨0, [], .hole⟩, ⟨0, [], .hole⟩, ⟨0, [], .hole⟩]) zag (by kernel_rfl) (by decide +kernel) (by kernel_rfl) ?_)
          refine hfin _ _ ?_
          show View _ _ _ _ ((s1.Items ++ [zbg s1 r]).map eI)
          rw [hitm, hit]
          exact View.mk' (es := [.agg 87 [.int .i64 r.Client, .int .i64 0, eFs r.T]]) [] ⟨by omega, by simp⟩ qab rfl rfl
        | @win kw lo _ z hxw hkw =>
          have hkwl := yac hkw
          have hne : kw ≠ k := by rintro rfl; rw [a0] at hkw; cases hkw
          have hgw : ∀ E : Entry, (hh.set k E)[kw]? = some ⟨87, li ++ z, .own⟩ := fun E => by rw [qad (Ne.symm hne)]; exact hkw
          have htk : (li ++ z).take li.length = li := by simp
          have hle2 : li.length ≤ (li ++ z).length := by simp
          have hsm : li.length ≤ 1000 := by
            have h1 : li.length = s1.Items.length := by have := congrArg List.length hitm; simp at this; omega
            have := hr.il
            rw [h1, pg.it]; omega
          by_cases hz : li = []
          · subst hz
            repeat' (first
    | simp (implicitDefEqProofs := false) only [push_cast, reduceIte, reduceCtorEq, Nat.reduceAdd, Nat.reduceSub, Nat.reduceEqDiff, Nat.reduceLT, Nat.reduceLeDiff, Nat.reduceBEq, Nat.reduceMul, Int.reduceLT, Int.reduceLE, Int.reduceEq, Int.reduceToNat, Int.reduceMul, Int.reduceNeg, Go.Proofs.Try.f130, zda, Nat.zero_le, hgw, hkwl, hle2, hle, a0, a1, gE, hk1, hb1, gq0, gq4, gq5, hvlt, yal hlt, hlW, yak, qal, zak, Int.toNat_natCast, List.length_map, hgk, hgb, zad, yae, qad, zae, zab, qae, sst, qab, qaa, yaa, zac, qaq, List.replicate_succ, List.drop_zero, zaf hk1, yad hk1, qak hk1, yaf hk1, zaf hb1, yad hb1, qak hb1, yaf hb1, zaf hkwl, yad hkwl, qak hkwl, yaf hkwl]
    | refine Sp2.f ?_ ?_
    | refine Spl.f ?_ ?_ <;> intro hb
    | refine qac rfl (fun b hb => ?_)
    | refine zaa (U := [[], [], [], [], [], [], [4], [], [], [], []]) (H := [⟨0, [], .hole⟩, ⟨0, [], .hole⟩]) zag (by kernel_rfl) (by decide +kernel) (by kernel_rfl) ?_
    | refine zaa (U := [[], [], [], [], [], [], [], [], [], [], [], []]) (H := []) zag (by kernel_rfl) (by decide +kernel) (by kernel_rfl) ?_
    | refine zaa (U := [[], [], [], [], [], [], [], [], []]) (H := []) zag (by kernel_rfl) (by decide +kernel) (by kernel_rfl) ?_
    | refine zaa (U := [[], [], [], [], [], [], [], [], []]) (H := []) zag (by kernel_rfl) (by decide +kernel) (by kernel_rfl) ?_
    | refine zaa (U := [[], [], [], [], [], [], [1], [], [], [1, 7], [], [], [1, 7], [], [1, 6, 7], [], [], [], [], []]) (H := [⟨0, [], .hole⟩, ⟨0, [], .hole⟩, ⟨0, [], .hole⟩, ⟨0, [], .hole⟩]) zag (by kernel_rfl) (by decide +kernel) (by kernel_rfl) ?_)
            refine hfin _ _ ?_
            show View _ _ _ _ ((s1.Items ++ [zbg s1 r]).map eI)
            rw [hitm, hit]
            exact View.mk' (es := [.agg 87 [.int .i64 r.Client, .int .i64 0, eFs r.T]]) [] ⟨by omega, by simp⟩ qab rfl rfl
          · have hz1 : (li.length ≤ 0) = False := by simp; exact hz
            have hz2 : (li.length + 1 ≤ li.length) = False := by simp
            repeat' (first
    | simp (implicitDefEqProofs := false) only [push_cast, reduceIte, reduceCtorEq, Nat.reduceAdd, Nat.reduceSub, Nat.reduceEqDiff, Nat.reduceLT, Nat.reduceLeDiff, Nat.reduceBEq, Nat.reduceMul, Int.reduceLT, Int.reduceLE, Int.reduceEq, Int.reduceToNat, Int.reduceMul, Int.reduceNeg, Go.Proofs.Try.f130, zda, List.take_length, hgw, hkwl, htk, hle2, hz1, hz2, hle, a0, a1, gE, hk1, hb1, gq0, gq4, gq5, hvlt, yal hlt, hlW, yak, qal, zak, Int.toNat_natCast, List.length_map, hgk, hgb, zad, yae, qad, zae, zab, qae, sst, qab, qaa, yaa, zac, qaq, List.replicate_succ, List.drop_zero, zaf hk1, yad hk1, qak hk1, yaf hk1, zaf hb1, yad hb1, qak hb1, yaf hb1, zaf hkwl, yad hkwl, qak hkwl, yaf hkwl]
    | refine Sp2.f ?_ ?_
    | refine Spl.f ?_ ?_ <;> intro hb
    | refine qac rfl (fun b hb => ?_)
    | refine zaa (U := [[], [], [], [], [], [], [4], [], [], [], []]) (H := [⟨0, [], .hole⟩, ⟨0, [], .hole⟩]) zag (by kernel_rfl) (by decide +kernel) (by kernel_rfl) ?_
    | refine zaa (U := [[], [], [], [], [], [], [], [], [], [], [], []]) (H := []) zag (by kernel_rfl) (by decide +kernel) (by kernel_rfl) ?_
    | refine zaa (U := [[], [], [], [], [], [], [], [], []]) (H := []) zag (by kernel_rfl) (by decide +kernel) (by kernel_rfl) ?_
    | refine zaa (U := [[], [], [], [], [], [], [], [], []]) (H := []) zag (by kernel_rfl) (by decide +kernel) (by kernel_rfl) ?_
    | refine zaa (U := [[], [], [], [], [], [], [1], [], [], [1, 7], [], [], [1, 7], [], [1, 6, 7], [], [], [], [], []]) (H := [⟨0, [], .hole⟩, ⟨0, [], .hole⟩, ⟨0, [], .hole⟩, ⟨0, [], .hole⟩]) zag (by kernel_rfl) (by decide +kernel) (by kernel_rfl) ?_)
            all_goals first
              | omega
              | skip
            refine hfin _ _ ?_
            show View _ _ _ _ ((s1.Items ++ [zbg s1 r]).map eI)
            rw [hitm, hit]
            exact View.mk' (es := li ++ [.agg 87 [.int .i64 r.Client, .int .i64 0, eFs r.T]]) [] ⟨by omega, by simp⟩ qab (by simp) (by simp)
end Go.Abs
