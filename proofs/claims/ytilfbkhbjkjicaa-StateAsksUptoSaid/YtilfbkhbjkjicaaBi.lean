/- Bi: a part of the proofs about the tuple space and its bytes. -/
import Derived.Test.YtilfbkhbjkjicaaAbs28
import Derived.Carry
import Derived.OpenShut
import Derived.JoinedCond
import Derived.WalkKit
import Derived.ProofKit
set_option linter.all false
namespace Go.Abs
open Go
section
variable {P : Program} {H : Type} {enc : TypeId × Value → H}
def ofD (P : Program) {H : Type} : Nat → TypeId → DataW H → AV
  | 0, _, _ => .junk
  | n + 1, t, d => match zab P t, d with
    | .int k, .lit (.int _ m) => .int k m
    | .bool, .lit (.bool b) => .bool b
    | .str, .lit (.string bs) => .str ⟨bs.toArray⟩
    | .slice e, .nil => .list e []
    | .slice e, .slice es _ => .list e (es.map (ofD P n e))
    | .struct, .agg ps => .agg t (List.zipWith (fun (f : TypeId × Nat) d => ofD P n f.1 d) (qaj P t) ps)
    | .arr _ e, .agg ps => .agg t (ps.map (ofD P n e))
    | _, _ => .junk
def rdT (P : Program) : Nat → TypeId → Bool
  | 0, _ => false
  | n + 1, t => match zab P t with
    | .int _ => true
    | .bool => true
    | .str => true
    | .slice e => okT P e && rdT P n e
    | .struct => (qaj P t).all fun f => rdT P n f.1
    | .arr _ e => rdT P n e
    | _ => false
theorem fieldsT_of {t : TypeId} {fs : Array Field} (h : P.underlying t = some (.struct fs)) : qaj P t = fs.toList.map fun f => (f.type, f.offset) := by
  unfold qaj; rw [h]
theorem trod_rep (hP : WF P) {w : World} {κ : Nat → Option Nat} {base : Nat} {sp : Nat → Bool} {held : Bool} : ∀ (n : Nat) (t : TypeId), rdT P n t = true → ∀ (fuel : Nat) (cs : List Value) (x : DataW H × List MemPlace),
    DataW.trod enc P w base sp held fuel t cs = some x → yaz P (ofD P n t x.1) t ∧ Rep P ⟨κ, [], w⟩ (ofD P n t x.1) cs
  | 0, t, hr, _, _, _, _ => by simp [rdT] at hr
  | n + 1, t, hr, fuel, cs, x, h => by
    unfold rdT at hr
    cases hs : zab P t <;> rw [hs] at hr <;> simp only [Bool.false_eq_true] at hr
    case int k =>
      obtain ⟨m, rfl, rfl, _⟩ := DataW.trod_int (qbs hs) h
      simp [ofD, hs, yaz, Rep]
    case bool =>
      obtain ⟨m, rfl, rfl⟩ := DataW.trod_bool (zc1 hs) h
      simp [ofD, hs, yaz, Rep]
    case str =>
      obtain ⟨m, rfl, rfl, _⟩ := DataW.trod_string (yba hs) h
      simp [ofD, hs, yaz, Rep]
    case slice e =>
      simp only [Bool.and_eq_true] at hr
      have hc0 := (yai hr.1).2
      rcases DataW.trod_slice (qah hs) h with ⟨rfl, rfl⟩ | ⟨a, len, cap, elems, rest, m, rfl, rfl, rfl, hb, hl, hc, hel, hget, _, _⟩
      · simp [ofD, hs, yaz, Rep]
      · have IH := trod_rep hP (w := w) (κ := κ) (base := base) (sp := sp) (held := held) n e hr.2
        refine ⟨by simp only [ofD, hs, yaz], ?_⟩
        simp only [ofD, hs, Rep]
        refine ⟨some a, cap, by simp [hel], by simp [hel]; exact hl, fun hne => ?_⟩
        have each : ∀ i, i < len → ∃ ci, w.cells? base (a.add (i * P.cellsOf e)) (P.cellsOf e) = some ci ∧ ∃ y, elems[i]? = some y ∧ DataW.trod enc P w base sp held m e ci = some y := by
          intro i hi
          have := hget i hi
          have hi' : i < elems.length := by omega
          rw [List.getElem?_eq_getElem hi', Option.bind_eq_some_iff] at this
          obtain ⟨ci, h1, h2⟩ := this
          exact ⟨ci, h1, _, List.getElem?_eq_getElem hi', h2⟩
        have hlen : 0 < len := by
          rcases Nat.eq_zero_or_pos len with h0 | h0
          · exact absurd (by simp [List.eq_nil_of_length_eq_zero (hel.trans h0)]) hne
          · exact h0
        obtain ⟨c0, h0, _⟩ := each 0 hlen
        obtain ⟨_, g2, g3⟩ := World.cells?_some h0
        have hcell := g3 0 (by omega)
        have hc0' : 0 < c0.length := by omega
        rw [List.getElem?_eq_getElem hc0'] at hcell
        obtain ⟨b, off, spot⟩ := a
        have ha0 : ((⟨b, off, spot⟩ : Addr).add (0 * P.cellsOf e)).add 0 = ⟨b, off, spot⟩ := by simp [Addr.add]
        rw [ha0] at hcell
        simp only [World.cell?] at hcell
        split at hcell
        · rename_i C Te mm hblk
          have hspot : spot = none := by
            cases spot with
            | none => rfl
            | some z => simp at hcell
          subst hspot
          refine ⟨b, off, C, Te, mm, rfl, hblk, by rintro ⟨k, e', he', _⟩; simp at he', ?_⟩
          refine repE_iff.2 fun i v hv => ?_
          rw [List.map_map, List.getElem?_map, Option.map_eq_some_iff] at hv
          obtain ⟨y, hy, rfl⟩ := hv
          have hi : i < len := by have := (List.getElem?_eq_some_iff.1 hy).1; omega
          obtain ⟨ci, q1, y', q2, q3⟩ := each i hi
          rw [hy] at q2
          cases q2
          obtain ⟨r1, r2⟩ := IH m ci y q3
          refine ⟨r1, ?_⟩
          obtain ⟨_, s2, s3⟩ := World.cells?_some q1
          have e1 : ((C.toList.drop off).drop (i * P.cellsOf e)).take (P.cellsOf e) = ci := by
            apply List.ext_getElem?
            intro j
            rw [List.getElem?_take]
            split
            · rename_i hj
              have := s3 j hj
              have hb2 : w.heap[b]? = some (.cells C Te mm) := hblk
              rw [Addr.add_lit, Addr.add_lit] at this
              simp only [World.cell?, hb2] at this
              rw [← this, List.getElem?_drop, List.getElem?_drop]
              simp only [Option.isSome_none, Bool.false_eq_true, if_false, Array.getElem?_toList]
              congr 1; omega
            · rw [List.getElem?_eq_none (by omega)]
          rw [e1]
          exact r2
        · cases hcell
    case struct =>
      obtain ⟨fs, hu⟩ := ycd hs
      obtain ⟨xs, m, rfl, rfl, hl, hxl, hget⟩ := DataW.trod_struct hu h
      have hft := fieldsT_of hu
      refine ⟨by simp only [ofD, hs, yaz], ?_⟩
      simp only [ofD, hs, Rep]
      refine ⟨hl, repF_iff.2 ⟨by simp [hft, hxl], fun i v f hv hf => ?_⟩⟩
      rw [List.getElem?_zipWith] at hv
      simp only [hf, List.getElem?_map] at hv
      cases hx : xs[i]? with
      | none => simp [hx] at hv
      | some y =>
        simp only [hx, Option.map_some, Option.some.injEq] at hv
        subst hv
        have hf' := hf
        rw [hft, List.getElem?_map, Option.map_eq_some_iff] at hf'
        obtain ⟨g, hg, rfl⟩ := hf'
        have := hget i g (by simpa using hg)
        rw [hx] at this
        exact trod_rep hP (w := w) (κ := κ) (base := base) (sp := sp) (held := held) n g.type (List.all_eq_true.1 hr _ (List.mem_of_getElem? hf)) m _ _ this
    case arr k e =>
      obtain ⟨xs, m, rfl, rfl, hl, hxl, hget⟩ := DataW.trod_array (yb3 hs) h
      refine ⟨by simp only [ofD, hs, yaz], ?_⟩
      simp only [ofD, hs, Rep]
      refine ⟨hl, by simp [hxl], repE_iff.2 fun i v hv => ?_⟩
      rw [List.map_map, List.getElem?_map, Option.map_eq_some_iff] at hv
      obtain ⟨y, hy, rfl⟩ := hv
      have hi : i < k := by have := (List.getElem?_eq_some_iff.1 hy).1; omega
      have := hget i hi
      rw [hy] at this
      exact trod_rep hP (w := w) (κ := κ) (base := base) (sp := sp) (held := held) n e hr m _ _ this
def okD (P : Program) {H : Type} : Nat → TypeId → DataW H → Prop
  | 0, _, _ => False
  | n + 1, t, d => match zab P t, d with
    | .int k, .lit (.int k' m) => k' = k ∧ (Lit.int k m).wf = true
    | .bool, .lit (.bool _) => True
    | .str, .lit (.string _) => True
    | .slice e, .nil => True
    | .slice e, .slice es _ => ∀ d ∈ es, okD P n e d
    | .struct, .agg ps => ps.length = (qaj P t).length ∧ ∀ (i : Nat) (f : TypeId × Nat) (d : DataW H), (qaj P t)[i]? = some f → ps[i]? = some d → okD P n f.1 d
    | .arr k e, .agg ps => ps.length = k ∧ ∀ d ∈ ps, okD P n e d
    | _, _ => False
theorem trod_ok {w : World} {base : Nat} {sp : Nat → Bool} {held : Bool} : ∀ (n : Nat) (t : TypeId), rdT P n t = true → ∀ (fuel : Nat) (cs : List Value) (x : DataW H × List MemPlace),
    DataW.trod enc P w base sp held fuel t cs = some x → okD P n t x.1
  | 0, t, hr, _, _, _, _ => by simp [rdT] at hr
  | n + 1, t, hr, fuel, cs, x, h => by
    unfold rdT at hr
    cases hs : zab P t <;> rw [hs] at hr <;> simp only [Bool.false_eq_true] at hr
    case int k =>
      obtain ⟨m, rfl, rfl, hw⟩ := DataW.trod_int (qbs hs) h
      simp only [okD, hs, true_and]; exact hw
    case bool =>
      obtain ⟨m, rfl, rfl⟩ := DataW.trod_bool (zc1 hs) h
      simp [okD, hs]
    case str =>
      obtain ⟨m, rfl, rfl, _⟩ := DataW.trod_string (yba hs) h
      simp [okD, hs]
    case slice e =>
      simp only [Bool.and_eq_true] at hr
      rcases DataW.trod_slice (qah hs) h with ⟨rfl, rfl⟩ | ⟨a, len, cap, elems, rest, m, rfl, rfl, rfl, hb, hl, hc, hel, hget, _, _⟩
      · simp [okD, hs]
      · simp only [okD, hs]
        intro d hd
        obtain ⟨y, hy, rfl⟩ := List.mem_map.1 hd
        obtain ⟨i, hi, rfl⟩ := List.getElem_of_mem hy
        have := hget i (by omega)
        rw [List.getElem?_eq_getElem hi, Option.bind_eq_some_iff] at this
        obtain ⟨ci, h1, h2⟩ := this
        exact trod_ok n e hr.2 m ci _ h2
    case struct =>
      obtain ⟨fs, hu⟩ := ycd hs
      obtain ⟨xs, m, rfl, rfl, hl, hxl, hget⟩ := DataW.trod_struct hu h
      have hft := fieldsT_of hu
      simp only [okD, hs]
      refine ⟨by simp [hft, hxl], fun i f d hf hd => ?_⟩
      rw [List.getElem?_map, Option.map_eq_some_iff] at hd
      obtain ⟨y, hy, rfl⟩ := hd
      have hf' := hf
      rw [hft, List.getElem?_map, Option.map_eq_some_iff] at hf'
      obtain ⟨g, hg, rfl⟩ := hf'
      have := hget i g (by simpa using hg)
      rw [hy] at this
      exact trod_ok n g.type (List.all_eq_true.1 hr _ (List.mem_of_getElem? hf)) m _ _ this
    case arr k e =>
      obtain ⟨xs, m, rfl, rfl, hl, hxl, hget⟩ := DataW.trod_array (yb3 hs) h
      simp only [okD, hs]
      refine ⟨by simp [hxl], fun d hd => ?_⟩
      obtain ⟨y, hy, rfl⟩ := List.mem_map.1 hd
      obtain ⟨i, hi, rfl⟩ := List.getElem_of_mem hy
      have := hget i (by omega)
      rw [List.getElem?_eq_getElem hi] at this
      exact trod_ok n e hr m _ _ this
def okAll (P : Program) {H : Type} (n : Nat) : List TypeId → List (DataW H) → Prop
  | [], [] => True
  | t :: ts, d :: ds => okD P n t d ∧ okAll P n ts ds
  | _, _ => False
def ofAll (P : Program) {H : Type} (n : Nat) : List TypeId → List (DataW H) → List AV
  | t :: ts, d :: ds => ofD P n t d :: ofAll P n ts ds
  | _, _ => []
theorem trodAll_rep (hP : WF P) {w : World} {κ : Nat → Option Nat} {base : Nat} {sp : Nat → Bool} {held : Bool} (n : Nat) : ∀ (ts : List TypeId) (vs : List Value) (ds : List (DataW H)) (ps : List MemPlace), (∀ t ∈ ts, rdT P n t = true) →
    (∀ (j : Nat) (t : TypeId) (v : Value), ts[j]? = some t → vs[j]? = some v → (Value.isAgg v = match zab P t with | .struct => true | .arr _ _ => true | _ => false)) →
    DataW.TrodAll enc P w base sp held ts vs ds ps → okAll P n ts ds ∧ ya2 P ⟨κ, [], w⟩ (ofAll P n ts ds) vs
  | [], [], [], ps, _, _, h => by simp [okAll, ofAll, ya2]
  | t :: ts, v :: vs, d :: ds, ps, hr, ha, h => by
    obtain ⟨p, q, ⟨fuel, h1⟩, h2, _⟩ := h
    have h3 := trod_ok n t (hr t (by simp)) fuel _ _ h1
    obtain ⟨h4, h5⟩ := trod_rep hP (κ := κ) n t (hr t (by simp)) fuel _ _ h1
    obtain ⟨h6, h7⟩ := trodAll_rep hP n ts vs ds q (fun t ht => hr t (by simp [ht])) (fun j t v hj hv => ha (j + 1) t v (by simpa using hj) (by simpa using hv)) h2
    refine ⟨⟨h3, h6⟩, ?_⟩
    simp only [ofAll, ya2]
    refine ⟨v, vs, rfl, ?_, h5, h7⟩
    rw [ha 0 t v rfl rfl]
    have hrt := hr t (by simp)
    cases n with
    | zero => simp [rdT] at hrt
    | succ n =>
      unfold okD at h3
      cases hs : zab P t <;> rw [hs] at h3 <;> (try (exact h3.elim)) <;> cases d <;> (try (exact h3.elim)) <;> simp only [ofD, hs, Go.Abs.isAgg] <;> (try rfl)
      all_goals (rename_i l; cases l <;> first | exact h3.elim | rfl)
  | [], [], _ :: _, _, _, _, h => by simp [DataW.TrodAll] at h
  | [], _ :: _, _, _, _, _, h => by simp [DataW.TrodAll] at h
  | _ :: _, [], _, _, _, _, h => by simp [DataW.TrodAll] at h
  | _ :: _, _ :: _, [], _, _, _, h => by simp [DataW.TrodAll] at h
theorem ycw {n : Nat} : ∀ {ts : List TypeId} {ds : List (DataW H)}, okAll P n ts ds → ds.length = ts.length
  | [], [], _ => rfl
  | t :: ts, d :: ds, h => by simp [ycw h.2]
  | [], _ :: _, h => h.elim
  | _ :: _, [], h => h.elim
theorem isAgg_ok {W : World} {base : Nat} {t : TypeId} {v : Value} (n : Nat) (hr : rdT P n t = true) (h : Value.okWide P W .any base t v) : Value.isAgg v = match zab P t with | .struct => true | .arr _ _ => true | _ => false := by
  cases n with
  | zero => simp [rdT] at hr
  | succ n =>
    unfold rdT at hr
    cases hs : zab P t <;> rw [hs] at hr <;> simp only [Bool.false_eq_true] at hr
    case int k => obtain ⟨m, rfl⟩ := WideShapes.okWide_int (qbs hs) h; rfl
    case bool => obtain ⟨m, rfl⟩ := WideShapes.okWide_bool (zc1 hs) h; rfl
    case str => obtain ⟨m, rfl⟩ := WideShapes.okWide_string (yba hs) h; rfl
    case slice e => obtain ⟨a, l, c, rfl⟩ := WideShapes.okWide_slice (qah hs) h; rfl
    case struct =>
      obtain ⟨fs, hu⟩ := ycd hs
      simp only [Value.okWide, hu] at h
      obtain ⟨cs, rfl, _⟩ := h
      rfl
    case arr k e =>
      simp only [Value.okWide, yb3 hs] at h
      obtain ⟨cs, rfl, _⟩ := h
      rfl
theorem post_of_below {f : Func} {s : ChangeSpec} {apart fresh handsOn again : Bool} {W W' : World} {args : Array Value} {v : Value} {ds gs : List (DataW H)} {before pa pv : List MemPlace}
    (hW : DataW.Whole enc P f.params.toList s.vars apart W args.toList ds gs before)
    (hres : ∀ (b : Nat) (sp : Nat → Bool) (hd : Bool), DataW.TrodAll enc P W' b sp hd f.resultTypes.toList (v.resultList f.resultTypes.size) (s.fn H (ds ++ gs)).results [])
    (hargs : ∀ sp : Nat → Bool, (∀ p ∈ before, sp p.block = true) → DataW.TrodAll enc P W' 0 sp true f.params.toList args.toList (s.fn H (ds ++ gs)).args pa)
    (hvars : ∀ sp : Nat → Bool, (∀ p ∈ before, sp p.block = true) → DataW.TrodVars enc P W' sp s.vars (s.fn H (ds ++ gs)).vars pv)
    (hps : before = pa ++ pv) (hb : RowKit.Below W.heap.size W W')
    (hok : ∀ (j : Nat) (t : TypeId) (r : Value), f.resultTypes[j]? = some t → (v.resultList f.resultTypes.size)[j]? = some r → Value.okWide P W' .any 0 t r) :
    s.post enc P f apart fresh handsOn again W args v W' := by
  have hold : ∀ p ∈ before, (fun b => decide (b < W.heap.size)) p.block = true := fun p hp => by simpa using hW.lt p hp
  refine ⟨ds, gs, before, [], pa, pv, hW, hres _ _ _, hargs _ hold, hvars _ hold, World.keptBut_mono (fun p hp => ⟨hp, ?_⟩) (hb.frame (· ∈ before)), fun _ => ?_⟩
  · rw [hps, List.mem_append] at hp
    exact Or.inr hp
  · have hlt := hW.lt
    obtain ⟨_, _, _, _, _, hz, hn⟩ := hW
    refine ⟨hok, _, _, ([] ++ pa) ++ pv, ⟨[] ++ pa, pv, ChangeShapes.trodAll_append (hargs _ (fun _ _ => rfl)) (hres _ _ _), hvars _ (fun _ _ => rfl), rfl, ?_, ?_⟩, ?_⟩
    · intro b off hp
      have hp' : MemPlace.cell b off ∈ before := by rw [hps]; simpa using hp
      rw [hb.frozen (p := ⟨b, off, none⟩) (hlt _ hp')]
      exact hz b off hp'
    · intro ha
      have := hn ha
      rw [hps] at this
      simpa using this
    · intro p hp _
      rw [hps]
      simpa using hp
theorem ydg (hl : laidOutB P = true) {W W' : World} {sp' : Nat → Bool} : ∀ {ts : List TypeId} {vs : List Value} {ds : List (DataW H)} {ps : List MemPlace}, (∀ t ∈ ts, P.readableRec t = true ∧ t < P.types.size) → DataW.TrodAll enc P W 0 (fun _ => true) true ts vs ds ps →
    (∀ p ∈ ps, W.sameAt W' p) → (∀ p ∈ ps, sp' p.block = true) → DataW.TrodAll enc P W' 0 sp' true ts vs ds ps
  | [], [], [], ps, _, h, _, _ => h
  | t :: ts, v :: vs, d :: ds, ps, hr, h, h1, h2 => by
    obtain ⟨p, q, h3, h4, rfl⟩ := h
    exact ⟨p, q, WideElems.Trod_stays hl (hr t (by simp)).1 (hr t (by simp)).2 h3 (fun x hx => h1 x (by simp [hx])) (fun x hx => h2 x (by simp [hx])), ydg hl (fun u hu => hr u (by simp [hu])) h4 (fun x hx => h1 x (by simp [hx])) (fun x hx => h2 x (by simp [hx])), rfl⟩
  | [], [], _ :: _, _, _, h, _, _ => by simp [DataW.TrodAll] at h
  | [], _ :: _, _, _, _, h, _, _ => by simp [DataW.TrodAll] at h
  | _ :: _, [], _, _, _, h, _, _ => by simp [DataW.TrodAll] at h
  | _ :: _, _ :: _, [], _, _, h, _, _ => by simp [DataW.TrodAll] at h
theorem law_post (hP : WF P) (hl : laidOutB P = true) {f : Func} {fid : FuncId} {s : ChangeSpec} {ts : List TypeId} {tb : TypeId} {apart fresh handsOn again : Bool} (n : Nat) (hts : f.params.toList = ts) (hrd : ∀ t ∈ ts, rdT P n t = true ∧ P.readableRec t = true ∧ t < P.types.size) (hv : s.vars = [])
    (hres : f.resultTypes = #[tb]) (htb : P.underlying tb = some .bool) (hs : ∀ ds : List (DataW H), ds.length = ts.length → (s.fn H ds).results = [.lit (.bool true)] ∧ (s.fn H ds).args = ds ∧ (s.fn H ds).vars = [])
    {W : World} {base : Nat} {args : Array Value} {ds gs : List (DataW H)} {before : List MemPlace}
    (hval : ∀ (j : Nat) t v, f.params[j]? = some t → args[j]? = some v → Value.okWide P W .any base t v)
    (hW : DataW.Whole enc P f.params.toList s.vars apart W args.toList ds gs before)
    (hFn : okAll P n ts ds → Fn P fid (ofAll P n ts ds) (.bool true)) :
    Calls P fid args W fun e W' => ∃ v, e = .returned v ∧ s.post enc P f apart fresh handsOn again W args v W' := by
  have hW' := hW
  obtain ⟨p, q, hA, hV, rfl, hfz, hnd⟩ := hW
  rw [hv] at hV
  obtain ⟨rfl, rfl⟩ := ChangeShapes.trodVars_none hV
  rw [hts] at hA
  obtain ⟨h1, h2⟩ := trodAll_rep (κ := fun _ => none) hP n ts args.toList ds p (fun t ht => (hrd t ht).1) (fun j t v hj hvj => isAgg_ok n (hrd t (List.mem_of_getElem? hj)).1 (hval j t v (by rw [← hts] at hj; simpa using hj) (by simpa using hvj))) hA
  obtain ⟨hc, hF⟩ := hFn h1 []
  have hr0 : HR P ⟨fun _ => none, [], W⟩ := ⟨fun k e he => by simp at he, fun k k' e e' b he => by simp at he⟩
  have hlen := ycw h1
  obtain ⟨s1, s2, s3⟩ := hs ds (by omega)
  have := hF (fun _ => none) W args.toList hr0 h2
  rw [Array.toArray_toList] at this
  refine this.mono ?_
  rintro e W' ⟨v, r, h', κ', rfl, g1, g2, g3, rfl, rfl⟩
  obtain rfl := ybs g3
  have hO : ∀ b, ¬ (⟨fun _ => none, [], W⟩ : Cx).O b := by rintro b ⟨k, e, he, _⟩; simp at he
  have hb : RowKit.Below W.heap.size W W' := ⟨g2.os, g2.tape, g2.output, g2.size, fun k hk => g2.frozen k hk (hO k)⟩
  refine ⟨_, rfl, post_of_below (pa := p) (pv := []) hW' ?_ ?_ ?_ rfl hb (RowKit.ok_one hres rfl (RowKit.okWide_bool_mk htb _))⟩
  · intro b sp hd
    rw [List.append_nil, s1, hres]
    exact trodAll_cons_mk (RowKit.shut_bool htb _) ChangeShapes.trodAll_mk0
  · intro sp hsp
    rw [List.append_nil, s2, hts]
    exact ydg hl (fun t ht => (hrd t ht).2) hA (fun x hx => hb.same (hW'.lt x (by simpa using hx))) (fun x hx => hsp x (by simpa using hx))
  · intro sp hsp
    rw [List.append_nil, s3, hv]
    rfl
end
end Go.Abs
set_option linter.all false
namespace Go.Abs
open Go Go.RowKit
mutual
def inA : AV → Bool
  | .int k m => decide (k.min ≤ m) && decide (m ≤ k.max)
  | .agg _ vs => inL vs
  | .list _ vs => inL vs
  | _ => true
def inL : List AV → Bool
  | [] => true
  | v :: vs => inA v && inL vs
end
theorem inL_all : ∀ {l : List AV}, inL l = true ↔ ∀ v ∈ l, inA v = true
  | [] => by simp [inL]
  | v :: vs => by simp [inL, inL_all (l := vs)]
theorem in_ofD {P : Program} {H : Type} : ∀ (n : Nat) (t : TypeId) (d : DataW H), okD P n t d → inA (ofD P n t d) = true
  | 0, t, d, h => by simp [okD] at h
  | n + 1, t, d, h => by
    cases hs : zab P t with
    | int k =>
      cases d with
      | lit l =>
        cases l with
        | int k' m =>
          simp only [okD, hs] at h
          simp only [ofD, hs, inA]
          exact h.2
        | _ => simp [okD, hs] at h
      | _ => simp [okD, hs] at h
    | slice e =>
      cases d with
      | nil => simp only [ofD, hs, inA, inL]
      | slice es sp =>
        simp only [okD, hs] at h
        simp only [ofD, hs, inA, inL_all]
        intro v hv
        obtain ⟨d, hd, rfl⟩ := List.mem_map.1 hv
        exact in_ofD n _ d (h d hd)
      | _ => simp [okD, hs] at h
    | struct =>
      cases d with
      | agg ps =>
        simp only [okD, hs] at h
        simp only [ofD, hs, inA, inL_all]
        intro v hv
        obtain ⟨i, hi, hv⟩ := List.mem_iff_getElem.1 hv
        rw [List.getElem_zipWith] at hv
        subst hv
        exact in_ofD n _ _ (h.2 i _ _ (List.getElem?_eq_getElem _) (List.getElem?_eq_getElem _))
      | _ => simp [okD, hs] at h
    | arr k e =>
      cases d with
      | agg ps =>
        simp only [okD, hs] at h
        simp only [ofD, hs, inA, inL_all]
        intro v hv
        obtain ⟨d, hd, rfl⟩ := List.mem_map.1 hv
        exact in_ofD n _ d (h.2 d hd)
      | _ => simp [okD, hs] at h
    | _ => simp only [ofD, hs]; (repeat' split) <;> first | rfl | contradiction
end Go.Abs
