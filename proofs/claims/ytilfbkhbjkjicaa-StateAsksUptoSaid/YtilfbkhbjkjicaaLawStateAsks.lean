/- StateAsks: a space and its bytes and digest are what the document says: true for every input. Conditions: what the arguments read is of bulk at most 1048576 (the statement's own second form). -/
import Derived.Test.YtilfbkhbjkjicaaRows
import Derived.Test.YtilfbkhbjkjicaaChecked
import Derived.Test.YtilfbkhbjkjicaaXi
import Derived.Test.YtilfbkhbjkjicaaDx
import Derived.WalkKit
import Derived.ProofKit
import Derived.OpenShut
import Derived.JoinedCond
set_option maxRecDepth 100000
set_option maxHeartbeats 0
set_option linter.all false
namespace Go.Proofs.Ytilfbkhbjkjicaa.proofStateAsks
open Go Go.Abs Go.RowKit
theorem own : ownKnob Try.prog.godebug = none := by kernel_rfl
theorem bulk_pos {H : Type} (d : DataW H) : 1 ≤ Rows.uptoBulk d := by
  cases d with
  | lit l => cases l <;> simp [Rows.uptoBulk]
  | _ => simp [Rows.uptoBulk]
theorem bulk_len {H : Type} : ∀ (ds : List (DataW H)), ds.length ≤ Rows.uptoBulkAll ds
  | [] => Nat.zero_le _
  | d :: ds => by
    have h1 := bulk_pos d
    have h2 := bulk_len ds
    simp only [Rows.uptoBulkAll, List.length_cons]
    omega
theorem bulk_mem {H : Type} {d : DataW H} : ∀ {ds : List (DataW H)}, d ∈ ds → Rows.uptoBulk d ≤ Rows.uptoBulkAll ds
  | [], h => by simp at h
  | x :: ds, h => by
    simp only [Rows.uptoBulkAll]
    rcases List.mem_cons.1 h with rfl | h
    · omega
    · have := bulk_mem h; omega
theorem row_le {H : Type} (d : DataW H) : rowLen d ≤ Rows.uptoBulk d := by
  cases d with
  | slice es sp => have := bulk_len es; simp only [rowLen, Rows.uptoBulk]; omega
  | _ => exact Nat.zero_le _
theorem row_small {H : Type} {d : DataW H} {ds gs : List (DataW H)} (hm : d ∈ ds) (hk : Rows.uptoSmall H (ds ++ gs) = true) : rowLen d ≤ 1048576 := by
  have h1 := row_le d
  have h2 := bulk_mem (ds := ds ++ gs) (List.mem_append.2 (.inl hm))
  have h3 : Rows.uptoBulkAll (ds ++ gs) ≤ 1048576 := of_decide_eq_true hk
  omega
theorem contract (H : Type) (enc : TypeId × Value → H) (W : World) (base : Nat) (args : Array Value) (ds gs : List (DataW H)) (before : List MemPlace) (hk : Rows.uptoSmall H (ds ++ gs) = true)
    (hval : ∀ (j : Nat) t v, Try.f3.params[j]? = some t → args[j]? = some v → Value.okWide Try.prog W .any base t v)
    (hW : DataW.Whole enc Try.prog Try.f3.params.toList Rows.stateAsksSpec.vars false W args.toList ds gs before) :
    Calls Try.prog 3 args W fun e W' => ∃ v, e = .returned v ∧ Rows.stateAsksSpec.post enc Try.prog Try.f3 false true false false W args v W' := by
  have hrd : ([29, 30].all fun t => rdT Try.prog 8 t && (Try.prog.readableRec t && decide (t < Try.prog.types.size))) = true := by kernel_rfl
  refine law_post wfp laidP (ts := [29, 30]) (tb := 4) 8 (by kernel_rfl) (fun t ht => ?_) rfl (by kernel_rfl) (by kernel_rfl) (fun ds hl => ?_) hval hW fun hok => ?_
  · have := List.all_eq_true.1 hrd t ht
    simp only [Bool.and_eq_true, decide_eq_true_eq] at this
    exact ⟨this.1, this.2.1, this.2.2⟩
  · match ds, hl with
    | [d1, d2], _ => exact ⟨rfl, rfl, rfl⟩
  · have hlen := ycw hok
    match ds, hlen, hok, hk with
    | [d1, d2], _, hok, hk =>
      obtain ⟨h1, h2, _⟩ := hok
      obtain ⟨s, e1, hs⟩ := d_space 2 h1
      obtain ⟨l, e2, hl⟩ := d_bytes 6 h2
      simp only [ofAll, e1, e2]
      have b1 := b_small (d := d1) (by simp) hk
      have b2 := b_small (d := d2) (by simp) hk
      have b3 := b_row d2
      exact c_StateAsks s l (hs (by omega)) (by omega)
set_option maxRecDepth 100000 in
theorem lifted (os : Os) (started : os.Started) (H : Type) (enc : TypeId × Value → H) (F : Stop.Interp) :
    ReturnsInHanded {} Try.checked os 3 .any ((Rows.OpenSpec.upto Rows.stateAsksSpec).pre6 enc Try.prog Try.f3 Rows.stateAsksUptoRow.domain false) (((Rows.OpenSpec.upto Rows.stateAsksSpec).at F).post enc Try.prog Try.f3 false true false false) := by
  refine returnsInHanded_of_cond (C := Try.checked) (s := Rows.OpenSpec.upto Rows.stateAsksSpec) (k := Rows.uptoSmall) rfl own started (by kernel_rfl) Try.func3
    (OpenSpec.witness (enc := enc) (C := Try.checked) (s := Rows.OpenSpec.upto Rows.stateAsksSpec) (k := Rows.uptoSmall) rfl false ⟨#[], #[.agg #[.int .i64 0, .slice none 0 0, .slice none 0 0, .int .i64 0, .int .i64 0, .int .i64 0, .int .i64 0, .int .i64 0, .slice none 0 0, .bool false, .int .i64 0, .int .i64 0, .int .i64 0, .slice none 0 0, .bool false, .int .i64 0, .int .i64 0, .int .i64 0, .slice none 0 0, .bool false, .int .i64 0, .int .i64 0, .int .i64 0, .slice none 0 0, .bool false], .slice none 0 0], []⟩ 8 (by kernel_rfl) (by kernel_rfl) (by kernel_rfl)
      (x := ([.agg [.lit (.int .i64 0), .nil, .nil, .lit (.int .i64 0), .lit (.int .i64 0), .agg [.agg [.lit (.int .i64 0), .lit (.int .i64 0), .lit (.int .i64 0), .nil, .lit (.bool false)], .agg [.lit (.int .i64 0), .lit (.int .i64 0), .lit (.int .i64 0), .nil, .lit (.bool false)], .agg [.lit (.int .i64 0), .lit (.int .i64 0), .lit (.int .i64 0), .nil, .lit (.bool false)], .agg [.lit (.int .i64 0), .lit (.int .i64 0), .lit (.int .i64 0), .nil, .lit (.bool false)]]], .nil], [], [])) (by kernel_rfl) rfl (by kernel_rfl)) ?_
  intro W base args ds gs before hval hW _ hk _
  exact contract H enc W base args ds gs before hk hval hW
theorem over : Rows.stateAsksUptoRow.holds Try.pinned (Rows.OpenSpec.upto Rows.stateAsksSpec) :=
  OpenClaim.holds_of_cond 3 Try.f3 rfl rfl rfl rfl rfl rfl rfl ⟨rfl, rfl, rfl, rfl, rfl⟩ rfl rfl rfl rfl rfl (by kernel_rfl) Try.func3 (by kernel_rfl)
    (of_decide_eq_true (by kernel_rfl)) (by unfold Func.isWrapper; first | (rw [if_pos (by decide +kernel)]; kernel_rfl) | (rw [if_neg (by decide +kernel)]; exact ⟨rfl, rfl⟩))
    (fun os started H enc _ F => lifted os started H enc F)
end Go.Proofs.Ytilfbkhbjkjicaa.proofStateAsks
namespace Go.Proofs.Ytilfbkhbjkjicaa
theorem stateAsksProved : Rows.StateAsksUptoSaid := proofStateAsks.over
end Go.Proofs.Ytilfbkhbjkjicaa
