/-
  No cell of these rows narrows 'for every input' (looked for: loops, veiled, ifaces, maps, wideKeys, modest, calm, conditions, laid).
  DERIVED. THE GIVEN ROWS OF THIS SEAT. 9 by the template 'for every input the law returns true; each argument reads behind the call as it read before'; 0 by the template 'total and deterministic' (their statements: YtilfbkhbjkjicaaTotals.lean).
  GIVEN WITH THE SEED: the statements are not yours to turn. If you find one false, say at which input.
  Laid BY PROGRAM, IN A SANDBOX (cutbox-rows.mjs): the forced cells as the released guide's own fill.sh prints them over the translation 362b4ea38aff0f5c… (all of the seat's roots in one cut). By AI agents, Wed Nov 11 2026. No macro, syntax, notation, axiom, sorry.
-/
import Derived.Test.YtilfbkhbjkjicaaChecked
import GoSem.Claim
import GoSem.ClaimJoined
import GoSem.ClaimMapViews
import Derived.JoinedTies
import Derived.KernelRfl
namespace Go.Proofs.Ytilfbkhbjkjicaa
/- THE CELL 'sum', in the pinned program and in every row, IS THE sha256 OF THE DUMP (.gsa) THAT YtilfbkhbjkjicaaProg.lean LOADS. Nothing in Lean hashes anything: it is a label: what it is worth is what the hold of that sum in a sandbox is worth. -/
noncomputable def Try.pinned : Pinned := { name := "ytilfbkhbjkjicaa", sum := "362b4ea38aff0f5c85616c2f82673b98de2f8c5bc13e54c74062ad63668e4324", checked := Try.checked }
namespace Rows
def none {H : Type} : Left H := { results := [], args := [] }

/-- 'chirographlaw9.StateAsks': WHATEVER THE INPUT: true; the input reads as it did. -/
def stateAsksSpec : ChangeSpec := { name := "stateAsks", fn := fun _ => fun
  | [d1, d2] => { results := [.lit (.bool true)], args := [d1, d2] }
  | _ => none }
def stateAsksRow : OpenClaim := { program := "ytilfbkhbjkjicaa", sum := "362b4ea38aff0f5c85616c2f82673b98de2f8c5bc13e54c74062ad63668e4324", func := "chirograph/chirographlaw9.StateAsks", spec := "stateAsks", unfollowed := true, recurses := true, apart := false }
def StateAsksSaid : Prop := stateAsksRow.holds Try.pinned (OpenSpec.ofChange stateAsksSpec)

/-- ITS FALSE NEIGHBOUR: 'it returns false'. Refute it at one input. -/
def stateAsksWrong : ChangeSpec := { name := "stateAsks", fn := fun _ => fun
  | [d1, d2] => { results := [.lit (.bool false)], args := [d1, d2] }
  | _ => none }
def StateAsksWrongFalsely : Prop := stateAsksRow.holds Try.pinned (OpenSpec.ofChange stateAsksWrong)

/-- 'chirographlaw9.StateOne': WHATEVER THE INPUT: true; the input reads as it did. -/
def stateOneSpec : ChangeSpec := { name := "stateOne", fn := fun _ => fun
  | [d1, d2] => { results := [.lit (.bool true)], args := [d1, d2] }
  | _ => none }
def stateOneRow : OpenClaim := { program := "ytilfbkhbjkjicaa", sum := "362b4ea38aff0f5c85616c2f82673b98de2f8c5bc13e54c74062ad63668e4324", func := "chirograph/chirographlaw9.StateOne", spec := "stateOne", unfollowed := true, recurses := true, apart := false }
def StateOneSaid : Prop := stateOneRow.holds Try.pinned (OpenSpec.ofChange stateOneSpec)

/-- ITS FALSE NEIGHBOUR: 'it returns false'. Refute it at one input. -/
def stateOneWrong : ChangeSpec := { name := "stateOne", fn := fun _ => fun
  | [d1, d2] => { results := [.lit (.bool false)], args := [d1, d2] }
  | _ => none }
def StateOneWrongFalsely : Prop := stateOneRow.holds Try.pinned (OpenSpec.ofChange stateOneWrong)

/-- 'chirographlaw11.EntryBack': WHATEVER THE INPUT: true; the input reads as it did. -/
def entryBackSpec : ChangeSpec := { name := "entryBack", fn := fun _ => fun
  | [d1, d2, d3, d4] => { results := [.lit (.bool true)], args := [d1, d2, d3, d4] }
  | _ => none }
def entryBackRow : OpenClaim := { program := "ytilfbkhbjkjicaa", sum := "362b4ea38aff0f5c85616c2f82673b98de2f8c5bc13e54c74062ad63668e4324", func := "chirograph/chirographlaw11.EntryBack", spec := "entryBack", unfollowed := true, recurses := true, apart := false }
def EntryBackSaid : Prop := entryBackRow.holds Try.pinned (OpenSpec.ofChange entryBackSpec)

/-- ITS FALSE NEIGHBOUR: 'it returns false'. Refute it at one input. -/
def entryBackWrong : ChangeSpec := { name := "entryBack", fn := fun _ => fun
  | [d1, d2, d3, d4] => { results := [.lit (.bool false)], args := [d1, d2, d3, d4] }
  | _ => none }
def EntryBackWrongFalsely : Prop := entryBackRow.holds Try.pinned (OpenSpec.ofChange entryBackWrong)

/-- 'chirographlaw11.EntryOne': WHATEVER THE INPUT: true; the input reads as it did. -/
def entryOneSpec : ChangeSpec := { name := "entryOne", fn := fun _ => fun
  | [d1, d2] => { results := [.lit (.bool true)], args := [d1, d2] }
  | _ => none }
def entryOneRow : OpenClaim := { program := "ytilfbkhbjkjicaa", sum := "362b4ea38aff0f5c85616c2f82673b98de2f8c5bc13e54c74062ad63668e4324", func := "chirograph/chirographlaw11.EntryOne", spec := "entryOne", unfollowed := true, recurses := true, apart := false }
def EntryOneSaid : Prop := entryOneRow.holds Try.pinned (OpenSpec.ofChange entryOneSpec)

/-- ITS FALSE NEIGHBOUR: 'it returns false'. Refute it at one input. -/
def entryOneWrong : ChangeSpec := { name := "entryOne", fn := fun _ => fun
  | [d1, d2] => { results := [.lit (.bool false)], args := [d1, d2] }
  | _ => none }
def EntryOneWrongFalsely : Prop := entryOneRow.holds Try.pinned (OpenSpec.ofChange entryOneWrong)

/-- 'chirographlaw10.GenesisKeys': WHATEVER THE INPUT: true; the input reads as it did. -/
def genesisKeysSpec : ChangeSpec := { name := "genesisKeys", fn := fun _ => fun
  | [d1, d2, d3, d4] => { results := [.lit (.bool true)], args := [d1, d2, d3, d4] }
  | _ => none }
def genesisKeysRow : OpenClaim := { program := "ytilfbkhbjkjicaa", sum := "362b4ea38aff0f5c85616c2f82673b98de2f8c5bc13e54c74062ad63668e4324", func := "chirograph/chirographlaw10.GenesisKeys", spec := "genesisKeys", unfollowed := true, recurses := true, apart := false }
def GenesisKeysSaid : Prop := genesisKeysRow.holds Try.pinned (OpenSpec.ofChange genesisKeysSpec)

/-- ITS FALSE NEIGHBOUR: 'it returns false'. Refute it at one input. -/
def genesisKeysWrong : ChangeSpec := { name := "genesisKeys", fn := fun _ => fun
  | [d1, d2, d3, d4] => { results := [.lit (.bool false)], args := [d1, d2, d3, d4] }
  | _ => none }
def GenesisKeysWrongFalsely : Prop := genesisKeysRow.holds Try.pinned (OpenSpec.ofChange genesisKeysWrong)

/-- 'chirographlaw10.GenesisTurned': WHATEVER THE INPUT: true; the input reads as it did. -/
def genesisTurnedSpec : ChangeSpec := { name := "genesisTurned", fn := fun _ => fun
  | [d1, d2, d3, d4, d5] => { results := [.lit (.bool true)], args := [d1, d2, d3, d4, d5] }
  | _ => none }
def genesisTurnedRow : OpenClaim := { program := "ytilfbkhbjkjicaa", sum := "362b4ea38aff0f5c85616c2f82673b98de2f8c5bc13e54c74062ad63668e4324", func := "chirograph/chirographlaw10.GenesisTurned", spec := "genesisTurned", unfollowed := true, recurses := true, apart := false }
def GenesisTurnedSaid : Prop := genesisTurnedRow.holds Try.pinned (OpenSpec.ofChange genesisTurnedSpec)

/-- ITS FALSE NEIGHBOUR: 'it returns false'. Refute it at one input. -/
def genesisTurnedWrong : ChangeSpec := { name := "genesisTurned", fn := fun _ => fun
  | [d1, d2, d3, d4, d5] => { results := [.lit (.bool false)], args := [d1, d2, d3, d4, d5] }
  | _ => none }
def GenesisTurnedWrongFalsely : Prop := genesisTurnedRow.holds Try.pinned (OpenSpec.ofChange genesisTurnedWrong)

/-- 'chirographlaw11.EntryBounds': WHATEVER THE INPUT: true; the input reads as it did. -/
def entryBoundsSpec : ChangeSpec := { name := "entryBounds", fn := fun _ => fun
  | [d1, d2, d3] => { results := [.lit (.bool true)], args := [d1, d2, d3] }
  | _ => none }
def entryBoundsRow : OpenClaim := { program := "ytilfbkhbjkjicaa", sum := "362b4ea38aff0f5c85616c2f82673b98de2f8c5bc13e54c74062ad63668e4324", func := "chirograph/chirographlaw11.EntryBounds", spec := "entryBounds", unfollowed := true, recurses := true, apart := false }
def EntryBoundsSaid : Prop := entryBoundsRow.holds Try.pinned (OpenSpec.ofChange entryBoundsSpec)

/-- ITS FALSE NEIGHBOUR: 'it returns false'. Refute it at one input. -/
def entryBoundsWrong : ChangeSpec := { name := "entryBounds", fn := fun _ => fun
  | [d1, d2, d3] => { results := [.lit (.bool false)], args := [d1, d2, d3] }
  | _ => none }
def EntryBoundsWrongFalsely : Prop := entryBoundsRow.holds Try.pinned (OpenSpec.ofChange entryBoundsWrong)

/-- 'chirographlaw9.StateBack': WHATEVER THE INPUT: true; the input reads as it did. -/
def stateBackSpec : ChangeSpec := { name := "stateBack", fn := fun _ => fun
  | [d1, d2, d3] => { results := [.lit (.bool true)], args := [d1, d2, d3] }
  | _ => none }
def stateBackRow : OpenClaim := { program := "ytilfbkhbjkjicaa", sum := "362b4ea38aff0f5c85616c2f82673b98de2f8c5bc13e54c74062ad63668e4324", func := "chirograph/chirographlaw9.StateBack", spec := "stateBack", unfollowed := true, recurses := true, apart := false }
def StateBackSaid : Prop := stateBackRow.holds Try.pinned (OpenSpec.ofChange stateBackSpec)

/-- ITS FALSE NEIGHBOUR: 'it returns false'. Refute it at one input. -/
def stateBackWrong : ChangeSpec := { name := "stateBack", fn := fun _ => fun
  | [d1, d2, d3] => { results := [.lit (.bool false)], args := [d1, d2, d3] }
  | _ => none }
def StateBackWrongFalsely : Prop := stateBackRow.holds Try.pinned (OpenSpec.ofChange stateBackWrong)

/-- 'chirographlaw9.StateMoves': WHATEVER THE INPUT: true; the input reads as it did. -/
def stateMovesSpec : ChangeSpec := { name := "stateMoves", fn := fun _ => fun
  | [d1, d2] => { results := [.lit (.bool true)], args := [d1, d2] }
  | _ => none }
def stateMovesRow : OpenClaim := { program := "ytilfbkhbjkjicaa", sum := "362b4ea38aff0f5c85616c2f82673b98de2f8c5bc13e54c74062ad63668e4324", func := "chirograph/chirographlaw9.StateMoves", spec := "stateMoves", unfollowed := true, recurses := true, apart := false }
def StateMovesSaid : Prop := stateMovesRow.holds Try.pinned (OpenSpec.ofChange stateMovesSpec)

/-- ITS FALSE NEIGHBOUR: 'it returns false'. Refute it at one input. -/
def stateMovesWrong : ChangeSpec := { name := "stateMoves", fn := fun _ => fun
  | [d1, d2] => { results := [.lit (.bool false)], args := [d1, d2] }
  | _ => none }
def StateMovesWrongFalsely : Prop := stateMovesRow.holds Try.pinned (OpenSpec.ofChange stateMovesWrong)

/- THE SECOND FORM. 'bulk': how many values and letters a reading holds, each counted each time it is reached (what is shared counts as often as it is met; a slice's spare places count too). A statement '..UptoSaid' is the law's where the arguments, and the package variables that the reading takes, are together of bulk at most 1048576: NARROWER than '..Said'. Prove '..Said' where nothing that the law and all that it calls make is longer than what came in: it says more and counts as full. Else prove '..UptoSaid'. A law counts once. -/
mutual
def uptoBulk {H : Type} : DataW H → Nat
  | .lit (.string bytes) => bytes.length + 1
  | .lit _ => 1
  | .nil => 1
  | .ptr d => uptoBulk d + 1
  | .slice elems spare => uptoBulkAll elems + uptoBulkAll spare + 1
  | .agg parts => uptoBulkAll parts + 1
  | .iface _ d => uptoBulk d + 1
  | .map entries => uptoBulkEntries entries + 1
  | .held _ => 1
def uptoBulkAll {H : Type} : List (DataW H) → Nat
  | [] => 0
  | d :: r => uptoBulk d + uptoBulkAll r
def uptoBulkEntries {H : Type} : List (Lit × DataW H) → Nat
  | [] => 0
  | x :: r => uptoBulkEntry x + uptoBulkEntries r
def uptoBulkEntry {H : Type} : Lit × DataW H → Nat
  | (.string bytes, d) => bytes.length + uptoBulk d + 1
  | (_, d) => uptoBulk d + 1
 end
def uptoSmall : (H : Type) → List (DataW H) → Bool := fun _ ds => decide (uptoBulkAll ds ≤ 1048576)
def OpenSpec.upto (s : _root_.Go.ChangeSpec) : _root_.Go.OpenSpec := { _root_.Go.OpenSpec.ofChange s with cond := some uptoSmall }

/-- 'chirographlaw9.StateAsks', WHERE WHAT IT READS IS OF BULK AT MOST 1048576: true; the input reads as it did. -/
def stateAsksUptoRow : OpenClaim := { program := "ytilfbkhbjkjicaa", sum := "362b4ea38aff0f5c85616c2f82673b98de2f8c5bc13e54c74062ad63668e4324", func := "chirograph/chirographlaw9.StateAsks", spec := "stateAsks", unfollowed := true, recurses := true, apart := false, narrowed := true }
def StateAsksUptoSaid : Prop := stateAsksUptoRow.holds Try.pinned (OpenSpec.upto stateAsksSpec)

/-- 'chirographlaw9.StateOne', WHERE WHAT IT READS IS OF BULK AT MOST 1048576: true; the input reads as it did. -/
def stateOneUptoRow : OpenClaim := { program := "ytilfbkhbjkjicaa", sum := "362b4ea38aff0f5c85616c2f82673b98de2f8c5bc13e54c74062ad63668e4324", func := "chirograph/chirographlaw9.StateOne", spec := "stateOne", unfollowed := true, recurses := true, apart := false, narrowed := true }
def StateOneUptoSaid : Prop := stateOneUptoRow.holds Try.pinned (OpenSpec.upto stateOneSpec)

/-- 'chirographlaw11.EntryBack', WHERE WHAT IT READS IS OF BULK AT MOST 1048576: true; the input reads as it did. -/
def entryBackUptoRow : OpenClaim := { program := "ytilfbkhbjkjicaa", sum := "362b4ea38aff0f5c85616c2f82673b98de2f8c5bc13e54c74062ad63668e4324", func := "chirograph/chirographlaw11.EntryBack", spec := "entryBack", unfollowed := true, recurses := true, apart := false, narrowed := true }
def EntryBackUptoSaid : Prop := entryBackUptoRow.holds Try.pinned (OpenSpec.upto entryBackSpec)

/-- 'chirographlaw11.EntryOne', WHERE WHAT IT READS IS OF BULK AT MOST 1048576: true; the input reads as it did. -/
def entryOneUptoRow : OpenClaim := { program := "ytilfbkhbjkjicaa", sum := "362b4ea38aff0f5c85616c2f82673b98de2f8c5bc13e54c74062ad63668e4324", func := "chirograph/chirographlaw11.EntryOne", spec := "entryOne", unfollowed := true, recurses := true, apart := false, narrowed := true }
def EntryOneUptoSaid : Prop := entryOneUptoRow.holds Try.pinned (OpenSpec.upto entryOneSpec)

/-- 'chirographlaw10.GenesisKeys', WHERE WHAT IT READS IS OF BULK AT MOST 1048576: true; the input reads as it did. -/
def genesisKeysUptoRow : OpenClaim := { program := "ytilfbkhbjkjicaa", sum := "362b4ea38aff0f5c85616c2f82673b98de2f8c5bc13e54c74062ad63668e4324", func := "chirograph/chirographlaw10.GenesisKeys", spec := "genesisKeys", unfollowed := true, recurses := true, apart := false, narrowed := true }
def GenesisKeysUptoSaid : Prop := genesisKeysUptoRow.holds Try.pinned (OpenSpec.upto genesisKeysSpec)

/-- 'chirographlaw10.GenesisTurned', WHERE WHAT IT READS IS OF BULK AT MOST 1048576: true; the input reads as it did. -/
def genesisTurnedUptoRow : OpenClaim := { program := "ytilfbkhbjkjicaa", sum := "362b4ea38aff0f5c85616c2f82673b98de2f8c5bc13e54c74062ad63668e4324", func := "chirograph/chirographlaw10.GenesisTurned", spec := "genesisTurned", unfollowed := true, recurses := true, apart := false, narrowed := true }
def GenesisTurnedUptoSaid : Prop := genesisTurnedUptoRow.holds Try.pinned (OpenSpec.upto genesisTurnedSpec)

/-- 'chirographlaw11.EntryBounds', WHERE WHAT IT READS IS OF BULK AT MOST 1048576: true; the input reads as it did. -/
def entryBoundsUptoRow : OpenClaim := { program := "ytilfbkhbjkjicaa", sum := "362b4ea38aff0f5c85616c2f82673b98de2f8c5bc13e54c74062ad63668e4324", func := "chirograph/chirographlaw11.EntryBounds", spec := "entryBounds", unfollowed := true, recurses := true, apart := false, narrowed := true }
def EntryBoundsUptoSaid : Prop := entryBoundsUptoRow.holds Try.pinned (OpenSpec.upto entryBoundsSpec)

/-- 'chirographlaw9.StateBack', WHERE WHAT IT READS IS OF BULK AT MOST 1048576: true; the input reads as it did. -/
def stateBackUptoRow : OpenClaim := { program := "ytilfbkhbjkjicaa", sum := "362b4ea38aff0f5c85616c2f82673b98de2f8c5bc13e54c74062ad63668e4324", func := "chirograph/chirographlaw9.StateBack", spec := "stateBack", unfollowed := true, recurses := true, apart := false, narrowed := true }
def StateBackUptoSaid : Prop := stateBackUptoRow.holds Try.pinned (OpenSpec.upto stateBackSpec)

/-- 'chirographlaw9.StateMoves', WHERE WHAT IT READS IS OF BULK AT MOST 1048576: true; the input reads as it did. -/
def stateMovesUptoRow : OpenClaim := { program := "ytilfbkhbjkjicaa", sum := "362b4ea38aff0f5c85616c2f82673b98de2f8c5bc13e54c74062ad63668e4324", func := "chirograph/chirographlaw9.StateMoves", spec := "stateMoves", unfollowed := true, recurses := true, apart := false, narrowed := true }
def StateMovesUptoSaid : Prop := stateMovesUptoRow.holds Try.pinned (OpenSpec.upto stateMovesSpec)

end Rows
end Go.Proofs.Ytilfbkhbjkjicaa
