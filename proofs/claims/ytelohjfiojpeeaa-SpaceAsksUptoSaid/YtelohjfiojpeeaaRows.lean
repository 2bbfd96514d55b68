/-
  No cell of these rows narrows 'for every input' (looked for: loops, veiled, ifaces, maps, wideKeys, modest, calm, conditions, laid).
  DERIVED. THE GIVEN ROWS OF THIS SEAT. 12 by the template 'for every input the law returns true; each argument reads behind the call as it read before'; 0 by the template 'total and deterministic' (their statements: YtelohjfiojpeeaaTotals.lean).
  GIVEN WITH THE SEED: the statements are not yours to turn. If you find one false, say at which input.
  Laid BY PROGRAM, IN A SANDBOX (cutbox-rows.mjs): the forced cells as the released guide's own fill.sh prints them over the translation 502660e0f90fb08f… (all of the seat's roots in one cut). By AI agents, Wed Nov 11 2026. No macro, syntax, notation, axiom, sorry.
-/
import Derived.Test.YtelohjfiojpeeaaChecked
import GoSem.Claim
import GoSem.ClaimJoined
import GoSem.ClaimMapViews
import Derived.JoinedTies
import Derived.KernelRfl
namespace Go.Proofs.Ytelohjfiojpeeaa
/- THE CELL 'sum', in the pinned program and in every row, IS THE sha256 OF THE DUMP (.gsa) THAT YtelohjfiojpeeaaProg.lean LOADS. Nothing in Lean hashes anything: it is a label: what it is worth is what the hold of that sum in a sandbox is worth. -/
noncomputable def Try.pinned : Pinned := { name := "ytelohjfiojpeeaa", sum := "502660e0f90fb08fdfb495918bb7f13875ae9d8cf966900fe25d2c941c95a0ac", checked := Try.checked }
namespace Rows
def none {H : Type} : Left H := { results := [], args := [] }

/-- 'chirographlaw8.SpaceOwn': WHATEVER THE INPUT: true; the input reads as it did. -/
def spaceOwnSpec : ChangeSpec := { name := "spaceOwn", fn := fun _ => fun
  | [d] => { results := [.lit (.bool true)], args := [d] }
  | _ => none }
def spaceOwnRow : OpenClaim := { program := "ytelohjfiojpeeaa", sum := "502660e0f90fb08fdfb495918bb7f13875ae9d8cf966900fe25d2c941c95a0ac", func := "chirograph/chirographlaw8.SpaceOwn", spec := "spaceOwn", unfollowed := true, recurses := true, apart := false }
def SpaceOwnSaid : Prop := spaceOwnRow.holds Try.pinned (OpenSpec.ofChange spaceOwnSpec)

/-- ITS FALSE NEIGHBOUR: 'it returns false'. Refute it at one input. -/
def spaceOwnWrong : ChangeSpec := { name := "spaceOwn", fn := fun _ => fun
  | [d] => { results := [.lit (.bool false)], args := [d] }
  | _ => none }
def SpaceOwnWrongFalsely : Prop := spaceOwnRow.holds Try.pinned (OpenSpec.ofChange spaceOwnWrong)

/-- 'chirographlaw8.SpaceMay': WHATEVER THE INPUT: true; the input reads as it did. -/
def spaceMaySpec : ChangeSpec := { name := "spaceMay", fn := fun _ => fun
  | [d] => { results := [.lit (.bool true)], args := [d] }
  | _ => none }
def spaceMayRow : OpenClaim := { program := "ytelohjfiojpeeaa", sum := "502660e0f90fb08fdfb495918bb7f13875ae9d8cf966900fe25d2c941c95a0ac", func := "chirograph/chirographlaw8.SpaceMay", spec := "spaceMay", unfollowed := true, recurses := true, apart := false }
def SpaceMaySaid : Prop := spaceMayRow.holds Try.pinned (OpenSpec.ofChange spaceMaySpec)

/-- ITS FALSE NEIGHBOUR: 'it returns false'. Refute it at one input. -/
def spaceMayWrong : ChangeSpec := { name := "spaceMay", fn := fun _ => fun
  | [d] => { results := [.lit (.bool false)], args := [d] }
  | _ => none }
def SpaceMayWrongFalsely : Prop := spaceMayRow.holds Try.pinned (OpenSpec.ofChange spaceMayWrong)

/-- 'chirographlaw8.SpaceLease': WHATEVER THE INPUT: true; the input reads as it did. -/
def spaceLeaseSpec : ChangeSpec := { name := "spaceLease", fn := fun _ => fun
  | [d1, d2, d3, d4] => { results := [.lit (.bool true)], args := [d1, d2, d3, d4] }
  | _ => none }
def spaceLeaseRow : OpenClaim := { program := "ytelohjfiojpeeaa", sum := "502660e0f90fb08fdfb495918bb7f13875ae9d8cf966900fe25d2c941c95a0ac", func := "chirograph/chirographlaw8.SpaceLease", spec := "spaceLease", unfollowed := true, recurses := true, apart := false }
def SpaceLeaseSaid : Prop := spaceLeaseRow.holds Try.pinned (OpenSpec.ofChange spaceLeaseSpec)

/-- ITS FALSE NEIGHBOUR: 'it returns false'. Refute it at one input. -/
def spaceLeaseWrong : ChangeSpec := { name := "spaceLease", fn := fun _ => fun
  | [d1, d2, d3, d4] => { results := [.lit (.bool false)], args := [d1, d2, d3, d4] }
  | _ => none }
def SpaceLeaseWrongFalsely : Prop := spaceLeaseRow.holds Try.pinned (OpenSpec.ofChange spaceLeaseWrong)

/-- 'chirographlaw8.SpaceOldest': WHATEVER THE INPUT: true; the input reads as it did. -/
def spaceOldestSpec : ChangeSpec := { name := "spaceOldest", fn := fun _ => fun
  | [d1, d2] => { results := [.lit (.bool true)], args := [d1, d2] }
  | _ => none }
def spaceOldestRow : OpenClaim := { program := "ytelohjfiojpeeaa", sum := "502660e0f90fb08fdfb495918bb7f13875ae9d8cf966900fe25d2c941c95a0ac", func := "chirograph/chirographlaw8.SpaceOldest", spec := "spaceOldest", unfollowed := true, recurses := true, apart := false }
def SpaceOldestSaid : Prop := spaceOldestRow.holds Try.pinned (OpenSpec.ofChange spaceOldestSpec)

/-- ITS FALSE NEIGHBOUR: 'it returns false'. Refute it at one input. -/
def spaceOldestWrong : ChangeSpec := { name := "spaceOldest", fn := fun _ => fun
  | [d1, d2] => { results := [.lit (.bool false)], args := [d1, d2] }
  | _ => none }
def SpaceOldestWrongFalsely : Prop := spaceOldestRow.holds Try.pinned (OpenSpec.ofChange spaceOldestWrong)

/-- 'chirographlaw8.SpaceWaits': WHATEVER THE INPUT: true; the input reads as it did. -/
def spaceWaitsSpec : ChangeSpec := { name := "spaceWaits", fn := fun _ => fun
  | [d1, d2] => { results := [.lit (.bool true)], args := [d1, d2] }
  | _ => none }
def spaceWaitsRow : OpenClaim := { program := "ytelohjfiojpeeaa", sum := "502660e0f90fb08fdfb495918bb7f13875ae9d8cf966900fe25d2c941c95a0ac", func := "chirograph/chirographlaw8.SpaceWaits", spec := "spaceWaits", unfollowed := true, recurses := true, apart := false }
def SpaceWaitsSaid : Prop := spaceWaitsRow.holds Try.pinned (OpenSpec.ofChange spaceWaitsSpec)

/-- ITS FALSE NEIGHBOUR: 'it returns false'. Refute it at one input. -/
def spaceWaitsWrong : ChangeSpec := { name := "spaceWaits", fn := fun _ => fun
  | [d1, d2] => { results := [.lit (.bool false)], args := [d1, d2] }
  | _ => none }
def SpaceWaitsWrongFalsely : Prop := spaceWaitsRow.holds Try.pinned (OpenSpec.ofChange spaceWaitsWrong)

/-- 'chirographlaw8.SpaceCas': WHATEVER THE INPUT: true; the input reads as it did. -/
def spaceCasSpec : ChangeSpec := { name := "spaceCas", fn := fun _ => fun
  | [d1, d2] => { results := [.lit (.bool true)], args := [d1, d2] }
  | _ => none }
def spaceCasRow : OpenClaim := { program := "ytelohjfiojpeeaa", sum := "502660e0f90fb08fdfb495918bb7f13875ae9d8cf966900fe25d2c941c95a0ac", func := "chirograph/chirographlaw8.SpaceCas", spec := "spaceCas", unfollowed := true, recurses := true, apart := false }
def SpaceCasSaid : Prop := spaceCasRow.holds Try.pinned (OpenSpec.ofChange spaceCasSpec)

/-- ITS FALSE NEIGHBOUR: 'it returns false'. Refute it at one input. -/
def spaceCasWrong : ChangeSpec := { name := "spaceCas", fn := fun _ => fun
  | [d1, d2] => { results := [.lit (.bool false)], args := [d1, d2] }
  | _ => none }
def SpaceCasWrongFalsely : Prop := spaceCasRow.holds Try.pinned (OpenSpec.ofChange spaceCasWrong)

/-- 'chirographlaw8.SpaceFull': WHATEVER THE INPUT: true; the input reads as it did. -/
def spaceFullSpec : ChangeSpec := { name := "spaceFull", fn := fun _ => fun
  | [d1, d2, d3] => { results := [.lit (.bool true)], args := [d1, d2, d3] }
  | _ => none }
def spaceFullRow : OpenClaim := { program := "ytelohjfiojpeeaa", sum := "502660e0f90fb08fdfb495918bb7f13875ae9d8cf966900fe25d2c941c95a0ac", func := "chirograph/chirographlaw8.SpaceFull", spec := "spaceFull", unfollowed := true, recurses := true, apart := false }
def SpaceFullSaid : Prop := spaceFullRow.holds Try.pinned (OpenSpec.ofChange spaceFullSpec)

/-- ITS FALSE NEIGHBOUR: 'it returns false'. Refute it at one input. -/
def spaceFullWrong : ChangeSpec := { name := "spaceFull", fn := fun _ => fun
  | [d1, d2, d3] => { results := [.lit (.bool false)], args := [d1, d2, d3] }
  | _ => none }
def SpaceFullWrongFalsely : Prop := spaceFullRow.holds Try.pinned (OpenSpec.ofChange spaceFullWrong)

/-- 'chirographlaw8.SpaceTimes': WHATEVER THE INPUT: true; the input reads as it did. -/
def spaceTimesSpec : ChangeSpec := { name := "spaceTimes", fn := fun _ => fun
  | [d1, d2, d3] => { results := [.lit (.bool true)], args := [d1, d2, d3] }
  | _ => none }
def spaceTimesRow : OpenClaim := { program := "ytelohjfiojpeeaa", sum := "502660e0f90fb08fdfb495918bb7f13875ae9d8cf966900fe25d2c941c95a0ac", func := "chirograph/chirographlaw8.SpaceTimes", spec := "spaceTimes", unfollowed := true, recurses := true, apart := false }
def SpaceTimesSaid : Prop := spaceTimesRow.holds Try.pinned (OpenSpec.ofChange spaceTimesSpec)

/-- ITS FALSE NEIGHBOUR: 'it returns false'. Refute it at one input. -/
def spaceTimesWrong : ChangeSpec := { name := "spaceTimes", fn := fun _ => fun
  | [d1, d2, d3] => { results := [.lit (.bool false)], args := [d1, d2, d3] }
  | _ => none }
def SpaceTimesWrongFalsely : Prop := spaceTimesRow.holds Try.pinned (OpenSpec.ofChange spaceTimesWrong)

/-- 'chirographlaw8.SpaceAsks': WHATEVER THE INPUT: true; the input reads as it did. -/
def spaceAsksSpec : ChangeSpec := { name := "spaceAsks", fn := fun _ => fun
  | [d1, d2, d3, d4] => { results := [.lit (.bool true)], args := [d1, d2, d3, d4] }
  | _ => none }
def spaceAsksRow : OpenClaim := { program := "ytelohjfiojpeeaa", sum := "502660e0f90fb08fdfb495918bb7f13875ae9d8cf966900fe25d2c941c95a0ac", func := "chirograph/chirographlaw8.SpaceAsks", spec := "spaceAsks", unfollowed := true, recurses := true, apart := false }
def SpaceAsksSaid : Prop := spaceAsksRow.holds Try.pinned (OpenSpec.ofChange spaceAsksSpec)

/-- ITS FALSE NEIGHBOUR: 'it returns false'. Refute it at one input. -/
def spaceAsksWrong : ChangeSpec := { name := "spaceAsks", fn := fun _ => fun
  | [d1, d2, d3, d4] => { results := [.lit (.bool false)], args := [d1, d2, d3, d4] }
  | _ => none }
def SpaceAsksWrongFalsely : Prop := spaceAsksRow.holds Try.pinned (OpenSpec.ofChange spaceAsksWrong)

/-- 'chirographlaw8.SpacePlays': WHATEVER THE INPUT: true; the input reads as it did. -/
def spacePlaysSpec : ChangeSpec := { name := "spacePlays", fn := fun _ => fun
  | [d1, d2, d3] => { results := [.lit (.bool true)], args := [d1, d2, d3] }
  | _ => none }
def spacePlaysRow : OpenClaim := { program := "ytelohjfiojpeeaa", sum := "502660e0f90fb08fdfb495918bb7f13875ae9d8cf966900fe25d2c941c95a0ac", func := "chirograph/chirographlaw8.SpacePlays", spec := "spacePlays", unfollowed := true, recurses := true, apart := false }
def SpacePlaysSaid : Prop := spacePlaysRow.holds Try.pinned (OpenSpec.ofChange spacePlaysSpec)

/-- ITS FALSE NEIGHBOUR: 'it returns false'. Refute it at one input. -/
def spacePlaysWrong : ChangeSpec := { name := "spacePlays", fn := fun _ => fun
  | [d1, d2, d3] => { results := [.lit (.bool false)], args := [d1, d2, d3] }
  | _ => none }
def SpacePlaysWrongFalsely : Prop := spacePlaysRow.holds Try.pinned (OpenSpec.ofChange spacePlaysWrong)

/-- 'chirographlaw8.SpaceTwice': WHATEVER THE INPUT: true; the input reads as it did. -/
def spaceTwiceSpec : ChangeSpec := { name := "spaceTwice", fn := fun _ => fun
  | [d1, d2, d3] => { results := [.lit (.bool true)], args := [d1, d2, d3] }
  | _ => none }
def spaceTwiceRow : OpenClaim := { program := "ytelohjfiojpeeaa", sum := "502660e0f90fb08fdfb495918bb7f13875ae9d8cf966900fe25d2c941c95a0ac", func := "chirograph/chirographlaw8.SpaceTwice", spec := "spaceTwice", unfollowed := true, recurses := true, apart := false }
def SpaceTwiceSaid : Prop := spaceTwiceRow.holds Try.pinned (OpenSpec.ofChange spaceTwiceSpec)

/-- ITS FALSE NEIGHBOUR: 'it returns false'. Refute it at one input. -/
def spaceTwiceWrong : ChangeSpec := { name := "spaceTwice", fn := fun _ => fun
  | [d1, d2, d3] => { results := [.lit (.bool false)], args := [d1, d2, d3] }
  | _ => none }
def SpaceTwiceWrongFalsely : Prop := spaceTwiceRow.holds Try.pinned (OpenSpec.ofChange spaceTwiceWrong)

/-- 'chirographlaw8.SpaceDenied': WHATEVER THE INPUT: true; the input reads as it did. -/
def spaceDeniedSpec : ChangeSpec := { name := "spaceDenied", fn := fun _ => fun
  | [d1, d2, d3, d4] => { results := [.lit (.bool true)], args := [d1, d2, d3, d4] }
  | _ => none }
def spaceDeniedRow : OpenClaim := { program := "ytelohjfiojpeeaa", sum := "502660e0f90fb08fdfb495918bb7f13875ae9d8cf966900fe25d2c941c95a0ac", func := "chirograph/chirographlaw8.SpaceDenied", spec := "spaceDenied", unfollowed := true, recurses := true, apart := false }
def SpaceDeniedSaid : Prop := spaceDeniedRow.holds Try.pinned (OpenSpec.ofChange spaceDeniedSpec)

/-- ITS FALSE NEIGHBOUR: 'it returns false'. Refute it at one input. -/
def spaceDeniedWrong : ChangeSpec := { name := "spaceDenied", fn := fun _ => fun
  | [d1, d2, d3, d4] => { results := [.lit (.bool false)], args := [d1, d2, d3, d4] }
  | _ => none }
def SpaceDeniedWrongFalsely : Prop := spaceDeniedRow.holds Try.pinned (OpenSpec.ofChange spaceDeniedWrong)

/- THE SECOND FORM. 'bulk': how many values and letters a reading holds, each counted each time it is reached (what is shared counts as often as it is met; a slice's spare places count too). A statement '..UptoSaid' is the law's where the arguments, and the package variables that the reading takes, are together of bulk at most 1048576: NARROWER than '..Said'. Prove '..Said' where nothing that the law and all that it calls make is longer than what came in: it says more and counts as full. Else prove '..UptoSaid'. A law counts once. -/
mutual
def uptoBulk {H : Type} : DataW H → Nat
  | .lit (.string bytes) => bytes.length + 1
  | .lit _ => 1
  | .nil => 1
  | .ptr d => uptoBulk d + 1
  | .slice elems spare => uptoBulkAll elems + uptoBulkAll spare + 1
  | .agg parts => uptoBulkAll parts + 1
  | .iface _ d => uptoBulk d + 1
  | .map entries => uptoBulkEntries entries + 1
  | .held _ => 1
def uptoBulkAll {H : Type} : List (DataW H) → Nat
  | [] => 0
  | d :: r => uptoBulk d + uptoBulkAll r
def uptoBulkEntries {H : Type} : List (Lit × DataW H) → Nat
  | [] => 0
  | x :: r => uptoBulkEntry x + uptoBulkEntries r
def uptoBulkEntry {H : Type} : Lit × DataW H → Nat
  | (.string bytes, d) => bytes.length + uptoBulk d + 1
  | (_, d) => uptoBulk d + 1
 end
def uptoSmall : (H : Type) → List (DataW H) → Bool := fun _ ds => decide (uptoBulkAll ds ≤ 1048576)
def OpenSpec.upto (s : _root_.Go.ChangeSpec) : _root_.Go.OpenSpec := { _root_.Go.OpenSpec.ofChange s with cond := some uptoSmall }

/-- 'chirographlaw8.SpaceOwn', WHERE WHAT IT READS IS OF BULK AT MOST 1048576: true; the input reads as it did. -/
def spaceOwnUptoRow : OpenClaim := { program := "ytelohjfiojpeeaa", sum := "502660e0f90fb08fdfb495918bb7f13875ae9d8cf966900fe25d2c941c95a0ac", func := "chirograph/chirographlaw8.SpaceOwn", spec := "spaceOwn", unfollowed := true, recurses := true, apart := false, narrowed := true }
def SpaceOwnUptoSaid : Prop := spaceOwnUptoRow.holds Try.pinned (OpenSpec.upto spaceOwnSpec)

/-- 'chirographlaw8.SpaceMay', WHERE WHAT IT READS IS OF BULK AT MOST 1048576: true; the input reads as it did. -/
def spaceMayUptoRow : OpenClaim := { program := "ytelohjfiojpeeaa", sum := "502660e0f90fb08fdfb495918bb7f13875ae9d8cf966900fe25d2c941c95a0ac", func := "chirograph/chirographlaw8.SpaceMay", spec := "spaceMay", unfollowed := true, recurses := true, apart := false, narrowed := true }
def SpaceMayUptoSaid : Prop := spaceMayUptoRow.holds Try.pinned (OpenSpec.upto spaceMaySpec)

/-- 'chirographlaw8.SpaceLease', WHERE WHAT IT READS IS OF BULK AT MOST 1048576: true; the input reads as it did. -/
def spaceLeaseUptoRow : OpenClaim := { program := "ytelohjfiojpeeaa", sum := "502660e0f90fb08fdfb495918bb7f13875ae9d8cf966900fe25d2c941c95a0ac", func := "chirograph/chirographlaw8.SpaceLease", spec := "spaceLease", unfollowed := true, recurses := true, apart := false, narrowed := true }
def SpaceLeaseUptoSaid : Prop := spaceLeaseUptoRow.holds Try.pinned (OpenSpec.upto spaceLeaseSpec)

/-- 'chirographlaw8.SpaceOldest', WHERE WHAT IT READS IS OF BULK AT MOST 1048576: true; the input reads as it did. -/
def spaceOldestUptoRow : OpenClaim := { program := "ytelohjfiojpeeaa", sum := "502660e0f90fb08fdfb495918bb7f13875ae9d8cf966900fe25d2c941c95a0ac", func := "chirograph/chirographlaw8.SpaceOldest", spec := "spaceOldest", unfollowed := true, recurses := true, apart := false, narrowed := true }
def SpaceOldestUptoSaid : Prop := spaceOldestUptoRow.holds Try.pinned (OpenSpec.upto spaceOldestSpec)

/-- 'chirographlaw8.SpaceWaits', WHERE WHAT IT READS IS OF BULK AT MOST 1048576: true; the input reads as it did. -/
def spaceWaitsUptoRow : OpenClaim := { program := "ytelohjfiojpeeaa", sum := "502660e0f90fb08fdfb495918bb7f13875ae9d8cf966900fe25d2c941c95a0ac", func := "chirograph/chirographlaw8.SpaceWaits", spec := "spaceWaits", unfollowed := true, recurses := true, apart := false, narrowed := true }
def SpaceWaitsUptoSaid : Prop := spaceWaitsUptoRow.holds Try.pinned (OpenSpec.upto spaceWaitsSpec)

/-- 'chirographlaw8.SpaceCas', WHERE WHAT IT READS IS OF BULK AT MOST 1048576: true; the input reads as it did. -/
def spaceCasUptoRow : OpenClaim := { program := "ytelohjfiojpeeaa", sum := "502660e0f90fb08fdfb495918bb7f13875ae9d8cf966900fe25d2c941c95a0ac", func := "chirograph/chirographlaw8.SpaceCas", spec := "spaceCas", unfollowed := true, recurses := true, apart := false, narrowed := true }
def SpaceCasUptoSaid : Prop := spaceCasUptoRow.holds Try.pinned (OpenSpec.upto spaceCasSpec)

/-- 'chirographlaw8.SpaceFull', WHERE WHAT IT READS IS OF BULK AT MOST 1048576: true; the input reads as it did. -/
def spaceFullUptoRow : OpenClaim := { program := "ytelohjfiojpeeaa", sum := "502660e0f90fb08fdfb495918bb7f13875ae9d8cf966900fe25d2c941c95a0ac", func := "chirograph/chirographlaw8.SpaceFull", spec := "spaceFull", unfollowed := true, recurses := true, apart := false, narrowed := true }
def SpaceFullUptoSaid : Prop := spaceFullUptoRow.holds Try.pinned (OpenSpec.upto spaceFullSpec)

/-- 'chirographlaw8.SpaceTimes', WHERE WHAT IT READS IS OF BULK AT MOST 1048576: true; the input reads as it did. -/
def spaceTimesUptoRow : OpenClaim := { program := "ytelohjfiojpeeaa", sum := "502660e0f90fb08fdfb495918bb7f13875ae9d8cf966900fe25d2c941c95a0ac", func := "chirograph/chirographlaw8.SpaceTimes", spec := "spaceTimes", unfollowed := true, recurses := true, apart := false, narrowed := true }
def SpaceTimesUptoSaid : Prop := spaceTimesUptoRow.holds Try.pinned (OpenSpec.upto spaceTimesSpec)

/-- 'chirographlaw8.SpaceAsks', WHERE WHAT IT READS IS OF BULK AT MOST 1048576: true; the input reads as it did. -/
def spaceAsksUptoRow : OpenClaim := { program := "ytelohjfiojpeeaa", sum := "502660e0f90fb08fdfb495918bb7f13875ae9d8cf966900fe25d2c941c95a0ac", func := "chirograph/chirographlaw8.SpaceAsks", spec := "spaceAsks", unfollowed := true, recurses := true, apart := false, narrowed := true }
def SpaceAsksUptoSaid : Prop := spaceAsksUptoRow.holds Try.pinned (OpenSpec.upto spaceAsksSpec)

/-- 'chirographlaw8.SpacePlays', WHERE WHAT IT READS IS OF BULK AT MOST 1048576: true; the input reads as it did. -/
def spacePlaysUptoRow : OpenClaim := { program := "ytelohjfiojpeeaa", sum := "502660e0f90fb08fdfb495918bb7f13875ae9d8cf966900fe25d2c941c95a0ac", func := "chirograph/chirographlaw8.SpacePlays", spec := "spacePlays", unfollowed := true, recurses := true, apart := false, narrowed := true }
def SpacePlaysUptoSaid : Prop := spacePlaysUptoRow.holds Try.pinned (OpenSpec.upto spacePlaysSpec)

/-- 'chirographlaw8.SpaceTwice', WHERE WHAT IT READS IS OF BULK AT MOST 1048576: true; the input reads as it did. -/
def spaceTwiceUptoRow : OpenClaim := { program := "ytelohjfiojpeeaa", sum := "502660e0f90fb08fdfb495918bb7f13875ae9d8cf966900fe25d2c941c95a0ac", func := "chirograph/chirographlaw8.SpaceTwice", spec := "spaceTwice", unfollowed := true, recurses := true, apart := false, narrowed := true }
def SpaceTwiceUptoSaid : Prop := spaceTwiceUptoRow.holds Try.pinned (OpenSpec.upto spaceTwiceSpec)

/-- 'chirographlaw8.SpaceDenied', WHERE WHAT IT READS IS OF BULK AT MOST 1048576: true; the input reads as it did. -/
def spaceDeniedUptoRow : OpenClaim := { program := "ytelohjfiojpeeaa", sum := "502660e0f90fb08fdfb495918bb7f13875ae9d8cf966900fe25d2c941c95a0ac", func := "chirograph/chirographlaw8.SpaceDenied", spec := "spaceDenied", unfollowed := true, recurses := true, apart := false, narrowed := true }
def SpaceDeniedUptoSaid : Prop := spaceDeniedUptoRow.holds Try.pinned (OpenSpec.upto spaceDeniedSpec)

end Rows
end Go.Proofs.Ytelohjfiojpeeaa
