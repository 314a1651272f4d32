/-
  No cell of these rows narrows 'for every input' (looked for: loops, veiled, ifaces, maps, wideKeys, modest, calm, conditions, laid).
  DERIVED. THE GIVEN ROWS OF THIS SEAT. 12 by the template 'for every input the law returns true; each argument reads behind the call as it read before'; 0 by the template 'total and deterministic' (their statements: YtaoonjamlcdfaaaTotals.lean).
  GIVEN WITH THE SEED: the statements are not yours to turn. If you find one false, say at which input.
  Laid BY PROGRAM, IN A SANDBOX (cutbox-rows.mjs): the forced cells as the released guide's own fill.sh prints them over the translation 559fdb498f25e503… (all of the seat's roots in one cut). By AI agents, Wed Nov 11 2026. No macro, syntax, notation, axiom, sorry.
-/
import Derived.Test.YtaoonjamlcdfaaaChecked
import GoSem.Claim
import GoSem.ClaimJoined
import GoSem.ClaimMapViews
import Derived.JoinedTies
import Derived.KernelRfl
namespace Go.Proofs.Ytaoonjamlcdfaaa
/- THE CELL 'sum', in the pinned program and in every row, IS THE sha256 OF THE DUMP (.gsa) THAT YtaoonjamlcdfaaaProg.lean LOADS. Nothing in Lean hashes anything: it is a label: what it is worth is what the hold of that sum in a sandbox is worth. -/
noncomputable def Try.pinned : Pinned := { name := "ytaoonjamlcdfaaa", sum := "559fdb498f25e503e029d37967ed0db8363fa3330bc70c99a725018941c3f3d8", checked := Try.checked }
namespace Rows
def none {H : Type} : Left H := { results := [], args := [] }

/-- 'postriderlaw01.CellCounts': WHATEVER THE INPUT: true; the input reads as it did. -/
def cellCountsSpec : ChangeSpec := { name := "cellCounts", fn := fun _ => fun
  | [d1, d2] => { results := [.lit (.bool true)], args := [d1, d2] }
  | _ => none }
def cellCountsRow : OpenClaim := { program := "ytaoonjamlcdfaaa", sum := "559fdb498f25e503e029d37967ed0db8363fa3330bc70c99a725018941c3f3d8", func := "postrider/postriderlaw01.CellCounts", spec := "cellCounts", apart := false }
def CellCountsSaid : Prop := cellCountsRow.holds Try.pinned (OpenSpec.ofChange cellCountsSpec)

/-- ITS FALSE NEIGHBOUR: 'it returns false'. Refute it at one input. -/
def cellCountsWrong : ChangeSpec := { name := "cellCounts", fn := fun _ => fun
  | [d1, d2] => { results := [.lit (.bool false)], args := [d1, d2] }
  | _ => none }
def CellCountsWrongFalsely : Prop := cellCountsRow.holds Try.pinned (OpenSpec.ofChange cellCountsWrong)

/-- 'postriderlaw01.CellKeeps': WHATEVER THE INPUT: true; the input reads as it did. -/
def cellKeepsSpec : ChangeSpec := { name := "cellKeeps", fn := fun _ => fun
  | [d1, d2, d3, d4] => { results := [.lit (.bool true)], args := [d1, d2, d3, d4] }
  | _ => none }
def cellKeepsRow : OpenClaim := { program := "ytaoonjamlcdfaaa", sum := "559fdb498f25e503e029d37967ed0db8363fa3330bc70c99a725018941c3f3d8", func := "postrider/postriderlaw01.CellKeeps", spec := "cellKeeps", unfollowed := true, recurses := true, apart := false }
def CellKeepsSaid : Prop := cellKeepsRow.holds Try.pinned (OpenSpec.ofChange cellKeepsSpec)

/-- ITS FALSE NEIGHBOUR: 'it returns false'. Refute it at one input. -/
def cellKeepsWrong : ChangeSpec := { name := "cellKeeps", fn := fun _ => fun
  | [d1, d2, d3, d4] => { results := [.lit (.bool false)], args := [d1, d2, d3, d4] }
  | _ => none }
def CellKeepsWrongFalsely : Prop := cellKeepsRow.holds Try.pinned (OpenSpec.ofChange cellKeepsWrong)

/-- 'postriderlaw01.CellAlone': WHATEVER THE INPUT: true; the input reads as it did. -/
def cellAloneSpec : ChangeSpec := { name := "cellAlone", fn := fun _ => fun
  | [d] => { results := [.lit (.bool true)], args := [d] }
  | _ => none }
def cellAloneRow : OpenClaim := { program := "ytaoonjamlcdfaaa", sum := "559fdb498f25e503e029d37967ed0db8363fa3330bc70c99a725018941c3f3d8", func := "postrider/postriderlaw01.CellAlone", spec := "cellAlone", apart := false }
def CellAloneSaid : Prop := cellAloneRow.holds Try.pinned (OpenSpec.ofChange cellAloneSpec)

/-- ITS FALSE NEIGHBOUR: 'it returns false'. Refute it at one input. -/
def cellAloneWrong : ChangeSpec := { name := "cellAlone", fn := fun _ => fun
  | [d] => { results := [.lit (.bool false)], args := [d] }
  | _ => none }
def CellAloneWrongFalsely : Prop := cellAloneRow.holds Try.pinned (OpenSpec.ofChange cellAloneWrong)

/-- 'postriderlaw01.CellActs': WHATEVER THE INPUT: true; the input reads as it did. -/
def cellActsSpec : ChangeSpec := { name := "cellActs", fn := fun _ => fun
  | [d1, d2] => { results := [.lit (.bool true)], args := [d1, d2] }
  | _ => none }
def cellActsRow : OpenClaim := { program := "ytaoonjamlcdfaaa", sum := "559fdb498f25e503e029d37967ed0db8363fa3330bc70c99a725018941c3f3d8", func := "postrider/postriderlaw01.CellActs", spec := "cellActs", unfollowed := true, recurses := true, apart := false }
def CellActsSaid : Prop := cellActsRow.holds Try.pinned (OpenSpec.ofChange cellActsSpec)

/-- ITS FALSE NEIGHBOUR: 'it returns false'. Refute it at one input. -/
def cellActsWrong : ChangeSpec := { name := "cellActs", fn := fun _ => fun
  | [d1, d2] => { results := [.lit (.bool false)], args := [d1, d2] }
  | _ => none }
def CellActsWrongFalsely : Prop := cellActsRow.holds Try.pinned (OpenSpec.ofChange cellActsWrong)

/-- 'postriderlaw01.CellCopies': WHATEVER THE INPUT: true; the input reads as it did. -/
def cellCopiesSpec : ChangeSpec := { name := "cellCopies", fn := fun _ => fun
  | [d1, d2] => { results := [.lit (.bool true)], args := [d1, d2] }
  | _ => none }
def cellCopiesRow : OpenClaim := { program := "ytaoonjamlcdfaaa", sum := "559fdb498f25e503e029d37967ed0db8363fa3330bc70c99a725018941c3f3d8", func := "postrider/postriderlaw01.CellCopies", spec := "cellCopies", unfollowed := true, recurses := true, apart := false }
def CellCopiesSaid : Prop := cellCopiesRow.holds Try.pinned (OpenSpec.ofChange cellCopiesSpec)

/-- ITS FALSE NEIGHBOUR: 'it returns false'. Refute it at one input. -/
def cellCopiesWrong : ChangeSpec := { name := "cellCopies", fn := fun _ => fun
  | [d1, d2] => { results := [.lit (.bool false)], args := [d1, d2] }
  | _ => none }
def CellCopiesWrongFalsely : Prop := cellCopiesRow.holds Try.pinned (OpenSpec.ofChange cellCopiesWrong)

/-- 'postriderlaw02.SchedMalformed': WHATEVER THE INPUT: true; the input reads as it did. -/
def schedMalformedSpec : ChangeSpec := { name := "schedMalformed", fn := fun _ => fun
  | [d1, d2, d3, d4] => { results := [.lit (.bool true)], args := [d1, d2, d3, d4] }
  | _ => none }
def schedMalformedRow : OpenClaim := { program := "ytaoonjamlcdfaaa", sum := "559fdb498f25e503e029d37967ed0db8363fa3330bc70c99a725018941c3f3d8", func := "postrider/postriderlaw02.SchedMalformed", spec := "schedMalformed", unfollowed := true, recurses := true, apart := false }
def SchedMalformedSaid : Prop := schedMalformedRow.holds Try.pinned (OpenSpec.ofChange schedMalformedSpec)

/-- ITS FALSE NEIGHBOUR: 'it returns false'. Refute it at one input. -/
def schedMalformedWrong : ChangeSpec := { name := "schedMalformed", fn := fun _ => fun
  | [d1, d2, d3, d4] => { results := [.lit (.bool false)], args := [d1, d2, d3, d4] }
  | _ => none }
def SchedMalformedWrongFalsely : Prop := schedMalformedRow.holds Try.pinned (OpenSpec.ofChange schedMalformedWrong)

/-- 'postriderlaw02.SchedOne': WHATEVER THE INPUT: true; the input reads as it did. -/
def schedOneSpec : ChangeSpec := { name := "schedOne", fn := fun _ => fun
  | [d1, d2, d3] => { results := [.lit (.bool true)], args := [d1, d2, d3] }
  | _ => none }
def schedOneRow : OpenClaim := { program := "ytaoonjamlcdfaaa", sum := "559fdb498f25e503e029d37967ed0db8363fa3330bc70c99a725018941c3f3d8", func := "postrider/postriderlaw02.SchedOne", spec := "schedOne", unfollowed := true, recurses := true, apart := false }
def SchedOneSaid : Prop := schedOneRow.holds Try.pinned (OpenSpec.ofChange schedOneSpec)

/-- ITS FALSE NEIGHBOUR: 'it returns false'. Refute it at one input. -/
def schedOneWrong : ChangeSpec := { name := "schedOne", fn := fun _ => fun
  | [d1, d2, d3] => { results := [.lit (.bool false)], args := [d1, d2, d3] }
  | _ => none }
def SchedOneWrongFalsely : Prop := schedOneRow.holds Try.pinned (OpenSpec.ofChange schedOneWrong)

/-- 'postriderlaw02.SchedSteps': WHATEVER THE INPUT: true; the input reads as it did. -/
def schedStepsSpec : ChangeSpec := { name := "schedSteps", fn := fun _ => fun
  | [d1, d2, d3] => { results := [.lit (.bool true)], args := [d1, d2, d3] }
  | _ => none }
def schedStepsRow : OpenClaim := { program := "ytaoonjamlcdfaaa", sum := "559fdb498f25e503e029d37967ed0db8363fa3330bc70c99a725018941c3f3d8", func := "postrider/postriderlaw02.SchedSteps", spec := "schedSteps", unfollowed := true, recurses := true, apart := false }
def SchedStepsSaid : Prop := schedStepsRow.holds Try.pinned (OpenSpec.ofChange schedStepsSpec)

/-- ITS FALSE NEIGHBOUR: 'it returns false'. Refute it at one input. -/
def schedStepsWrong : ChangeSpec := { name := "schedSteps", fn := fun _ => fun
  | [d1, d2, d3] => { results := [.lit (.bool false)], args := [d1, d2, d3] }
  | _ => none }
def SchedStepsWrongFalsely : Prop := schedStepsRow.holds Try.pinned (OpenSpec.ofChange schedStepsWrong)

/-- 'postriderlaw02.SchedSwaps': WHATEVER THE INPUT: true; the input reads as it did. -/
def schedSwapsSpec : ChangeSpec := { name := "schedSwaps", fn := fun _ => fun
  | [d1, d2] => { results := [.lit (.bool true)], args := [d1, d2] }
  | _ => none }
def schedSwapsRow : OpenClaim := { program := "ytaoonjamlcdfaaa", sum := "559fdb498f25e503e029d37967ed0db8363fa3330bc70c99a725018941c3f3d8", func := "postrider/postriderlaw02.SchedSwaps", spec := "schedSwaps", unfollowed := true, recurses := true, apart := false }
def SchedSwapsSaid : Prop := schedSwapsRow.holds Try.pinned (OpenSpec.ofChange schedSwapsSpec)

/-- ITS FALSE NEIGHBOUR: 'it returns false'. Refute it at one input. -/
def schedSwapsWrong : ChangeSpec := { name := "schedSwaps", fn := fun _ => fun
  | [d1, d2] => { results := [.lit (.bool false)], args := [d1, d2] }
  | _ => none }
def SchedSwapsWrongFalsely : Prop := schedSwapsRow.holds Try.pinned (OpenSpec.ofChange schedSwapsWrong)

/-- 'postriderlaw02.SchedLocks': WHATEVER THE INPUT: true; the input reads as it did. -/
def schedLocksSpec : ChangeSpec := { name := "schedLocks", fn := fun _ => fun
  | [d1, d2] => { results := [.lit (.bool true)], args := [d1, d2] }
  | _ => none }
def schedLocksRow : OpenClaim := { program := "ytaoonjamlcdfaaa", sum := "559fdb498f25e503e029d37967ed0db8363fa3330bc70c99a725018941c3f3d8", func := "postrider/postriderlaw02.SchedLocks", spec := "schedLocks", unfollowed := true, recurses := true, apart := false }
def SchedLocksSaid : Prop := schedLocksRow.holds Try.pinned (OpenSpec.ofChange schedLocksSpec)

/-- ITS FALSE NEIGHBOUR: 'it returns false'. Refute it at one input. -/
def schedLocksWrong : ChangeSpec := { name := "schedLocks", fn := fun _ => fun
  | [d1, d2] => { results := [.lit (.bool false)], args := [d1, d2] }
  | _ => none }
def SchedLocksWrongFalsely : Prop := schedLocksRow.holds Try.pinned (OpenSpec.ofChange schedLocksWrong)

/-- 'postriderlaw02.SchedFair': WHATEVER THE INPUT: true; the input reads as it did. -/
def schedFairSpec : ChangeSpec := { name := "schedFair", fn := fun _ => fun
  | [d1, d2, d3] => { results := [.lit (.bool true)], args := [d1, d2, d3] }
  | _ => none }
def schedFairRow : OpenClaim := { program := "ytaoonjamlcdfaaa", sum := "559fdb498f25e503e029d37967ed0db8363fa3330bc70c99a725018941c3f3d8", func := "postrider/postriderlaw02.SchedFair", spec := "schedFair", unfollowed := true, recurses := true, apart := false }
def SchedFairSaid : Prop := schedFairRow.holds Try.pinned (OpenSpec.ofChange schedFairSpec)

/-- ITS FALSE NEIGHBOUR: 'it returns false'. Refute it at one input. -/
def schedFairWrong : ChangeSpec := { name := "schedFair", fn := fun _ => fun
  | [d1, d2, d3] => { results := [.lit (.bool false)], args := [d1, d2, d3] }
  | _ => none }
def SchedFairWrongFalsely : Prop := schedFairRow.holds Try.pinned (OpenSpec.ofChange schedFairWrong)

/-- 'postriderlaw02.SchedVoid': WHATEVER THE INPUT: true; the input reads as it did. -/
def schedVoidSpec : ChangeSpec := { name := "schedVoid", fn := fun _ => fun
  | [d] => { results := [.lit (.bool true)], args := [d] }
  | _ => none }
def schedVoidRow : OpenClaim := { program := "ytaoonjamlcdfaaa", sum := "559fdb498f25e503e029d37967ed0db8363fa3330bc70c99a725018941c3f3d8", func := "postrider/postriderlaw02.SchedVoid", spec := "schedVoid", unfollowed := true, recurses := true, apart := false }
def SchedVoidSaid : Prop := schedVoidRow.holds Try.pinned (OpenSpec.ofChange schedVoidSpec)

/-- ITS FALSE NEIGHBOUR: 'it returns false'. Refute it at one input. -/
def schedVoidWrong : ChangeSpec := { name := "schedVoid", fn := fun _ => fun
  | [d] => { results := [.lit (.bool false)], args := [d] }
  | _ => none }
def SchedVoidWrongFalsely : Prop := schedVoidRow.holds Try.pinned (OpenSpec.ofChange schedVoidWrong)

/- THE SECOND FORM. 'bulk': how many values and letters a reading holds, each counted each time it is reached (what is shared counts as often as it is met; a slice's spare places count too). A statement '..UptoSaid' is the law's where the arguments, and the package variables that the reading takes, are together of bulk at most 1048576: NARROWER than '..Said'. Prove '..Said' where nothing that the law and all that it calls make is longer than what came in: it says more and counts as full. Else prove '..UptoSaid'. A law counts once. -/
mutual
def uptoBulk {H : Type} : DataW H → Nat
  | .lit (.string bytes) => bytes.length + 1
  | .lit _ => 1
  | .nil => 1
  | .ptr d => uptoBulk d + 1
  | .slice elems spare => uptoBulkAll elems + uptoBulkAll spare + 1
  | .agg parts => uptoBulkAll parts + 1
  | .iface _ d => uptoBulk d + 1
  | .map entries => uptoBulkEntries entries + 1
  | .held _ => 1
def uptoBulkAll {H : Type} : List (DataW H) → Nat
  | [] => 0
  | d :: r => uptoBulk d + uptoBulkAll r
def uptoBulkEntries {H : Type} : List (Lit × DataW H) → Nat
  | [] => 0
  | x :: r => uptoBulkEntry x + uptoBulkEntries r
def uptoBulkEntry {H : Type} : Lit × DataW H → Nat
  | (.string bytes, d) => bytes.length + uptoBulk d + 1
  | (_, d) => uptoBulk d + 1
 end
def uptoSmall : (H : Type) → List (DataW H) → Bool := fun _ ds => decide (uptoBulkAll ds ≤ 1048576)
def OpenSpec.upto (s : _root_.Go.ChangeSpec) : _root_.Go.OpenSpec := { _root_.Go.OpenSpec.ofChange s with cond := some uptoSmall }

/-- 'postriderlaw01.CellCounts', WHERE WHAT IT READS IS OF BULK AT MOST 1048576: true; the input reads as it did. -/
def cellCountsUptoRow : OpenClaim := { program := "ytaoonjamlcdfaaa", sum := "559fdb498f25e503e029d37967ed0db8363fa3330bc70c99a725018941c3f3d8", func := "postrider/postriderlaw01.CellCounts", spec := "cellCounts", apart := false, narrowed := true }
def CellCountsUptoSaid : Prop := cellCountsUptoRow.holds Try.pinned (OpenSpec.upto cellCountsSpec)

/-- 'postriderlaw01.CellKeeps', WHERE WHAT IT READS IS OF BULK AT MOST 1048576: true; the input reads as it did. -/
def cellKeepsUptoRow : OpenClaim := { program := "ytaoonjamlcdfaaa", sum := "559fdb498f25e503e029d37967ed0db8363fa3330bc70c99a725018941c3f3d8", func := "postrider/postriderlaw01.CellKeeps", spec := "cellKeeps", unfollowed := true, recurses := true, apart := false, narrowed := true }
def CellKeepsUptoSaid : Prop := cellKeepsUptoRow.holds Try.pinned (OpenSpec.upto cellKeepsSpec)

/-- 'postriderlaw01.CellAlone', WHERE WHAT IT READS IS OF BULK AT MOST 1048576: true; the input reads as it did. -/
def cellAloneUptoRow : OpenClaim := { program := "ytaoonjamlcdfaaa", sum := "559fdb498f25e503e029d37967ed0db8363fa3330bc70c99a725018941c3f3d8", func := "postrider/postriderlaw01.CellAlone", spec := "cellAlone", apart := false, narrowed := true }
def CellAloneUptoSaid : Prop := cellAloneUptoRow.holds Try.pinned (OpenSpec.upto cellAloneSpec)

/-- 'postriderlaw01.CellActs', WHERE WHAT IT READS IS OF BULK AT MOST 1048576: true; the input reads as it did. -/
def cellActsUptoRow : OpenClaim := { program := "ytaoonjamlcdfaaa", sum := "559fdb498f25e503e029d37967ed0db8363fa3330bc70c99a725018941c3f3d8", func := "postrider/postriderlaw01.CellActs", spec := "cellActs", unfollowed := true, recurses := true, apart := false, narrowed := true }
def CellActsUptoSaid : Prop := cellActsUptoRow.holds Try.pinned (OpenSpec.upto cellActsSpec)

/-- 'postriderlaw01.CellCopies', WHERE WHAT IT READS IS OF BULK AT MOST 1048576: true; the input reads as it did. -/
def cellCopiesUptoRow : OpenClaim := { program := "ytaoonjamlcdfaaa", sum := "559fdb498f25e503e029d37967ed0db8363fa3330bc70c99a725018941c3f3d8", func := "postrider/postriderlaw01.CellCopies", spec := "cellCopies", unfollowed := true, recurses := true, apart := false, narrowed := true }
def CellCopiesUptoSaid : Prop := cellCopiesUptoRow.holds Try.pinned (OpenSpec.upto cellCopiesSpec)

/-- 'postriderlaw02.SchedMalformed', WHERE WHAT IT READS IS OF BULK AT MOST 1048576: true; the input reads as it did. -/
def schedMalformedUptoRow : OpenClaim := { program := "ytaoonjamlcdfaaa", sum := "559fdb498f25e503e029d37967ed0db8363fa3330bc70c99a725018941c3f3d8", func := "postrider/postriderlaw02.SchedMalformed", spec := "schedMalformed", unfollowed := true, recurses := true, apart := false, narrowed := true }
def SchedMalformedUptoSaid : Prop := schedMalformedUptoRow.holds Try.pinned (OpenSpec.upto schedMalformedSpec)

/-- 'postriderlaw02.SchedOne', WHERE WHAT IT READS IS OF BULK AT MOST 1048576: true; the input reads as it did. -/
def schedOneUptoRow : OpenClaim := { program := "ytaoonjamlcdfaaa", sum := "559fdb498f25e503e029d37967ed0db8363fa3330bc70c99a725018941c3f3d8", func := "postrider/postriderlaw02.SchedOne", spec := "schedOne", unfollowed := true, recurses := true, apart := false, narrowed := true }
def SchedOneUptoSaid : Prop := schedOneUptoRow.holds Try.pinned (OpenSpec.upto schedOneSpec)

/-- 'postriderlaw02.SchedSteps', WHERE WHAT IT READS IS OF BULK AT MOST 1048576: true; the input reads as it did. -/
def schedStepsUptoRow : OpenClaim := { program := "ytaoonjamlcdfaaa", sum := "559fdb498f25e503e029d37967ed0db8363fa3330bc70c99a725018941c3f3d8", func := "postrider/postriderlaw02.SchedSteps", spec := "schedSteps", unfollowed := true, recurses := true, apart := false, narrowed := true }
def SchedStepsUptoSaid : Prop := schedStepsUptoRow.holds Try.pinned (OpenSpec.upto schedStepsSpec)

/-- 'postriderlaw02.SchedSwaps', WHERE WHAT IT READS IS OF BULK AT MOST 1048576: true; the input reads as it did. -/
def schedSwapsUptoRow : OpenClaim := { program := "ytaoonjamlcdfaaa", sum := "559fdb498f25e503e029d37967ed0db8363fa3330bc70c99a725018941c3f3d8", func := "postrider/postriderlaw02.SchedSwaps", spec := "schedSwaps", unfollowed := true, recurses := true, apart := false, narrowed := true }
def SchedSwapsUptoSaid : Prop := schedSwapsUptoRow.holds Try.pinned (OpenSpec.upto schedSwapsSpec)

/-- 'postriderlaw02.SchedLocks', WHERE WHAT IT READS IS OF BULK AT MOST 1048576: true; the input reads as it did. -/
def schedLocksUptoRow : OpenClaim := { program := "ytaoonjamlcdfaaa", sum := "559fdb498f25e503e029d37967ed0db8363fa3330bc70c99a725018941c3f3d8", func := "postrider/postriderlaw02.SchedLocks", spec := "schedLocks", unfollowed := true, recurses := true, apart := false, narrowed := true }
def SchedLocksUptoSaid : Prop := schedLocksUptoRow.holds Try.pinned (OpenSpec.upto schedLocksSpec)

/-- 'postriderlaw02.SchedFair', WHERE WHAT IT READS IS OF BULK AT MOST 1048576: true; the input reads as it did. -/
def schedFairUptoRow : OpenClaim := { program := "ytaoonjamlcdfaaa", sum := "559fdb498f25e503e029d37967ed0db8363fa3330bc70c99a725018941c3f3d8", func := "postrider/postriderlaw02.SchedFair", spec := "schedFair", unfollowed := true, recurses := true, apart := false, narrowed := true }
def SchedFairUptoSaid : Prop := schedFairUptoRow.holds Try.pinned (OpenSpec.upto schedFairSpec)

/-- 'postriderlaw02.SchedVoid', WHERE WHAT IT READS IS OF BULK AT MOST 1048576: true; the input reads as it did. -/
def schedVoidUptoRow : OpenClaim := { program := "ytaoonjamlcdfaaa", sum := "559fdb498f25e503e029d37967ed0db8363fa3330bc70c99a725018941c3f3d8", func := "postrider/postriderlaw02.SchedVoid", spec := "schedVoid", unfollowed := true, recurses := true, apart := false, narrowed := true }
def SchedVoidUptoSaid : Prop := schedVoidUptoRow.holds Try.pinned (OpenSpec.upto schedVoidSpec)

end Rows
end Go.Proofs.Ytaoonjamlcdfaaa
