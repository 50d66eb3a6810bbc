/-
  NARROWER THAN 'FOR EVERY INPUT', by the rows' own cells (each row's printed sentence says how): TermMay: loops.
  DERIVED. THE GIVEN ROWS OF THIS SEAT. 13 by the template 'for every input the law returns true; each argument reads behind the call as it read before'; 0 by the template 'total and deterministic' (their statements: YtmnmhehddbemkaaTotals.lean).
  GIVEN WITH THE SEED: the statements are not yours to turn. If you find one false, say at which input.
  Laid BY PROGRAM, IN A SANDBOX (cutbox-rows.mjs): the forced cells as the released guide's own fill.sh prints them over the translation 0a30658604b7c9e1… (all of the seat's roots in one cut). By AI agents, Wed Nov 11 2026. No macro, syntax, notation, axiom, sorry.
-/
import Derived.Test.YtmnmhehddbemkaaChecked
import GoSem.Claim
import GoSem.ClaimJoined
import GoSem.ClaimMapViews
import Derived.JoinedTies
import Derived.KernelRfl
namespace Go.Proofs.Ytmnmhehddbemkaa
/- THE CELL 'sum', in the pinned program and in every row, IS THE sha256 OF THE DUMP (.gsa) THAT YtmnmhehddbemkaaProg.lean LOADS. Nothing in Lean hashes anything: it is a label: what it is worth is what the hold of that sum in a sandbox is worth. -/
noncomputable def Try.pinned : Pinned := { name := "ytmnmhehddbemkaa", sum := "0a30658604b7c9e13fac38d39338e34bd7638902593b8eb31f6b28237fbc9fa9", checked := Try.checked }
namespace Rows
def none {H : Type} : Left H := { results := [], args := [] }

/-- 'countersignlaw4.ProofSound': WHATEVER THE INPUT: true; the input reads as it did. -/
def proofSoundSpec : ChangeSpec := { name := "proofSound", fn := fun _ => fun
  | [d1, d2] => { results := [.lit (.bool true)], args := [d1, d2] }
  | _ => none }
def proofSoundRow : OpenClaim := { program := "ytmnmhehddbemkaa", sum := "0a30658604b7c9e13fac38d39338e34bd7638902593b8eb31f6b28237fbc9fa9", func := "countersign/countersignlaw4.ProofSound", spec := "proofSound", unfollowed := true, recurses := true, apart := false }
def ProofSoundSaid : Prop := proofSoundRow.holds Try.pinned (OpenSpec.ofChange proofSoundSpec)

/-- ITS FALSE NEIGHBOUR: 'it returns false'. Refute it at one input. -/
def proofSoundWrong : ChangeSpec := { name := "proofSound", fn := fun _ => fun
  | [d1, d2] => { results := [.lit (.bool false)], args := [d1, d2] }
  | _ => none }
def ProofSoundWrongFalsely : Prop := proofSoundRow.holds Try.pinned (OpenSpec.ofChange proofSoundWrong)

/-- 'countersignlaw4.ProofMany': WHATEVER THE INPUT: true; the input reads as it did. -/
def proofManySpec : ChangeSpec := { name := "proofMany", fn := fun _ => fun
  | [d] => { results := [.lit (.bool true)], args := [d] }
  | _ => none }
def proofManyRow : OpenClaim := { program := "ytmnmhehddbemkaa", sum := "0a30658604b7c9e13fac38d39338e34bd7638902593b8eb31f6b28237fbc9fa9", func := "countersign/countersignlaw4.ProofMany", spec := "proofMany", unfollowed := true, recurses := true, apart := false }
def ProofManySaid : Prop := proofManyRow.holds Try.pinned (OpenSpec.ofChange proofManySpec)

/-- ITS FALSE NEIGHBOUR: 'it returns false'. Refute it at one input. -/
def proofManyWrong : ChangeSpec := { name := "proofMany", fn := fun _ => fun
  | [d] => { results := [.lit (.bool false)], args := [d] }
  | _ => none }
def ProofManyWrongFalsely : Prop := proofManyRow.holds Try.pinned (OpenSpec.ofChange proofManyWrong)

/-- 'countersignlaw4.ProofRun': WHATEVER THE INPUT: true; the input reads as it did. -/
def proofRunSpec : ChangeSpec := { name := "proofRun", fn := fun _ => fun
  | [d1, d2, d3, d4] => { results := [.lit (.bool true)], args := [d1, d2, d3, d4] }
  | _ => none }
def proofRunRow : OpenClaim := { program := "ytmnmhehddbemkaa", sum := "0a30658604b7c9e13fac38d39338e34bd7638902593b8eb31f6b28237fbc9fa9", func := "countersign/countersignlaw4.ProofRun", spec := "proofRun", inPlace := ["internal/bytealg.abigen_runtime_cmpstring"], unfollowed := true, recurses := true, apart := false }
def ProofRunSaid : Prop := proofRunRow.holds Try.pinned (OpenSpec.ofChange proofRunSpec)

/-- ITS FALSE NEIGHBOUR: 'it returns false'. Refute it at one input. -/
def proofRunWrong : ChangeSpec := { name := "proofRun", fn := fun _ => fun
  | [d1, d2, d3, d4] => { results := [.lit (.bool false)], args := [d1, d2, d3, d4] }
  | _ => none }
def ProofRunWrongFalsely : Prop := proofRunRow.holds Try.pinned (OpenSpec.ofChange proofRunWrong)

/-- 'countersignlaw4.ProofWay': WHATEVER THE INPUT: true; the input reads as it did. -/
def proofWaySpec : ChangeSpec := { name := "proofWay", fn := fun _ => fun
  | [d1, d2] => { results := [.lit (.bool true)], args := [d1, d2] }
  | _ => none }
def proofWayRow : OpenClaim := { program := "ytmnmhehddbemkaa", sum := "0a30658604b7c9e13fac38d39338e34bd7638902593b8eb31f6b28237fbc9fa9", func := "countersign/countersignlaw4.ProofWay", spec := "proofWay", inPlace := ["internal/bytealg.abigen_runtime_cmpstring"], unfollowed := true, recurses := true, apart := false }
def ProofWaySaid : Prop := proofWayRow.holds Try.pinned (OpenSpec.ofChange proofWaySpec)

/-- ITS FALSE NEIGHBOUR: 'it returns false'. Refute it at one input. -/
def proofWayWrong : ChangeSpec := { name := "proofWay", fn := fun _ => fun
  | [d1, d2] => { results := [.lit (.bool false)], args := [d1, d2] }
  | _ => none }
def ProofWayWrongFalsely : Prop := proofWayRow.holds Try.pinned (OpenSpec.ofChange proofWayWrong)

/-- 'countersignlaw3.KnowAll': WHATEVER THE INPUT: true; the input reads as it did. -/
def knowAllSpec : ChangeSpec := { name := "knowAll", fn := fun _ => fun
  | [d1, d2] => { results := [.lit (.bool true)], args := [d1, d2] }
  | _ => none }
def knowAllRow : OpenClaim := { program := "ytmnmhehddbemkaa", sum := "0a30658604b7c9e13fac38d39338e34bd7638902593b8eb31f6b28237fbc9fa9", func := "countersign/countersignlaw3.KnowAll", spec := "knowAll", inPlace := ["internal/bytealg.abigen_runtime_cmpstring"], unfollowed := true, recurses := true, apart := false }
def KnowAllSaid : Prop := knowAllRow.holds Try.pinned (OpenSpec.ofChange knowAllSpec)

/-- ITS FALSE NEIGHBOUR: 'it returns false'. Refute it at one input. -/
def knowAllWrong : ChangeSpec := { name := "knowAll", fn := fun _ => fun
  | [d1, d2] => { results := [.lit (.bool false)], args := [d1, d2] }
  | _ => none }
def KnowAllWrongFalsely : Prop := knowAllRow.holds Try.pinned (OpenSpec.ofChange knowAllWrong)

/-- 'countersignlaw3.KnowGrows': WHATEVER THE INPUT: true; the input reads as it did. -/
def knowGrowsSpec : ChangeSpec := { name := "knowGrows", fn := fun _ => fun
  | [d1, d2, d3] => { results := [.lit (.bool true)], args := [d1, d2, d3] }
  | _ => none }
def knowGrowsRow : OpenClaim := { program := "ytmnmhehddbemkaa", sum := "0a30658604b7c9e13fac38d39338e34bd7638902593b8eb31f6b28237fbc9fa9", func := "countersign/countersignlaw3.KnowGrows", spec := "knowGrows", inPlace := ["internal/bytealg.abigen_runtime_cmpstring"], unfollowed := true, recurses := true, apart := false }
def KnowGrowsSaid : Prop := knowGrowsRow.holds Try.pinned (OpenSpec.ofChange knowGrowsSpec)

/-- ITS FALSE NEIGHBOUR: 'it returns false'. Refute it at one input. -/
def knowGrowsWrong : ChangeSpec := { name := "knowGrows", fn := fun _ => fun
  | [d1, d2, d3] => { results := [.lit (.bool false)], args := [d1, d2, d3] }
  | _ => none }
def KnowGrowsWrongFalsely : Prop := knowGrowsRow.holds Try.pinned (OpenSpec.ofChange knowGrowsWrong)

/-- 'countersignlaw3.KnowOpened': WHATEVER THE INPUT: true; the input reads as it did. -/
def knowOpenedSpec : ChangeSpec := { name := "knowOpened", fn := fun _ => fun
  | [d] => { results := [.lit (.bool true)], args := [d] }
  | _ => none }
def knowOpenedRow : OpenClaim := { program := "ytmnmhehddbemkaa", sum := "0a30658604b7c9e13fac38d39338e34bd7638902593b8eb31f6b28237fbc9fa9", func := "countersign/countersignlaw3.KnowOpened", spec := "knowOpened", inPlace := ["internal/bytealg.abigen_runtime_cmpstring"], unfollowed := true, recurses := true, apart := false }
def KnowOpenedSaid : Prop := knowOpenedRow.holds Try.pinned (OpenSpec.ofChange knowOpenedSpec)

/-- ITS FALSE NEIGHBOUR: 'it returns false'. Refute it at one input. -/
def knowOpenedWrong : ChangeSpec := { name := "knowOpened", fn := fun _ => fun
  | [d] => { results := [.lit (.bool false)], args := [d] }
  | _ => none }
def KnowOpenedWrongFalsely : Prop := knowOpenedRow.holds Try.pinned (OpenSpec.ofChange knowOpenedWrong)

/-- 'countersignlaw3.KnowHidden': WHATEVER THE INPUT: true; the input reads as it did. -/
def knowHiddenSpec : ChangeSpec := { name := "knowHidden", fn := fun _ => fun
  | [d1, d2] => { results := [.lit (.bool true)], args := [d1, d2] }
  | _ => none }
def knowHiddenRow : OpenClaim := { program := "ytmnmhehddbemkaa", sum := "0a30658604b7c9e13fac38d39338e34bd7638902593b8eb31f6b28237fbc9fa9", func := "countersign/countersignlaw3.KnowHidden", spec := "knowHidden", inPlace := ["internal/bytealg.abigen_runtime_cmpstring"], unfollowed := true, recurses := true, apart := false }
def KnowHiddenSaid : Prop := knowHiddenRow.holds Try.pinned (OpenSpec.ofChange knowHiddenSpec)

/-- ITS FALSE NEIGHBOUR: 'it returns false'. Refute it at one input. -/
def knowHiddenWrong : ChangeSpec := { name := "knowHidden", fn := fun _ => fun
  | [d1, d2] => { results := [.lit (.bool false)], args := [d1, d2] }
  | _ => none }
def KnowHiddenWrongFalsely : Prop := knowHiddenRow.holds Try.pinned (OpenSpec.ofChange knowHiddenWrong)

/-- 'countersignlaw1.TermMay': WHATEVER THE INPUT: true; the input reads as it did. -/
def termMaySpec : ChangeSpec := { name := "termMay", fn := fun _ => fun
  | [d1, d2] => { results := [.lit (.bool true)], args := [d1, d2] }
  | _ => none }
def termMayRow : OpenClaim := { program := "ytmnmhehddbemkaa", sum := "0a30658604b7c9e13fac38d39338e34bd7638902593b8eb31f6b28237fbc9fa9", func := "countersign/countersignlaw1.TermMay", spec := "termMay", inPlace := ["internal/bytealg.abigen_runtime_cmpstring"], unfollowed := true, recurses := true, loops := true, apart := false }
def TermMaySaid : Prop := termMayRow.holds Try.pinned (OpenSpec.ofChange termMaySpec)

/-- ITS FALSE NEIGHBOUR: 'it returns false'. Refute it at one input. -/
def termMayWrong : ChangeSpec := { name := "termMay", fn := fun _ => fun
  | [d1, d2] => { results := [.lit (.bool false)], args := [d1, d2] }
  | _ => none }
def TermMayWrongFalsely : Prop := termMayRow.holds Try.pinned (OpenSpec.ofChange termMayWrong)

/-- 'countersignlaw1.TermParts': WHATEVER THE INPUT: true; the input reads as it did. -/
def termPartsSpec : ChangeSpec := { name := "termParts", fn := fun _ => fun
  | [d1, d2] => { results := [.lit (.bool true)], args := [d1, d2] }
  | _ => none }
def termPartsRow : OpenClaim := { program := "ytmnmhehddbemkaa", sum := "0a30658604b7c9e13fac38d39338e34bd7638902593b8eb31f6b28237fbc9fa9", func := "countersign/countersignlaw1.TermParts", spec := "termParts", inPlace := ["internal/bytealg.abigen_runtime_cmpstring"], unfollowed := true, recurses := true, apart := false }
def TermPartsSaid : Prop := termPartsRow.holds Try.pinned (OpenSpec.ofChange termPartsSpec)

/-- ITS FALSE NEIGHBOUR: 'it returns false'. Refute it at one input. -/
def termPartsWrong : ChangeSpec := { name := "termParts", fn := fun _ => fun
  | [d1, d2] => { results := [.lit (.bool false)], args := [d1, d2] }
  | _ => none }
def TermPartsWrongFalsely : Prop := termPartsRow.holds Try.pinned (OpenSpec.ofChange termPartsWrong)

/-- 'countersignlaw1.TermOrder': WHATEVER THE INPUT: true; the input reads as it did. -/
def termOrderSpec : ChangeSpec := { name := "termOrder", fn := fun _ => fun
  | [d1, d2, d3] => { results := [.lit (.bool true)], args := [d1, d2, d3] }
  | _ => none }
def termOrderRow : OpenClaim := { program := "ytmnmhehddbemkaa", sum := "0a30658604b7c9e13fac38d39338e34bd7638902593b8eb31f6b28237fbc9fa9", func := "countersign/countersignlaw1.TermOrder", spec := "termOrder", inPlace := ["internal/bytealg.abigen_runtime_cmpstring"], unfollowed := true, recurses := true, apart := false }
def TermOrderSaid : Prop := termOrderRow.holds Try.pinned (OpenSpec.ofChange termOrderSpec)

/-- ITS FALSE NEIGHBOUR: 'it returns false'. Refute it at one input. -/
def termOrderWrong : ChangeSpec := { name := "termOrder", fn := fun _ => fun
  | [d1, d2, d3] => { results := [.lit (.bool false)], args := [d1, d2, d3] }
  | _ => none }
def TermOrderWrongFalsely : Prop := termOrderRow.holds Try.pinned (OpenSpec.ofChange termOrderWrong)

/-- 'countersignlaw1.TermSort': WHATEVER THE INPUT: true; the input reads as it did. -/
def termSortSpec : ChangeSpec := { name := "termSort", fn := fun _ => fun
  | [d] => { results := [.lit (.bool true)], args := [d] }
  | _ => none }
def termSortRow : OpenClaim := { program := "ytmnmhehddbemkaa", sum := "0a30658604b7c9e13fac38d39338e34bd7638902593b8eb31f6b28237fbc9fa9", func := "countersign/countersignlaw1.TermSort", spec := "termSort", inPlace := ["internal/bytealg.abigen_runtime_cmpstring"], unfollowed := true, recurses := true, apart := false }
def TermSortSaid : Prop := termSortRow.holds Try.pinned (OpenSpec.ofChange termSortSpec)

/-- ITS FALSE NEIGHBOUR: 'it returns false'. Refute it at one input. -/
def termSortWrong : ChangeSpec := { name := "termSort", fn := fun _ => fun
  | [d] => { results := [.lit (.bool false)], args := [d] }
  | _ => none }
def TermSortWrongFalsely : Prop := termSortRow.holds Try.pinned (OpenSpec.ofChange termSortWrong)

/-- 'countersignlaw1.TermBounds': WHATEVER THE INPUT: true; the input reads as it did. -/
def termBoundsSpec : ChangeSpec := { name := "termBounds", fn := fun _ => fun
  | [d] => { results := [.lit (.bool true)], args := [d] }
  | _ => none }
def termBoundsRow : OpenClaim := { program := "ytmnmhehddbemkaa", sum := "0a30658604b7c9e13fac38d39338e34bd7638902593b8eb31f6b28237fbc9fa9", func := "countersign/countersignlaw1.TermBounds", spec := "termBounds", inPlace := ["internal/bytealg.abigen_runtime_cmpstring"], unfollowed := true, recurses := true, apart := false }
def TermBoundsSaid : Prop := termBoundsRow.holds Try.pinned (OpenSpec.ofChange termBoundsSpec)

/-- ITS FALSE NEIGHBOUR: 'it returns false'. Refute it at one input. -/
def termBoundsWrong : ChangeSpec := { name := "termBounds", fn := fun _ => fun
  | [d] => { results := [.lit (.bool false)], args := [d] }
  | _ => none }
def TermBoundsWrongFalsely : Prop := termBoundsRow.holds Try.pinned (OpenSpec.ofChange termBoundsWrong)

/- THE SECOND FORM. 'bulk': how many values and letters a reading holds, each counted each time it is reached (what is shared counts as often as it is met; a slice's spare places count too). A statement '..UptoSaid' is the law's where the arguments, and the package variables that the reading takes, are together of bulk at most 1048576: NARROWER than '..Said'. Prove '..Said' where nothing that the law and all that it calls make is longer than what came in: it says more and counts as full. Else prove '..UptoSaid'. A law counts once. -/
mutual
def uptoBulk {H : Type} : DataW H → Nat
  | .lit (.string bytes) => bytes.length + 1
  | .lit _ => 1
  | .nil => 1
  | .ptr d => uptoBulk d + 1
  | .slice elems spare => uptoBulkAll elems + uptoBulkAll spare + 1
  | .agg parts => uptoBulkAll parts + 1
  | .iface _ d => uptoBulk d + 1
  | .map entries => uptoBulkEntries entries + 1
  | .held _ => 1
def uptoBulkAll {H : Type} : List (DataW H) → Nat
  | [] => 0
  | d :: r => uptoBulk d + uptoBulkAll r
def uptoBulkEntries {H : Type} : List (Lit × DataW H) → Nat
  | [] => 0
  | x :: r => uptoBulkEntry x + uptoBulkEntries r
def uptoBulkEntry {H : Type} : Lit × DataW H → Nat
  | (.string bytes, d) => bytes.length + uptoBulk d + 1
  | (_, d) => uptoBulk d + 1
 end
def uptoSmall : (H : Type) → List (DataW H) → Bool := fun _ ds => decide (uptoBulkAll ds ≤ 1048576)
def OpenSpec.upto (s : _root_.Go.ChangeSpec) : _root_.Go.OpenSpec := { _root_.Go.OpenSpec.ofChange s with cond := some uptoSmall }

/-- 'countersignlaw4.ProofSound', WHERE WHAT IT READS IS OF BULK AT MOST 1048576: true; the input reads as it did. -/
def proofSoundUptoRow : OpenClaim := { program := "ytmnmhehddbemkaa", sum := "0a30658604b7c9e13fac38d39338e34bd7638902593b8eb31f6b28237fbc9fa9", func := "countersign/countersignlaw4.ProofSound", spec := "proofSound", unfollowed := true, recurses := true, apart := false, narrowed := true }
def ProofSoundUptoSaid : Prop := proofSoundUptoRow.holds Try.pinned (OpenSpec.upto proofSoundSpec)

/-- 'countersignlaw4.ProofMany', WHERE WHAT IT READS IS OF BULK AT MOST 1048576: true; the input reads as it did. -/
def proofManyUptoRow : OpenClaim := { program := "ytmnmhehddbemkaa", sum := "0a30658604b7c9e13fac38d39338e34bd7638902593b8eb31f6b28237fbc9fa9", func := "countersign/countersignlaw4.ProofMany", spec := "proofMany", unfollowed := true, recurses := true, apart := false, narrowed := true }
def ProofManyUptoSaid : Prop := proofManyUptoRow.holds Try.pinned (OpenSpec.upto proofManySpec)

/-- 'countersignlaw4.ProofRun', WHERE WHAT IT READS IS OF BULK AT MOST 1048576: true; the input reads as it did. -/
def proofRunUptoRow : OpenClaim := { program := "ytmnmhehddbemkaa", sum := "0a30658604b7c9e13fac38d39338e34bd7638902593b8eb31f6b28237fbc9fa9", func := "countersign/countersignlaw4.ProofRun", spec := "proofRun", inPlace := ["internal/bytealg.abigen_runtime_cmpstring"], unfollowed := true, recurses := true, apart := false, narrowed := true }
def ProofRunUptoSaid : Prop := proofRunUptoRow.holds Try.pinned (OpenSpec.upto proofRunSpec)

/-- 'countersignlaw4.ProofWay', WHERE WHAT IT READS IS OF BULK AT MOST 1048576: true; the input reads as it did. -/
def proofWayUptoRow : OpenClaim := { program := "ytmnmhehddbemkaa", sum := "0a30658604b7c9e13fac38d39338e34bd7638902593b8eb31f6b28237fbc9fa9", func := "countersign/countersignlaw4.ProofWay", spec := "proofWay", inPlace := ["internal/bytealg.abigen_runtime_cmpstring"], unfollowed := true, recurses := true, apart := false, narrowed := true }
def ProofWayUptoSaid : Prop := proofWayUptoRow.holds Try.pinned (OpenSpec.upto proofWaySpec)

/-- 'countersignlaw3.KnowAll', WHERE WHAT IT READS IS OF BULK AT MOST 1048576: true; the input reads as it did. -/
def knowAllUptoRow : OpenClaim := { program := "ytmnmhehddbemkaa", sum := "0a30658604b7c9e13fac38d39338e34bd7638902593b8eb31f6b28237fbc9fa9", func := "countersign/countersignlaw3.KnowAll", spec := "knowAll", inPlace := ["internal/bytealg.abigen_runtime_cmpstring"], unfollowed := true, recurses := true, apart := false, narrowed := true }
def KnowAllUptoSaid : Prop := knowAllUptoRow.holds Try.pinned (OpenSpec.upto knowAllSpec)

/-- 'countersignlaw3.KnowGrows', WHERE WHAT IT READS IS OF BULK AT MOST 1048576: true; the input reads as it did. -/
def knowGrowsUptoRow : OpenClaim := { program := "ytmnmhehddbemkaa", sum := "0a30658604b7c9e13fac38d39338e34bd7638902593b8eb31f6b28237fbc9fa9", func := "countersign/countersignlaw3.KnowGrows", spec := "knowGrows", inPlace := ["internal/bytealg.abigen_runtime_cmpstring"], unfollowed := true, recurses := true, apart := false, narrowed := true }
def KnowGrowsUptoSaid : Prop := knowGrowsUptoRow.holds Try.pinned (OpenSpec.upto knowGrowsSpec)

/-- 'countersignlaw3.KnowOpened', WHERE WHAT IT READS IS OF BULK AT MOST 1048576: true; the input reads as it did. -/
def knowOpenedUptoRow : OpenClaim := { program := "ytmnmhehddbemkaa", sum := "0a30658604b7c9e13fac38d39338e34bd7638902593b8eb31f6b28237fbc9fa9", func := "countersign/countersignlaw3.KnowOpened", spec := "knowOpened", inPlace := ["internal/bytealg.abigen_runtime_cmpstring"], unfollowed := true, recurses := true, apart := false, narrowed := true }
def KnowOpenedUptoSaid : Prop := knowOpenedUptoRow.holds Try.pinned (OpenSpec.upto knowOpenedSpec)

/-- 'countersignlaw3.KnowHidden', WHERE WHAT IT READS IS OF BULK AT MOST 1048576: true; the input reads as it did. -/
def knowHiddenUptoRow : OpenClaim := { program := "ytmnmhehddbemkaa", sum := "0a30658604b7c9e13fac38d39338e34bd7638902593b8eb31f6b28237fbc9fa9", func := "countersign/countersignlaw3.KnowHidden", spec := "knowHidden", inPlace := ["internal/bytealg.abigen_runtime_cmpstring"], unfollowed := true, recurses := true, apart := false, narrowed := true }
def KnowHiddenUptoSaid : Prop := knowHiddenUptoRow.holds Try.pinned (OpenSpec.upto knowHiddenSpec)

/-- 'countersignlaw1.TermMay', WHERE WHAT IT READS IS OF BULK AT MOST 1048576: true; the input reads as it did. -/
def termMayUptoRow : OpenClaim := { program := "ytmnmhehddbemkaa", sum := "0a30658604b7c9e13fac38d39338e34bd7638902593b8eb31f6b28237fbc9fa9", func := "countersign/countersignlaw1.TermMay", spec := "termMay", inPlace := ["internal/bytealg.abigen_runtime_cmpstring"], unfollowed := true, recurses := true, loops := true, apart := false, narrowed := true }
def TermMayUptoSaid : Prop := termMayUptoRow.holds Try.pinned (OpenSpec.upto termMaySpec)

/-- 'countersignlaw1.TermParts', WHERE WHAT IT READS IS OF BULK AT MOST 1048576: true; the input reads as it did. -/
def termPartsUptoRow : OpenClaim := { program := "ytmnmhehddbemkaa", sum := "0a30658604b7c9e13fac38d39338e34bd7638902593b8eb31f6b28237fbc9fa9", func := "countersign/countersignlaw1.TermParts", spec := "termParts", inPlace := ["internal/bytealg.abigen_runtime_cmpstring"], unfollowed := true, recurses := true, apart := false, narrowed := true }
def TermPartsUptoSaid : Prop := termPartsUptoRow.holds Try.pinned (OpenSpec.upto termPartsSpec)

/-- 'countersignlaw1.TermOrder', WHERE WHAT IT READS IS OF BULK AT MOST 1048576: true; the input reads as it did. -/
def termOrderUptoRow : OpenClaim := { program := "ytmnmhehddbemkaa", sum := "0a30658604b7c9e13fac38d39338e34bd7638902593b8eb31f6b28237fbc9fa9", func := "countersign/countersignlaw1.TermOrder", spec := "termOrder", inPlace := ["internal/bytealg.abigen_runtime_cmpstring"], unfollowed := true, recurses := true, apart := false, narrowed := true }
def TermOrderUptoSaid : Prop := termOrderUptoRow.holds Try.pinned (OpenSpec.upto termOrderSpec)

/-- 'countersignlaw1.TermSort', WHERE WHAT IT READS IS OF BULK AT MOST 1048576: true; the input reads as it did. -/
def termSortUptoRow : OpenClaim := { program := "ytmnmhehddbemkaa", sum := "0a30658604b7c9e13fac38d39338e34bd7638902593b8eb31f6b28237fbc9fa9", func := "countersign/countersignlaw1.TermSort", spec := "termSort", inPlace := ["internal/bytealg.abigen_runtime_cmpstring"], unfollowed := true, recurses := true, apart := false, narrowed := true }
def TermSortUptoSaid : Prop := termSortUptoRow.holds Try.pinned (OpenSpec.upto termSortSpec)

/-- 'countersignlaw1.TermBounds', WHERE WHAT IT READS IS OF BULK AT MOST 1048576: true; the input reads as it did. -/
def termBoundsUptoRow : OpenClaim := { program := "ytmnmhehddbemkaa", sum := "0a30658604b7c9e13fac38d39338e34bd7638902593b8eb31f6b28237fbc9fa9", func := "countersign/countersignlaw1.TermBounds", spec := "termBounds", inPlace := ["internal/bytealg.abigen_runtime_cmpstring"], unfollowed := true, recurses := true, apart := false, narrowed := true }
def TermBoundsUptoSaid : Prop := termBoundsUptoRow.holds Try.pinned (OpenSpec.upto termBoundsSpec)

end Rows
end Go.Proofs.Ytmnmhehddbemkaa
