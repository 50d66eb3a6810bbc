/-
  No cell of these rows narrows 'for every input' (looked for: loops, veiled, ifaces, maps, wideKeys, modest, calm, conditions, laid).
  DERIVED. THE GIVEN ROWS OF THIS SEAT. 5 by the template 'for every input the law returns true; each argument reads behind the call as it read before'; 0 by the template 'total and deterministic' (their statements: YtjjjbojkmjgjlaaTotals.lean).
  GIVEN WITH THE SEED: the statements are not yours to turn. If you find one false, say at which input.
  Laid BY PROGRAM, IN A SANDBOX (cutbox-rows.mjs): the forced cells as the released guide's own fill.sh prints them over the translation 95a8322a37ea0276… (all of the seat's roots in one cut). By AI agents, Wed Nov 11 2026. No macro, syntax, notation, axiom, sorry.
-/
import Derived.Test.YtjjjbojkmjgjlaaChecked
import GoSem.Claim
import GoSem.ClaimJoined
import GoSem.ClaimMapViews
import Derived.JoinedTies
import Derived.KernelRfl
namespace Go.Proofs.Ytjjjbojkmjgjlaa
/- THE CELL 'sum', in the pinned program and in every row, IS THE sha256 OF THE DUMP (.gsa) THAT YtjjjbojkmjgjlaaProg.lean LOADS. Nothing in Lean hashes anything: it is a label: what it is worth is what the hold of that sum in a sandbox is worth. -/
noncomputable def Try.pinned : Pinned := { name := "ytjjjbojkmjgjlaa", sum := "95a8322a37ea02767a040ef6b343638d2decfe2e27320eeffa32083842d56954", checked := Try.checked }
namespace Rows
def none {H : Type} : Left H := { results := [], args := [] }

/-- 'countersignlaw5.DrawAll': WHATEVER THE INPUT: true; the input reads as it did. -/
def drawAllSpec : ChangeSpec := { name := "drawAll", fn := fun _ => fun
  | [d1, d2, d3, d4, d5, d6] => { results := [.lit (.bool true)], args := [d1, d2, d3, d4, d5, d6] }
  | _ => none }
def drawAllRow : OpenClaim := { program := "ytjjjbojkmjgjlaa", sum := "95a8322a37ea02767a040ef6b343638d2decfe2e27320eeffa32083842d56954", func := "countersign/countersignlaw5.DrawAll", spec := "drawAll", apart := false }
def DrawAllSaid : Prop := drawAllRow.holds Try.pinned (OpenSpec.ofChange drawAllSpec)

/-- ITS FALSE NEIGHBOUR: 'it returns false'. Refute it at one input. -/
def drawAllWrong : ChangeSpec := { name := "drawAll", fn := fun _ => fun
  | [d1, d2, d3, d4, d5, d6] => { results := [.lit (.bool false)], args := [d1, d2, d3, d4, d5, d6] }
  | _ => none }
def DrawAllWrongFalsely : Prop := drawAllRow.holds Try.pinned (OpenSpec.ofChange drawAllWrong)

/-- 'countersignlaw5.DrawOnce': WHATEVER THE INPUT: true; the input reads as it did. -/
def drawOnceSpec : ChangeSpec := { name := "drawOnce", fn := fun _ => fun
  | [d] => { results := [.lit (.bool true)], args := [d] }
  | _ => none }
def drawOnceRow : OpenClaim := { program := "ytjjjbojkmjgjlaa", sum := "95a8322a37ea02767a040ef6b343638d2decfe2e27320eeffa32083842d56954", func := "countersign/countersignlaw5.DrawOnce", spec := "drawOnce", apart := false }
def DrawOnceSaid : Prop := drawOnceRow.holds Try.pinned (OpenSpec.ofChange drawOnceSpec)

/-- ITS FALSE NEIGHBOUR: 'it returns false'. Refute it at one input. -/
def drawOnceWrong : ChangeSpec := { name := "drawOnce", fn := fun _ => fun
  | [d] => { results := [.lit (.bool false)], args := [d] }
  | _ => none }
def DrawOnceWrongFalsely : Prop := drawOnceRow.holds Try.pinned (OpenSpec.ofChange drawOnceWrong)

/-- 'countersignlaw5.DrawLives': WHATEVER THE INPUT: true; the input reads as it did. -/
def drawLivesSpec : ChangeSpec := { name := "drawLives", fn := fun _ => fun
  | [d1, d2, d3] => { results := [.lit (.bool true)], args := [d1, d2, d3] }
  | _ => none }
def drawLivesRow : OpenClaim := { program := "ytjjjbojkmjgjlaa", sum := "95a8322a37ea02767a040ef6b343638d2decfe2e27320eeffa32083842d56954", func := "countersign/countersignlaw5.DrawLives", spec := "drawLives", apart := false }
def DrawLivesSaid : Prop := drawLivesRow.holds Try.pinned (OpenSpec.ofChange drawLivesSpec)

/-- ITS FALSE NEIGHBOUR: 'it returns false'. Refute it at one input. -/
def drawLivesWrong : ChangeSpec := { name := "drawLives", fn := fun _ => fun
  | [d1, d2, d3] => { results := [.lit (.bool false)], args := [d1, d2, d3] }
  | _ => none }
def DrawLivesWrongFalsely : Prop := drawLivesRow.holds Try.pinned (OpenSpec.ofChange drawLivesWrong)

/-- 'countersignlaw26.PoolPlays': WHATEVER THE INPUT: true; the input reads as it did. -/
def poolPlaysSpec : ChangeSpec := { name := "poolPlays", fn := fun _ => fun
  | [d1, d2, d3] => { results := [.lit (.bool true)], args := [d1, d2, d3] }
  | _ => none }
def poolPlaysRow : OpenClaim := { program := "ytjjjbojkmjgjlaa", sum := "95a8322a37ea02767a040ef6b343638d2decfe2e27320eeffa32083842d56954", func := "countersign/countersignlaw26.PoolPlays", spec := "poolPlays", apart := false }
def PoolPlaysSaid : Prop := poolPlaysRow.holds Try.pinned (OpenSpec.ofChange poolPlaysSpec)

/-- ITS FALSE NEIGHBOUR: 'it returns false'. Refute it at one input. -/
def poolPlaysWrong : ChangeSpec := { name := "poolPlays", fn := fun _ => fun
  | [d1, d2, d3] => { results := [.lit (.bool false)], args := [d1, d2, d3] }
  | _ => none }
def PoolPlaysWrongFalsely : Prop := poolPlaysRow.holds Try.pinned (OpenSpec.ofChange poolPlaysWrong)

/-- 'countersignlaw26.PoolAsks': WHATEVER THE INPUT: true; the input reads as it did. -/
def poolAsksSpec : ChangeSpec := { name := "poolAsks", fn := fun _ => fun
  | [d1, d2, d3, d4, d5] => { results := [.lit (.bool true)], args := [d1, d2, d3, d4, d5] }
  | _ => none }
def poolAsksRow : OpenClaim := { program := "ytjjjbojkmjgjlaa", sum := "95a8322a37ea02767a040ef6b343638d2decfe2e27320eeffa32083842d56954", func := "countersign/countersignlaw26.PoolAsks", spec := "poolAsks", apart := false }
def PoolAsksSaid : Prop := poolAsksRow.holds Try.pinned (OpenSpec.ofChange poolAsksSpec)

/-- ITS FALSE NEIGHBOUR: 'it returns false'. Refute it at one input. -/
def poolAsksWrong : ChangeSpec := { name := "poolAsks", fn := fun _ => fun
  | [d1, d2, d3, d4, d5] => { results := [.lit (.bool false)], args := [d1, d2, d3, d4, d5] }
  | _ => none }
def PoolAsksWrongFalsely : Prop := poolAsksRow.holds Try.pinned (OpenSpec.ofChange poolAsksWrong)

/- THE SECOND FORM. 'bulk': how many values and letters a reading holds, each counted each time it is reached (what is shared counts as often as it is met; a slice's spare places count too). A statement '..UptoSaid' is the law's where the arguments, and the package variables that the reading takes, are together of bulk at most 1048576: NARROWER than '..Said'. Prove '..Said' where nothing that the law and all that it calls make is longer than what came in: it says more and counts as full. Else prove '..UptoSaid'. A law counts once. -/
mutual
def uptoBulk {H : Type} : DataW H → Nat
  | .lit (.string bytes) => bytes.length + 1
  | .lit _ => 1
  | .nil => 1
  | .ptr d => uptoBulk d + 1
  | .slice elems spare => uptoBulkAll elems + uptoBulkAll spare + 1
  | .agg parts => uptoBulkAll parts + 1
  | .iface _ d => uptoBulk d + 1
  | .map entries => uptoBulkEntries entries + 1
  | .held _ => 1
def uptoBulkAll {H : Type} : List (DataW H) → Nat
  | [] => 0
  | d :: r => uptoBulk d + uptoBulkAll r
def uptoBulkEntries {H : Type} : List (Lit × DataW H) → Nat
  | [] => 0
  | x :: r => uptoBulkEntry x + uptoBulkEntries r
def uptoBulkEntry {H : Type} : Lit × DataW H → Nat
  | (.string bytes, d) => bytes.length + uptoBulk d + 1
  | (_, d) => uptoBulk d + 1
 end
def uptoSmall : (H : Type) → List (DataW H) → Bool := fun _ ds => decide (uptoBulkAll ds ≤ 1048576)
def OpenSpec.upto (s : _root_.Go.ChangeSpec) : _root_.Go.OpenSpec := { _root_.Go.OpenSpec.ofChange s with cond := some uptoSmall }

/-- 'countersignlaw5.DrawAll', WHERE WHAT IT READS IS OF BULK AT MOST 1048576: true; the input reads as it did. -/
def drawAllUptoRow : OpenClaim := { program := "ytjjjbojkmjgjlaa", sum := "95a8322a37ea02767a040ef6b343638d2decfe2e27320eeffa32083842d56954", func := "countersign/countersignlaw5.DrawAll", spec := "drawAll", apart := false, narrowed := true }
def DrawAllUptoSaid : Prop := drawAllUptoRow.holds Try.pinned (OpenSpec.upto drawAllSpec)

/-- 'countersignlaw5.DrawOnce', WHERE WHAT IT READS IS OF BULK AT MOST 1048576: true; the input reads as it did. -/
def drawOnceUptoRow : OpenClaim := { program := "ytjjjbojkmjgjlaa", sum := "95a8322a37ea02767a040ef6b343638d2decfe2e27320eeffa32083842d56954", func := "countersign/countersignlaw5.DrawOnce", spec := "drawOnce", apart := false, narrowed := true }
def DrawOnceUptoSaid : Prop := drawOnceUptoRow.holds Try.pinned (OpenSpec.upto drawOnceSpec)

/-- 'countersignlaw5.DrawLives', WHERE WHAT IT READS IS OF BULK AT MOST 1048576: true; the input reads as it did. -/
def drawLivesUptoRow : OpenClaim := { program := "ytjjjbojkmjgjlaa", sum := "95a8322a37ea02767a040ef6b343638d2decfe2e27320eeffa32083842d56954", func := "countersign/countersignlaw5.DrawLives", spec := "drawLives", apart := false, narrowed := true }
def DrawLivesUptoSaid : Prop := drawLivesUptoRow.holds Try.pinned (OpenSpec.upto drawLivesSpec)

/-- 'countersignlaw26.PoolPlays', WHERE WHAT IT READS IS OF BULK AT MOST 1048576: true; the input reads as it did. -/
def poolPlaysUptoRow : OpenClaim := { program := "ytjjjbojkmjgjlaa", sum := "95a8322a37ea02767a040ef6b343638d2decfe2e27320eeffa32083842d56954", func := "countersign/countersignlaw26.PoolPlays", spec := "poolPlays", apart := false, narrowed := true }
def PoolPlaysUptoSaid : Prop := poolPlaysUptoRow.holds Try.pinned (OpenSpec.upto poolPlaysSpec)

/-- 'countersignlaw26.PoolAsks', WHERE WHAT IT READS IS OF BULK AT MOST 1048576: true; the input reads as it did. -/
def poolAsksUptoRow : OpenClaim := { program := "ytjjjbojkmjgjlaa", sum := "95a8322a37ea02767a040ef6b343638d2decfe2e27320eeffa32083842d56954", func := "countersign/countersignlaw26.PoolAsks", spec := "poolAsks", apart := false, narrowed := true }
def PoolAsksUptoSaid : Prop := poolAsksUptoRow.holds Try.pinned (OpenSpec.upto poolAsksSpec)

end Rows
end Go.Proofs.Ytjjjbojkmjgjlaa
