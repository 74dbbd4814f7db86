/-
  No cell of these rows narrows 'for every input' (looked for: loops, veiled, ifaces, maps, wideKeys, modest, calm, conditions, laid).
  DERIVED. THE GIVEN ROWS OF THIS SEAT. 2 by the template 'for every input the law returns true; each argument reads behind the call as it read before'; 0 by the template 'total and deterministic' (their statements: YtchibcgnppelkaaTotals.lean).
  GIVEN WITH THE SEED: the statements are not yours to turn. If you find one false, say at which input.
  Laid BY PROGRAM, IN A SANDBOX (cutbox-rows.mjs): the forced cells as the released guide's own fill.sh prints them over the translation 37d452ef02f2ac54… (all of the seat's roots in one cut). By AI agents, Wed Nov 11 2026. No macro, syntax, notation, axiom, sorry.
-/
import Derived.Test.YtchibcgnppelkaaChecked
import GoSem.Claim
import GoSem.ClaimJoined
import GoSem.ClaimMapViews
import Derived.JoinedTies
import Derived.KernelRfl
namespace Go.Proofs.Ytchibcgnppelkaa
/- THE CELL 'sum', in the pinned program and in every row, IS THE sha256 OF THE DUMP (.gsa) THAT YtchibcgnppelkaaProg.lean LOADS. Nothing in Lean hashes anything: it is a label: what it is worth is what the hold of that sum in a sandbox is worth. -/
noncomputable def Try.pinned : Pinned := { name := "ytchibcgnppelkaa", sum := "37d452ef02f2ac5438c9ada348304fa69f58b6873aaf6d3c353b8e86d16590a9", checked := Try.checked }
namespace Rows
def none {H : Type} : Left H := { results := [], args := [] }

/-- 'lightshiplaw24.FsmMoves': WHATEVER THE INPUT: true; the input reads as it did. -/
def fsmMovesSpec : ChangeSpec := { name := "fsmMoves", fn := fun _ => fun
  | [d1, d2, d3] => { results := [.lit (.bool true)], args := [d1, d2, d3] }
  | _ => none }
def fsmMovesRow : OpenClaim := { program := "ytchibcgnppelkaa", sum := "37d452ef02f2ac5438c9ada348304fa69f58b6873aaf6d3c353b8e86d16590a9", func := "lightship/lightshiplaw24.FsmMoves", spec := "fsmMoves", unfollowed := true, recurses := true, apart := false }
def FsmMovesSaid : Prop := fsmMovesRow.holds Try.pinned (OpenSpec.ofChange fsmMovesSpec)

/-- ITS FALSE NEIGHBOUR: 'it returns false'. Refute it at one input. -/
def fsmMovesWrong : ChangeSpec := { name := "fsmMoves", fn := fun _ => fun
  | [d1, d2, d3] => { results := [.lit (.bool false)], args := [d1, d2, d3] }
  | _ => none }
def FsmMovesWrongFalsely : Prop := fsmMovesRow.holds Try.pinned (OpenSpec.ofChange fsmMovesWrong)

/-- 'lightshiplaw24.FsmEnds': WHATEVER THE INPUT: true; the input reads as it did. -/
def fsmEndsSpec : ChangeSpec := { name := "fsmEnds", fn := fun _ => fun
  | [d] => { results := [.lit (.bool true)], args := [d] }
  | _ => none }
def fsmEndsRow : OpenClaim := { program := "ytchibcgnppelkaa", sum := "37d452ef02f2ac5438c9ada348304fa69f58b6873aaf6d3c353b8e86d16590a9", func := "lightship/lightshiplaw24.FsmEnds", spec := "fsmEnds", unfollowed := true, recurses := true, apart := false }
def FsmEndsSaid : Prop := fsmEndsRow.holds Try.pinned (OpenSpec.ofChange fsmEndsSpec)

/-- ITS FALSE NEIGHBOUR: 'it returns false'. Refute it at one input. -/
def fsmEndsWrong : ChangeSpec := { name := "fsmEnds", fn := fun _ => fun
  | [d] => { results := [.lit (.bool false)], args := [d] }
  | _ => none }
def FsmEndsWrongFalsely : Prop := fsmEndsRow.holds Try.pinned (OpenSpec.ofChange fsmEndsWrong)

/- THE SECOND FORM. 'bulk': how many values and letters a reading holds, each counted each time it is reached (what is shared counts as often as it is met; a slice's spare places count too). A statement '..UptoSaid' is the law's where the arguments, and the package variables that the reading takes, are together of bulk at most 1048576: NARROWER than '..Said'. Prove '..Said' where nothing that the law and all that it calls make is longer than what came in: it says more and counts as full. Else prove '..UptoSaid'. A law counts once. -/
mutual
def uptoBulk {H : Type} : DataW H → Nat
  | .lit (.string bytes) => bytes.length + 1
  | .lit _ => 1
  | .nil => 1
  | .ptr d => uptoBulk d + 1
  | .slice elems spare => uptoBulkAll elems + uptoBulkAll spare + 1
  | .agg parts => uptoBulkAll parts + 1
  | .iface _ d => uptoBulk d + 1
  | .map entries => uptoBulkEntries entries + 1
  | .held _ => 1
def uptoBulkAll {H : Type} : List (DataW H) → Nat
  | [] => 0
  | d :: r => uptoBulk d + uptoBulkAll r
def uptoBulkEntries {H : Type} : List (Lit × DataW H) → Nat
  | [] => 0
  | x :: r => uptoBulkEntry x + uptoBulkEntries r
def uptoBulkEntry {H : Type} : Lit × DataW H → Nat
  | (.string bytes, d) => bytes.length + uptoBulk d + 1
  | (_, d) => uptoBulk d + 1
 end
def uptoSmall : (H : Type) → List (DataW H) → Bool := fun _ ds => decide (uptoBulkAll ds ≤ 1048576)
def OpenSpec.upto (s : _root_.Go.ChangeSpec) : _root_.Go.OpenSpec := { _root_.Go.OpenSpec.ofChange s with cond := some uptoSmall }

/-- 'lightshiplaw24.FsmMoves', WHERE WHAT IT READS IS OF BULK AT MOST 1048576: true; the input reads as it did. -/
def fsmMovesUptoRow : OpenClaim := { program := "ytchibcgnppelkaa", sum := "37d452ef02f2ac5438c9ada348304fa69f58b6873aaf6d3c353b8e86d16590a9", func := "lightship/lightshiplaw24.FsmMoves", spec := "fsmMoves", unfollowed := true, recurses := true, apart := false, narrowed := true }
def FsmMovesUptoSaid : Prop := fsmMovesUptoRow.holds Try.pinned (OpenSpec.upto fsmMovesSpec)

/-- 'lightshiplaw24.FsmEnds', WHERE WHAT IT READS IS OF BULK AT MOST 1048576: true; the input reads as it did. -/
def fsmEndsUptoRow : OpenClaim := { program := "ytchibcgnppelkaa", sum := "37d452ef02f2ac5438c9ada348304fa69f58b6873aaf6d3c353b8e86d16590a9", func := "lightship/lightshiplaw24.FsmEnds", spec := "fsmEnds", unfollowed := true, recurses := true, apart := false, narrowed := true }
def FsmEndsUptoSaid : Prop := fsmEndsUptoRow.holds Try.pinned (OpenSpec.upto fsmEndsSpec)

end Rows
end Go.Proofs.Ytchibcgnppelkaa
