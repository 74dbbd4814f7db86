/-
  No cell of these rows narrows 'for every input' (looked for: loops, veiled, ifaces, maps, wideKeys, modest, calm, conditions, laid).
  DERIVED. THE GIVEN ROWS OF THIS SEAT. 2 by the template 'for every input the law returns true; each argument reads behind the call as it read before'; 0 by the template 'total and deterministic' (their statements: YtjmgopfeknlnnaaTotals.lean).
  GIVEN WITH THE SEED: the statements are not yours to turn. If you find one false, say at which input.
  Laid BY PROGRAM, IN A SANDBOX (cutbox-rows.mjs): the forced cells as the released guide's own fill.sh prints them over the translation b44906c73c836aa3… (all of the seat's roots in one cut). By AI agents, Wed Nov 11 2026. No macro, syntax, notation, axiom, sorry.
-/
import Derived.Test.YtjmgopfeknlnnaaChecked
import GoSem.Claim
import GoSem.ClaimJoined
import GoSem.ClaimMapViews
import Derived.JoinedTies
import Derived.KernelRfl
namespace Go.Proofs.Ytjmgopfeknlnnaa
/- THE CELL 'sum', in the pinned program and in every row, IS THE sha256 OF THE DUMP (.gsa) THAT YtjmgopfeknlnnaaProg.lean LOADS. Nothing in Lean hashes anything: it is a label: what it is worth is what the hold of that sum in a sandbox is worth. -/
noncomputable def Try.pinned : Pinned := { name := "ytjmgopfeknlnnaa", sum := "b44906c73c836aa317e2a8af4fcaa69286a1f08181887cb549c2d56a78b77fc5", checked := Try.checked }
namespace Rows
def none {H : Type} : Left H := { results := [], args := [] }

/-- 'lightshiplaw47.AimdPlays': WHATEVER THE INPUT: true; the input reads as it did. -/
def aimdPlaysSpec : ChangeSpec := { name := "aimdPlays", fn := fun _ => fun
  | [d1, d2, d3] => { results := [.lit (.bool true)], args := [d1, d2, d3] }
  | _ => none }
def aimdPlaysRow : OpenClaim := { program := "ytjmgopfeknlnnaa", sum := "b44906c73c836aa317e2a8af4fcaa69286a1f08181887cb549c2d56a78b77fc5", func := "lightship/lightshiplaw47.AimdPlays", spec := "aimdPlays", unfollowed := true, recurses := true, apart := false }
def AimdPlaysSaid : Prop := aimdPlaysRow.holds Try.pinned (OpenSpec.ofChange aimdPlaysSpec)

/-- ITS FALSE NEIGHBOUR: 'it returns false'. Refute it at one input. -/
def aimdPlaysWrong : ChangeSpec := { name := "aimdPlays", fn := fun _ => fun
  | [d1, d2, d3] => { results := [.lit (.bool false)], args := [d1, d2, d3] }
  | _ => none }
def AimdPlaysWrongFalsely : Prop := aimdPlaysRow.holds Try.pinned (OpenSpec.ofChange aimdPlaysWrong)

/-- 'lightshiplaw47.AimdHolds': WHATEVER THE INPUT: true; the input reads as it did. -/
def aimdHoldsSpec : ChangeSpec := { name := "aimdHolds", fn := fun _ => fun
  | [d1, d2, d3] => { results := [.lit (.bool true)], args := [d1, d2, d3] }
  | _ => none }
def aimdHoldsRow : OpenClaim := { program := "ytjmgopfeknlnnaa", sum := "b44906c73c836aa317e2a8af4fcaa69286a1f08181887cb549c2d56a78b77fc5", func := "lightship/lightshiplaw47.AimdHolds", spec := "aimdHolds", unfollowed := true, recurses := true, apart := false }
def AimdHoldsSaid : Prop := aimdHoldsRow.holds Try.pinned (OpenSpec.ofChange aimdHoldsSpec)

/-- ITS FALSE NEIGHBOUR: 'it returns false'. Refute it at one input. -/
def aimdHoldsWrong : ChangeSpec := { name := "aimdHolds", fn := fun _ => fun
  | [d1, d2, d3] => { results := [.lit (.bool false)], args := [d1, d2, d3] }
  | _ => none }
def AimdHoldsWrongFalsely : Prop := aimdHoldsRow.holds Try.pinned (OpenSpec.ofChange aimdHoldsWrong)

/- THE SECOND FORM. 'bulk': how many values and letters a reading holds, each counted each time it is reached (what is shared counts as often as it is met; a slice's spare places count too). A statement '..UptoSaid' is the law's where the arguments, and the package variables that the reading takes, are together of bulk at most 1048576: NARROWER than '..Said'. Prove '..Said' where nothing that the law and all that it calls make is longer than what came in: it says more and counts as full. Else prove '..UptoSaid'. A law counts once. -/
mutual
def uptoBulk {H : Type} : DataW H → Nat
  | .lit (.string bytes) => bytes.length + 1
  | .lit _ => 1
  | .nil => 1
  | .ptr d => uptoBulk d + 1
  | .slice elems spare => uptoBulkAll elems + uptoBulkAll spare + 1
  | .agg parts => uptoBulkAll parts + 1
  | .iface _ d => uptoBulk d + 1
  | .map entries => uptoBulkEntries entries + 1
  | .held _ => 1
def uptoBulkAll {H : Type} : List (DataW H) → Nat
  | [] => 0
  | d :: r => uptoBulk d + uptoBulkAll r
def uptoBulkEntries {H : Type} : List (Lit × DataW H) → Nat
  | [] => 0
  | x :: r => uptoBulkEntry x + uptoBulkEntries r
def uptoBulkEntry {H : Type} : Lit × DataW H → Nat
  | (.string bytes, d) => bytes.length + uptoBulk d + 1
  | (_, d) => uptoBulk d + 1
 end
def uptoSmall : (H : Type) → List (DataW H) → Bool := fun _ ds => decide (uptoBulkAll ds ≤ 1048576)
def OpenSpec.upto (s : _root_.Go.ChangeSpec) : _root_.Go.OpenSpec := { _root_.Go.OpenSpec.ofChange s with cond := some uptoSmall }

/-- 'lightshiplaw47.AimdPlays', WHERE WHAT IT READS IS OF BULK AT MOST 1048576: true; the input reads as it did. -/
def aimdPlaysUptoRow : OpenClaim := { program := "ytjmgopfeknlnnaa", sum := "b44906c73c836aa317e2a8af4fcaa69286a1f08181887cb549c2d56a78b77fc5", func := "lightship/lightshiplaw47.AimdPlays", spec := "aimdPlays", unfollowed := true, recurses := true, apart := false, narrowed := true }
def AimdPlaysUptoSaid : Prop := aimdPlaysUptoRow.holds Try.pinned (OpenSpec.upto aimdPlaysSpec)

/-- 'lightshiplaw47.AimdHolds', WHERE WHAT IT READS IS OF BULK AT MOST 1048576: true; the input reads as it did. -/
def aimdHoldsUptoRow : OpenClaim := { program := "ytjmgopfeknlnnaa", sum := "b44906c73c836aa317e2a8af4fcaa69286a1f08181887cb549c2d56a78b77fc5", func := "lightship/lightshiplaw47.AimdHolds", spec := "aimdHolds", unfollowed := true, recurses := true, apart := false, narrowed := true }
def AimdHoldsUptoSaid : Prop := aimdHoldsUptoRow.holds Try.pinned (OpenSpec.upto aimdHoldsSpec)

end Rows
end Go.Proofs.Ytjmgopfeknlnnaa
