/-
  No cell of these rows narrows 'for every input' (looked for: loops, veiled, ifaces, maps, wideKeys, modest, calm, conditions, laid).
  DERIVED. THE GIVEN ROWS OF THIS SEAT. 3 by the template 'for every input the law returns true; each argument reads behind the call as it read before'; 0 by the template 'total and deterministic' (their statements: YtncfenpeaoppnaaTotals.lean).
  GIVEN WITH THE SEED: the statements are not yours to turn. If you find one false, say at which input.
  Laid BY PROGRAM, IN A SANDBOX (cutbox-rows.mjs): the forced cells as the released guide's own fill.sh prints them over the translation c2b693b2c858196d… (all of the seat's roots in one cut). By AI agents, Wed Nov 11 2026. No macro, syntax, notation, axiom, sorry.
-/
import Derived.Test.YtncfenpeaoppnaaChecked
import GoSem.Claim
import GoSem.ClaimJoined
import GoSem.ClaimMapViews
import Derived.JoinedTies
import Derived.KernelRfl
namespace Go.Proofs.Ytncfenpeaoppnaa
/- THE CELL 'sum', in the pinned program and in every row, IS THE sha256 OF THE DUMP (.gsa) THAT YtncfenpeaoppnaaProg.lean LOADS. Nothing in Lean hashes anything: it is a label: what it is worth is what the hold of that sum in a sandbox is worth. -/
noncomputable def Try.pinned : Pinned := { name := "ytncfenpeaoppnaa", sum := "c2b693b2c858196d81a6ba64c11c1612efd2fff90cbfaba1508853633efa9aa6", checked := Try.checked }
namespace Rows
def none {H : Type} : Left H := { results := [], args := [] }

/-- 'lightshiplaw21.BlocksWhole': WHATEVER THE INPUT: true; the input reads as it did. -/
def blocksWholeSpec : ChangeSpec := { name := "blocksWhole", fn := fun _ => fun
  | [d1, d2] => { results := [.lit (.bool true)], args := [d1, d2] }
  | _ => none }
def blocksWholeRow : OpenClaim := { program := "ytncfenpeaoppnaa", sum := "c2b693b2c858196d81a6ba64c11c1612efd2fff90cbfaba1508853633efa9aa6", func := "lightship/lightshiplaw21.BlocksWhole", spec := "blocksWhole", apart := false }
def BlocksWholeSaid : Prop := blocksWholeRow.holds Try.pinned (OpenSpec.ofChange blocksWholeSpec)

/-- ITS FALSE NEIGHBOUR: 'it returns false'. Refute it at one input. -/
def blocksWholeWrong : ChangeSpec := { name := "blocksWhole", fn := fun _ => fun
  | [d1, d2] => { results := [.lit (.bool false)], args := [d1, d2] }
  | _ => none }
def BlocksWholeWrongFalsely : Prop := blocksWholeRow.holds Try.pinned (OpenSpec.ofChange blocksWholeWrong)

/-- 'lightshiplaw21.BlocksPlay': WHATEVER THE INPUT: true; the input reads as it did. -/
def blocksPlaySpec : ChangeSpec := { name := "blocksPlay", fn := fun _ => fun
  | [d1, d2, d3] => { results := [.lit (.bool true)], args := [d1, d2, d3] }
  | _ => none }
def blocksPlayRow : OpenClaim := { program := "ytncfenpeaoppnaa", sum := "c2b693b2c858196d81a6ba64c11c1612efd2fff90cbfaba1508853633efa9aa6", func := "lightship/lightshiplaw21.BlocksPlay", spec := "blocksPlay", apart := false }
def BlocksPlaySaid : Prop := blocksPlayRow.holds Try.pinned (OpenSpec.ofChange blocksPlaySpec)

/-- ITS FALSE NEIGHBOUR: 'it returns false'. Refute it at one input. -/
def blocksPlayWrong : ChangeSpec := { name := "blocksPlay", fn := fun _ => fun
  | [d1, d2, d3] => { results := [.lit (.bool false)], args := [d1, d2, d3] }
  | _ => none }
def BlocksPlayWrongFalsely : Prop := blocksPlayRow.holds Try.pinned (OpenSpec.ofChange blocksPlayWrong)

/-- 'lightshiplaw21.BlocksNone': WHATEVER THE INPUT: true; the input reads as it did. -/
def blocksNoneSpec : ChangeSpec := { name := "blocksNone", fn := fun _ => fun
  | [d] => { results := [.lit (.bool true)], args := [d] }
  | _ => none }
def blocksNoneRow : OpenClaim := { program := "ytncfenpeaoppnaa", sum := "c2b693b2c858196d81a6ba64c11c1612efd2fff90cbfaba1508853633efa9aa6", func := "lightship/lightshiplaw21.BlocksNone", spec := "blocksNone", apart := false }
def BlocksNoneSaid : Prop := blocksNoneRow.holds Try.pinned (OpenSpec.ofChange blocksNoneSpec)

/-- ITS FALSE NEIGHBOUR: 'it returns false'. Refute it at one input. -/
def blocksNoneWrong : ChangeSpec := { name := "blocksNone", fn := fun _ => fun
  | [d] => { results := [.lit (.bool false)], args := [d] }
  | _ => none }
def BlocksNoneWrongFalsely : Prop := blocksNoneRow.holds Try.pinned (OpenSpec.ofChange blocksNoneWrong)

/- THE SECOND FORM. 'bulk': how many values and letters a reading holds, each counted each time it is reached (what is shared counts as often as it is met; a slice's spare places count too). A statement '..UptoSaid' is the law's where the arguments, and the package variables that the reading takes, are together of bulk at most 1048576: NARROWER than '..Said'. Prove '..Said' where nothing that the law and all that it calls make is longer than what came in: it says more and counts as full. Else prove '..UptoSaid'. A law counts once. -/
mutual
def uptoBulk {H : Type} : DataW H → Nat
  | .lit (.string bytes) => bytes.length + 1
  | .lit _ => 1
  | .nil => 1
  | .ptr d => uptoBulk d + 1
  | .slice elems spare => uptoBulkAll elems + uptoBulkAll spare + 1
  | .agg parts => uptoBulkAll parts + 1
  | .iface _ d => uptoBulk d + 1
  | .map entries => uptoBulkEntries entries + 1
  | .held _ => 1
def uptoBulkAll {H : Type} : List (DataW H) → Nat
  | [] => 0
  | d :: r => uptoBulk d + uptoBulkAll r
def uptoBulkEntries {H : Type} : List (Lit × DataW H) → Nat
  | [] => 0
  | x :: r => uptoBulkEntry x + uptoBulkEntries r
def uptoBulkEntry {H : Type} : Lit × DataW H → Nat
  | (.string bytes, d) => bytes.length + uptoBulk d + 1
  | (_, d) => uptoBulk d + 1
 end
def uptoSmall : (H : Type) → List (DataW H) → Bool := fun _ ds => decide (uptoBulkAll ds ≤ 1048576)
def OpenSpec.upto (s : _root_.Go.ChangeSpec) : _root_.Go.OpenSpec := { _root_.Go.OpenSpec.ofChange s with cond := some uptoSmall }

/-- 'lightshiplaw21.BlocksWhole', WHERE WHAT IT READS IS OF BULK AT MOST 1048576: true; the input reads as it did. -/
def blocksWholeUptoRow : OpenClaim := { program := "ytncfenpeaoppnaa", sum := "c2b693b2c858196d81a6ba64c11c1612efd2fff90cbfaba1508853633efa9aa6", func := "lightship/lightshiplaw21.BlocksWhole", spec := "blocksWhole", apart := false, narrowed := true }
def BlocksWholeUptoSaid : Prop := blocksWholeUptoRow.holds Try.pinned (OpenSpec.upto blocksWholeSpec)

/-- 'lightshiplaw21.BlocksPlay', WHERE WHAT IT READS IS OF BULK AT MOST 1048576: true; the input reads as it did. -/
def blocksPlayUptoRow : OpenClaim := { program := "ytncfenpeaoppnaa", sum := "c2b693b2c858196d81a6ba64c11c1612efd2fff90cbfaba1508853633efa9aa6", func := "lightship/lightshiplaw21.BlocksPlay", spec := "blocksPlay", apart := false, narrowed := true }
def BlocksPlayUptoSaid : Prop := blocksPlayUptoRow.holds Try.pinned (OpenSpec.upto blocksPlaySpec)

/-- 'lightshiplaw21.BlocksNone', WHERE WHAT IT READS IS OF BULK AT MOST 1048576: true; the input reads as it did. -/
def blocksNoneUptoRow : OpenClaim := { program := "ytncfenpeaoppnaa", sum := "c2b693b2c858196d81a6ba64c11c1612efd2fff90cbfaba1508853633efa9aa6", func := "lightship/lightshiplaw21.BlocksNone", spec := "blocksNone", apart := false, narrowed := true }
def BlocksNoneUptoSaid : Prop := blocksNoneUptoRow.holds Try.pinned (OpenSpec.upto blocksNoneSpec)

end Rows
end Go.Proofs.Ytncfenpeaoppnaa
