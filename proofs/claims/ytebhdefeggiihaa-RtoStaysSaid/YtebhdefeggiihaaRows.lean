/-
  No cell of these rows narrows 'for every input' (looked for: loops, veiled, ifaces, maps, wideKeys, modest, calm, conditions, laid).
  DERIVED. THE GIVEN ROWS OF THIS SEAT. 3 by the template 'for every input the law returns true; each argument reads behind the call as it read before'; 0 by the template 'total and deterministic' (their statements: YtebhdefeggiihaaTotals.lean).
  GIVEN WITH THE SEED: the statements are not yours to turn. If you find one false, say at which input.
  Laid BY PROGRAM, IN A SANDBOX (cutbox-rows.mjs): the forced cells as the released guide's own fill.sh prints them over the translation 10fa78ab4db004ba… (all of the seat's roots in one cut). By AI agents, Wed Nov 11 2026. No macro, syntax, notation, axiom, sorry.
-/
import Derived.Test.YtebhdefeggiihaaChecked
import GoSem.Claim
import GoSem.ClaimJoined
import GoSem.ClaimMapViews
import Derived.JoinedTies
import Derived.KernelRfl
namespace Go.Proofs.Ytebhdefeggiihaa
/- THE CELL 'sum', in the pinned program and in every row, IS THE sha256 OF THE DUMP (.gsa) THAT YtebhdefeggiihaaProg.lean LOADS. Nothing in Lean hashes anything: it is a label: what it is worth is what the hold of that sum in a sandbox is worth. -/
noncomputable def Try.pinned : Pinned := { name := "ytebhdefeggiihaa", sum := "10fa78ab4db004ba622a39a6e514dc86763f16f790469370588d71e386afd01e", checked := Try.checked }
namespace Rows
def none {H : Type} : Left H := { results := [], args := [] }

/-- 'lightshiplaw14.RtoTakes': WHATEVER THE INPUT: true; the input reads as it did. -/
def rtoTakesSpec : ChangeSpec := { name := "rtoTakes", fn := fun _ => fun
  | [d1, d2, d3] => { results := [.lit (.bool true)], args := [d1, d2, d3] }
  | _ => none }
def rtoTakesRow : OpenClaim := { program := "ytebhdefeggiihaa", sum := "10fa78ab4db004ba622a39a6e514dc86763f16f790469370588d71e386afd01e", func := "lightship/lightshiplaw14.RtoTakes", spec := "rtoTakes", unfollowed := true, recurses := true, apart := false }
def RtoTakesSaid : Prop := rtoTakesRow.holds Try.pinned (OpenSpec.ofChange rtoTakesSpec)

/-- ITS FALSE NEIGHBOUR: 'it returns false'. Refute it at one input. -/
def rtoTakesWrong : ChangeSpec := { name := "rtoTakes", fn := fun _ => fun
  | [d1, d2, d3] => { results := [.lit (.bool false)], args := [d1, d2, d3] }
  | _ => none }
def RtoTakesWrongFalsely : Prop := rtoTakesRow.holds Try.pinned (OpenSpec.ofChange rtoTakesWrong)

/-- 'lightshiplaw14.RtoBacks': WHATEVER THE INPUT: true; the input reads as it did. -/
def rtoBacksSpec : ChangeSpec := { name := "rtoBacks", fn := fun _ => fun
  | [d1, d2] => { results := [.lit (.bool true)], args := [d1, d2] }
  | _ => none }
def rtoBacksRow : OpenClaim := { program := "ytebhdefeggiihaa", sum := "10fa78ab4db004ba622a39a6e514dc86763f16f790469370588d71e386afd01e", func := "lightship/lightshiplaw14.RtoBacks", spec := "rtoBacks", unfollowed := true, recurses := true, apart := false }
def RtoBacksSaid : Prop := rtoBacksRow.holds Try.pinned (OpenSpec.ofChange rtoBacksSpec)

/-- ITS FALSE NEIGHBOUR: 'it returns false'. Refute it at one input. -/
def rtoBacksWrong : ChangeSpec := { name := "rtoBacks", fn := fun _ => fun
  | [d1, d2] => { results := [.lit (.bool false)], args := [d1, d2] }
  | _ => none }
def RtoBacksWrongFalsely : Prop := rtoBacksRow.holds Try.pinned (OpenSpec.ofChange rtoBacksWrong)

/-- 'lightshiplaw14.RtoStays': WHATEVER THE INPUT: true; the input reads as it did. -/
def rtoStaysSpec : ChangeSpec := { name := "rtoStays", fn := fun _ => fun
  | [d1, d2] => { results := [.lit (.bool true)], args := [d1, d2] }
  | _ => none }
def rtoStaysRow : OpenClaim := { program := "ytebhdefeggiihaa", sum := "10fa78ab4db004ba622a39a6e514dc86763f16f790469370588d71e386afd01e", func := "lightship/lightshiplaw14.RtoStays", spec := "rtoStays", unfollowed := true, recurses := true, apart := false }
def RtoStaysSaid : Prop := rtoStaysRow.holds Try.pinned (OpenSpec.ofChange rtoStaysSpec)

/-- ITS FALSE NEIGHBOUR: 'it returns false'. Refute it at one input. -/
def rtoStaysWrong : ChangeSpec := { name := "rtoStays", fn := fun _ => fun
  | [d1, d2] => { results := [.lit (.bool false)], args := [d1, d2] }
  | _ => none }
def RtoStaysWrongFalsely : Prop := rtoStaysRow.holds Try.pinned (OpenSpec.ofChange rtoStaysWrong)

/- THE SECOND FORM. 'bulk': how many values and letters a reading holds, each counted each time it is reached (what is shared counts as often as it is met; a slice's spare places count too). A statement '..UptoSaid' is the law's where the arguments, and the package variables that the reading takes, are together of bulk at most 1048576: NARROWER than '..Said'. Prove '..Said' where nothing that the law and all that it calls make is longer than what came in: it says more and counts as full. Else prove '..UptoSaid'. A law counts once. -/
mutual
def uptoBulk {H : Type} : DataW H → Nat
  | .lit (.string bytes) => bytes.length + 1
  | .lit _ => 1
  | .nil => 1
  | .ptr d => uptoBulk d + 1
  | .slice elems spare => uptoBulkAll elems + uptoBulkAll spare + 1
  | .agg parts => uptoBulkAll parts + 1
  | .iface _ d => uptoBulk d + 1
  | .map entries => uptoBulkEntries entries + 1
  | .held _ => 1
def uptoBulkAll {H : Type} : List (DataW H) → Nat
  | [] => 0
  | d :: r => uptoBulk d + uptoBulkAll r
def uptoBulkEntries {H : Type} : List (Lit × DataW H) → Nat
  | [] => 0
  | x :: r => uptoBulkEntry x + uptoBulkEntries r
def uptoBulkEntry {H : Type} : Lit × DataW H → Nat
  | (.string bytes, d) => bytes.length + uptoBulk d + 1
  | (_, d) => uptoBulk d + 1
 end
def uptoSmall : (H : Type) → List (DataW H) → Bool := fun _ ds => decide (uptoBulkAll ds ≤ 1048576)
def OpenSpec.upto (s : _root_.Go.ChangeSpec) : _root_.Go.OpenSpec := { _root_.Go.OpenSpec.ofChange s with cond := some uptoSmall }

/-- 'lightshiplaw14.RtoTakes', WHERE WHAT IT READS IS OF BULK AT MOST 1048576: true; the input reads as it did. -/
def rtoTakesUptoRow : OpenClaim := { program := "ytebhdefeggiihaa", sum := "10fa78ab4db004ba622a39a6e514dc86763f16f790469370588d71e386afd01e", func := "lightship/lightshiplaw14.RtoTakes", spec := "rtoTakes", unfollowed := true, recurses := true, apart := false, narrowed := true }
def RtoTakesUptoSaid : Prop := rtoTakesUptoRow.holds Try.pinned (OpenSpec.upto rtoTakesSpec)

/-- 'lightshiplaw14.RtoBacks', WHERE WHAT IT READS IS OF BULK AT MOST 1048576: true; the input reads as it did. -/
def rtoBacksUptoRow : OpenClaim := { program := "ytebhdefeggiihaa", sum := "10fa78ab4db004ba622a39a6e514dc86763f16f790469370588d71e386afd01e", func := "lightship/lightshiplaw14.RtoBacks", spec := "rtoBacks", unfollowed := true, recurses := true, apart := false, narrowed := true }
def RtoBacksUptoSaid : Prop := rtoBacksUptoRow.holds Try.pinned (OpenSpec.upto rtoBacksSpec)

/-- 'lightshiplaw14.RtoStays', WHERE WHAT IT READS IS OF BULK AT MOST 1048576: true; the input reads as it did. -/
def rtoStaysUptoRow : OpenClaim := { program := "ytebhdefeggiihaa", sum := "10fa78ab4db004ba622a39a6e514dc86763f16f790469370588d71e386afd01e", func := "lightship/lightshiplaw14.RtoStays", spec := "rtoStays", unfollowed := true, recurses := true, apart := false, narrowed := true }
def RtoStaysUptoSaid : Prop := rtoStaysUptoRow.holds Try.pinned (OpenSpec.upto rtoStaysSpec)

end Rows
end Go.Proofs.Ytebhdefeggiihaa
