/-
  No cell of these rows narrows 'for every input' (looked for: loops, veiled, ifaces, maps, wideKeys, modest, calm, conditions, laid).
  DERIVED. THE GIVEN ROWS OF THIS SEAT. 3 by the template 'for every input the law returns true; each argument reads behind the call as it read before'; 0 by the template 'total and deterministic' (their statements: YtjhbahjomeflaaaTotals.lean).
  GIVEN WITH THE SEED: the statements are not yours to turn. If you find one false, say at which input.
  Laid BY PROGRAM, IN A SANDBOX (cutbox-rows.mjs): the forced cells as the released guide's own fill.sh prints them over the translation 706b7349d289c06b… (all of the seat's roots in one cut). By AI agents, Wed Nov 11 2026. No macro, syntax, notation, axiom, sorry.
-/
import Derived.Test.YtjhbahjomeflaaaChecked
import GoSem.Claim
import GoSem.ClaimJoined
import GoSem.ClaimMapViews
import Derived.JoinedTies
import Derived.KernelRfl
namespace Go.Proofs.Ytjhbahjomeflaaa
/- THE CELL 'sum', in the pinned program and in every row, IS THE sha256 OF THE DUMP (.gsa) THAT YtjhbahjomeflaaaProg.lean LOADS. Nothing in Lean hashes anything: it is a label: what it is worth is what the hold of that sum in a sandbox is worth. -/
noncomputable def Try.pinned : Pinned := { name := "ytjhbahjomeflaaa", sum := "706b7349d289c06b952a14eb0cc32f3745c1fb81a7701880718ba37b41e53a28", checked := Try.checked }
namespace Rows
def none {H : Type} : Left H := { results := [], args := [] }

/-- 'lightshiplaw44.ParitySums': WHATEVER THE INPUT: true; the input reads as it did. -/
def paritySumsSpec : ChangeSpec := { name := "paritySums", fn := fun _ => fun
  | [d1, d2, d3] => { results := [.lit (.bool true)], args := [d1, d2, d3] }
  | _ => none }
def paritySumsRow : OpenClaim := { program := "ytjhbahjomeflaaa", sum := "706b7349d289c06b952a14eb0cc32f3745c1fb81a7701880718ba37b41e53a28", func := "lightship/lightshiplaw44.ParitySums", spec := "paritySums", apart := false }
def ParitySumsSaid : Prop := paritySumsRow.holds Try.pinned (OpenSpec.ofChange paritySumsSpec)

/-- ITS FALSE NEIGHBOUR: 'it returns false'. Refute it at one input. -/
def paritySumsWrong : ChangeSpec := { name := "paritySums", fn := fun _ => fun
  | [d1, d2, d3] => { results := [.lit (.bool false)], args := [d1, d2, d3] }
  | _ => none }
def ParitySumsWrongFalsely : Prop := paritySumsRow.holds Try.pinned (OpenSpec.ofChange paritySumsWrong)

/-- 'lightshiplaw44.ParityBack': WHATEVER THE INPUT: true; the input reads as it did. -/
def parityBackSpec : ChangeSpec := { name := "parityBack", fn := fun _ => fun
  | [d1, d2] => { results := [.lit (.bool true)], args := [d1, d2] }
  | _ => none }
def parityBackRow : OpenClaim := { program := "ytjhbahjomeflaaa", sum := "706b7349d289c06b952a14eb0cc32f3745c1fb81a7701880718ba37b41e53a28", func := "lightship/lightshiplaw44.ParityBack", spec := "parityBack", apart := false }
def ParityBackSaid : Prop := parityBackRow.holds Try.pinned (OpenSpec.ofChange parityBackSpec)

/-- ITS FALSE NEIGHBOUR: 'it returns false'. Refute it at one input. -/
def parityBackWrong : ChangeSpec := { name := "parityBack", fn := fun _ => fun
  | [d1, d2] => { results := [.lit (.bool false)], args := [d1, d2] }
  | _ => none }
def ParityBackWrongFalsely : Prop := parityBackRow.holds Try.pinned (OpenSpec.ofChange parityBackWrong)

/-- 'lightshiplaw44.ParityGroups': WHATEVER THE INPUT: true; the input reads as it did. -/
def parityGroupsSpec : ChangeSpec := { name := "parityGroups", fn := fun _ => fun
  | [d1, d2] => { results := [.lit (.bool true)], args := [d1, d2] }
  | _ => none }
def parityGroupsRow : OpenClaim := { program := "ytjhbahjomeflaaa", sum := "706b7349d289c06b952a14eb0cc32f3745c1fb81a7701880718ba37b41e53a28", func := "lightship/lightshiplaw44.ParityGroups", spec := "parityGroups", apart := false }
def ParityGroupsSaid : Prop := parityGroupsRow.holds Try.pinned (OpenSpec.ofChange parityGroupsSpec)

/-- ITS FALSE NEIGHBOUR: 'it returns false'. Refute it at one input. -/
def parityGroupsWrong : ChangeSpec := { name := "parityGroups", fn := fun _ => fun
  | [d1, d2] => { results := [.lit (.bool false)], args := [d1, d2] }
  | _ => none }
def ParityGroupsWrongFalsely : Prop := parityGroupsRow.holds Try.pinned (OpenSpec.ofChange parityGroupsWrong)

/- THE SECOND FORM. 'bulk': how many values and letters a reading holds, each counted each time it is reached (what is shared counts as often as it is met; a slice's spare places count too). A statement '..UptoSaid' is the law's where the arguments, and the package variables that the reading takes, are together of bulk at most 1048576: NARROWER than '..Said'. Prove '..Said' where nothing that the law and all that it calls make is longer than what came in: it says more and counts as full. Else prove '..UptoSaid'. A law counts once. -/
mutual
def uptoBulk {H : Type} : DataW H → Nat
  | .lit (.string bytes) => bytes.length + 1
  | .lit _ => 1
  | .nil => 1
  | .ptr d => uptoBulk d + 1
  | .slice elems spare => uptoBulkAll elems + uptoBulkAll spare + 1
  | .agg parts => uptoBulkAll parts + 1
  | .iface _ d => uptoBulk d + 1
  | .map entries => uptoBulkEntries entries + 1
  | .held _ => 1
def uptoBulkAll {H : Type} : List (DataW H) → Nat
  | [] => 0
  | d :: r => uptoBulk d + uptoBulkAll r
def uptoBulkEntries {H : Type} : List (Lit × DataW H) → Nat
  | [] => 0
  | x :: r => uptoBulkEntry x + uptoBulkEntries r
def uptoBulkEntry {H : Type} : Lit × DataW H → Nat
  | (.string bytes, d) => bytes.length + uptoBulk d + 1
  | (_, d) => uptoBulk d + 1
 end
def uptoSmall : (H : Type) → List (DataW H) → Bool := fun _ ds => decide (uptoBulkAll ds ≤ 1048576)
def OpenSpec.upto (s : _root_.Go.ChangeSpec) : _root_.Go.OpenSpec := { _root_.Go.OpenSpec.ofChange s with cond := some uptoSmall }

/-- 'lightshiplaw44.ParitySums', WHERE WHAT IT READS IS OF BULK AT MOST 1048576: true; the input reads as it did. -/
def paritySumsUptoRow : OpenClaim := { program := "ytjhbahjomeflaaa", sum := "706b7349d289c06b952a14eb0cc32f3745c1fb81a7701880718ba37b41e53a28", func := "lightship/lightshiplaw44.ParitySums", spec := "paritySums", apart := false, narrowed := true }
def ParitySumsUptoSaid : Prop := paritySumsUptoRow.holds Try.pinned (OpenSpec.upto paritySumsSpec)

/-- 'lightshiplaw44.ParityBack', WHERE WHAT IT READS IS OF BULK AT MOST 1048576: true; the input reads as it did. -/
def parityBackUptoRow : OpenClaim := { program := "ytjhbahjomeflaaa", sum := "706b7349d289c06b952a14eb0cc32f3745c1fb81a7701880718ba37b41e53a28", func := "lightship/lightshiplaw44.ParityBack", spec := "parityBack", apart := false, narrowed := true }
def ParityBackUptoSaid : Prop := parityBackUptoRow.holds Try.pinned (OpenSpec.upto parityBackSpec)

/-- 'lightshiplaw44.ParityGroups', WHERE WHAT IT READS IS OF BULK AT MOST 1048576: true; the input reads as it did. -/
def parityGroupsUptoRow : OpenClaim := { program := "ytjhbahjomeflaaa", sum := "706b7349d289c06b952a14eb0cc32f3745c1fb81a7701880718ba37b41e53a28", func := "lightship/lightshiplaw44.ParityGroups", spec := "parityGroups", apart := false, narrowed := true }
def ParityGroupsUptoSaid : Prop := parityGroupsUptoRow.holds Try.pinned (OpenSpec.upto parityGroupsSpec)

end Rows
end Go.Proofs.Ytjhbahjomeflaaa
