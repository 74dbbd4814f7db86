/-
  No cell of these rows narrows 'for every input' (looked for: loops, veiled, ifaces, maps, wideKeys, modest, calm, conditions, laid).
  DERIVED. THE GIVEN ROWS OF THIS SEAT. 3 by the template 'for every input the law returns true; each argument reads behind the call as it read before'; 0 by the template 'total and deterministic' (their statements: YtapokcjfhgbagaaTotals.lean).
  GIVEN WITH THE SEED: the statements are not yours to turn. If you find one false, say at which input.
  Laid BY PROGRAM, IN A SANDBOX (cutbox-rows.mjs): the forced cells as the released guide's own fill.sh prints them over the translation cbebe4cbbfb4ea32… (all of the seat's roots in one cut). By AI agents, Wed Nov 11 2026. No macro, syntax, notation, axiom, sorry.
-/
import Derived.Test.YtapokcjfhgbagaaChecked
import GoSem.Claim
import GoSem.ClaimJoined
import GoSem.ClaimMapViews
import Derived.JoinedTies
import Derived.KernelRfl
namespace Go.Proofs.Ytapokcjfhgbagaa
/- THE CELL 'sum', in the pinned program and in every row, IS THE sha256 OF THE DUMP (.gsa) THAT YtapokcjfhgbagaaProg.lean LOADS. Nothing in Lean hashes anything: it is a label: what it is worth is what the hold of that sum in a sandbox is worth. -/
noncomputable def Try.pinned : Pinned := { name := "ytapokcjfhgbagaa", sum := "cbebe4cbbfb4ea3220b508f0fad0973e27c32ab29186904cac17a9ab737ae2c0", checked := Try.checked }
namespace Rows
def none {H : Type} : Left H := { results := [], args := [] }

/-- 'lightshiplaw55.PickOrders': WHATEVER THE INPUT: true; the input reads as it did. -/
def pickOrdersSpec : ChangeSpec := { name := "pickOrders", fn := fun _ => fun
  | [d1, d2] => { results := [.lit (.bool true)], args := [d1, d2] }
  | _ => none }
def pickOrdersRow : OpenClaim := { program := "ytapokcjfhgbagaa", sum := "cbebe4cbbfb4ea3220b508f0fad0973e27c32ab29186904cac17a9ab737ae2c0", func := "lightship/lightshiplaw55.PickOrders", spec := "pickOrders", unfollowed := true, recurses := true, apart := false }
def PickOrdersSaid : Prop := pickOrdersRow.holds Try.pinned (OpenSpec.ofChange pickOrdersSpec)

/-- ITS FALSE NEIGHBOUR: 'it returns false'. Refute it at one input. -/
def pickOrdersWrong : ChangeSpec := { name := "pickOrders", fn := fun _ => fun
  | [d1, d2] => { results := [.lit (.bool false)], args := [d1, d2] }
  | _ => none }
def PickOrdersWrongFalsely : Prop := pickOrdersRow.holds Try.pinned (OpenSpec.ofChange pickOrdersWrong)

/-- 'lightshiplaw55.PickStays': WHATEVER THE INPUT: true; the input reads as it did. -/
def pickStaysSpec : ChangeSpec := { name := "pickStays", fn := fun _ => fun
  | [d1, d2, d3] => { results := [.lit (.bool true)], args := [d1, d2, d3] }
  | _ => none }
def pickStaysRow : OpenClaim := { program := "ytapokcjfhgbagaa", sum := "cbebe4cbbfb4ea3220b508f0fad0973e27c32ab29186904cac17a9ab737ae2c0", func := "lightship/lightshiplaw55.PickStays", spec := "pickStays", unfollowed := true, recurses := true, apart := false }
def PickStaysSaid : Prop := pickStaysRow.holds Try.pinned (OpenSpec.ofChange pickStaysSpec)

/-- ITS FALSE NEIGHBOUR: 'it returns false'. Refute it at one input. -/
def pickStaysWrong : ChangeSpec := { name := "pickStays", fn := fun _ => fun
  | [d1, d2, d3] => { results := [.lit (.bool false)], args := [d1, d2, d3] }
  | _ => none }
def PickStaysWrongFalsely : Prop := pickStaysRow.holds Try.pinned (OpenSpec.ofChange pickStaysWrong)

/-- 'lightshiplaw55.PickShares': WHATEVER THE INPUT: true; the input reads as it did. -/
def pickSharesSpec : ChangeSpec := { name := "pickShares", fn := fun _ => fun
  | [d1, d2] => { results := [.lit (.bool true)], args := [d1, d2] }
  | _ => none }
def pickSharesRow : OpenClaim := { program := "ytapokcjfhgbagaa", sum := "cbebe4cbbfb4ea3220b508f0fad0973e27c32ab29186904cac17a9ab737ae2c0", func := "lightship/lightshiplaw55.PickShares", spec := "pickShares", unfollowed := true, recurses := true, apart := false }
def PickSharesSaid : Prop := pickSharesRow.holds Try.pinned (OpenSpec.ofChange pickSharesSpec)

/-- ITS FALSE NEIGHBOUR: 'it returns false'. Refute it at one input. -/
def pickSharesWrong : ChangeSpec := { name := "pickShares", fn := fun _ => fun
  | [d1, d2] => { results := [.lit (.bool false)], args := [d1, d2] }
  | _ => none }
def PickSharesWrongFalsely : Prop := pickSharesRow.holds Try.pinned (OpenSpec.ofChange pickSharesWrong)

/- THE SECOND FORM. 'bulk': how many values and letters a reading holds, each counted each time it is reached (what is shared counts as often as it is met; a slice's spare places count too). A statement '..UptoSaid' is the law's where the arguments, and the package variables that the reading takes, are together of bulk at most 1048576: NARROWER than '..Said'. Prove '..Said' where nothing that the law and all that it calls make is longer than what came in: it says more and counts as full. Else prove '..UptoSaid'. A law counts once. -/
mutual
def uptoBulk {H : Type} : DataW H → Nat
  | .lit (.string bytes) => bytes.length + 1
  | .lit _ => 1
  | .nil => 1
  | .ptr d => uptoBulk d + 1
  | .slice elems spare => uptoBulkAll elems + uptoBulkAll spare + 1
  | .agg parts => uptoBulkAll parts + 1
  | .iface _ d => uptoBulk d + 1
  | .map entries => uptoBulkEntries entries + 1
  | .held _ => 1
def uptoBulkAll {H : Type} : List (DataW H) → Nat
  | [] => 0
  | d :: r => uptoBulk d + uptoBulkAll r
def uptoBulkEntries {H : Type} : List (Lit × DataW H) → Nat
  | [] => 0
  | x :: r => uptoBulkEntry x + uptoBulkEntries r
def uptoBulkEntry {H : Type} : Lit × DataW H → Nat
  | (.string bytes, d) => bytes.length + uptoBulk d + 1
  | (_, d) => uptoBulk d + 1
 end
def uptoSmall : (H : Type) → List (DataW H) → Bool := fun _ ds => decide (uptoBulkAll ds ≤ 1048576)
def OpenSpec.upto (s : _root_.Go.ChangeSpec) : _root_.Go.OpenSpec := { _root_.Go.OpenSpec.ofChange s with cond := some uptoSmall }

/-- 'lightshiplaw55.PickOrders', WHERE WHAT IT READS IS OF BULK AT MOST 1048576: true; the input reads as it did. -/
def pickOrdersUptoRow : OpenClaim := { program := "ytapokcjfhgbagaa", sum := "cbebe4cbbfb4ea3220b508f0fad0973e27c32ab29186904cac17a9ab737ae2c0", func := "lightship/lightshiplaw55.PickOrders", spec := "pickOrders", unfollowed := true, recurses := true, apart := false, narrowed := true }
def PickOrdersUptoSaid : Prop := pickOrdersUptoRow.holds Try.pinned (OpenSpec.upto pickOrdersSpec)

/-- 'lightshiplaw55.PickStays', WHERE WHAT IT READS IS OF BULK AT MOST 1048576: true; the input reads as it did. -/
def pickStaysUptoRow : OpenClaim := { program := "ytapokcjfhgbagaa", sum := "cbebe4cbbfb4ea3220b508f0fad0973e27c32ab29186904cac17a9ab737ae2c0", func := "lightship/lightshiplaw55.PickStays", spec := "pickStays", unfollowed := true, recurses := true, apart := false, narrowed := true }
def PickStaysUptoSaid : Prop := pickStaysUptoRow.holds Try.pinned (OpenSpec.upto pickStaysSpec)

/-- 'lightshiplaw55.PickShares', WHERE WHAT IT READS IS OF BULK AT MOST 1048576: true; the input reads as it did. -/
def pickSharesUptoRow : OpenClaim := { program := "ytapokcjfhgbagaa", sum := "cbebe4cbbfb4ea3220b508f0fad0973e27c32ab29186904cac17a9ab737ae2c0", func := "lightship/lightshiplaw55.PickShares", spec := "pickShares", unfollowed := true, recurses := true, apart := false, narrowed := true }
def PickSharesUptoSaid : Prop := pickSharesUptoRow.holds Try.pinned (OpenSpec.upto pickSharesSpec)

end Rows
end Go.Proofs.Ytapokcjfhgbagaa
