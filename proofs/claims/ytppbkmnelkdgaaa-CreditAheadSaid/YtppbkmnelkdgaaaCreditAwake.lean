/- The walk of the examples (awake) of lightshiplaw16. -/
import Derived.Test.YtppbkmnelkdgaaaCredit
import Derived.Test.YtppbkmnelkdgaaaOpen
import Derived.Outline
import Derived.Deep.RegionHeld3
import Derived.Deep.LoopGhost
namespace Go.Proofs.Ytppbkmnelkdgaaa
open Go.ChangeShapes Go.WideShapes Go.ChangeAt Go.RowKit
set_option linter.unusedVariables false

def TruePost (W : World) (e : Ending) (w' : World) : Prop := e = .returned (.bool true) ∧ Below W.heap.size W w'

theorem awake_true (w : World) : Calls Try.prog 5 #[] w (TruePost w) := by
  have n1 : letN 2 = true := by decide
  have n2 : letN (-1) = false := by decide
  have m1 : moreB 2 1 0 = false := by decide
  have m2 : moreB 2 4294967295 5 = true := by decide
  have l1 : lessB 3 4 = true := by decide
  have l2 : lessB 4 4 = false := by decide
  go_enter Try.func5, Try.ntmps5
  go_wp2_with fail
  refine (new_good 0 2 (by omega) (by omega) n1 _).mono ?_
  rintro e w1 ⟨rfl, hE1, hG1, hsz1⟩
  go_wp2_with fail
  refine (new_bad 0 (-1) n2 _).mono ?_
  rintro e w' ⟨rfl, rfl⟩
  go_wp2_with fail
  refine (grant_any _ _ 1 0 (by omega) (by omega) (by omega) (by omega) _ hE1).mono ?_
  rintro e w2 ⟨rfl, hE2, hG2⟩
  have hE2 : IsEdge w2 w.heap.size 2 := by simpa [m1] using hE2
  go_wp2_with fail
  refine (grant_any _ _ 4294967295 5 (by omega) (by omega) (by omega) (by omega) _ hE2).mono ?_
  rintro e w3 ⟨rfl, hE3, hG3⟩
  have hE3 : IsEdge w3 w.heap.size 4 := by simpa [m2] using hE3
  go_wp2_with (first | (go_at_call 9; refine (at_any _ _ _ hE3).mono ?_; rintro e w' ⟨rfl, rfl⟩) | (go_at_call 10; refine (lets_any _ _ _ (by omega) (by omega) (by omega) (by omega) _ hE3).mono ?_; rintro e w' ⟨rfl, rfl⟩))
  go_ret
  exact ⟨rfl, (((below_gn hG1).trans (below_g hG2 (Nat.le_refl _) (by omega))).trans (below_g hG3 (Nat.le_refl _) (by have := hG2.size; omega)))⟩
end Go.Proofs.Ytppbkmnelkdgaaa
