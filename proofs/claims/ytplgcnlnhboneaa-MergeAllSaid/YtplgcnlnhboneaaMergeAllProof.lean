/- The Go function lightshiplaw58.MergeAll returns true at every input, and each argument reads afterwards as it read before. Conditions: none beyond the row's own. The frame below was printed by a small program (frame.py) after the kit's proof-skeleton. -/
import Derived.Test.YtplgcnlnhboneaaRows
import Derived.WalkKit
import Derived.ProofKit
import Derived.OpenShut
import Derived.ShutString
import Derived.ChangeOld
import Derived.Below
import Derived.JoinedCond
import Derived.Test.YtplgcnlnhboneaaOpen
import Derived.Test.YtplgcnlnhboneaaMergeAllLaw
import Derived.Test.YtplgcnlnhboneaaMergeOpen
namespace Go.Proofs.Ytplgcnlnhboneaa.mergeAll
open Go.ChangeShapes Go.WideShapes Go.ChangeAt Go.RowKit
open Go.ChangeMaps (open_string shut_string)
set_option linter.unusedVariables false

theorem own : ownKnob Try.prog.godebug = none := by kernel_rfl
theorem laidOut : laidOutB Try.prog = true := by kernel_rfl
theorem flat3 : Flat Try.prog 3 [IsI .i64] := flat_int Try.underlying3 (by kernel_rfl)
theorem flat26 : Flat Try.prog 26 [IsI .u32] := flat_int Try.underlying26 (by kernel_rfl)
theorem flat28 : Flat Try.prog 28 [IsI .i64, IsI .u32] := flat_struct Try.underlying28 (by kernel_rfl) (fun j hj => match j, hj with | 0, _ => ⟨0, _, [IsI .i64], rfl, flat3, by decide, by decide, rfl⟩ | 1, _ => ⟨1, _, [IsI .u32], rfl, flat26, by decide, by decide, rfl⟩ | j + 2, h => absurd h (by simp))
theorem flat30 : Flat Try.prog 30 [IsI .i64, IsI .u32, IsI .i64] := flat_struct Try.underlying30 (by kernel_rfl) (fun j hj => match j, hj with | 0, _ => ⟨0, _, [IsI .i64, IsI .u32], rfl, flat28, by decide, by decide, rfl⟩ | 1, _ => ⟨0, _, [IsI .i64, IsI .u32], rfl, flat28, by decide, by decide, rfl⟩ | 2, _ => ⟨1, _, [IsI .i64], rfl, flat3, by decide, by decide, rfl⟩ | j + 3, h => absurd h (by simp))

set_option maxRecDepth 100000 in
theorem lifted (os : Os) (started : os.Started) (H : Type) (enc : TypeId × Value → H) :
    ReturnsInHanded {} Try.checked os 3 .any (Rows.mergeAllSpec.pre6 enc Try.prog Try.f3 Rows.mergeAllRow.domain false) (Rows.mergeAllSpec.post enc Try.prog Try.f3 false true false false) := by
  refine returnsInHanded_of_change (C := Try.checked) own started (by kernel_rfl) Try.func3
    (ChangeSpec.witness6 (enc := enc) (C := Try.checked) false ⟨#[], #[.slice none 0 0], []⟩ 8 (by kernel_rfl) (by kernel_rfl) (by kernel_rfl) (by kernel_rfl)) ?_
  intro W base args ds gs before hval0 hW hcnd _
  have hval : ∀ (j : Nat) t v, Try.f3.params[j]? = some t → args[j]? = some v → Value.okWide Try.prog W .any base t v := hval0
  have hW' := hW
  obtain ⟨p, q, hA0, hV, rfl, hfz, hnd⟩ := hW
  have hA : DataW.TrodAll enc Try.prog W 0 (fun _ => true) true Try.f3.params.toList args.toList ds p := hA0
  rw [Try.params3] at hA hval
  obtain ⟨v0, vs0, d0, ds0, p_0, q_0, hargs, rfl, rfl, h0, r_0⟩ := trodAll_cons hA
  obtain ⟨rfl, rfl, rfl⟩ := trodAll_nil r_0
  obtain rfl : args = #[v0] := by cases args; simp_all
  obtain ⟨rfl, rfl⟩ := trodVars_none hV
  have k0 := h0
  have lt0 : ∀ x ∈ p_0, x.block < W.heap.size := by obtain ⟨m, hm⟩ := k0; exact DataW.trod_lt m _ _ _ hm
  obtain ⟨p0, len0, cap0, bl0, off0, R0, rfl, hl0, hm0, ha0, hz0, hs0, hv0⟩ := open_rows Try.underlying22 Try.underlying24 (by kernel_rfl) flat30 (by decide) (hval 0 22 v0 rfl rfl) h0
  clear hA0 hval0
  have key : Calls Try.prog 3 #[.slice p0 len0 cap0] W fun e W' => e = .returned (.bool true) ∧ Below W.heap.size W W' := by
    obtain ⟨Ls, hLs, hfit⟩ := rows_lists ha0 hs0 hv0
    by_cases hc : 300 < len0
    · exact merge_many p0 len0 cap0 hm0 hl0 hc W
    · exact merge_few p0 len0 cap0 bl0 off0 _ Ls hm0 hl0 (by omega) W hLs hfit
  refine key.mono fun e W' ⟨he, bel⟩ => ?_
  subst he
  exact ⟨_, rfl, _, _, _, [], _, [], hW', trodAll_mk1 (shut_bool Try.underlying4 _), (trodAll_cons_mk (Below.trod laidOut (by kernel_rfl) (of_decide_eq_true (by kernel_rfl)) k0 bel lt0) trodAll_mk0), rfl, bel.frame _, fun h => by cases h⟩

theorem over : Rows.mergeAllRow.holds Try.pinned (OpenSpec.ofChange Rows.mergeAllSpec) :=
  OpenClaim.holds_of_wide 3 Try.f3 rfl rfl rfl rfl rfl rfl rfl ⟨rfl, rfl, rfl, rfl, rfl⟩ rfl rfl rfl rfl rfl (by kernel_rfl) Try.func3 (by kernel_rfl)
    (of_decide_eq_true (by kernel_rfl)) (by unfold Func.isWrapper; first | (rw [if_pos (by decide +kernel)]; kernel_rfl) | (rw [if_neg (by decide +kernel)]; exact ⟨rfl, rfl⟩))
    (fun os started H enc _ => lifted os started H enc)

theorem proved : Rows.MergeAllSaid := over
#print axioms proved
end Go.Proofs.Ytplgcnlnhboneaa.mergeAll
