/- The Go function lightshiplaw56.BitioBack returns true at every input, and each argument reads afterwards as it read before. Conditions: none beyond the row's own. The frame below was printed by a small program (frame.py) after the kit's proof-skeleton. -/
import Derived.Test.YtgkbmpphodabnaaRows
import Derived.WalkKit
import Derived.ProofKit
import Derived.OpenShut
import Derived.ShutString
import Derived.ChangeOld
import Derived.Below
import Derived.JoinedCond
import Derived.Test.YtgkbmpphodabnaaOpen
import Derived.Test.YtgkbmpphodabnaaBitio9
namespace Go.Proofs.Ytgkbmpphodabnaa.bitioBack
open Go.ChangeShapes Go.WideShapes Go.ChangeAt Go.RowKit
open Go.ChangeMaps (open_string shut_string)
set_option linter.unusedVariables false

theorem own : ownKnob Try.prog.godebug = none := by kernel_rfl
theorem laidOut : laidOutB Try.prog = true := by kernel_rfl
theorem flat27 : Flat Try.prog 27 [IsI .u64] := flat_int Try.underlying27 (by kernel_rfl)
theorem flat3 : Flat Try.prog 3 [IsI .i64] := flat_int Try.underlying3 (by kernel_rfl)
theorem flat29 : Flat Try.prog 29 [IsI .u64, IsI .i64] := flat_struct Try.underlying29 (by kernel_rfl) (fun j hj => match j, hj with | 0, _ => ⟨0, _, [IsI .u64], rfl, flat27, by decide, by decide, rfl⟩ | 1, _ => ⟨1, _, [IsI .i64], rfl, flat3, by decide, by decide, rfl⟩ | j + 2, h => absurd h (by simp))

set_option maxRecDepth 100000 in
theorem lifted (os : Os) (started : os.Started) (H : Type) (enc : TypeId × Value → H) :
    ReturnsInHanded {} Try.checked os 5 .any (Rows.bitioBackSpec.pre6 enc Try.prog Try.f5 Rows.bitioBackRow.domain false) (Rows.bitioBackSpec.post enc Try.prog Try.f5 false true false false) := by
  refine returnsInHanded_of_change (C := Try.checked) own started (by kernel_rfl) Try.func5
    (ChangeSpec.witness6 (enc := enc) (C := Try.checked) false ⟨#[], #[.slice none 0 0], []⟩ 8 (by kernel_rfl) (by kernel_rfl) (by kernel_rfl) (by kernel_rfl)) ?_
  intro W base args ds gs before hval0 hW hcnd _
  have hval : ∀ (j : Nat) t v, Try.f5.params[j]? = some t → args[j]? = some v → Value.okWide Try.prog W .any base t v := hval0
  have hW' := hW
  obtain ⟨p, q, hA0, hV, rfl, hfz, hnd⟩ := hW
  have hA : DataW.TrodAll enc Try.prog W 0 (fun _ => true) true Try.f5.params.toList args.toList ds p := hA0
  rw [Try.params5] at hA hval
  obtain ⟨v0, vs0, d0, ds0, p_0, q_0, hargs, rfl, rfl, h0, r_0⟩ := trodAll_cons hA
  obtain ⟨rfl, rfl, rfl⟩ := trodAll_nil r_0
  obtain rfl : args = #[v0] := by cases args; simp_all
  obtain ⟨rfl, rfl⟩ := trodVars_none hV
  have k0 := h0
  have lt0 : ∀ x ∈ p_0, x.block < W.heap.size := by obtain ⟨m, hm⟩ := k0; exact DataW.trod_lt m _ _ _ hm
  obtain ⟨p0, len0, cap0, bl0, off0, V0, rfl, hl0, hm0, ha0, hz0, hs0, hv0⟩ := open_flat Try.underlying22 flat29 (by decide) (hval 0 22 v0 rfl rfl) h0
  clear hA0 hval0
  have key : Calls Try.prog 5 #[.slice p0 len0 cap0] W fun e W' => e = .returned (.bool true) ∧ Below W.heap.size W W' := by
    have hs : SL W bl0 off0 len0 2 V0 := hs0
    obtain ⟨N, hN, hN0⟩ := hs.ints 0 (by omega) (k := .u64) (fun i hi => hv0 i hi 0 _ rfl)
    obtain ⟨B, hB, hB0⟩ := hs.ints 1 (by omega) (k := .i64) (fun i hi => hv0 i hi 1 _ rfl)
    by_cases hc : 40 < len0
    · exact back_many p0 len0 cap0 hm0 hl0 hc W
    · exact back_few p0 len0 cap0 bl0 off0 N B (by omega) W ha0 hs0.lt hN hB (fun i hi => u64_nat (hN0 i hi))
  refine key.mono fun e W' ⟨he, bel⟩ => ?_
  subst he
  exact ⟨_, rfl, _, _, _, [], _, [], hW', trodAll_mk1 (shut_bool Try.underlying4 _), (trodAll_cons_mk (Below.trod laidOut (by kernel_rfl) (of_decide_eq_true (by kernel_rfl)) k0 bel lt0) trodAll_mk0), rfl, bel.frame _, fun h => by cases h⟩

theorem over : Rows.bitioBackRow.holds Try.pinned (OpenSpec.ofChange Rows.bitioBackSpec) :=
  OpenClaim.holds_of_wide 5 Try.f5 rfl rfl rfl rfl rfl rfl rfl ⟨rfl, rfl, rfl, rfl, rfl⟩ rfl rfl rfl rfl rfl (by kernel_rfl) Try.func5 (by kernel_rfl)
    (of_decide_eq_true (by kernel_rfl)) (by unfold Func.isWrapper; first | (rw [if_pos (by decide +kernel)]; kernel_rfl) | (rw [if_neg (by decide +kernel)]; exact ⟨rfl, rfl⟩))
    (fun os started H enc _ => lifted os started H enc)

theorem proved : Rows.BitioBackSaid := over
#print axioms proved
end Go.Proofs.Ytgkbmpphodabnaa.bitioBack
