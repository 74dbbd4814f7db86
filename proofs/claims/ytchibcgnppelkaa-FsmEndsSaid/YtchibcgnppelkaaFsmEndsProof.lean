/- The Go function lightshiplaw24.FsmEnds returns true at every input, and each argument reads afterwards as it read before. Conditions: none beyond the row's own. The frame below was printed by a small program (frame.py) after the kit's proof-skeleton. -/
import Derived.Test.YtchibcgnppelkaaRows
import Derived.WalkKit
import Derived.ProofKit
import Derived.OpenShut
import Derived.ShutString
import Derived.ChangeOld
import Derived.Below
import Derived.JoinedCond
import Derived.Test.YtchibcgnppelkaaOpen
import Derived.Test.YtchibcgnppelkaaFsmLaws
namespace Go.Proofs.Ytchibcgnppelkaa.fsmEnds
open Go.ChangeShapes Go.WideShapes Go.ChangeAt Go.RowKit
open Go.ChangeMaps (open_string shut_string)
set_option linter.unusedVariables false

theorem own : ownKnob Try.prog.godebug = none := by kernel_rfl
theorem laidOut : laidOutB Try.prog = true := by kernel_rfl
theorem flat5 : Flat Try.prog 5 [IsI .u8] := flat_int Try.underlying5 (by kernel_rfl)

set_option maxRecDepth 100000 in
theorem lifted (os : Os) (started : os.Started) (H : Type) (enc : TypeId × Value → H) :
    ReturnsInHanded {} Try.checked os 4 .any (Rows.fsmEndsSpec.pre6 enc Try.prog Try.f4 Rows.fsmEndsRow.domain false) (Rows.fsmEndsSpec.post enc Try.prog Try.f4 false true false false) := by
  refine returnsInHanded_of_change (C := Try.checked) own started (by kernel_rfl) Try.func4
    (ChangeSpec.witness6 (enc := enc) (C := Try.checked) false ⟨#[], #[.slice none 0 0], []⟩ 8 (by kernel_rfl) (by kernel_rfl) (by kernel_rfl) (by kernel_rfl)) ?_
  intro W base args ds gs before hval0 hW hcnd _
  have hval : ∀ (j : Nat) t v, Try.f4.params[j]? = some t → args[j]? = some v → Value.okWide Try.prog W .any base t v := hval0
  have hW' := hW
  obtain ⟨p, q, hA0, hV, rfl, hfz, hnd⟩ := hW
  have hA : DataW.TrodAll enc Try.prog W 0 (fun _ => true) true Try.f4.params.toList args.toList ds p := hA0
  rw [Try.params4] at hA hval
  obtain ⟨v0, vs0, d0, ds0, p_0, q_0, hargs, rfl, rfl, h0, r_0⟩ := trodAll_cons hA
  obtain ⟨rfl, rfl, rfl⟩ := trodAll_nil r_0
  obtain rfl : args = #[v0] := by cases args; simp_all
  obtain ⟨rfl, rfl⟩ := trodVars_none hV
  have k0 := h0
  have lt0 : ∀ x ∈ p_0, x.block < W.heap.size := by obtain ⟨m, hm⟩ := k0; exact DataW.trod_lt m _ _ _ hm
  obtain ⟨p0, len0, cap0, bl0, off0, V0, rfl, hl0, hm0, ha0, hz0, hs0, hv0⟩ := open_flat Try.underlying32 flat5 (by decide) (hval 0 32 v0 rfl rfl) h0
  clear hA0 hval0
  have key : Calls Try.prog 4 #[.slice p0 len0 cap0] W fun e W' => e = .returned (.bool true) ∧ Below W.heap.size W W' := by
    have hs : SL W bl0 off0 len0 1 V0 := hs0
    obtain ⟨X, hX, hX0⟩ := hs.ints 0 (by omega) (k := .u8) (fun i hi => hv0 i hi 0 _ rfl)
    exact (ends_all p0 len0 cap0 bl0 off0 X hl0 hm0 W ha0 (fun i hi => by have h := hX i hi; simpa using h) (fun i hi => by have h := hX0 i hi; simp [IntKind.min, IntKind.max, IntKind.signed, IntKind.bits] at h; omega)).mono fun e W' h => ⟨h.1, h.2 ▸ Below.refl _ _⟩
  refine key.mono fun e W' ⟨he, bel⟩ => ?_
  subst he
  exact ⟨_, rfl, _, _, _, [], _, [], hW', trodAll_mk1 (shut_bool Try.underlying4 _), (trodAll_cons_mk (Below.trod laidOut (by kernel_rfl) (of_decide_eq_true (by kernel_rfl)) k0 bel lt0) trodAll_mk0), rfl, bel.frame _, fun h => by cases h⟩

theorem over : Rows.fsmEndsRow.holds Try.pinned (OpenSpec.ofChange Rows.fsmEndsSpec) :=
  OpenClaim.holds_of_wide 4 Try.f4 rfl rfl rfl rfl rfl rfl rfl ⟨rfl, rfl, rfl, rfl, rfl⟩ rfl rfl rfl rfl rfl (by kernel_rfl) Try.func4 (by kernel_rfl)
    (of_decide_eq_true (by kernel_rfl)) (by unfold Func.isWrapper; first | (rw [if_pos (by decide +kernel)]; kernel_rfl) | (rw [if_neg (by decide +kernel)]; exact ⟨rfl, rfl⟩))
    (fun os started H enc _ => lifted os started H enc)

theorem proved : Rows.FsmEndsSaid := over
#print axioms proved
end Go.Proofs.Ytchibcgnppelkaa.fsmEnds
