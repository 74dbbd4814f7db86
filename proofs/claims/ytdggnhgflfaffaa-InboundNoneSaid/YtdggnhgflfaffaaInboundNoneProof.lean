/- The Go function lightshiplaw28.InboundNone returns true at every input, and each argument reads afterwards as it read before. Conditions: none beyond the row's own. The frame below was printed by a small program (frame.py) after the kit's proof-skeleton. -/
import Derived.Test.YtdggnhgflfaffaaRows
import Derived.WalkKit
import Derived.ProofKit
import Derived.OpenShut
import Derived.ShutString
import Derived.ChangeOld
import Derived.Below
import Derived.JoinedCond
import Derived.Test.YtdggnhgflfaffaaOpen
import Derived.Test.YtdggnhgflfaffaaInbLaw
namespace Go.Proofs.Ytdggnhgflfaffaa.inboundNone
open Go.ChangeShapes Go.WideShapes Go.ChangeAt Go.RowKit
open Go.ChangeMaps (open_string shut_string)
set_option linter.unusedVariables false

theorem own : ownKnob Try.prog.godebug = none := by kernel_rfl
theorem laidOut : laidOutB Try.prog = true := by kernel_rfl
theorem flat3 : Flat Try.prog 3 [IsI .i64] := flat_int Try.underlying3 (by kernel_rfl)
theorem flat32 : Flat Try.prog 32 [IsI .u32] := flat_int Try.underlying32 (by kernel_rfl)
theorem flat9 : Flat Try.prog 9 [IsS] := flat_string Try.underlying9 (by kernel_rfl)
theorem flat41 : Flat Try.prog 41 [IsI .i64, IsI .u32, IsS, IsI .i64] := flat_struct Try.underlying41 (by kernel_rfl) (fun j hj => match j, hj with | 0, _ => ⟨0, _, [IsI .i64], rfl, flat3, by decide, by decide, rfl⟩ | 1, _ => ⟨1, _, [IsI .u32], rfl, flat32, by decide, by decide, rfl⟩ | 2, _ => ⟨2, _, [IsS], rfl, flat9, by decide, by decide, rfl⟩ | 3, _ => ⟨3, _, [IsI .i64], rfl, flat3, by decide, by decide, rfl⟩ | j + 4, h => absurd h (by simp))

set_option maxRecDepth 100000 in
theorem lifted (os : Os) (started : os.Started) (H : Type) (enc : TypeId × Value → H) :
    ReturnsInHanded {} Try.checked os 4 .any (Rows.inboundNoneSpec.pre6 enc Try.prog Try.f4 Rows.inboundNoneRow.domain false) (Rows.inboundNoneSpec.post enc Try.prog Try.f4 false true false false) := by
  refine returnsInHanded_of_change (C := Try.checked) own started (by kernel_rfl) Try.func4
    (ChangeSpec.witness6 (enc := enc) (C := Try.checked) false ⟨#[], #[.agg #[.int .i64 0, .int .u32 0, .string ByteArray.empty, .int .i64 0], .int .i64 0], []⟩ 8 (by kernel_rfl) (by kernel_rfl) (by kernel_rfl) (by kernel_rfl)) ?_
  intro W base args ds gs before hval0 hW hcnd _
  have hval : ∀ (j : Nat) t v, Try.f4.params[j]? = some t → args[j]? = some v → Value.okWide Try.prog W .any base t v := hval0
  have hW' := hW
  obtain ⟨p, q, hA0, hV, rfl, hfz, hnd⟩ := hW
  have hA : DataW.TrodAll enc Try.prog W 0 (fun _ => true) true Try.f4.params.toList args.toList ds p := hA0
  rw [Try.params4] at hA hval
  obtain ⟨v0, vs0, d0, ds0, p_0, q_0, hargs, rfl, rfl, h0, r_0⟩ := trodAll_cons hA
  obtain ⟨v1, vs1, d1, ds1, p_1, q_1, rfl, rfl, rfl, h1, r_1⟩ := trodAll_cons r_0
  obtain ⟨rfl, rfl, rfl⟩ := trodAll_nil r_1
  obtain rfl : args = #[v0, v1] := by cases args; simp_all
  obtain ⟨rfl, rfl⟩ := trodVars_none hV
  have k0 := h0
  have lt0 : ∀ x ∈ p_0, x.block < W.heap.size := by obtain ⟨m, hm⟩ := k0; exact DataW.trod_lt m _ _ _ hm
  obtain ⟨V0, rfl, hv0⟩ := open_flat1 flat41 (ks := [IsI .i64, IsI .u32, IsS, IsI .i64]) Try.underlying41 (hval 0 41 v0 rfl rfl) h0
  have k1 := h1
  have lt1 : ∀ x ∈ p_1, x.block < W.heap.size := by obtain ⟨m, hm⟩ := k1; exact DataW.trod_lt m _ _ _ hm
  obtain ⟨a1, rfl, _, _, w1⟩ := open_int Try.underlying3 (hval 1 3 v1 rfl rfl) h1
  have b1 : -9223372036854775808 ≤ a1 ∧ a1 ≤ 9223372036854775807 := by simpa [Lit.wf, IntKind.min, IntKind.max, IntKind.signed, IntKind.bits] using w1
  clear hA0 hval0
  have key : Calls Try.prog 4 #[.agg #[V0 0, V0 1, V0 2, V0 3], .int .i64 a1] W fun e W' => e = .returned (.bool true) ∧ Below W.heap.size W W' := by
    obtain ⟨K, e0, _⟩ := hv0 0 (IsI .i64) rfl
    obtain ⟨X, e1, _⟩ := hv0 1 (IsI .u32) rfl
    obtain ⟨S, e2, _⟩ := hv0 2 IsS rfl
    obtain ⟨N, e3, _⟩ := hv0 3 (IsI .i64) rfl
    rw [e0, e1, e2, e3]
    exact none_all K X N _ S W
  refine key.mono fun e W' ⟨he, bel⟩ => ?_
  subst he
  exact ⟨_, rfl, _, _, _, [], _, [], hW', trodAll_mk1 (shut_bool Try.underlying4 _), (trodAll_cons_mk (Below.trod laidOut (by kernel_rfl) (of_decide_eq_true (by kernel_rfl)) k0 bel lt0) (trodAll_cons_mk (Below.trod laidOut (by kernel_rfl) (of_decide_eq_true (by kernel_rfl)) k1 bel lt1) trodAll_mk0)), rfl, bel.frame _, fun h => by cases h⟩

theorem over : Rows.inboundNoneRow.holds Try.pinned (OpenSpec.ofChange Rows.inboundNoneSpec) :=
  OpenClaim.holds_of_wide 4 Try.f4 rfl rfl rfl rfl rfl rfl rfl ⟨rfl, rfl, rfl, rfl, rfl⟩ rfl rfl rfl rfl rfl (by kernel_rfl) Try.func4 (by kernel_rfl)
    (of_decide_eq_true (by kernel_rfl)) (by unfold Func.isWrapper; first | (rw [if_pos (by decide +kernel)]; kernel_rfl) | (rw [if_neg (by decide +kernel)]; exact ⟨rfl, rfl⟩))
    (fun os started H enc _ => lifted os started H enc)

theorem proved : Rows.InboundNoneSaid := over
#print axioms proved
end Go.Proofs.Ytdggnhgflfaffaa.inboundNone
