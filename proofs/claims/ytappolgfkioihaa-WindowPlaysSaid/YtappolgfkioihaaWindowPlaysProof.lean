/- The Go function lightshiplaw15.WindowPlays returns true at every input, and each argument reads afterwards as it read before. Conditions: none beyond the row's own. The frame below was printed by a small program (frame.py) after the kit's proof-skeleton. -/
import Derived.Test.YtappolgfkioihaaRows
import Derived.WalkKit
import Derived.ProofKit
import Derived.OpenShut
import Derived.ShutString
import Derived.ChangeOld
import Derived.Below
import Derived.JoinedCond
import Derived.Test.YtappolgfkioihaaOpen
import Derived.Test.YtappolgfkioihaaWinPlays
namespace Go.Proofs.Ytappolgfkioihaa.windowPlays
open Go.ChangeShapes Go.WideShapes Go.ChangeAt Go.RowKit
open Go.ChangeMaps (open_string shut_string)
set_option linter.unusedVariables false

theorem own : ownKnob Try.prog.godebug = none := by kernel_rfl
theorem laidOut : laidOutB Try.prog = true := by kernel_rfl
theorem flat3 : Flat Try.prog 3 [IsI .i64] := flat_int Try.underlying3 (by kernel_rfl)
theorem flat22 : Flat Try.prog 22 [IsI .u32] := flat_int Try.underlying22 (by kernel_rfl)
theorem flat33 : Flat Try.prog 33 [IsI .i64, IsI .u32, IsI .i64] := flat_struct Try.underlying33 (by kernel_rfl) (fun j hj => match j, hj with | 0, _ => ⟨0, _, [IsI .i64], rfl, flat3, by decide, by decide, rfl⟩ | 1, _ => ⟨1, _, [IsI .u32], rfl, flat22, by decide, by decide, rfl⟩ | 2, _ => ⟨2, _, [IsI .i64], rfl, flat3, by decide, by decide, rfl⟩ | j + 3, h => absurd h (by simp))

set_option maxRecDepth 100000 in
theorem lifted (os : Os) (started : os.Started) (H : Type) (enc : TypeId × Value → H) :
    ReturnsInHanded {} Try.checked os 3 .any (Rows.windowPlaysSpec.pre6 enc Try.prog Try.f3 Rows.windowPlaysRow.domain false) (Rows.windowPlaysSpec.post enc Try.prog Try.f3 false true false false) := by
  refine returnsInHanded_of_change (C := Try.checked) own started (by kernel_rfl) Try.func3
    (ChangeSpec.witness6 (enc := enc) (C := Try.checked) false ⟨#[], #[.int .u32 0, .int .i64 0, .slice none 0 0], []⟩ 8 (by kernel_rfl) (by kernel_rfl) (by kernel_rfl) (by kernel_rfl)) ?_
  intro W base args ds gs before hval0 hW hcnd _
  have hval : ∀ (j : Nat) t v, Try.f3.params[j]? = some t → args[j]? = some v → Value.okWide Try.prog W .any base t v := hval0
  have hW' := hW
  obtain ⟨p, q, hA0, hV, rfl, hfz, hnd⟩ := hW
  have hA : DataW.TrodAll enc Try.prog W 0 (fun _ => true) true Try.f3.params.toList args.toList ds p := hA0
  rw [Try.params3] at hA hval
  obtain ⟨v0, vs0, d0, ds0, p_0, q_0, hargs, rfl, rfl, h0, r_0⟩ := trodAll_cons hA
  obtain ⟨v1, vs1, d1, ds1, p_1, q_1, rfl, rfl, rfl, h1, r_1⟩ := trodAll_cons r_0
  obtain ⟨v2, vs2, d2, ds2, p_2, q_2, rfl, rfl, rfl, h2, r_2⟩ := trodAll_cons r_1
  obtain ⟨rfl, rfl, rfl⟩ := trodAll_nil r_2
  obtain rfl : args = #[v0, v1, v2] := by cases args; simp_all
  obtain ⟨rfl, rfl⟩ := trodVars_none hV
  have k0 := h0
  have lt0 : ∀ x ∈ p_0, x.block < W.heap.size := by obtain ⟨m, hm⟩ := k0; exact DataW.trod_lt m _ _ _ hm
  obtain ⟨a0, rfl, _, _, w0⟩ := open_int Try.underlying22 (hval 0 22 v0 rfl rfl) h0
  have b0 : 0 ≤ a0 ∧ a0 ≤ 4294967295 := by simpa [Lit.wf, IntKind.min, IntKind.max, IntKind.signed, IntKind.bits] using w0
  have k1 := h1
  have lt1 : ∀ x ∈ p_1, x.block < W.heap.size := by obtain ⟨m, hm⟩ := k1; exact DataW.trod_lt m _ _ _ hm
  obtain ⟨a1, rfl, _, _, w1⟩ := open_int Try.underlying3 (hval 1 3 v1 rfl rfl) h1
  have b1 : -9223372036854775808 ≤ a1 ∧ a1 ≤ 9223372036854775807 := by simpa [Lit.wf, IntKind.min, IntKind.max, IntKind.signed, IntKind.bits] using w1
  have k2 := h2
  have lt2 : ∀ x ∈ p_2, x.block < W.heap.size := by obtain ⟨m, hm⟩ := k2; exact DataW.trod_lt m _ _ _ hm
  obtain ⟨p2, len2, cap2, bl2, off2, V2, rfl, hl2, hm2, ha2, hz2, hs2, hv2⟩ := open_flat Try.underlying23 flat33 (by decide) (hval 2 23 v2 rfl rfl) h2
  clear hA0 hval0
  have key : Calls Try.prog 3 #[.int .u32 a0, .int .i64 a1, .slice p2 len2 cap2] W fun e W' => e = .returned (.bool true) ∧ Below W.heap.size W W' := by
    have hs : SL W bl2 off2 len2 3 V2 := hs2
    obtain ⟨K, hK, _⟩ := hs.ints 0 (by omega) (k := .i64) (fun i hi => hv2 i hi 0 _ rfl)
    obtain ⟨X, hX, hX0⟩ := hs.ints 1 (by omega) (k := .u32) (fun i hi => hv2 i hi 1 _ rfl)
    obtain ⟨R, hR, hR0⟩ := hs.ints 2 (by omega) (k := .i64) (fun i hi => hv2 i hi 2 _ rfl)
    by_cases hc : 80 < len2
    · exact plays_many a0 a1 p2 len2 cap2 hm2 hl2 hc W
    · by_cases hr : a1 < 1 ∨ 64 < a1
      · exact plays_bad a0 a1 hr p2 len2 cap2 (by omega) W
      · obtain ⟨r, rfl⟩ : ∃ r : Nat, a1 = (r : Int) := ⟨a1.toNat, by omega⟩
        obtain ⟨q, rfl⟩ : ∃ q : Nat, a0 = (q : Int) := ⟨a0.toNat, by omega⟩
        have hXn : ∀ i, i < len2 → 0 ≤ X i ∧ X i < 4294967296 := fun i hi => by
          have := hX0 i hi
          simp [IntKind.min, IntKind.max, IntKind.signed, IntKind.bits] at this
          omega
        have hRn : ∀ i, i < len2 → R i ≤ 9223372036854775807 := fun i hi => by
          have := hR0 i hi
          simp [IntKind.min, IntKind.max, IntKind.signed, IntKind.bits] at this
          omega
        exact plays_few q r (by omega) (by omega) (by omega) p2 len2 cap2 bl2 off2 K R (fun i => (X i).toNat) (by omega) W ha2 hs2.lt (fun i hi => by have h := hK i hi; simpa using h) (fun i hi => by have h := hX i hi; rw [show (((X i).toNat : Nat) : Int) = X i by have := hXn i hi; omega]; exact h) hR (fun i hi => by have := hXn i hi; show (X i).toNat < _; omega) hRn
  refine key.mono fun e W' ⟨he, bel⟩ => ?_
  subst he
  exact ⟨_, rfl, _, _, _, [], _, [], hW', trodAll_mk1 (shut_bool Try.underlying4 _), (trodAll_cons_mk (Below.trod laidOut (by kernel_rfl) (of_decide_eq_true (by kernel_rfl)) k0 bel lt0) (trodAll_cons_mk (Below.trod laidOut (by kernel_rfl) (of_decide_eq_true (by kernel_rfl)) k1 bel lt1) (trodAll_cons_mk (Below.trod laidOut (by kernel_rfl) (of_decide_eq_true (by kernel_rfl)) k2 bel lt2) trodAll_mk0))), rfl, bel.frame _, fun h => by cases h⟩

theorem over : Rows.windowPlaysRow.holds Try.pinned (OpenSpec.ofChange Rows.windowPlaysSpec) :=
  OpenClaim.holds_of_wide 3 Try.f3 rfl rfl rfl rfl rfl rfl rfl ⟨rfl, rfl, rfl, rfl, rfl⟩ rfl rfl rfl rfl rfl (by kernel_rfl) Try.func3 (by kernel_rfl)
    (of_decide_eq_true (by kernel_rfl)) (by unfold Func.isWrapper; first | (rw [if_pos (by decide +kernel)]; kernel_rfl) | (rw [if_neg (by decide +kernel)]; exact ⟨rfl, rfl⟩))
    (fun os started H enc _ => lifted os started H enc)

theorem proved : Rows.WindowPlaysSaid := over
#print axioms proved
end Go.Proofs.Ytappolgfkioihaa.windowPlays
