/- The Go function lightshiplaw35.LinearOrders returns true at every input, and each argument reads afterwards as it read before. Conditions: none beyond the row's own. The frame below was printed by a small program (frame.py) after the kit's proof-skeleton. -/
import Derived.Test.YtpojophpbggkcaaRows
import Derived.WalkKit
import Derived.ProofKit
import Derived.OpenShut
import Derived.ShutString
import Derived.ChangeOld
import Derived.Below
import Derived.JoinedCond
import Derived.Test.YtpojophpbggkcaaOpen
import Derived.Test.YtpojophpbggkcaaLo22
namespace Go.Proofs.Ytpojophpbggkcaa.linearOrders
open Go.ChangeShapes Go.WideShapes Go.ChangeAt Go.RowKit
open Go.ChangeMaps (open_string shut_string)
set_option linter.unusedVariables false

theorem own : ownKnob Try.prog.godebug = none := by kernel_rfl
theorem laidOut : laidOutB Try.prog = true := by kernel_rfl
theorem flat3 : Flat Try.prog 3 [IsI .i64] := flat_int Try.underlying3 (by kernel_rfl)
theorem flat9 : Flat Try.prog 9 [IsS] := flat_string Try.underlying9 (by kernel_rfl)
theorem flat36 : Flat Try.prog 36 [IsI .i64, IsI .i64, IsI .i64, IsS] := flat_struct Try.underlying36 (by kernel_rfl) (fun j hj => match j, hj with | 0, _ => ⟨0, _, [IsI .i64], rfl, flat3, by decide, by decide, rfl⟩ | 1, _ => ⟨1, _, [IsI .i64], rfl, flat3, by decide, by decide, rfl⟩ | 2, _ => ⟨2, _, [IsI .i64], rfl, flat3, by decide, by decide, rfl⟩ | 3, _ => ⟨3, _, [IsS], rfl, flat9, by decide, by decide, rfl⟩ | j + 4, h => absurd h (by simp))
theorem flat26 : Flat Try.prog 26 [IsI .i64] := flat_int Try.underlying26 (by kernel_rfl)
theorem flat38 : Flat Try.prog 38 [IsI .i64, IsS, IsI .i64] := flat_struct Try.underlying38 (by kernel_rfl) (fun j hj => match j, hj with | 0, _ => ⟨0, _, [IsI .i64], rfl, flat3, by decide, by decide, rfl⟩ | 1, _ => ⟨1, _, [IsS], rfl, flat9, by decide, by decide, rfl⟩ | 2, _ => ⟨2, _, [IsI .i64], rfl, flat26, by decide, by decide, rfl⟩ | j + 3, h => absurd h (by simp))
theorem flat40 : Flat Try.prog 40 [IsI .i64, IsI .i64, IsI .i64, IsI .i64, IsI .i64, IsS, IsI .i64, IsS, IsI .i64, IsI .i64, IsI .i64] := flat_struct Try.underlying40 (by kernel_rfl) (fun j hj => match j, hj with | 0, _ => ⟨0, _, [IsI .i64], rfl, flat3, by decide, by decide, rfl⟩ | 1, _ => ⟨1, _, [IsI .i64], rfl, flat3, by decide, by decide, rfl⟩ | 2, _ => ⟨2, _, [IsI .i64, IsI .i64, IsI .i64, IsS], rfl, flat36, by decide, by decide, rfl⟩ | 3, _ => ⟨2, _, [IsI .i64, IsI .i64, IsI .i64, IsS], rfl, flat36, by decide, by decide, rfl⟩ | 4, _ => ⟨2, _, [IsI .i64, IsI .i64, IsI .i64, IsS], rfl, flat36, by decide, by decide, rfl⟩ | 5, _ => ⟨2, _, [IsI .i64, IsI .i64, IsI .i64, IsS], rfl, flat36, by decide, by decide, rfl⟩ | 6, _ => ⟨3, _, [IsI .i64, IsS, IsI .i64], rfl, flat38, by decide, by decide, rfl⟩ | 7, _ => ⟨3, _, [IsI .i64, IsS, IsI .i64], rfl, flat38, by decide, by decide, rfl⟩ | 8, _ => ⟨3, _, [IsI .i64, IsS, IsI .i64], rfl, flat38, by decide, by decide, rfl⟩ | 9, _ => ⟨4, _, [IsI .i64], rfl, flat3, by decide, by decide, rfl⟩ | 10, _ => ⟨5, _, [IsI .i64], rfl, flat3, by decide, by decide, rfl⟩ | j + 11, h => absurd h (by simp))

set_option maxRecDepth 100000 in
theorem lifted (os : Os) (started : os.Started) (H : Type) (enc : TypeId × Value → H) :
    ReturnsInHanded {} Try.checked os 3 .any (Rows.linearOrdersSpec.pre6 enc Try.prog Try.f3 Rows.linearOrdersRow.domain false) (Rows.linearOrdersSpec.post enc Try.prog Try.f3 false true false false) := by
  refine returnsInHanded_of_change (C := Try.checked) own started (by kernel_rfl) Try.func3
    (ChangeSpec.witness6 (enc := enc) (C := Try.checked) false ⟨#[], #[.slice none 0 0, .slice none 0 0], []⟩ 8 (by kernel_rfl) (by kernel_rfl) (by kernel_rfl) (by kernel_rfl)) ?_
  intro W base args ds gs before hval0 hW hcnd _
  have hval : ∀ (j : Nat) t v, Try.f3.params[j]? = some t → args[j]? = some v → Value.okWide Try.prog W .any base t v := hval0
  have hW' := hW
  obtain ⟨p, q, hA0, hV, rfl, hfz, hnd⟩ := hW
  have hA : DataW.TrodAll enc Try.prog W 0 (fun _ => true) true Try.f3.params.toList args.toList ds p := hA0
  rw [Try.params3] at hA hval
  obtain ⟨v0, vs0, d0, ds0, p_0, q_0, hargs, rfl, rfl, h0, r_0⟩ := trodAll_cons hA
  obtain ⟨v1, vs1, d1, ds1, p_1, q_1, rfl, rfl, rfl, h1, r_1⟩ := trodAll_cons r_0
  obtain ⟨rfl, rfl, rfl⟩ := trodAll_nil r_1
  obtain rfl : args = #[v0, v1] := by cases args; simp_all
  obtain ⟨rfl, rfl⟩ := trodVars_none hV
  have k0 := h0
  have lt0 : ∀ x ∈ p_0, x.block < W.heap.size := by obtain ⟨m, hm⟩ := k0; exact DataW.trod_lt m _ _ _ hm
  obtain ⟨p0, len0, cap0, bl0, off0, V0, rfl, hl0, hm0, ha0, hz0, hs0, hv0⟩ := open_flat Try.underlying22 flat40 (by decide) (hval 0 22 v0 rfl rfl) h0
  have k1 := h1
  have lt1 : ∀ x ∈ p_1, x.block < W.heap.size := by obtain ⟨m, hm⟩ := k1; exact DataW.trod_lt m _ _ _ hm
  obtain ⟨p1, len1, cap1, bl1, off1, V1, rfl, hl1, hm1, ha1, hz1, hs1, hv1⟩ := open_flat Try.underlying23 flat3 (by decide) (hval 1 23 v1 rfl rfl) h1
  clear hA0 hval0
  have key : Calls Try.prog 3 #[.slice p0 len0 cap0, .slice p1 len1 cap1] W fun e W' => e = .returned (.bool true) ∧ Below W.heap.size W W' := by
    have hs : SL W bl0 off0 len0 11 V0 := hs0
    obtain ⟨A0, h0', _⟩ := hs.ints 0 (by omega) (k := .i64) (fun i hi => hv0 i hi 0 _ rfl)
    obtain ⟨A1, h1', _⟩ := hs.ints 1 (by omega) (k := .i64) (fun i hi => hv0 i hi 1 _ rfl)
    obtain ⟨A2, h2', _⟩ := hs.ints 2 (by omega) (k := .i64) (fun i hi => hv0 i hi 2 _ rfl)
    obtain ⟨A3, h3', _⟩ := hs.ints 3 (by omega) (k := .i64) (fun i hi => hv0 i hi 3 _ rfl)
    obtain ⟨A4, h4', _⟩ := hs.ints 4 (by omega) (k := .i64) (fun i hi => hv0 i hi 4 _ rfl)
    obtain ⟨S5, h5', m5⟩ := hs.strs 5 (by omega) (fun i hi => hv0 i hi 5 _ rfl)
    obtain ⟨A6, h6', _⟩ := hs.ints 6 (by omega) (k := .i64) (fun i hi => hv0 i hi 6 _ rfl)
    obtain ⟨S7, h7', m7⟩ := hs.strs 7 (by omega) (fun i hi => hv0 i hi 7 _ rfl)
    obtain ⟨A8, h8', _⟩ := hs.ints 8 (by omega) (k := .i64) (fun i hi => hv0 i hi 8 _ rfl)
    obtain ⟨A9, h9', _⟩ := hs.ints 9 (by omega) (k := .i64) (fun i hi => hv0 i hi 9 _ rfl)
    obtain ⟨A10, h10', m10⟩ := hs.ints 10 (by omega) (k := .i64) (fun i hi => hv0 i hi 10 _ rfl)
    have hr : SL W bl1 off1 len1 1 V1 := hs1
    obtain ⟨O, ho', _⟩ := hr.ints 0 (by omega) (k := .i64) (fun i hi => hv1 i hi 0 _ rfl)
    by_cases hc : 20 < len0
    · exact lo_long p0 p1 len0 cap0 len1 cap1 hc (Nat.le_trans hl0 hm0) W
    · exact lo_few (fun i => ⟨A0 i, A1 i, A2 i, A3 i, A4 i, S5 i, A6 i, S7 i, A8 i, A9 i, A10 i⟩) p0 bl0 off0 len0 cap0 p1 bl1 off1 len1 cap1 O (by omega) (Nat.le_trans hl1 hm1) (fun i hi => ⟨m5 i hi, m7 i hi⟩) (fun i hi => Int.le_trans (by decide : (-9223372036854775808 : Int) ≤ IntKind.i64.min) (m10 i hi).1) ha0 W ⟨fun h => by rcases hs.lt with h1 | h1; omega; exact h1, fun i hi j hj => by
        obtain rfl | rfl | rfl | rfl | rfl | rfl | rfl | rfl | rfl | rfl | rfl : j = 0 ∨ j = 1 ∨ j = 2 ∨ j = 3 ∨ j = 4 ∨ j = 5 ∨ j = 6 ∨ j = 7 ∨ j = 8 ∨ j = 9 ∨ j = 10 := by omega
        · exact h0' i hi
        · exact h1' i hi
        · exact h2' i hi
        · exact h3' i hi
        · exact h4' i hi
        · exact h5' i hi
        · exact h6' i hi
        · exact h7' i hi
        · exact h8' i hi
        · exact h9' i hi
        · exact h10' i hi⟩ ⟨ha1, fun h => by rcases hr.lt with h1 | h1; omega; exact h1, fun j hj => by have h := ho' j hj; simpa using h⟩
  refine key.mono fun e W' ⟨he, bel⟩ => ?_
  subst he
  exact ⟨_, rfl, _, _, _, [], _, [], hW', trodAll_mk1 (shut_bool Try.underlying4 _), (trodAll_cons_mk (Below.trod laidOut (by kernel_rfl) (of_decide_eq_true (by kernel_rfl)) k0 bel lt0) (trodAll_cons_mk (Below.trod laidOut (by kernel_rfl) (of_decide_eq_true (by kernel_rfl)) k1 bel lt1) trodAll_mk0)), rfl, bel.frame _, fun h => by cases h⟩

theorem over : Rows.linearOrdersRow.holds Try.pinned (OpenSpec.ofChange Rows.linearOrdersSpec) :=
  OpenClaim.holds_of_wide 3 Try.f3 rfl rfl rfl rfl rfl rfl rfl ⟨rfl, rfl, rfl, rfl, rfl⟩ rfl rfl rfl rfl rfl (by kernel_rfl) Try.func3 (by kernel_rfl)
    (of_decide_eq_true (by kernel_rfl)) (by unfold Func.isWrapper; first | (rw [if_pos (by decide +kernel)]; kernel_rfl) | (rw [if_neg (by decide +kernel)]; exact ⟨rfl, rfl⟩))
    (fun os started H enc _ => lifted os started H enc)

theorem proved : Rows.LinearOrdersSaid := over
#print axioms proved
end Go.Proofs.Ytpojophpbggkcaa.linearOrders
