/- The Go function lightshiplaw28.InboundPlays returns true at every input, and each argument reads afterwards as it read before. Conditions: none beyond the row's own. The frame below was printed by a small program (frame.py) after the kit's proof-skeleton. -/
import Derived.Test.YtdggnhgflfaffaaRows
import Derived.WalkKit
import Derived.ProofKit
import Derived.OpenShut
import Derived.ShutString
import Derived.ChangeOld
import Derived.Below
import Derived.JoinedCond
import Derived.Test.YtdggnhgflfaffaaOpen
import Derived.Test.YtdggnhgflfaffaaInbMain
namespace Go.Proofs.Ytdggnhgflfaffaa.inboundPlays
open Go.ChangeShapes Go.WideShapes Go.ChangeAt Go.RowKit
open Go.ChangeMaps (open_string shut_string)
set_option linter.unusedVariables false

theorem own : ownKnob Try.prog.godebug = none := by kernel_rfl
theorem laidOut : laidOutB Try.prog = true := by kernel_rfl
theorem flat3 : Flat Try.prog 3 [IsI .i64] := flat_int Try.underlying3 (by kernel_rfl)
theorem flat23 : Flat Try.prog 23 [IsI .i64, IsI .i64, IsI .i64, IsI .i64, IsI .i64, IsI .i64, IsI .i64, IsI .i64, IsI .i64, IsI .i64, IsI .i64] := flat_struct Try.underlying23 (by kernel_rfl) (fun j hj => match j, hj with | 0, _ => ⟨0, _, [IsI .i64], rfl, flat3, by decide, by decide, rfl⟩ | 1, _ => ⟨1, _, [IsI .i64], rfl, flat3, by decide, by decide, rfl⟩ | 2, _ => ⟨2, _, [IsI .i64], rfl, flat3, by decide, by decide, rfl⟩ | 3, _ => ⟨3, _, [IsI .i64], rfl, flat3, by decide, by decide, rfl⟩ | 4, _ => ⟨4, _, [IsI .i64], rfl, flat3, by decide, by decide, rfl⟩ | 5, _ => ⟨5, _, [IsI .i64], rfl, flat3, by decide, by decide, rfl⟩ | 6, _ => ⟨6, _, [IsI .i64], rfl, flat3, by decide, by decide, rfl⟩ | 7, _ => ⟨7, _, [IsI .i64], rfl, flat3, by decide, by decide, rfl⟩ | 8, _ => ⟨8, _, [IsI .i64], rfl, flat3, by decide, by decide, rfl⟩ | 9, _ => ⟨9, _, [IsI .i64], rfl, flat3, by decide, by decide, rfl⟩ | 10, _ => ⟨10, _, [IsI .i64], rfl, flat3, by decide, by decide, rfl⟩ | j + 11, h => absurd h (by simp))
theorem flat32 : Flat Try.prog 32 [IsI .u32] := flat_int Try.underlying32 (by kernel_rfl)
theorem flat9 : Flat Try.prog 9 [IsS] := flat_string Try.underlying9 (by kernel_rfl)
theorem flat41 : Flat Try.prog 41 [IsI .i64, IsI .u32, IsS, IsI .i64] := flat_struct Try.underlying41 (by kernel_rfl) (fun j hj => match j, hj with | 0, _ => ⟨0, _, [IsI .i64], rfl, flat3, by decide, by decide, rfl⟩ | 1, _ => ⟨1, _, [IsI .u32], rfl, flat32, by decide, by decide, rfl⟩ | 2, _ => ⟨2, _, [IsS], rfl, flat9, by decide, by decide, rfl⟩ | 3, _ => ⟨3, _, [IsI .i64], rfl, flat3, by decide, by decide, rfl⟩ | j + 4, h => absurd h (by simp))

set_option maxRecDepth 100000 in
theorem lifted (os : Os) (started : os.Started) (H : Type) (enc : TypeId × Value → H) :
    ReturnsInHanded {} Try.checked os 3 .any (Rows.inboundPlaysSpec.pre6 enc Try.prog Try.f3 Rows.inboundPlaysRow.domain false) (Rows.inboundPlaysSpec.post enc Try.prog Try.f3 false true false false) := by
  refine returnsInHanded_of_change (C := Try.checked) own started (by kernel_rfl) Try.func3
    (ChangeSpec.witness6 (enc := enc) (C := Try.checked) false ⟨#[], #[.agg #[.int .i64 0, .int .i64 0, .int .i64 0, .int .i64 0, .int .i64 0, .int .i64 0, .int .i64 0, .int .i64 0, .int .i64 0, .int .i64 0, .int .i64 0], .slice none 0 0], []⟩ 8 (by kernel_rfl) (by kernel_rfl) (by kernel_rfl) (by kernel_rfl)) ?_
  intro W base args ds gs before hval0 hW hcnd _
  have hval : ∀ (j : Nat) t v, Try.f3.params[j]? = some t → args[j]? = some v → Value.okWide Try.prog W .any base t v := hval0
  have hW' := hW
  obtain ⟨p, q, hA0, hV, rfl, hfz, hnd⟩ := hW
  have hA : DataW.TrodAll enc Try.prog W 0 (fun _ => true) true Try.f3.params.toList args.toList ds p := hA0
  rw [Try.params3] at hA hval
  obtain ⟨v0, vs0, d0, ds0, p_0, q_0, hargs, rfl, rfl, h0, r_0⟩ := trodAll_cons hA
  obtain ⟨v1, vs1, d1, ds1, p_1, q_1, rfl, rfl, rfl, h1, r_1⟩ := trodAll_cons r_0
  obtain ⟨rfl, rfl, rfl⟩ := trodAll_nil r_1
  obtain rfl : args = #[v0, v1] := by cases args; simp_all
  obtain ⟨rfl, rfl⟩ := trodVars_none hV
  have k0 := h0
  have lt0 : ∀ x ∈ p_0, x.block < W.heap.size := by obtain ⟨m, hm⟩ := k0; exact DataW.trod_lt m _ _ _ hm
  obtain ⟨V0, rfl, hv0⟩ := open_flat1 flat23 (ks := [IsI .i64, IsI .i64, IsI .i64, IsI .i64, IsI .i64, IsI .i64, IsI .i64, IsI .i64, IsI .i64, IsI .i64, IsI .i64]) Try.underlying23 (hval 0 23 v0 rfl rfl) h0
  have k1 := h1
  have lt1 : ∀ x ∈ p_1, x.block < W.heap.size := by obtain ⟨m, hm⟩ := k1; exact DataW.trod_lt m _ _ _ hm
  obtain ⟨p1, len1, cap1, bl1, off1, V1, rfl, hl1, hm1, ha1, hz1, hs1, hv1⟩ := open_flat Try.underlying24 flat41 (by decide) (hval 1 24 v1 rfl rfl) h1
  clear hA0 hval0
  have key : Calls Try.prog 3 #[.agg #[V0 0, V0 1, V0 2, V0 3, V0 4, V0 5, V0 6, V0 7, V0 8, V0 9, V0 10], .slice p1 len1 cap1] W fun e W' => e = .returned (.bool true) ∧ Below W.heap.size W W' := by
    obtain ⟨C0, e0, _⟩ := hv0 0 (IsI .i64) rfl
    obtain ⟨C1, e1, _⟩ := hv0 1 (IsI .i64) rfl
    obtain ⟨C2, e2, _⟩ := hv0 2 (IsI .i64) rfl
    obtain ⟨C3, e3, _⟩ := hv0 3 (IsI .i64) rfl
    obtain ⟨C4, e4, _⟩ := hv0 4 (IsI .i64) rfl
    obtain ⟨C5, e5, _⟩ := hv0 5 (IsI .i64) rfl
    obtain ⟨C6, e6, _⟩ := hv0 6 (IsI .i64) rfl
    obtain ⟨C7, e7, _⟩ := hv0 7 (IsI .i64) rfl
    obtain ⟨C8, e8, _⟩ := hv0 8 (IsI .i64) rfl
    obtain ⟨C9, e9, _⟩ := hv0 9 (IsI .i64) rfl
    obtain ⟨C10, e10, _⟩ := hv0 10 (IsI .i64) rfl
    rw [e0, e1, e2, e3, e4, e5, e6, e7, e8, e9, e10]
    have hs : SL W bl1 off1 len1 4 V1 := hs1
    obtain ⟨K, hK, _⟩ := hs.ints 0 (by omega) (k := .i64) (fun i hi => hv1 i hi 0 _ rfl)
    obtain ⟨X, hX, hX0⟩ := hs.ints 1 (by omega) (k := .u32) (fun i hi => hv1 i hi 1 _ rfl)
    obtain ⟨S, hS, hSm⟩ := hs.strs 2 (by omega) (fun i hi => hv1 i hi 2 _ rfl)
    obtain ⟨N, hN, _⟩ := hs.ints 3 (by omega) (k := .i64) (fun i hi => hv1 i hi 3 _ rfl)
    obtain ⟨C, hC⟩ : ∃ C : Nat → Int, C = fun k => ([C0, C1, C2, C3, C4, C5, C6, C7, C8, C9, C10] : List Int).getD k 0 := ⟨_, rfl⟩
    have hcv : #[Value.int .i64 C0, Value.int .i64 C1, Value.int .i64 C2, Value.int .i64 C3, Value.int .i64 C4, Value.int .i64 C5, Value.int .i64 C6, Value.int .i64 C7, Value.int .i64 C8, Value.int .i64 C9, Value.int .i64 C10] = cfgV C := by rw [hC]; rfl
    show Calls Try.prog _ #[.agg #[.int .i64 C0, .int .i64 C1, .int .i64 C2, .int .i64 C3, .int .i64 C4, .int .i64 C5, .int .i64 C6, .int .i64 C7, .int .i64 C8, .int .i64 C9, .int .i64 C10], _] W _
    rw [hcv]
    by_cases hc : SmallP C ∧ len1 ≤ 60
    · have hXn : ∀ i, i < len1 → 0 ≤ X i ∧ X i < 4294967296 := fun i hi => by
        have := hX0 i hi
        simp [IntKind.min, IntKind.max, IntKind.signed, IntKind.bits] at this
        omega
      exact plays_few C hc.1 p1 len1 cap1 bl1 off1 K N (fun i => (X i).toNat) S hc.2 W ha1 hs1.lt (fun i hi => by have h := hK i hi; simpa using h) (fun i hi => by have h := hX i hi; rw [show (((X i).toNat : Nat) : Int) = X i by have := hXn i hi; omega]; exact h) hS hN (fun i hi => by have := hXn i hi; show (X i).toNat < _; omega) hSm
    · exact plays_easy C p1 len1 cap1 hm1 hl1 hc W
  refine key.mono fun e W' ⟨he, bel⟩ => ?_
  subst he
  exact ⟨_, rfl, _, _, _, [], _, [], hW', trodAll_mk1 (shut_bool Try.underlying4 _), (trodAll_cons_mk (Below.trod laidOut (by kernel_rfl) (of_decide_eq_true (by kernel_rfl)) k0 bel lt0) (trodAll_cons_mk (Below.trod laidOut (by kernel_rfl) (of_decide_eq_true (by kernel_rfl)) k1 bel lt1) trodAll_mk0)), rfl, bel.frame _, fun h => by cases h⟩

theorem over : Rows.inboundPlaysRow.holds Try.pinned (OpenSpec.ofChange Rows.inboundPlaysSpec) :=
  OpenClaim.holds_of_wide 3 Try.f3 rfl rfl rfl rfl rfl rfl rfl ⟨rfl, rfl, rfl, rfl, rfl⟩ rfl rfl rfl rfl rfl (by kernel_rfl) Try.func3 (by kernel_rfl)
    (of_decide_eq_true (by kernel_rfl)) (by unfold Func.isWrapper; first | (rw [if_pos (by decide +kernel)]; kernel_rfl) | (rw [if_neg (by decide +kernel)]; exact ⟨rfl, rfl⟩))
    (fun os started H enc _ => lifted os started H enc)

theorem proved : Rows.InboundPlaysSaid := over
#print axioms proved
end Go.Proofs.Ytdggnhgflfaffaa.inboundPlays
