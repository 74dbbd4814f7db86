/- lightshiplaw44.awake; the walk of ParityGroups. -/
import Derived.Test.YtjhbahjomeflaaaParity3
import Derived.Deep.AppendLies
namespace Go.Proofs.Ytjhbahjomeflaaa
open Go.ChangeShapes Go.WideShapes Go.ChangeAt Go.RowKit
set_option linter.unusedVariables false

def TruePost (W : World) (e : Ending) (w' : World) : Prop := e = .returned (.bool true) ∧ Below W.heap.size W w'
theorem strs_two (w : World) (s0 s1 : ByteArray) (T : TypeId) : Strs (w.alloc (.cells #[.string s0, .string s1] T)) (some ⟨w.heap.size, 0, none⟩) 2 (fun i => if i = 0 then s0 else s1) w.heap.size 0 := by
  have hB := Blk.new w #[.string s0, .string s1] T
  refine ⟨fun _ => rfl, fun _ => hB.lt, fun i hi => ?_⟩
  rw [hB.cell]
  match i, hi with
  | 0, _ => rfl
  | 1, _ => rfl
theorem fits_yes {P : Prop} (h : P) : Fits true P := ⟨fun _ => h, fun _ => rfl⟩
theorem fits_no {P : Prop} (h : ¬ P) : Fits false P := ⟨(fun h => by cases h), fun k => absurd k h⟩
theorem arr_eq (w : World) : (binOp .eql 37 (.agg #[.int .i64 4, .int .i64 5]) (.agg #[.int .i64 4, .int .i64 5])).run Try.prog w = .ok (.bool true) w := by kernel_rfl
theorem small_two (s0 s1 : ByteArray) (h0 : s0.size ≤ 1000) (h1 : s1.size ≤ 1000) : ∀ i, i < 2 → ((fun i => if i = 0 then s0 else s1) i : ByteArray).size ≤ 1000 := by
  intro i hi
  match i, hi with
  | 0, _ => exact h0
  | 1, _ => exact h1
theorem sum1 : sumB (fun i => if i = 0 then (⟨#[97, 98]⟩ : ByteArray) else ⟨#[99, 100]⟩) 0 ⟨#[97, 98]⟩ 2 = ⟨#[2, 6]⟩ := by rfl
theorem sum2 : sumB (fun i => if i = 0 then (⟨#[97, 98]⟩ : ByteArray) else ⟨#[]⟩) 1 ⟨#[2, 6]⟩ 2 = ⟨#[99, 100]⟩ := by rfl
set_option maxRecDepth 100000 in
set_option maxHeartbeats 4000000 in
theorem awake_true (w : World) : Calls Try.prog 7 #[] w (TruePost w) := by
  have hae := arr_eq
  go_enter Try.func7, Try.ntmps7
  go_wp2_with fail
  refine (of_good _ _ 2 2 _ 0 (by omega) (by omega) (small_two _ _ (by decide) (by decide)) _ (strs_two w ⟨#[97, 98]⟩ ⟨#[99, 100]⟩ _) ⟨#[2, 6]⟩ sum1 true (fits_yes (fun i hi hne => by match i, hi with | 0, _ => rfl | 1, _ => rfl))).mono ?_
  rintro e w1 ⟨rfl, hb1⟩
  have B1 : Below w.heap.size w w1 := ((Below.refl _ _).alloc (Nat.le_refl _) _).trans (hb1.mono (by simp))
  clear hb1
  go_wp2_with fail
  refine (back_good _ _ 2 2 _ 0 (by omega) (by omega) 1 (by omega) (by omega) ⟨#[2, 6]⟩ (by decide) (small_two _ _ (by decide) (by decide)) _ (strs_two w1 ⟨#[97, 98]⟩ ⟨#[]⟩ _) ⟨#[99, 100]⟩ sum2 true (fits_yes (fun i hi hne => by match i, hi, hne with | 0, _, _ => rfl | 1, _, h => exact absurd rfl h))).mono ?_
  rintro e w2 ⟨rfl, hb2⟩
  have B2 : Below w.heap.size w w2 := (B1.alloc B1.size _).trans (hb2.mono (by simp; have := B1.size; omega))
  clear hb2
  go_wp2_with fail
  refine (of_good _ _ 2 2 _ 0 (by omega) (by omega) (small_two _ _ (by decide) (by decide)) _ (strs_two w2 ⟨#[97]⟩ ⟨#[]⟩ _) _ rfl false (fits_no (fun h => by have := h 1 (by omega) (by omega); cases this))).mono ?_
  rintro e w3 ⟨rfl, hb3⟩
  have B3 : Below w.heap.size w w3 := (B2.alloc B2.size _).trans (hb3.mono (by simp; have := B2.size; omega))
  clear hb3
  go_wp2_with fail
  refine (groups_good 5 2 (by omega) (by omega) (by omega) _).mono ?_
  rintro e w4 ⟨m, v, rfl, hm1, hm2, hown, hb4⟩
  have hm : m = 3 := by
    have := hm2 (m - 1)
    omega
  subst hm
  have B4 : Below w.heap.size w w4 := B3.trans (hb4.mono B3.size)
  obtain ⟨g, cap, hv, hcap, hg⟩ := hown.form (by omega)
  have hge := hown.lt g (by rw [hv]; rfl)
  subst hv
  have c0 := hown.cellAt 4 (by omega)
  have c1 := hown.cellAt 5 (by omega)
  have d0 : w4.cell? ⟨g, 4, none⟩ = some (.int .i64 4) := by rw [c0]; rfl
  have d1 : w4.cell? ⟨g, 5, none⟩ = some (.int .i64 5) := by rw [c1]; rfl
  clear c0 c1 hown hm1 hm2 hb4
  have dg : g ≠ w4.heap.size := by omega
  go_wp2_with fail
  refine (back_out _ 1 _ (by omega) (by omega) 1 (by omega) _ _).mono ?_
  rintro e w5 ⟨rfl, hb5⟩
  have B5 : Below w.heap.size w w5 := (B4.alloc B4.size _).trans (hb5.mono (by simp; have := B4.size; omega))
  have f0 : w5.cell? ⟨g, 4, none⟩ = some (.int .i64 4) := kbelow hb5 (by simp; omega) (kalloc d0 _)
  have f1 : w5.cell? ⟨g, 5, none⟩ = some (.int .i64 5) := kbelow hb5 (by simp; omega) (kalloc d1 _)
  clear d0 d1 hb5
  go_wp2_with fail
  go_ret
  exact ⟨rfl, B5⟩

theorem groups_law_bad (n size : Int) (hb : n < 0 ∨ 65536 < n ∨ size < 1 ∨ 255 < size) (w : World) : Calls Try.prog 5 #[.int .i64 n, .int .i64 size] w (TruePost w) := by
  by_cases h1 : n < 0
  all_goals by_cases h2 : 65536 < n
  all_goals by_cases h3 : size < 1
  all_goals by_cases h4 : 255 < size
  all_goals try (exfalso; omega)
  all_goals
    go_enter Try.func5, Try.ntmps5
    go_wp2_with (first | (go_at_call 11; refine (groups_bad _ _ hb _).mono ?_; rintro e w' ⟨rfl, rfl⟩) | (go_at_call 7; refine (awake_true _).mono ?_; rintro e w6 ⟨rfl, hb6⟩))
    go_ret
    exact ⟨rfl, hb6⟩
set_option maxRecDepth 100000 in
set_option maxHeartbeats 4000000 in
theorem groups_law (n size : Nat) (h1 : n ≤ 65536) (h2 : 1 ≤ size) (h3 : size ≤ 255) (w : World) : Calls Try.prog 5 #[.int .i64 (n : Int), .int .i64 (size : Int)] w (TruePost w) := by
  go_enter Try.func5, Try.ntmps5
  go_wp2_with fail
  refine (groups_good n size h1 h2 h3 _).mono ?_
  rintro e w1 ⟨m, v, rfl, hm1, hm2, hown, hb1⟩
  have hmn : m ≤ n := by
    rcases Nat.eq_zero_or_pos m with h | h
    · omega
    · have h4 := hm2 (m - 1) (by omega)
      have : (m - 1) * 1 ≤ (m - 1) * size := Nat.mul_le_mul_left _ h2
      omega
  have HM1 := Lib.hid hm1
  have HM2 := Lib.hid hm2
  clear hm1 hm2
  obtain ⟨g, cap, hv⟩ : ∃ (g : Option Addr) (cap : Nat), v = .slice g m cap := by
    rcases hown.2 with ⟨h, h0⟩ | ⟨g, cap, cur, h, _⟩
    · exact ⟨none, 0, by rw [h, h0]⟩
    · exact ⟨_, _, h⟩
  subst hv
  go_wp2_with fail
  go_loopw [7, 8] (fun av iv wr => ∃ i at0 : Nat, i ≤ m ∧ at0 = min n (i * size) ∧ at0 ≤ n ∧ av = .int .i64 at0 ∧ iv = .int .i64 i ∧ ∃ d, wr = w1.drewN d) (fun _ iv _ => m - (intOf iv).toNat)
  case atStart => exact ⟨0, 0, Nat.zero_le _, by simp, Nat.zero_le _, rfl, rfl, 0, rfl⟩
  case round =>
    obtain ⟨i, at0, hi, hat, hatn, rfl, rfl, d, rfl⟩ := hrel
    by_cases hlt : i < m
    · obtain ⟨g', cap', hv, _, hgl⟩ := hown.form (by omega)
      obtain ⟨rfl, rfl⟩ : g = some ⟨g', 0, none⟩ ∧ cap = cap' := by injection hv with e1 _ e2; exact ⟨e1, e2⟩
      obtain ⟨e1, e2⟩ := grpL_at n size m i hlt
      have hs := HM2.out i hlt
      have hat1 : at0 = i * size := by omega
      have c0 : w1.cell? ⟨g', i * 2, none⟩ = some (.int .i64 (at0 : Int)) := by rw [hown.cellAt _ (by omega), e1, hat1]
      have c1 : w1.cell? ⟨g', i * 2 + 1, none⟩ = some (.int .i64 ((min n (at0 + size) : Nat) : Int)) := by rw [hown.cellAt _ (by omega), e2, hat1, Nat.add_mul, Nat.one_mul]
      obtain ⟨nx, hnx⟩ : ∃ nx, nx = min n (at0 + size) := ⟨_, rfl⟩
      rw [← hnx] at c1
      have k1 : at0 < nx := by omega
      have k2 : nx ≤ at0 + size := by omega
      have k3 : nx < at0 + size → m ≤ i + 1 := by
        intro h
        rcases Nat.lt_or_ge (i + 1) m with h5 | h5
        · have h6 := HM2.out (i + 1) h5
          rw [Nat.add_mul, Nat.one_mul, ← hat1] at h6
          omega
        · omega
      have k4 : nx ≤ n := by omega
      have HNX := Lib.hid (show nx = min n ((i + 1) * size) by rw [hnx, hat1, Nat.add_mul, Nat.one_mul])
      clear e1 e2 hat hat1 hnx hs hv
      have q1 : IntKind.i64.wrap ((nx : Int) - (at0 : Int)) = (nx : Int) - (at0 : Int) := IntWalk.i64_in _ (by omega)
      have b1 : ((at0 : Int) != (at0 : Int)) = false := by simp
      by_cases hsh : nx < at0 + size
      · have k5 := k3 hsh
        clear k3
        go_wp2_with fail
        go_quiet (fail)
        clear q1
        go_wp2_with fail
        go_roundw
        case rel => exact ⟨i + 1, nx, by omega, HNX.out, k4, rfl, by go_num, _, rfl⟩
        case measure => simp [intOf]; omega
      · clear k3
        go_wp2_with fail
        go_quiet (fail)
        clear q1
        go_wp2_with fail
        go_roundw
        case rel => exact ⟨i + 1, nx, by omega, HNX.out, k4, rfl, by go_num, _, rfl⟩
        case measure => simp [intOf]; omega
    · have him : i = m := by omega
      have hn : at0 = n := by have := HM1.out; rw [← him] at this; omega
      subst hn
      clear hat
      go_wp2_with (go_at_call 7; refine (awake_true _).mono ?_; rintro e w6 ⟨rfl, hb6⟩)
      go_ret
      exact ⟨rfl, (bdrewN hb1 d).trans (hb6.mono hb1.size)⟩
theorem groups_all (n size : Int) (w : World) : Calls Try.prog 5 #[.int .i64 n, .int .i64 size] w (TruePost w) := by
  by_cases hb : n < 0 ∨ 65536 < n ∨ size < 1 ∨ 255 < size
  · exact groups_law_bad n size hb w
  · obtain ⟨a, rfl⟩ : ∃ a : Nat, n = (a : Int) := ⟨n.toNat, by omega⟩
    obtain ⟨b, rfl⟩ : ∃ b : Nat, size = (b : Int) := ⟨size.toNat, by omega⟩
    exact groups_law a b (by omega) (by omega) (by omega) w
end Go.Proofs.Ytjhbahjomeflaaa
