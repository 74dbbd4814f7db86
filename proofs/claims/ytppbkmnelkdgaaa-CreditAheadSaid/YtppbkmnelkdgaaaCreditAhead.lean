/- The walk of CreditAhead. -/
import Derived.Test.YtppbkmnelkdgaaaCreditAwake
namespace Go.Proofs.Ytppbkmnelkdgaaa
open Go.ChangeShapes Go.WideShapes Go.ChangeAt Go.RowKit
set_option linter.unusedVariables false

theorem not_back (x b n : Int) : lessB (if moreB x b n = true then (b + n) % 4294967296 else x) x = false := by
  by_cases h : moreB x b n = true
  · rw [if_pos h]
    simp only [moreB, Bool.and_eq_true] at h
    generalize (b + n) % 4294967296 = y at h
    have h2 := h.2
    revert h2
    unfold lessB ahead; simp; omega
  · rw [if_neg h]; simp [lessB, ahead]
set_option maxRecDepth 100000 in
set_option maxHeartbeats 4000000 in
theorem ahead_few (base : Int) (a : Option Addr) (len cap bl off : Nat) (B N : Nat → Int) (h0 : 0 ≤ base) (h1 : base < 4294967296) (hl : len ≤ 80) (W : World)
    (ha : 0 < len → a = some ⟨bl, off, none⟩) (hlt : len = 0 ∨ bl < W.heap.size) (hB : ∀ i, i < len → W.cell? ⟨bl, off + i * 2, none⟩ = some (.int .u32 (B i))) (hN : ∀ i, i < len → W.cell? ⟨bl, off + i * 2 + 1, none⟩ = some (.int .i64 (N i)))
    (hB0 : ∀ i, i < len → 0 ≤ B i ∧ B i < 4294967296) :
    Calls Try.prog 4 #[.int .u32 base, .slice a len cap] W (TruePost W) := by
  have hn : letN 3 = true := by decide
  go_enter Try.func4, Try.ntmps4
  go_wp2_with fail
  refine (new_good base 3 (by omega) (by omega) hn _).mono ?_
  rintro e w1 ⟨rfl, hE1, hG1, hsz1⟩
  go_wp2_with fail
  go_loopw [7] (fun iv wr => ∃ k : Nat, ∃ x : Int, k ≤ len ∧ iv = .int .i64 k ∧ 0 ≤ x ∧ x < 4294967296 ∧ IsEdge wr W.heap.size x ∧ Below W.heap.size W wr) (fun iv _ => len - (intOf iv).toNat)
  case atStart => exact ⟨0, (base + 3) % 4294967296, Nat.zero_le _, rfl, by omega, by omega, hE1, below_gn hG1⟩
  case round =>
    obtain ⟨k, x, hk, rfl, hx0, hx1, hE, hb⟩ := hrel
    by_cases hlk : k < len
    · have hbl : bl < W.heap.size := by omega
      have ha' := ha (by omega)
      subst ha'
      have hcB : wr.cell? ⟨bl, off + k * 2, none⟩ = some (.int .u32 (B k)) := by rw [(bcell hb).1 _ _ hbl]; exact hB k hlk
      have hcN : wr.cell? ⟨bl, off + k * 2 + 1, none⟩ = some (.int .i64 (N k)) := by rw [(bcell hb).1 _ _ hbl]; exact hN k hlk
      have hBk := hB0 k hlk
      go_wp2_with (go_at_call 9; refine (at_any _ _ _ (by exact hE)).mono ?_; rintro e w' ⟨rfl, rfl⟩)
      have hx' := moreB_bd x (B k) (N k) hx0 hx1
      have hne := not_back x (B k) (N k)
      go_region_held3 (fun w' => w'.cell? ⟨bl, off + k * 2, none⟩ = some (.int .u32 (B k)) ∧ w'.cell? ⟨bl, off + k * 2 + 1, none⟩ = some (.int .i64 (N k))) (first | exact ⟨hcB, hcN⟩ | exact ⟨by rw [(bcell hb2).1 _ _ hbl]; exact hcB, by rw [(bcell hb2).1 _ _ hbl]; exact hcN⟩)  (first | (go_at_call 8; refine (grant_any _ x (B k) (N k) hx0 hx1 hBk.1 hBk.2 _ (by exact hE)).mono ?_; rintro e w2 ⟨rfl, hE2, hG2⟩; have hb2 := below_g hG2 (Nat.le_refl _) hb.size))
      generalize (if moreB x (B k) (N k) = true then (B k + N k) % 4294967296 else x) = y at hE2 hx' hne
      go_wp2_with (first | (go_at_call 9; refine (at_any _ _ _ (by exact hE2)).mono ?_; rintro e w' ⟨rfl, rfl⟩) | (go_at_call 7; refine (refLess y x (by omega) (by omega) (by omega) (by omega) _).mono ?_; rintro e w' ⟨rfl, rfl⟩))
      go_roundw
      case rel => exact ⟨k + 1, y, by omega, by go_num, by omega, by omega, hE2, (bdrewN hb _).trans hb2⟩
      case measure => simp [intOf]; omega
    · have hkl : k = len := by omega
      go_wp2_with (first | (go_at_call 8; refine (grant_nil _ _ _).mono ?_; rintro e w' ⟨rfl, rfl⟩) | (go_at_call 10; refine (lets_nil _ _).mono ?_; rintro e w' ⟨rfl, rfl⟩) | (go_at_call 9; refine (at_nil _).mono ?_; rintro e w' ⟨rfl, rfl⟩) | (go_at_call 5; refine (awake_true _).mono ?_; rintro e w2 ⟨rfl, hb2⟩))
      go_ret
      exact ⟨rfl, hb.trans (hb2.mono hb.size)⟩
theorem ahead_all (base : Int) (a : Option Addr) (len cap bl off : Nat) (B N : Nat → Int) (h0 : 0 ≤ base) (h1 : base < 4294967296) (hm : len ≤ cap) (hcm : cap ≤ maxLen) (W : World)
    (ha : 0 < len → a = some ⟨bl, off, none⟩) (hlt : len = 0 ∨ bl < W.heap.size) (hB : ∀ i, i < len → W.cell? ⟨bl, off + i * 2, none⟩ = some (.int .u32 (B i))) (hN : ∀ i, i < len → W.cell? ⟨bl, off + i * 2 + 1, none⟩ = some (.int .i64 (N i)))
    (hB0 : ∀ i, i < len → 0 ≤ B i ∧ B i < 4294967296) :
    Calls Try.prog 4 #[.int .u32 base, .slice a len cap] W (TruePost W) := by
  by_cases hl : len ≤ 80
  · exact ahead_few base a len cap bl off B N h0 h1 hl W ha hlt hB hN hB0
  · unfold maxLen at hcm
    go_enter Try.func4, Try.ntmps4
    go_wp2_with (go_at_call 5; refine (awake_true _).mono ?_; rintro e w2 ⟨rfl, hb2⟩)
    go_ret
    exact ⟨rfl, hb2⟩
end Go.Proofs.Ytppbkmnelkdgaaa
