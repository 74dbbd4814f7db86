/- The walk of CreditPlays. -/
import Derived.Test.YtppbkmnelkdgaaaCreditAwake
namespace Go.Proofs.Ytppbkmnelkdgaaa
open Go.ChangeShapes Go.WideShapes Go.ChangeAt Go.RowKit
set_option linter.unusedVariables false

set_option maxRecDepth 100000 in
set_option maxHeartbeats 4000000 in
theorem plays (base n : Int) (a : Option Addr) (len cap bl off : Nat) (B N : Nat → Int) (h0 : 0 ≤ base) (h1 : base < 4294967296) (hl : len ≤ 80) (W : World)
    (ha : 0 < len → a = some ⟨bl, off, none⟩) (hlt : len = 0 ∨ bl < W.heap.size) (hB : ∀ i, i < len → W.cell? ⟨bl, off + i * 2, none⟩ = some (.int .u32 (B i))) (hN : ∀ i, i < len → W.cell? ⟨bl, off + i * 2 + 1, none⟩ = some (.int .i64 (N i)))
    (hB0 : ∀ i, i < len → 0 ≤ B i ∧ B i < 4294967296) (hn : letN n = true) :
    Calls Try.prog 3 #[.int .u32 base, .int .i64 n, .slice a len cap] W (TruePost W) := by
  have hx : 0 ≤ n ∧ n ≤ 65535 := by simpa [letN] using hn
  have c1 : (decide (n < 0)) = false := by simp; omega
  have c2 : (decide (65535 < n)) = false := by simp; omega
  go_enter Try.func3, Try.ntmps3
  go_wp2_with fail
  refine (new_good base n (by omega) (by omega) hn _).mono ?_
  rintro e w1 ⟨rfl, hE1, hG1, hsz1⟩
  go_wp2_with fail
  go_loopw [9, 10] (fun ed iv wr => ∃ k : Nat, ∃ x : Int, k ≤ len ∧ iv = .int .i64 k ∧ 0 ≤ x ∧ x < 4294967296 ∧ ed = .int .u32 x ∧ IsEdge wr W.heap.size x ∧ Below W.heap.size W wr) (fun _ iv _ => len - (intOf iv).toNat)
  case atStart => exact ⟨0, (base + n) % 4294967296, Nat.zero_le _, rfl, by omega, by omega, rfl, hE1, below_gn hG1⟩
  case round =>
    obtain ⟨k, x, hk, rfl, hx0, hx1, rfl, hE, hb⟩ := hrel
    by_cases hlk : k < len
    · have hbl : bl < W.heap.size := by omega
      have ha' := ha (by omega)
      subst ha'
      have hcB : wr.cell? ⟨bl, off + k * 2, none⟩ = some (.int .u32 (B k)) := by rw [(bcell hb).1 _ _ hbl]; exact hB k hlk
      have hcN : wr.cell? ⟨bl, off + k * 2 + 1, none⟩ = some (.int .i64 (N k)) := by rw [(bcell hb).1 _ _ hbl]; exact hN k hlk
      have hBk := hB0 k hlk
      by_cases hln : letN (N k) = true
      · have hx2 : 0 ≤ N k ∧ N k ≤ 65535 := by simpa [letN] using hln
        have hy : 0 ≤ (B k + N k) % 4294967296 ∧ (B k + N k) % 4294967296 < 4294967296 := by omega
        have hmm : moreB x (B k) (N k) = lessB x ((B k + N k) % 4294967296) := by simp [moreB, hln]
        cases hm : lessB x ((B k + N k) % 4294967296) with
        | true =>
          rw [hm] at hmm
          go_wp2_with fail
          go_quiet (fail)
          go_wp2_with (go_at_call 7; refine (refLess _ _ (by omega) (by omega) (by omega) (by omega) _).mono ?_; rintro e w' ⟨rfl, rfl⟩)
          go_region_held3 (fun w' => w'.cell? ⟨bl, off + k * 2, none⟩ = some (.int .u32 (B k)) ∧ w'.cell? ⟨bl, off + k * 2 + 1, none⟩ = some (.int .i64 (N k))) (first | exact ⟨hcB, hcN⟩ | exact ⟨by rw [(bcell hb2).1 _ _ hbl]; exact hcB, by rw [(bcell hb2).1 _ _ hbl]; exact hcN⟩)  (first | (go_at_call 8; refine (grant_any _ x (B k) (N k) hx0 hx1 hBk.1 hBk.2 _ (by exact hE)).mono ?_; rintro e w2 ⟨rfl, hE2, hG2⟩; have hb2 := below_g hG2 (Nat.le_refl _) hb.size; rw [if_pos hmm] at hE2) | (go_at_call 9; refine (at_any _ _ _ (by exact hE2)).mono ?_; rintro e w' ⟨rfl, rfl⟩) | (go_at_call 10; refine (lets_any _ ((B k + N k) % 4294967296) _ (by omega) (by omega) (by omega) (by omega) _ (by exact hE2)).mono ?_; rintro e w' ⟨rfl, rfl⟩) | (go_at_call 7; refine (refLess _ _ (by omega) (by omega) (by omega) (by omega) _).mono ?_; rintro e w' ⟨rfl, rfl⟩))
          go_wp2_with fail
          go_roundw
          case rel => exact ⟨k + 1, (B k + N k) % 4294967296, by omega, by go_num, by omega, by omega, rfl, hE2, (bdrewN hb _).trans hb2⟩
          case measure => simp [intOf]; omega
        | false =>
          rw [hm] at hmm
          go_wp2_with fail
          go_quiet (fail)
          go_wp2_with (go_at_call 7; refine (refLess _ _ (by omega) (by omega) (by omega) (by omega) _).mono ?_; rintro e w' ⟨rfl, rfl⟩)
          go_region_held3 (fun w' => w'.cell? ⟨bl, off + k * 2, none⟩ = some (.int .u32 (B k)) ∧ w'.cell? ⟨bl, off + k * 2 + 1, none⟩ = some (.int .i64 (N k))) (first | exact ⟨hcB, hcN⟩ | exact ⟨by rw [(bcell hb2).1 _ _ hbl]; exact hcB, by rw [(bcell hb2).1 _ _ hbl]; exact hcN⟩)  (first | (go_at_call 8; refine (grant_any _ x (B k) (N k) hx0 hx1 hBk.1 hBk.2 _ (by exact hE)).mono ?_; rintro e w2 ⟨rfl, hE2, hG2⟩; have hb2 := below_g hG2 (Nat.le_refl _) hb.size; rw [if_neg (by rw [hmm]; exact Bool.false_ne_true)] at hE2) | (go_at_call 9; refine (at_any _ _ _ (by exact hE2)).mono ?_; rintro e w' ⟨rfl, rfl⟩) | (go_at_call 10; refine (lets_any _ (x) _ (by omega) (by omega) (by omega) (by omega) _ (by exact hE2)).mono ?_; rintro e w' ⟨rfl, rfl⟩) | (go_at_call 7; refine (refLess _ _ (by omega) (by omega) (by omega) (by omega) _).mono ?_; rintro e w' ⟨rfl, rfl⟩))
          go_wp2_with fail
          go_roundw
          case rel => exact ⟨k + 1, x, by omega, by go_num, by omega, by omega, rfl, hE2, (bdrewN hb _).trans hb2⟩
          case measure => simp [intOf]; omega
      · have hln' : letN (N k) = false := by simpa using hln
        have hmm : moreB x (B k) (N k) = false := by simp [moreB, hln']
        by_cases hneg : N k < 0
        · have hneg' : decide (0 ≤ N k) = false := by simp; omega
          go_wp2_with fail
          go_quiet (fail)
          go_wp2_with (go_at_call 7; refine (refLess _ _ (by omega) (by omega) (by omega) (by omega) _).mono ?_; rintro e w' ⟨rfl, rfl⟩)
          go_region_held3 (fun w' => w'.cell? ⟨bl, off + k * 2, none⟩ = some (.int .u32 (B k)) ∧ w'.cell? ⟨bl, off + k * 2 + 1, none⟩ = some (.int .i64 (N k))) (first | exact ⟨hcB, hcN⟩ | exact ⟨by rw [(bcell hb2).1 _ _ hbl]; exact hcB, by rw [(bcell hb2).1 _ _ hbl]; exact hcN⟩)  (first | (go_at_call 8; refine (grant_any _ x (B k) (N k) hx0 hx1 hBk.1 hBk.2 _ (by exact hE)).mono ?_; rintro e w2 ⟨rfl, hE2, hG2⟩; have hb2 := below_g hG2 (Nat.le_refl _) hb.size; rw [if_neg (by rw [hmm]; exact Bool.false_ne_true)] at hE2) | (go_at_call 9; refine (at_any _ _ _ (by exact hE2)).mono ?_; rintro e w' ⟨rfl, rfl⟩) | (go_at_call 10; refine (lets_any _ (x) _ (by omega) (by omega) (by omega) (by omega) _ (by exact hE2)).mono ?_; rintro e w' ⟨rfl, rfl⟩) | (go_at_call 7; refine (refLess _ _ (by omega) (by omega) (by omega) (by omega) _).mono ?_; rintro e w' ⟨rfl, rfl⟩))
          go_wp2_with fail
          go_roundw
          case rel => exact ⟨k + 1, x, by omega, by go_num, by omega, by omega, rfl, hE2, (bdrewN hb _).trans hb2⟩
          case measure => simp [intOf]; omega
        · have hbig : 65535 < N k := by revert hln'; unfold letN; simp; omega
          have hneg' : decide (0 ≤ N k) = true := by simp; omega
          have hbig' : decide (N k ≤ 65535) = false := by simp; omega
          go_wp2_with fail
          go_quiet (fail)
          go_wp2_with (go_at_call 7; refine (refLess _ _ (by omega) (by omega) (by omega) (by omega) _).mono ?_; rintro e w' ⟨rfl, rfl⟩)
          go_region_held3 (fun w' => w'.cell? ⟨bl, off + k * 2, none⟩ = some (.int .u32 (B k)) ∧ w'.cell? ⟨bl, off + k * 2 + 1, none⟩ = some (.int .i64 (N k))) (first | exact ⟨hcB, hcN⟩ | exact ⟨by rw [(bcell hb2).1 _ _ hbl]; exact hcB, by rw [(bcell hb2).1 _ _ hbl]; exact hcN⟩)  (first | (go_at_call 8; refine (grant_any _ x (B k) (N k) hx0 hx1 hBk.1 hBk.2 _ (by exact hE)).mono ?_; rintro e w2 ⟨rfl, hE2, hG2⟩; have hb2 := below_g hG2 (Nat.le_refl _) hb.size; rw [if_neg (by rw [hmm]; exact Bool.false_ne_true)] at hE2) | (go_at_call 9; refine (at_any _ _ _ (by exact hE2)).mono ?_; rintro e w' ⟨rfl, rfl⟩) | (go_at_call 10; refine (lets_any _ (x) _ (by omega) (by omega) (by omega) (by omega) _ (by exact hE2)).mono ?_; rintro e w' ⟨rfl, rfl⟩) | (go_at_call 7; refine (refLess _ _ (by omega) (by omega) (by omega) (by omega) _).mono ?_; rintro e w' ⟨rfl, rfl⟩))
          go_wp2_with fail
          go_roundw
          case rel => exact ⟨k + 1, x, by omega, by go_num, by omega, by omega, rfl, hE2, (bdrewN hb _).trans hb2⟩
          case measure => simp [intOf]; omega
    · have hkl : k = len := by omega
      go_wp2_with (go_at_call 5; refine (awake_true _).mono ?_; rintro e w2 ⟨rfl, hb2⟩)
      go_ret
      exact ⟨rfl, hb.trans (hb2.mono hb.size)⟩

theorem plays_many (base n : Int) (a : Option Addr) (len cap : Nat) (hl : 80 < len) (hm : len ≤ cap) (hcm : cap ≤ maxLen) (W : World) :
    Calls Try.prog 3 #[.int .u32 base, .int .i64 n, .slice a len cap] W (TruePost W) := by
  unfold maxLen at hcm
  go_enter Try.func3, Try.ntmps3
  go_wp2_with (go_at_call 5; refine (awake_true _).mono ?_; rintro e w2 ⟨rfl, hb2⟩)
  go_ret
  exact ⟨rfl, hb2⟩
theorem plays_bad (base n : Int) (a : Option Addr) (len cap : Nat) (hl : len ≤ 80) (hn : letN n = false) (W : World) :
    Calls Try.prog 3 #[.int .u32 base, .int .i64 n, .slice a len cap] W (TruePost W) := by
  by_cases h : n < 0
  · have c1 : (decide (n < 0)) = true := by simp; omega
    go_enter Try.func3, Try.ntmps3
    go_wp2_with (first | (go_at_call 6; refine (new_bad base n hn _).mono ?_; rintro e w' ⟨rfl, rfl⟩) | (go_at_call 5; refine (awake_true _).mono ?_; rintro e w2 ⟨rfl, hb2⟩))
    go_ret
    exact ⟨rfl, hb2⟩
  · have c1 : (decide (n < 0)) = false := by simp; omega
    have c2 : 65535 < n := by revert hn; unfold letN; simp; omega
    go_enter Try.func3, Try.ntmps3
    go_wp2_with (first | (go_at_call 6; refine (new_bad base n hn _).mono ?_; rintro e w' ⟨rfl, rfl⟩) | (go_at_call 5; refine (awake_true _).mono ?_; rintro e w2 ⟨rfl, hb2⟩))
    go_ret
    exact ⟨rfl, hb2⟩
/-- CreditPlays, at every input that was opened. -/
theorem plays_all (base n : Int) (a : Option Addr) (len cap bl off : Nat) (B N : Nat → Int) (h0 : 0 ≤ base) (h1 : base < 4294967296) (hm : len ≤ cap) (hcm : cap ≤ maxLen) (W : World)
    (ha : 0 < len → a = some ⟨bl, off, none⟩) (hlt : len = 0 ∨ bl < W.heap.size) (hB : ∀ i, i < len → W.cell? ⟨bl, off + i * 2, none⟩ = some (.int .u32 (B i))) (hN : ∀ i, i < len → W.cell? ⟨bl, off + i * 2 + 1, none⟩ = some (.int .i64 (N i)))
    (hB0 : ∀ i, i < len → 0 ≤ B i ∧ B i < 4294967296) :
    Calls Try.prog 3 #[.int .u32 base, .int .i64 n, .slice a len cap] W (TruePost W) := by
  by_cases hl : len ≤ 80
  · cases hn : letN n with
    | false => exact plays_bad base n a len cap hl hn W
    | true => exact plays base n a len cap bl off B N h0 h1 hl W ha hlt hB hN hB0 hn
  · exact plays_many base n a len cap (by omega) hm hcm W

end Go.Proofs.Ytppbkmnelkdgaaa
