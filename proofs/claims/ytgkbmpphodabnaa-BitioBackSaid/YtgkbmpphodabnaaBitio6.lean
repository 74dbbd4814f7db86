/- The walk of BitioPuts. -/
import Derived.Test.YtgkbmpphodabnaaBitio5
namespace Go.Proofs.Ytgkbmpphodabnaa
open Go.ChangeShapes Go.WideShapes Go.ChangeAt Go.RowKit
set_option linter.unusedVariables false

def FitH (n bits : Int) (r : Bool) : Prop := bits = 64 ∧ r = true ∨ ∃ k : Nat, bits = (k : Int) ∧ k < 64 ∧ 1 ≤ k ∧ 0 ≤ n ∧ (n / 2 ^ k == 0) = r
theorem fits_good {n kb : Nat} (hf : n < 2 ^ kb) (h2 : kb ≤ 64) (h1 : 1 ≤ kb) : FitH (n : Int) (kb : Int) true := by
  unfold FitH
  rcases Nat.lt_or_ge kb 64 with h | h
  · right
    refine ⟨kb, rfl, h, h1, Int.natCast_nonneg _, ?_⟩
    have h3 : (n : Int) / 2 ^ kb = ((n / 2 ^ kb : Nat) : Int) := by simp
    rw [h3, Nat.div_eq_of_lt hf]; rfl
  · left; exact ⟨by omega, rfl⟩
theorem fits_bad {n kb : Nat} (hf : 2 ^ kb ≤ n) (h2 : kb < 64) (h1 : 1 ≤ kb) : FitH (n : Int) (kb : Int) false := by
  unfold FitH
  right
  refine ⟨kb, rfl, h2, h1, Int.natCast_nonneg _, ?_⟩
  have h3 : (n : Int) / 2 ^ kb = ((n / 2 ^ kb : Nat) : Int) := by simp
  have h4 : 0 < n / 2 ^ kb := Nat.div_pos hf (Nat.pow_pos (by omega))
  rw [h3]
  generalize n / 2 ^ kb = m at *
  simp; omega
set_option maxRecDepth 100000 in
set_option maxHeartbeats 4000000 in
theorem puts_few (a : Option Addr) (len cap bl off : Nat) (N B : Nat → Int) (hl : len ≤ 40) (W : World)
    (ha : 0 < len → a = some ⟨bl, off, none⟩) (hlt : len = 0 ∨ bl < W.heap.size) (hN : ∀ i, i < len → W.cell? ⟨bl, off + i * 2, none⟩ = some (.int .u64 (N i))) (hB : ∀ i, i < len → W.cell? ⟨bl, off + i * 2 + 1, none⟩ = some (.int .i64 (B i)))
    (hN0 : ∀ i, i < len → ∃ n : Nat, N i = (n : Int) ∧ n < 2 ^ 64) :
    Calls Try.prog 3 #[.slice a len cap] W (TruePost W) := by
  have hsz := strOf_size
  have hbo := bitsOf_len
  go_enter Try.func3, Try.ntmps3
  go_wp2_with (go_at_call 7; refine (new_any _).mono ?_; rintro e w1 ⟨rfl, hW1, hB1⟩)
  go_loopw [4, 5] (fun sv iv wr => ∃ (k : Nat) (v : Value) (L : List Bool), k ≤ len ∧ iv = .int .i64 k ∧ sv = .string (strOf L) ∧ L.length ≤ k * 64 ∧ IsW wr W.heap.size v L ∧ Below W.heap.size W wr) (fun _ iv _ => len - (intOf iv).toNat)
  case atStart => exact ⟨0, _, [], Nat.zero_le _, rfl, rfl, by simp, hW1, hB1⟩
  case round =>
    obtain ⟨k, v, L, hk, rfl, rfl, hLl, hW, hb⟩ := hrel
    by_cases hlk : k < len
    · have hbl : bl < W.heap.size := by omega
      have ha' := ha (by omega)
      subst ha'
      have hcN : wr.cell? ⟨bl, off + k * 2, none⟩ = some (.int .u64 (N k)) := by rw [(bcell hb).1 _ _ hbl]; exact hN k hlk
      have hcB : wr.cell? ⟨bl, off + k * 2 + 1, none⟩ = some (.int .i64 (B k)) := by rw [(bcell hb).1 _ _ hbl]; exact hB k hlk
      obtain ⟨n, hn, hn64⟩ := hN0 k hlk
      rw [hn] at hcN
      have HW := Lib.hid hW
      clear hW hn
      have hsL := hb.size
      by_cases h1 : B k < 1
      · go_wp2_with fail
        go_region_held3 (fun w' => w'.cell? ⟨bl, off + k * 2, none⟩ = some (.int .u64 ((n : Int))) ∧ w'.cell? ⟨bl, off + k * 2 + 1, none⟩ = some (.int .i64 (B k))) (first | exact ⟨hcN, hcB⟩ | exact ⟨kbelow hbk hbl hcN, kbelow hbk hbl hcB⟩) (first | (go_at_call 10; (refine (put_arg _ _ _ _ (.inl h1)).mono ?_; rintro e w2 ⟨rfl, rfl⟩; have hW2 := HW.out; have hbk := Below.refl W.heap.size wr)) | (go_at_call 11; refine (wlen_any _ _ _ _ (by exact hW2)).mono ?_; rintro e w' ⟨rfl, rfl⟩))
        go_wp2_with fail
        go_roundw
        case rel => exact ⟨k + 1, v, L, by omega, by go_num, rfl, by omega, (by exact HW.out), (by exact hb.drew)⟩
        case measure => simp [intOf]; omega
      · by_cases h2 : 64 < B k
        · go_wp2_with fail
          go_region_held3 (fun w' => w'.cell? ⟨bl, off + k * 2, none⟩ = some (.int .u64 ((n : Int))) ∧ w'.cell? ⟨bl, off + k * 2 + 1, none⟩ = some (.int .i64 (B k))) (first | exact ⟨hcN, hcB⟩ | exact ⟨kbelow hbk hbl hcN, kbelow hbk hbl hcB⟩) (first | (go_at_call 10; (refine (put_arg _ _ _ _ (.inr h2)).mono ?_; rintro e w2 ⟨rfl, rfl⟩; have hW2 := HW.out; have hbk := Below.refl W.heap.size wr)) | (go_at_call 11; refine (wlen_any _ _ _ _ (by exact hW2)).mono ?_; rintro e w' ⟨rfl, rfl⟩))
          go_wp2_with fail
          go_roundw
          case rel => exact ⟨k + 1, v, L, by omega, by go_num, rfl, by omega, (by exact HW.out), (by exact hb.drew)⟩
          case measure => simp [intOf]; omega
        · obtain ⟨kb, hkb⟩ : ∃ kb : Nat, B k = (kb : Int) := ⟨(B k).toNat, by omega⟩
          rw [hkb] at hcB h1 h2
          have hbl2 : bl < wr.heap.size := by omega
          have hg2 : W.heap.size < wr.heap.size := HW.out.1.lt
          clear hkb
          by_cases hf : n < 2 ^ kb
          · have hfit := fits_good hf (show kb ≤ 64 by omega) (show 1 ≤ kb by omega)
            have HF := Lib.hid hf
            clear hf
            go_wp2_with fail
            refine (fits_any _ _ true _ hfit).mono ?_
            rintro e w3 ⟨rfl, hb3⟩
            have hcN3 := kbelow hb3 (by exact hbl2) hcN
            have hcB3 := kbelow hb3 (by exact hbl2) hcB
            clear hcN hcB
            go_wp2_with fail
            refine (lbits_any n kb (by omega) (by omega) _).mono ?_
            rintro e w4 ⟨rfl, hb4⟩
            have hb5 := hb3.trans (hb4.mono hb3.size)
            have hcN := kbelow hb4 (by have := hb3.size; exact Nat.lt_of_lt_of_le hbl2 this) hcN3
            have hcB := kbelow hb4 (by have := hb3.size; exact Nat.lt_of_lt_of_le hbl2 this) hcB3
            have HW4 : Hid (IsW w4 W.heap.size v L) := Lib.hid ⟨Blk.below HW.out.1 hb5 hg2, own_kept HW.out.2.1 (Kept.of_below hb5 []) (by simp), HW.out.2.2⟩
            have hbw4 := hb.trans (hb5.mono hb.size)
            clear hcN3 hcB3
            go_wp2_with fail
            go_region_held3 (fun w' => w'.cell? ⟨bl, off + k * 2, none⟩ = some (.int .u64 ((n : Int))) ∧ w'.cell? ⟨bl, off + k * 2 + 1, none⟩ = some (.int .i64 ((kb : Int)))) (first | exact ⟨hcN, hcB⟩ | exact ⟨kbelow hbk hbl hcN, kbelow hbk hbl hcB⟩) (first | (go_at_call 10; (refine (put_good _ v L n kb _ (by exact HW4.out) (by omega) (by omega) (by omega) HF.out).mono ?_; rintro e w5 ⟨rfl, v5, hW2, hK5, _⟩; have hbk := kept_below (B := W.heap.size) (by exact HW4.out) hK5 (Nat.le_refl _) (by exact hbw4.size))) | (go_at_call 11; refine (wlen_any _ _ _ _ (by exact hW2)).mono ?_; rintro e w' ⟨rfl, rfl⟩))
            go_wp2_with fail
            go_roundw
            case rel => exact ⟨k + 1, v5, L ++ bitsOf n kb, by omega, by go_num, by rw [strOf_app], by rw [List.length_append, bitsOf_len]; omega, (by exact hW2), Below.trans (b := _) (by exact hbw4.drew) hbk⟩
            case measure => simp [intOf]; omega
          · have hkb64 : kb < 64 := by
              rcases Nat.lt_or_ge kb 64 with h | h
              · exact h
              · have : kb = 64 := by omega
                subst this; exact absurd hn64 hf
            have hfit := fits_bad (show 2 ^ kb ≤ n by omega) hkb64 (show 1 ≤ kb by omega)
            have HF := Lib.hid hf
            clear hf
            go_wp2_with fail
            refine (fits_any _ _ false _ hfit).mono ?_
            rintro e w4 ⟨rfl, hb5⟩
            have hcN3 := kbelow hb5 (by exact hbl2) hcN
            have hcB3 := kbelow hb5 (by exact hbl2) hcB
            clear hcN hcB
            have hcN := hcN3
            have hcB := hcB3
            have HW4 : Hid (IsW w4 W.heap.size v L) := Lib.hid ⟨Blk.below HW.out.1 hb5 hg2, own_kept HW.out.2.1 (Kept.of_below hb5 []) (by simp), HW.out.2.2⟩
            have hbw4 := hb.trans (hb5.mono hb.size)
            clear hcN3 hcB3
            go_wp2_with fail
            go_region_held3 (fun w' => w'.cell? ⟨bl, off + k * 2, none⟩ = some (.int .u64 ((n : Int))) ∧ w'.cell? ⟨bl, off + k * 2 + 1, none⟩ = some (.int .i64 ((kb : Int)))) (first | exact ⟨hcN, hcB⟩ | exact ⟨kbelow hbk hbl hcN, kbelow hbk hbl hcB⟩) (first | (go_at_call 10; (refine (put_range _ n kb _ (by omega) hkb64 (by have := HF.out; omega)).mono ?_; rintro e w2 ⟨rfl, rfl⟩; have hW2 := HW4.out; have hbk := Below.refl W.heap.size w4)) | (go_at_call 11; refine (wlen_any _ _ _ _ (by exact hW2)).mono ?_; rintro e w' ⟨rfl, rfl⟩))
            go_wp2_with fail
            go_roundw
            case rel => exact ⟨k + 1, v, L, by omega, by go_num, rfl, by omega, (by exact HW4.out), (by exact hbw4.drew)⟩
            case measure => simp [intOf]; omega
    · have hkl : k = len := by omega
      have HW := Lib.hid hW
      clear hW
      go_wp2_with (first | (go_at_call 12; refine (bytes_any _ _ _ _ HW.out).mono ?_; rintro e w' ⟨rfl, rfl⟩) | (go_at_call 13; refine (packed_any _ (by omega) _).mono ?_; rintro e w5 ⟨rfl, hb5⟩) | (go_at_call 6; refine (awake_true _).mono ?_; rintro e w6 ⟨rfl, hb6⟩))
      go_ret
      exact ⟨rfl, (hb.trans (hb5.mono hb.size)).trans (hb6.mono (Nat.le_trans hb.size hb5.size))⟩

theorem puts_many (a : Option Addr) (len cap : Nat) (hc : cap ≤ maxLen) (hlc : len ≤ cap) (c1 : 40 < len) (W : World) :
    Calls Try.prog 3 #[.slice a len cap] W (TruePost W) := by
  unfold maxLen at hc
  go_enter Try.func3, Try.ntmps3
  go_wp2_with (go_at_call 6; refine (awake_true _).mono ?_; rintro e w6 ⟨rfl, hb6⟩)
  go_ret
  exact ⟨rfl, hb6⟩
theorem u64_nat {x : Int} (h : IntKind.u64.min ≤ x ∧ x ≤ IntKind.u64.max) : ∃ n : Nat, x = (n : Int) ∧ n < 2 ^ 64 := by
  simp [IntKind.min, IntKind.max, IntKind.signed, IntKind.bits] at h
  refine ⟨x.toNat, by omega, ?_⟩
  have : x.toNat ≤ 18446744073709551615 := by omega
  exact Nat.lt_of_le_of_lt this (by decide)
end Go.Proofs.Ytgkbmpphodabnaa
