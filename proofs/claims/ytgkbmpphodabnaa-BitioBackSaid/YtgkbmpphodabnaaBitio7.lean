/- The walk of BitioReads. -/
import Derived.Test.YtgkbmpphodabnaaBitio6
namespace Go.Proofs.Ytgkbmpphodabnaa
open Go.ChangeShapes Go.WideShapes Go.ChangeAt Go.RowKit
set_option linter.unusedVariables false

theorem num_step2 (A y k : Nat) (hA : A < 9223372036854775808) (hy : y < 256) : IntKind.u64.wrap (IntKind.u64.wrap ((A : Int) * 2) + IntKind.u64.wrap (((y : Int) / 2 ^ k).tmod 2)) = ((A * 2 + (y.testBit k).toNat : Nat) : Int) := by
  have e1 : (y : Int) / 2 ^ k = ((y / 2 ^ k : Nat) : Int) := by simp
  rw [e1, Int.tmod_eq_emod_of_nonneg (Int.natCast_nonneg _), Nat.testBit_eq_decide_div_mod_eq]
  generalize y / 2 ^ k = m
  have hb : ((m : Int) % 2) = (((decide (m % 2 = 1)).toNat : Nat) : Int) := by
    by_cases h3 : m % 2 = 1
    · simp [h3]; omega
    · have : m % 2 = 0 := by omega
      simp [this]; omega
  rw [hb]
  have hb1 : (decide (m % 2 = 1)).toNat ≤ 1 := Bool.toNat_le _
  generalize (decide (m % 2 = 1)).toNat = c at *
  rw [IntKind.wrap_u64, IntKind.wrap_u64, IntKind.wrap_u64]
  omega
set_option maxRecDepth 100000 in
set_option maxHeartbeats 4000000 in
theorem reads_few (s : ByteArray) (hs : s.size ≤ 100) (a : Option Addr) (len cap bl off : Nat) (B : Nat → Int) (hl : len ≤ 40) (W : World)
    (ha : 0 < len → a = some ⟨bl, off, none⟩) (hlt : len = 0 ∨ bl < W.heap.size) (hB : ∀ i, i < len → W.cell? ⟨bl, off + i, none⟩ = some (.int .i64 (B i))) :
    Calls Try.prog 4 #[.string s, .slice a len cap] W (TruePost W) := by
  go_enter Try.func4, Try.ntmps4
  go_wp2_with (go_at_call 14; refine (from_any s (by omega) _).mono ?_; rintro e w1 ⟨rfl, hR1, hB1⟩)
  go_loopw [6, 7] (fun av iv wr => ∃ (k a0 : Nat), k ≤ len ∧ iv = .int .i64 k ∧ av = .int .i64 (a0 : Int) ∧ a0 ≤ 8 * s.size ∧ IsR wr W.heap.size s a0 ∧ Below W.heap.size W wr) (fun _ iv _ => len - (intOf iv).toNat)
  case atStart => exact ⟨0, 0, Nat.zero_le _, rfl, rfl, Nat.zero_le _, hR1, hB1⟩
  case round =>
    obtain ⟨k, a0, hk, rfl, rfl, ha0, hR, hb⟩ := hrel
    by_cases hlk : k < len
    · have hbl : bl < W.heap.size := by omega
      have ha' := ha (by omega)
      subst ha'
      have hcB : wr.cell? ⟨bl, off + k, none⟩ = some (.int .i64 (B k)) := by rw [(bcell hb).1 _ _ hbl]; exact hB k hlk
      have HCB := Lib.hid (hB k hlk)
      have HR := Lib.hid hR
      clear hR
      by_cases h1 : B k < 1
      · have HR2 := HR
        have hb2 := hb
        go_wp2_with (go_at_call 15; refine (num_arg _ _ _ (.inl h1)).mono ?_; rintro e w' ⟨rfl, rfl⟩)
        go_wp2_with (go_at_call 16; refine (left_any _ s _ _ (by exact HR2.out)).mono ?_; rintro e w6 ⟨rfl, n6, rfl⟩)
        go_roundw
        case rel => exact ⟨k + 1, a0, by omega, by go_num, by go_num, by omega, (by exact HR2.out), bdrewN hb2 _⟩
        case measure => simp [intOf]; omega
      · by_cases h2 : 64 < B k
        · have HR2 := HR
          have hb2 := hb
          go_wp2_with (go_at_call 15; refine (num_arg _ _ _ (.inr h2)).mono ?_; rintro e w' ⟨rfl, rfl⟩)
          go_wp2_with (go_at_call 16; refine (left_any _ s _ _ (by exact HR2.out)).mono ?_; rintro e w6 ⟨rfl, n6, rfl⟩)
          go_roundw
          case rel => exact ⟨k + 1, a0, by omega, by go_num, by go_num, by omega, (by exact HR2.out), bdrewN hb2 _⟩
          case measure => simp [intOf]; omega
        · by_cases h3 : 8 * (s.size : Int) - (a0 : Int) < B k
          · have HR2 := HR
            have hb2 := hb
            go_wp2_with (go_at_call 15; refine (num_cut _ s a0 _ _ HR.out (by omega) (by omega) h3).mono ?_; rintro e w6 ⟨rfl, n7, rfl⟩)
            go_wp2_with (go_at_call 16; refine (left_any _ s _ _ (by exact HR2.out)).mono ?_; rintro e w6 ⟨rfl, n6, rfl⟩)
            go_roundw
            case rel => exact ⟨k + 1, a0, by omega, by go_num, by go_num, by omega, (by exact HR2.out), bdrewN hb2 _⟩
            case measure => simp [intOf]; omega
          · obtain ⟨kb, hkb⟩ : ∃ kb : Nat, B k = (kb : Int) := ⟨(B k).toNat, by omega⟩
            rw [hkb] at hcB h1 h2 h3 HCB
            clear hkb
            go_wp2_with (go_at_call 15; refine (num_good _ s a0 kb _ HR.out (by omega) (by omega) (by omega)).mono ?_; rintro e w2 ⟨rfl, hR2, hG2⟩; have hb2 := hb.trans (below_g hG2 (Nat.le_refl _) (by exact hb.size)); have hcB2 : w2.cell? ⟨bl, off + k, none⟩ = some (.int .i64 (kb : Int)) := kbelow hb2 hbl HCB.out)
            clear hcB
            have HR2 := Lib.hid hR2
            clear hR2
            go_loopw [10, 12] (fun nv jv wr => ∃ d : Nat, d ≤ kb ∧ jv = .int .i64 ((a0 : Int) + (d : Int)) ∧ nv = .int .u64 (numOf s a0 d : Int) ∧ wr = w2) (fun _ jv _ => a0 + kb - (intOf jv).toNat)
            case atStart => exact ⟨0, Nat.zero_le _, by simp, rfl, by first | rfl | trivial⟩
            case round =>
              obtain ⟨d, hd, rfl, rfl, rfl⟩ := hrel
              by_cases hdk : d < kb
              · have hkk : (a0 + d) / 8 < s.size := by omega
                go_wp2_with fail
                go_roundw
                case rel =>
                  refine ⟨d + 1, by omega, by go_num, ?_, by first | rfl | trivial⟩
                  have h3 : numOf s a0 d < 9223372036854775808 := by
                    have h5 := numOf_lt s a0 d
                    have h4 : 2 ^ d ≤ 2 ^ 63 := Nat.pow_le_pow_right (by omega) (by omega)
                    exact Nat.lt_of_lt_of_le h5 h4
                  rw [num_step2 _ _ _ h3 (UInt8.toNat_lt _), numOf, bitAt, bt_at _ _ hkk]
                case measure => simp [intOf]; omega
              · have hde : d = kb := by omega
                subst hde
                go_wp2_with (go_at_call 16; refine (left_any _ s _ _ (by exact HR2.out)).mono ?_; rintro e w6 ⟨rfl, n6, rfl⟩)
                go_roundw
                case rel => exact ⟨k + 1, a0 + d, by omega, by go_num, by go_num, by omega, (by exact HR2.out), bdrewN hb2 _⟩
                case measure => simp [intOf]; omega
    · have hkl : k = len := by omega
      have HR := Lib.hid hR
      clear hR
      go_wp2_with (go_at_call 6; refine (awake_true _).mono ?_; rintro e w6 ⟨rfl, hb6⟩)
      go_ret
      exact ⟨rfl, hb.trans (hb6.mono hb.size)⟩

theorem reads_many (s : ByteArray) (a : Option Addr) (len cap : Nat) (hsm : s.size ≤ maxLen) (hc : cap ≤ maxLen) (hlc : len ≤ cap) (c1 : 100 < s.size ∨ 40 < len) (W : World) :
    Calls Try.prog 4 #[.string s, .slice a len cap] W (TruePost W) := by
  unfold maxLen at hc hsm
  by_cases c2 : 100 < s.size
  all_goals
    go_enter Try.func4, Try.ntmps4
    go_wp2_with (go_at_call 6; refine (awake_true _).mono ?_; rintro e w6 ⟨rfl, hb6⟩)
    go_ret
    exact ⟨rfl, hb6⟩
end Go.Proofs.Ytgkbmpphodabnaa
