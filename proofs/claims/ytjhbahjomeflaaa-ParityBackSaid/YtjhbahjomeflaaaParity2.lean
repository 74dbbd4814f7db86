/- Contracts of package parity: Of, Back; of lightshiplaw44: sum, few. -/
import Derived.Test.YtjhbahjomeflaaaParity
import Derived.BigQuiet
import Derived.Deep.QuietTactic
namespace Go.Proofs.Ytjhbahjomeflaaa
open Go.ChangeShapes Go.WideShapes Go.ChangeAt Go.RowKit
set_option linter.unusedVariables false

theorem bad_any (p : Option Addr) (len cap : Nat) (hl : len ≤ 1000000) (w : World) (r : Bool) (hr : Fits r (len < 1 ∨ 255 < len)) : Calls Try.prog 12 #[.slice p len cap] w fun e w' => e = .returned (.bool r) ∧ w = w' := by
  by_cases h1 : len < 1
  · have : r = true := hr.2 (.inl h1)
    subst this
    clear hr
    go_enter Try.func12, Try.ntmps12
    go_wp2
    go_ret
    exact ⟨rfl, rfl⟩
  · have hd : r = decide (255 < len) := by
      have hr' : r = true ↔ _ := hr
      rw [Bool.eq_iff_iff, hr']; simp; omega
    have HD := Lib.hid hd
    clear hr hd
    go_enter Try.func12, Try.ntmps12
    go_wp2
    go_ret
    exact ⟨ret_bool (by rw [HD.out, Bool.eq_iff_iff]; simp; omega), rfl⟩

theorem not_bad {len : Nat} (h1 : 1 ≤ len) (h2 : len ≤ 255) : Fits false (len < 1 ∨ 255 < len) := ⟨(fun h => by cases h), (fun h => by omega)⟩
theorem is_bad {len : Nat} (h : len < 1 ∨ 255 < len) : Fits true (len < 1 ∨ 255 < len) := ⟨fun _ => h, fun _ => rfl⟩
theorem of_bad (p : Option Addr) (len cap : Nat) (hl : len ≤ 1000000) (hb : len < 1 ∨ 255 < len) (w : World) : Calls Try.prog 8 #[.slice p len cap] w (BadPost w 1) := by
  go_enter Try.func8, Try.ntmps8
  go_wp2_with (go_at_call 12; refine (bad_any _ _ _ hl _ true (is_bad hb)).mono ?_; rintro e w' ⟨rfl, rfl⟩)
  go_ret2
  exact ⟨rfl, Below.refl _ _⟩
theorem of_good (S : Nat → ByteArray) (p : Option Addr) (len cap b off : Nat) (h1 : 1 ≤ len) (h2 : len ≤ 255) (hS : ∀ i, i < len → (S i).size ≤ 1000) (w : World) (hp : Strs w p len S b off)
    (t : ByteArray) (ht : sumB S 0 (S 0) len = t) (r : Bool) (hr : Fits r (fitF S 0 (S 0).size len)) : Calls Try.prog 8 #[.slice p len cap] w (SumRes w t r) := by
  subst ht
  have hpp := hp.at_ (by omega)
  subst hpp
  have c0 : w.cell? ⟨b, off, none⟩ = some (.string (S 0)) := hp.cell 0 (by omega)
  have hl0 : 0 < len := by omega
  have hs0 := hS 0 (by omega)
  cases r with
  | true =>
    have HR := Lib.hid hr
    clear hr
    go_enter Try.func8, Try.ntmps8
    go_wp2_with (first | (go_at_call 12; refine (bad_any _ _ _ (by omega) _ false (not_bad h1 h2)).mono ?_; rintro e w' ⟨rfl, rfl⟩) | (go_at_call 13; refine (sum_any S _ _ _ b off 0 (S 0) (by omega) hs0 hS _ hp true HR.out).mono ?_; rintro e w' ⟨rfl, hb⟩))
    go_ret2
    exact ⟨rfl, hb⟩
  | false =>
    have HR := Lib.hid hr
    clear hr
    go_enter Try.func8, Try.ntmps8
    go_wp2_with (first | (go_at_call 12; refine (bad_any _ _ _ (by omega) _ false (not_bad h1 h2)).mono ?_; rintro e w' ⟨rfl, rfl⟩) | (go_at_call 13; refine (sum_any S _ _ _ b off 0 (S 0) (by omega) hs0 hS _ hp false HR.out).mono ?_; rintro e w' ⟨rfl, hb⟩))
    go_ret2
    exact ⟨rfl, hb⟩
theorem back_bad (p : Option Addr) (len cap : Nat) (hl : len ≤ 1000000) (hb : len < 1 ∨ 255 < len) (gone : Int) (s : ByteArray) (w : World) : Calls Try.prog 9 #[.slice p len cap, .int .i64 gone, .string s] w (BadPost w 1) := by
  go_enter Try.func9, Try.ntmps9
  go_wp2_with (go_at_call 12; refine (bad_any _ _ _ hl _ true (is_bad hb)).mono ?_; rintro e w' ⟨rfl, rfl⟩)
  go_ret2
  exact ⟨rfl, Below.refl _ _⟩
theorem back_out (p : Option Addr) (len cap : Nat) (h1 : 1 ≤ len) (h2 : len ≤ 255) (gone : Int) (hg : gone < 0 ∨ (len : Int) ≤ gone) (s : ByteArray) (w : World) : Calls Try.prog 9 #[.slice p len cap, .int .i64 gone, .string s] w (BadPost w 2) := by
  by_cases hn : gone < 0
  all_goals
    go_enter Try.func9, Try.ntmps9
    go_wp2_with (go_at_call 12; refine (bad_any _ _ _ (by omega) _ false (not_bad h1 h2)).mono ?_; rintro e w' ⟨rfl, rfl⟩)
    go_ret2
    exact ⟨rfl, Below.refl _ _⟩
theorem back_good (S : Nat → ByteArray) (p : Option Addr) (len cap b off : Nat) (h1 : 1 ≤ len) (h2 : len ≤ 255) (gone : Int) (g1 : 0 ≤ gone) (g2 : gone < (len : Int)) (s : ByteArray) (hs : s.size ≤ 1000) (hS : ∀ i, i < len → (S i).size ≤ 1000) (w : World) (hp : Strs w p len S b off)
    (t : ByteArray) (ht : sumB S gone s len = t) (r : Bool) (hr : Fits r (fitF S gone s.size len)) : Calls Try.prog 9 #[.slice p len cap, .int .i64 gone, .string s] w (SumRes w t r) := by
  subst ht
  cases r with
  | true =>
    have HR := Lib.hid hr
    clear hr
    go_enter Try.func9, Try.ntmps9
    go_wp2_with (first | (go_at_call 12; refine (bad_any _ _ _ (by omega) _ false (not_bad h1 h2)).mono ?_; rintro e w' ⟨rfl, rfl⟩) | (go_at_call 13; refine (sum_any S _ _ _ b off gone s (by omega) hs hS _ hp true HR.out).mono ?_; rintro e w' ⟨rfl, hb⟩))
    go_ret2
    exact ⟨rfl, hb⟩
  | false =>
    have HR := Lib.hid hr
    clear hr
    go_enter Try.func9, Try.ntmps9
    go_wp2_with (first | (go_at_call 12; refine (bad_any _ _ _ (by omega) _ false (not_bad h1 h2)).mono ?_; rintro e w' ⟨rfl, rfl⟩) | (go_at_call 13; refine (sum_any S _ _ _ b off gone s (by omega) hs hS _ hp false HR.out).mono ?_; rintro e w' ⟨rfl, hb⟩))
    go_ret2
    exact ⟨rfl, hb⟩

theorem few_any (S : Nat → ByteArray) (p : Option Addr) (len cap b off : Nat) (hl : len ≤ 9223372036854775807) (hS : ∀ i, i < len → (S i).size ≤ maxLen) (w : World) (hp : Strs w p len S b off)
    (r : Bool) (hr : Fits r (len ≤ 300 ∧ ∀ i, i < len → (S i).size ≤ 100)) : Calls Try.prog 6 #[.slice p len cap] w fun e w' => e = .returned (.bool r) ∧ w = w' := by
  by_cases h3 : 300 < len
  · have hr0 : r = false := by
      cases r with
      | false => rfl
      | true => exact absurd (hr.1 rfl).1 (by omega)
    subst hr0
    clear hr
    go_enter Try.func6, Try.ntmps6
    go_wp2
    go_ret
    exact ⟨rfl, rfl⟩
  · have HR := Lib.hid hr
    clear hr
    go_enter Try.func6, Try.ntmps6
    go_wp2
    go_loop [3] (fun iv => ∃ k : Nat, k ≤ len ∧ iv = .int .i64 k ∧ ∀ i, i < k → (S i).size ≤ 100) (fun iv => len - (intOf iv).toNat)
    case atStart => exact ⟨0, Nat.zero_le _, rfl, fun i hi => absurd hi (Nat.not_lt_zero _)⟩
    case round =>
      obtain ⟨k, hk, rfl, hF⟩ := hrel
      by_cases hkl : k < len
      · have hpp := hp.at_ (by omega)
        subst hpp
        have hcl := hp.cell k hkl
        have hSk := hS k hkl
        unfold maxLen at hSk
        by_cases hz : 100 < (S k).size
        · have hr0 : r = false := by
            cases r with
            | false => rfl
            | true => exact absurd ((HR.out.1 rfl).2 k hkl) (by omega)
          subst hr0
          clear hF
          go_wp2
          go_ret
          exact ⟨rfl, rfl⟩
        · have HF := Lib.hid hF
          clear hF
          go_wp2
          go_round
          case rel => exact ⟨k + 1, by omega, by go_num, fun i hi => by (rcases Nat.lt_or_ge i k with h | h); exact HF.out i h; (obtain rfl : i = k := by omega); omega⟩
          case measure => simp [intOf]; omega
      · have hke : k = len := by omega
        have hr1 : r = true := HR.out.2 ⟨by omega, fun i hi => hF i (by omega)⟩
        subst hr1
        clear hF
        go_wp2
        go_ret
        exact ⟨rfl, rfl⟩

def LSumRes (W : World) (t : ByteArray) (r : Bool) (e : Ending) (w' : World) : Prop := e = .returned (.tuple #[.string (if r then t else ⟨#[]⟩), .bool r]) ∧ Below W.heap.size W w'
set_option maxRecDepth 100000 in
set_option maxHeartbeats 4000000 in
theorem lsum_any (S : Nat → ByteArray) (p : Option Addr) (len cap b off : Nat) (but : Int) (s : ByteArray) (hl : len ≤ 300) (hs : s.size ≤ 1000) (hS : ∀ i, i < len → (S i).size ≤ 1000) (w : World) (hp : Strs w p len S b off)
    (t : ByteArray) (ht : sumB S but s len = t) (r : Bool) (hr : Fits r (fitF S but s.size len)) :
    Calls Try.prog 10 #[.slice p len cap, .int .i64 but, .string s] w (LSumRes w t r) := by
  subst ht
  obtain ⟨cap1, w1, hcv, hrow, hB1, hcap⟩ := conv_row s w
  go_enter Try.func10, Try.ntmps10
  go_wp2_with fail
  clear hcv
  go_loopw [9] (fun iv wr => ∃ k : Nat, k ≤ len ∧ iv = .int .i64 k ∧ RowF wr w.heap.size s.size (sumF S but (bt s) k) ∧ fitF S but s.size k ∧ Below w.heap.size w wr) (fun iv _ => len - (intOf iv).toNat)
  case atStart => exact ⟨0, Nat.zero_le _, rfl, hrow, fun i hi => absurd hi (Nat.not_lt_zero _), hB1⟩
  case round =>
    obtain ⟨k, hk, rfl, hR, hF, hBw⟩ := hrel
    by_cases hkl : k < len
    · have hpp := hp.at_ (by omega)
      subst hpp
      have hbl := hp.lt (by omega)
      have hcl : wr.cell? ⟨b, off + k, none⟩ = some (.string (S k)) := (hBw.cell hbl).trans (hp.cell k hkl)
      have hSk := hS k hkl
      by_cases hbut : (k : Int) = but
      · have hb1 : ((k : Int) == but) = true := by simpa using hbut
        have HB := Lib.hid hbut
        clear hbut
        go_wp2_with fail
        go_roundw
        case rel => exact ⟨k + 1, by omega, by go_num, hR.congr (fun p _ => (sumF_hit HB.out _ _ _).symm), fun i hi hne => by (rcases Nat.lt_or_ge i k with h | h); exact hF i h hne; exact absurd (by rw [← HB.out]; congr 1; omega) hne, hBw⟩
        case measure => simp [intOf]; omega
      · have hb1 : ((k : Int) == but) = false := by simpa using hbut
        have HB := Lib.hid hbut
        clear hbut
        by_cases hz : (S k).size = s.size
        · have hz1 : (((S k).size : Int) != (s.size : Int)) = false := by simp [hz]
          have HZ := Lib.hid hz
          have HC := Lib.hid (hp.cell k hkl)
          clear hz
          go_wp2_with fail
          clear hcl
          obtain ⟨wo, hwo⟩ : ∃ wo : World, wo = wr := ⟨_, rfl⟩
          subst hwo
          go_loopw [10] (fun jv wr => ∃ j : Nat, j ≤ s.size ∧ jv = .int .i64 j ∧ RowF wr w.heap.size s.size (mixF (sumF S but (bt s) k) (bt (S k)) j) ∧ Below w.heap.size w wr) (fun jv _ => s.size - (intOf jv).toNat)
          case atStart => exact ⟨0, Nat.zero_le _, rfl, hR.congr (fun p _ => by simp [mixF]), hBw⟩
          case round =>
            obtain ⟨j, hj, rfl, hR2, hBw2⟩ := hrel
            by_cases hjl : j < s.size
            · have c0 := hR2.cell hjl
              have f0 := hR2.free hjl
              have hcl : wr.cell? ⟨b, off + k, none⟩ = some (.string (S k)) := (hBw2.cell hbl).trans HC.out
              have hjs : j < (S k).size := by rw [HZ.out]; exact hjl
              have hm : mixF (sumF S but (bt s) k) (bt (S k)) j j = sumF S but (bt s) k j := by simp [mixF]
              rw [hm] at c0
              clear hm
              obtain ⟨A, hA⟩ : ∃ A, sumF S but (bt s) k j = A := ⟨_, rfl⟩
              rw [hA] at c0
              have HA := Lib.hid hA
              clear hA
              have hAlt : A.toNat < 256 := A.toNat_lt
              go_wp2_with fail
              go_region
              go_wp2_with fail
              go_roundw
              case rel =>
                refine ⟨j + 1, by omega, by go_num, ?_, ?_⟩
                · refine RowF.drew (RowF.congr (RowF.set hR2 j hjl (A ^^^ bt (S k) j) _ ?_) fun p _ => ?_)
                  · rw [bt_at _ j hjs]; exact xor_bits _ _
                  · rw [mixF_step, HA.out]
                · exact (hBw2.setCell (by exact Nat.le_refl _) _).drew
              case measure => simp [intOf]; omega
            · have hje : j = s.size := by omega
              go_wp2_with fail
              go_roundw
              case rel => exact ⟨k + 1, by omega, by go_num, hR2.congr (fun p hp => by rw [sumF_mix HB.out]; simp only [mixF]; rw [if_pos (by omega)]), fun i hi hne => by (rcases Nat.lt_or_ge i k with h | h); exact hF i h hne; (obtain rfl : i = k := by omega); exact HZ.out, hBw2⟩
              case measure => simp [intOf]; omega
        · have hz1 : (((S k).size : Int) != (s.size : Int)) = true := by simp; omega
          have hr0 : r = false := by
            cases r with
            | false => rfl
            | true => exact absurd (hr.1 rfl k hkl HB.out) hz
          go_wp2_with fail
          go_ret2
          rw [hr0]
          exact ⟨rfl, hBw⟩
    · have hke : k = len := by omega
      subst hke
      have hr1 : r = true := hr.2 hF
      have hstr := hR.str cap1
      go_wp2_with fail
      go_ret2
      rw [hr1]
      exact ⟨rfl, hBw⟩
end Go.Proofs.Ytjhbahjomeflaaa
