/- The walk of WeavePlaces. -/
import Derived.Test.YtidhoihnkmjonaaWeaveLaws
import Derived.IntWalk
namespace Go.Proofs.Ytidhoihnkmjonaa
open Go.ChangeShapes Go.WideShapes Go.ChangeAt Go.RowKit
set_option linter.unusedVariables false

theorem ofL_get' (t : ByteArray) (l : List UInt8) (e : t = ofL l) (k : Nat) (h : k < t.size) : t[k] = l[k]'(by rw [e, ofL_size] at h; exact h) := by
  subst e; exact ofL_get l k h
theorem weaveB_size (s : ByteArray) (rows cols : Nat) : (weaveB s rows cols).size = rows * cols := by rw [weaveB, ofL_size, weaveL_len]
theorem weaveB_at (s : ByteArray) (rows cols k : Nat) (hk : k < (weaveB s rows cols).size) (h : k % rows * cols + k / rows < s.size) : (weaveB s rows cols)[k] = s[k % rows * cols + k / rows] := by
  have h2 : k < rows * cols := by rw [weaveB_size] at hk; exact hk
  rw [ofL_get' (weaveB s rows cols) (weaveL s.data.toList rows cols) rfl k hk]
  unfold weaveL
  rw [List.getElem_map, List.getElem_range, getB s _ h]
theorem places_long (s : ByteArray) (rows : Int) (h : 3000 < s.size) (hs : s.size ≤ maxLen) (w : World) : Calls Try.prog 3 #[.string s, .int .i64 rows] w (TruePost w) := by
  unfold maxLen at hs
  go_enter Try.func3, Try.ntmps3
  go_wp2_with (go_at_call 5; refine (awake_true _).mono ?_; rintro e w6 ⟨rfl, hb6⟩)
  go_ret
  exact ⟨rfl, hb6⟩
set_option maxRecDepth 100000 in
set_option maxHeartbeats 2000000 in
theorem places_bad (s : ByteArray) (rows : Int) (h : s.size ≤ 3000) (hf : (faultI s.size rows != 0) = true) (w : World) : Calls Try.prog 3 #[.string s, .int .i64 rows] w (TruePost w) := by
  have hm : s.size ≤ maxLen := by unfold maxLen; omega
  have h0 : ((⟨#[]⟩ : ByteArray) ++ ⟨#[]⟩) = ⟨#[]⟩ := rfl
  have hself : (faultI s.size rows == faultI s.size rows) = true := by simp
  go_enter Try.func3, Try.ntmps3
  go_wp2_with (first | (go_at_call 6; refine (weave_bad _ _ hf hm _).mono ?_; rintro e w' ⟨rfl, rfl⟩) | (go_at_call 7; refine (unweave_bad _ _ hf hm _).mono ?_; rintro e w' ⟨rfl, rfl⟩) | (go_at_call 8; refine (fault_any _ _ _ hm).mono ?_; rintro e w' ⟨rfl, rfl⟩) | (go_at_call 5; refine (awake_true _).mono ?_; rintro e w6 ⟨rfl, hb6⟩))
  go_ret
  exact ⟨rfl, hb6⟩
set_option maxRecDepth 100000 in
set_option maxHeartbeats 4000000 in
theorem places_good (s : ByteArray) (R cols : Nat) (hr : 1 ≤ R) (hr2 : R ≤ 255) (hn : R * cols = s.size) (h : s.size ≤ 3000) (w : World) : Calls Try.prog 3 #[.string s, .int .i64 (R : Int)] w (TruePost w) := by
  have hm : s.size ≤ maxLen := by unfold maxLen; omega
  have hf := fault_none s.size R cols hr hr2 hn (by omega)
  have hq : (s.size : Int) / (R : Int) = (cols : Int) := by rw [← hn]; rw [Int.natCast_mul]; exact Int.mul_ediv_cancel_left _ (by omega)
  have hcs : cols ≤ s.size := by rw [← hn]; exact Nat.le_mul_of_pos_left _ hr
  have szA : (weaveB s R cols).size = s.size := by rw [weaveB_size, hn]
  have szB : (weaveB s cols R).size = s.size := by rw [weaveB_size, Nat.mul_comm, hn]
  have rd : ∀ i (hi : i < s.size), ∃ m q : Nat, (i : Int) % (cols : Int) = (m : Int) ∧ (i : Int) / (cols : Int) = (q : Int) ∧ ∃ (h1 : m * R + q < s.size), (weaveB s R cols)[m * R + q]'(by rw [szA]; exact h1) = s[i] ∧ (weaveB s cols R)[i]'(by rw [szB]; exact hi) = s[m * R + q] := by
    intro i hi
    have hc : 0 < cols := by
      rcases Nat.eq_zero_or_pos cols with h0 | h0
      · rw [h0] at hn; omega
      · exact h0
    have hmod : i % cols < cols := Nat.mod_lt _ hc
    have hdiv : i / cols < R := by rw [Nat.div_lt_iff_lt_mul hc]; omega
    have h1 : i % cols * R + i / cols < s.size := by
      have := mul_step (i % cols) (i / cols) cols R hmod hdiv
      rw [Nat.mul_comm cols R] at this; omega
    refine ⟨i % cols, i / cols, rfl, rfl, h1, ?_, ?_⟩
    · have e1 : (i % cols * R + i / cols) % R = i / cols := by rw [Nat.mul_comm, Nat.mul_add_mod]; exact Nat.mod_eq_of_lt hdiv
      have e2 : (i % cols * R + i / cols) / R = i % cols := by rw [Nat.mul_comm, Nat.mul_add_div (by omega), Nat.div_eq_of_lt hdiv]; rfl
      have e3 : i / cols * cols + i % cols = i := by rw [Nat.mul_comm]; exact Nat.div_add_mod i cols
      rw [weaveB_at s R cols _ (by rw [szA]; exact h1) (by rw [e1, e2, e3]; exact hi)]
      congr 1
      rw [e1, e2, e3]
    · exact weaveB_at s cols R i (by rw [szB]; exact hi) h1
  have HN := Lib.hid hn
  have GA := Lib.hid (weave_good s (R : Int) R cols rfl hr hr2 hn (by omega) (weaveB s R cols) rfl)
  have GB := Lib.hid (unweave_good s (R : Int) R cols rfl hr hr2 hn (by omega) (weaveB s cols R) rfl)
  clear hn
  generalize weaveB s R cols = ta at *
  generalize weaveB s cols R = tb at *
  have RD := Lib.hid rd
  clear rd
  go_enter Try.func3, Try.ntmps3
  go_wp2_with (first | (go_at_call 6; refine (GA.out _).mono ?_; rintro e w1 ⟨rfl, hb1⟩) | (go_at_call 7; refine (GB.out _).mono ?_; rintro e w2 ⟨rfl, hb2⟩) | (go_at_call 8; refine (fault_any _ _ _ hm).mono ?_; rintro e w' ⟨rfl, rfl⟩))
  have hb := hb1.trans (hb2.mono hb1.size)
  go_loopw [11] (fun iv wr => ∃ i : Nat, i ≤ s.size ∧ iv = .int .i64 i ∧ Below w.heap.size w wr) (fun iv _ => s.size - (intOf iv).toNat)
  case atStart => exact ⟨0, Nat.zero_le _, rfl, hb⟩
  case round =>
    obtain ⟨i, hi, rfl, hbr⟩ := hrel
    by_cases hlt : i < s.size
    · obtain ⟨m, q, hmI, hqI, h1, e1, e2⟩ := RD.out i hlt
      have hlin : (m : Int) * (R : Int) + (q : Int) < (s.size : Int) := by exact_mod_cast h1
      have hpos : 0 ≤ (m : Int) * (R : Int) := Int.mul_nonneg (by omega) (by omega)
      have hc1 : 1 ≤ cols := by
        rcases Nat.eq_zero_or_pos cols with h0 | h0
        · have := HN.out; rw [h0] at this; omega
        · exact h0
      have hq0 : 0 ≤ (m : Int) * (R : Int) + (q : Int) := by omega
      have k1 : IntKind.i64.wrap ((m : Int) * (R : Int)) = (m : Int) * (R : Int) := IntWalk.i64_in _ (by omega)
      have k2 : IntKind.i64.wrap ((m : Int) * (R : Int) + (q : Int)) = (m : Int) * (R : Int) + (q : Int) := IntWalk.i64_in _ (by omega)
      have k3 : ((m : Int) * (R : Int) + (q : Int)).toNat = m * R + q := by
        have e : (m : Int) * (R : Int) + (q : Int) = ((m * R + q : Nat) : Int) := by simp
        rw [e]; exact Int.toNat_natCast _
      go_wp2
      go_quiet (fail)
      go_wp2
      go_quiet (fail)
      go_wp2
      clear k1 k2 k3
      go_roundw
      case rel => exact ⟨i + 1, by omega, by go_num, bdrewN hbr _⟩
      case measure => simp [intOf]; omega
    · have hie : i = s.size := by omega
      subst hie
      go_wp2_with (go_at_call 5; refine (awake_true _).mono ?_; rintro e w6 ⟨rfl, hb6⟩)
      go_ret
      exact ⟨rfl, hbr.trans (hb6.mono hbr.size)⟩
/-- WeavePlaces at every input. -/
theorem places_all (s : ByteArray) (rows : Int) (hs : s.size ≤ maxLen) (w : World) : Calls Try.prog 3 #[.string s, .int .i64 rows] w (TruePost w) := by
  by_cases h : 3000 < s.size
  · exact places_long s rows h hs w
  · by_cases hf : faultI s.size rows = 0
    · have h1 : 1 ≤ rows ∧ rows ≤ 255 ∧ (s.size : Int) % rows = 0 := by
        unfold faultI at hf
        split at hf
        · omega
        · split at hf
          · omega
          · split at hf
            · omega
            · omega
      obtain ⟨R, rfl⟩ : ∃ R : Nat, rows = (R : Int) := ⟨rows.toNat, by omega⟩
      have hd : R ∣ s.size := by
        have := Int.dvd_of_emod_eq_zero h1.2.2
        exact Int.natCast_dvd_natCast.1 this
      exact places_good s R (s.size / R) (by omega) (by omega) (Nat.mul_div_cancel' hd) (by omega) w
    · exact places_bad s rows (by omega) (by simpa using hf) w
end Go.Proofs.Ytidhoihnkmjonaa
