/- lightshiplaw43: contracts of Weave, Unweave, Burst, awake, and the walk of WeavePlaces. -/
import Derived.Test.YtidhoihnkmjonaaWeave
import Derived.BigQuiet
import Derived.Deep.QuietTactic
namespace Go.Proofs.Ytidhoihnkmjonaa
open Go.ChangeShapes Go.WideShapes Go.ChangeAt Go.RowKit
set_option linter.unusedVariables false

theorem fault_any (s : ByteArray) (rows : Int) (w : World) (hs : s.size ≤ maxLen) : Calls Try.prog 8 #[.string s, .int .i64 rows] w fun e w' => e = .returned (.int .i64 (faultI s.size rows)) ∧ w = w' := by
  unfold maxLen at hs
  by_cases h1 : rows < 1
  ·
    go_enter Try.func8, Try.ntmps8
    go_wp2
    go_ret
    exact ⟨ret_int (by unfold faultI; rw [if_pos (Or.inl h1)]), rfl⟩
  · by_cases h2 : 255 < rows
    ·
      go_enter Try.func8, Try.ntmps8
      go_wp2
      go_ret
      exact ⟨ret_int (by unfold faultI; rw [if_pos (Or.inr h2)]), rfl⟩
    · have HF := Lib.hid (show faultI s.size rows = if 65536 < s.size then 3 else if (s.size : Int) % rows ≠ 0 then 5 else 0 by unfold faultI; rw [if_neg (by omega)])
      by_cases h3 : 65536 < s.size
      ·
        go_enter Try.func8, Try.ntmps8
        go_wp2
        go_ret
        exact ⟨ret_int (by rw [HF.out, if_pos h3]), rfl⟩
      · by_cases h4 : (s.size : Int) % rows = 0
        · have b4 : ((s.size : Int) % rows != 0) = false := by simpa using h4
          have H4 := Lib.hid h4
          clear h4
          go_enter Try.func8, Try.ntmps8
          go_wp2
          go_ret
          exact ⟨ret_int (by rw [HF.out, if_neg h3, if_neg (by rw [H4.out]; omega)]), rfl⟩
        · have b4 : ((s.size : Int) % rows != 0) = true := by simpa using h4
          have H4 := Lib.hid h4
          clear h4
          go_enter Try.func8, Try.ntmps8
          go_wp2
          go_ret
          exact ⟨ret_int (by rw [HF.out, if_neg h3, if_pos H4.out]), rfl⟩

theorem weave_bad (s : ByteArray) (rows : Int) (hf : (faultI s.size rows != 0) = true) (hs : s.size ≤ maxLen) (w : World) :
    Calls Try.prog 6 #[.string s, .int .i64 rows] w fun e w' => e = .returned (.tuple #[.string ⟨#[]⟩, .int .i64 (faultI s.size rows)]) ∧ w = w' := by
  go_enter Try.func6, Try.ntmps6
  go_wp2_with (go_at_call 10; refine (check_any _ _ _ hs).mono ?_; rintro e w' ⟨rfl, rfl⟩)
  go_ret2
  exact ⟨rfl, rfl⟩
theorem unweave_bad (s : ByteArray) (rows : Int) (hf : (faultI s.size rows != 0) = true) (hs : s.size ≤ maxLen) (w : World) :
    Calls Try.prog 7 #[.string s, .int .i64 rows] w fun e w' => e = .returned (.tuple #[.string ⟨#[]⟩, .int .i64 (faultI s.size rows)]) ∧ w = w' := by
  go_enter Try.func7, Try.ntmps7
  go_wp2_with (go_at_call 10; refine (check_any _ _ _ hs).mono ?_; rintro e w' ⟨rfl, rfl⟩)
  go_ret2
  exact ⟨rfl, rfl⟩
def StrPost (W : World) (t : ByteArray) (e : Ending) (w' : World) : Prop := e = .returned (.tuple #[.string t, .int .i64 0]) ∧ Below W.heap.size W w'
theorem fault_none (n rows cols : Nat) (hr : 1 ≤ rows) (hr2 : rows ≤ 255) (hn : rows * cols = n) (hs : n ≤ 65536) : faultI n rows = 0 := by
  unfold faultI
  rw [if_neg (by omega), if_neg (by omega), if_neg]
  rw [← hn, Int.natCast_mul]
  simp
theorem weave_good (s : ByteArray) (rows : Int) (R cols : Nat) (hR : rows = (R : Int)) (hr : 1 ≤ R) (hr2 : R ≤ 255) (hn : R * cols = s.size) (hs : s.size ≤ 65536) (t : ByteArray) (ht : weaveB s R cols = t) (w : World) :
    Calls Try.prog 6 #[.string s, .int .i64 rows] w (StrPost w t) := by
  subst hR
  have hf := fault_none s.size R cols hr hr2 hn hs
  have HN := Lib.hid hn
  have HT := Lib.hid ht
  clear hn ht
  go_enter Try.func6, Try.ntmps6
  go_wp2_with (first | (go_at_call 10; refine (check_any _ _ _ (by unfold maxLen; omega)).mono ?_; rintro e w' ⟨rfl, rfl⟩) | (go_at_call 11; refine (turned_any _ _ cols hr HN.out hs _ t HT.out).mono ?_; rintro e w' ⟨rfl, hb⟩))
  go_ret2
  exact ⟨rfl, hb⟩
theorem unweave_good (s : ByteArray) (rows : Int) (R cols : Nat) (hR : rows = (R : Int)) (hr : 1 ≤ R) (hr2 : R ≤ 255) (hn : R * cols = s.size) (hs : s.size ≤ 65536) (t : ByteArray) (ht : weaveB s cols R = t) (w : World) :
    Calls Try.prog 7 #[.string s, .int .i64 rows] w (StrPost w t) := by
  subst hR
  have hf := fault_none s.size R cols hr hr2 hn hs
  by_cases h0 : s.size = 0
  · have hs0 : s = ⟨#[]⟩ := by
      obtain ⟨d⟩ := s
      have h0 : d.size = 0 := h0
      rw [Array.eq_empty_of_size_eq_zero h0]
    subst hs0
    have hc : cols = 0 := by
      have : R * cols = 0 := hn
      rcases Nat.mul_eq_zero.1 this with h | h
      · omega
      · exact h
    subst hc
    have ht' : t = ⟨#[]⟩ := by rw [← ht]; simp [weaveB, weaveL, ofL]
    subst ht'
    have hf0 : faultI 0 (R : Int) = 0 := hf
    clear ht hn h0
    go_enter Try.func7, Try.ntmps7
    go_wp2_with (go_at_call 10; refine (check_any _ _ _ (by unfold maxLen; omega)).mono ?_; rintro e w' ⟨rfl, rfl⟩)
    go_ret2
    exact ⟨rfl, Below.refl _ _⟩
  · have hc : 1 ≤ cols := by
      rcases Nat.eq_zero_or_pos cols with h | h
      · exfalso; apply h0; rw [← hn, h]; simp
      · exact h
    have hq : (s.size : Int) / (R : Int) = (cols : Int) := by rw [← hn]; rw [Int.natCast_mul]; exact Int.mul_ediv_cancel_left _ (by omega)
    have hn' : cols * R = s.size := by rw [Nat.mul_comm]; exact hn
    have HN := Lib.hid hn'
    have HT := Lib.hid ht
    have hl : s.data.toList ≠ [] := by
      intro h; apply h0
      have : s.data.toList.length = 0 := by rw [h]; rfl
      simpa using this
    have hl2 : s.toList.isEmpty = false := by
      rw [ByteArray.toList_eq]; simpa using hl
    have hcs : cols ≤ s.size := by rw [← HN.out]; exact Nat.le_mul_of_pos_right _ hr
    clear hn ht hn' h0 hl
    go_enter Try.func7, Try.ntmps7
    go_wp2_with (first | (go_at_call 10; refine (check_any _ _ _ (by unfold maxLen; omega)).mono ?_; rintro e w' ⟨rfl, rfl⟩) | (go_at_call 11; refine (turned_any _ _ R hc HN.out hs _ t HT.out).mono ?_; rintro e w' ⟨rfl, hb⟩))
    go_ret2
    exact ⟨rfl, hb⟩

def burstI (n rows : Int) : Int := if n < 1 ∨ rows < 1 then 0 else (n - 1) / rows + 1
theorem burst_any (n rows : Int) (hn : n ≤ 65536) (w : World) : Calls Try.prog 9 #[.int .i64 n, .int .i64 rows] w fun e w' => e = .returned (.int .i64 (burstI n rows)) ∧ w = w' := by
  by_cases h1 : n < 1
  · go_enter Try.func9, Try.ntmps9
    go_wp2
    go_ret
    exact ⟨ret_int (by unfold burstI; rw [if_pos (Or.inl h1)]), rfl⟩
  · by_cases h2 : rows < 1
    · go_enter Try.func9, Try.ntmps9
      go_wp2
      go_ret
      exact ⟨ret_int (by unfold burstI; rw [if_pos (Or.inr h2)]), rfl⟩
    · have hb : (n - 1) / rows ≤ n - 1 := Int.ediv_le_self _ (by omega)
      have hb0 : 0 ≤ (n - 1) / rows := Int.ediv_nonneg (by omega) (by omega)
      go_enter Try.func9, Try.ntmps9
      go_wp2
      go_ret
      exact ⟨ret_int (by unfold burstI; rw [if_neg (by omega)]), rfl⟩

def TruePost (W : World) (e : Ending) (w' : World) : Prop := e = .returned (.bool true) ∧ Below W.heap.size W w'
set_option maxRecDepth 100000 in
set_option maxHeartbeats 4000000 in
theorem awake_true (w : World) : Calls Try.prog 5 #[] w (TruePost w) := by
  have b1 : burstI 5 2 = 3 := by decide
  have b2 : burstI 0 2 = 0 := by decide
  go_enter Try.func5, Try.ntmps5
  go_wp2_with fail
  refine (weave_good ⟨#[97, 98, 99, 100, 101, 102]⟩ 2 2 3 rfl (by omega) (by omega) (by rfl) (by decide) ⟨#[97, 100, 98, 101, 99, 102]⟩ (by rfl) _).mono ?_
  rintro e w1 ⟨rfl, hb1⟩
  go_wp2_with fail
  refine (unweave_good ⟨#[97, 100, 98, 101, 99, 102]⟩ 2 2 3 rfl (by omega) (by omega) (by rfl) (by decide) ⟨#[97, 98, 99, 100, 101, 102]⟩ (by rfl) _).mono ?_
  rintro e w2 ⟨rfl, hb2⟩
  go_wp2_with fail
  refine (weave_bad ⟨#[97, 98, 99]⟩ 2 (by decide) (by decide) _).mono ?_
  rintro e w3 ⟨rfl, rfl⟩
  have f1 : faultI (ByteArray.mk #[97, 98, 99]).size 2 = 5 := by decide
  rw [f1]
  go_wp2_with fail
  refine (weave_bad ⟨#[97, 98, 99]⟩ 0 (by decide) (by decide) _).mono ?_
  rintro e w3 ⟨rfl, rfl⟩
  have f2 : faultI (ByteArray.mk #[97, 98, 99]).size 0 = 1 := by decide
  rw [f2]
  go_wp2_with (go_at_call 9; refine (burst_any _ _ (by omega) _).mono ?_; rintro e w' ⟨rfl, rfl⟩)
  go_ret
  exact ⟨rfl, hb1.trans (hb2.mono hb1.size)⟩
end Go.Proofs.Ytidhoihnkmjonaa
