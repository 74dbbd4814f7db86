/- The walks of ParitySums and ParityBack. -/
import Derived.Test.YtjhbahjomeflaaaParity4
namespace Go.Proofs.Ytjhbahjomeflaaa
open Go.ChangeShapes Go.WideShapes Go.ChangeAt Go.RowKit
set_option linter.unusedVariables false

theorem sum_zero (S : Nat → ByteArray) (len : Nat) (h : 1 ≤ len) : sumB S (-1) (sof (S 0).size (fun _ => 0)) len = sumB S 0 (S 0) len := by
  unfold sumB
  rw [sof_size]
  refine sof_congr fun p hp => ?_
  induction len with
  | zero => omega
  | succ k ih =>
    rw [sumF_mix (by omega)]
    rcases Nat.eq_zero_or_pos k with h0 | h0
    · subst h0
      rw [sumF_hit (by omega)]
      show bt (sof _ _) p ^^^ bt (S 0) p = bt (S 0) p
      rw [sof_bt _ _ _ hp]
      simp
    · rw [sumF_mix (by omega), ih h0]
theorem fit_zero (S : Nat → ByteArray) (len : Nat) : fitF S (-1) (sof (S 0).size (fun _ => 0)).size len ↔ fitF S 0 (S 0).size len := by
  rw [sof_size]
  constructor
  · intro h i hi _
    exact h i hi (by omega)
  · intro h i hi _
    rcases Nat.eq_zero_or_pos i with h0 | h0
    · subst h0; rfl
    · exact h i hi (by omega)

set_option maxRecDepth 100000 in
set_option maxHeartbeats 4000000 in
theorem sums_bad (S : Nat → ByteArray) (p : Option Addr) (len cap b off : Nat) (gone : Int) (s : ByteArray) (hlm : len ≤ maxLen) (hsm : s.size ≤ maxLen) (hSm : ∀ i, i < len → (S i).size ≤ maxLen) (w : World) (hp : Strs w p len S b off)
    (hb : 100 < s.size ∨ ¬ (len ≤ 300 ∧ ∀ i, i < len → (S i).size ≤ 100)) : Calls Try.prog 3 #[.slice p len cap, .int .i64 gone, .string s] w (TruePost w) := by
  unfold maxLen at hlm hsm
  by_cases hf : (len ≤ 300 ∧ ∀ i, i < len → (S i).size ≤ 100)
  · have hs : 100 < s.size := by rcases hb with h | h; exact h; exact absurd hf h
    have HF := fits_yes hf
    clear hb hf
    go_enter Try.func3, Try.ntmps3
    go_wp2_with (first | (go_at_call 6; refine (few_any S _ _ _ b off (by omega) hSm _ hp true HF).mono ?_; rintro e w' ⟨rfl, rfl⟩) | (go_at_call 7; refine (awake_true _).mono ?_; rintro e w6 ⟨rfl, hb6⟩))
    go_ret
    exact ⟨rfl, hb6⟩
  · have HF := fits_no hf
    clear hb hf
    go_enter Try.func3, Try.ntmps3
    go_wp2_with (first | (go_at_call 6; refine (few_any S _ _ _ b off (by omega) hSm _ hp false HF).mono ?_; rintro e w' ⟨rfl, rfl⟩) | (go_at_call 7; refine (awake_true _).mono ?_; rintro e w6 ⟨rfl, hb6⟩))
    go_ret
    exact ⟨rfl, hb6⟩
set_option maxRecDepth 100000 in
set_option maxHeartbeats 4000000 in
theorem sums_out (S : Nat → ByteArray) (p : Option Addr) (len cap b off : Nat) (gone : Int) (s : ByteArray) (hs : s.size ≤ 100) (hSm : ∀ i, i < len → (S i).size ≤ maxLen) (w : World) (hp : Strs w p len S b off)
    (hf : len ≤ 300 ∧ ∀ i, i < len → (S i).size ≤ 100) (ho : len < 1 ∨ 255 < len) : Calls Try.prog 3 #[.slice p len cap, .int .i64 gone, .string s] w (TruePost w) := by
  have HF := fits_yes hf
  have hl := hf.1
  have h0 : ((⟨#[]⟩ : ByteArray) ++ ⟨#[]⟩) = ⟨#[]⟩ := rfl
  clear hf
  by_cases h1 : len < 1
  all_goals
    go_enter Try.func3, Try.ntmps3
    go_wp2_with (first | (go_at_call 6; refine (few_any S _ _ _ b off (by omega) hSm _ hp true HF).mono ?_; rintro e w' ⟨rfl, rfl⟩) | (go_at_call 8; refine (of_bad _ _ _ (by omega) ho _).mono ?_; rintro e w1 ⟨rfl, hb1⟩) | (go_at_call 9; refine (back_bad _ _ _ (by omega) ho _ _ _).mono ?_; rintro e w2 ⟨rfl, hb2⟩) | (go_at_call 7; refine (awake_true _).mono ?_; rintro e w6 ⟨rfl, hb6⟩))
    go_ret
    exact ⟨rfl, (hb1.trans (hb2.mono hb1.size)).trans (hb6.mono (Nat.le_trans hb1.size hb2.size))⟩

set_option maxRecDepth 100000 in
set_option maxHeartbeats 8000000 in
theorem sums_good (S : Nat → ByteArray) (p : Option Addr) (len cap b off : Nat) (gone : Int) (s : ByteArray) (hs : s.size ≤ 100) (hSm : ∀ i, i < len → (S i).size ≤ maxLen) (w : World) (hp : Strs w p len S b off)
    (hf : len ≤ 300 ∧ ∀ i, i < len → (S i).size ≤ 100) (h1 : 1 ≤ len) (h2 : len ≤ 255) (ra rb : Bool) (HRa : Fits ra (fitF S 0 (S 0).size len)) (HRb : Fits rb (fitF S gone s.size len)) :
    Calls Try.prog 3 #[.slice p len cap, .int .i64 gone, .string s] w (TruePost w) := by
  have HF := fits_yes hf
  have hS : ∀ i, i < len → (S i).size ≤ 1000 := fun i hi => by have := hf.2 i hi; omega
  have hs0 : (S 0).size ≤ 100 := hf.2 0 (by omega)
  clear hf
  have GA := Lib.hid (fun w hp => of_good S p len cap b off h1 h2 hS w hp _ rfl ra HRa)
  have GC := Lib.hid (fun w hp => lsum_any S p len cap b off (-1) (sof (S 0).size (fun _ => 0)) (by omega) (by rw [sof_size]; omega) hS w hp _ (sum_zero S len h1) ra (Iff.trans HRa (fit_zero S len).symm))
  have GD := Lib.hid (fun w hp => lsum_any S p len cap b off gone s (by omega) (by omega) hS w hp _ rfl rb HRb)
  have GB := Lib.hid (fun (g1 : 0 ≤ gone) (g2 : gone < (len : Int)) w hp => back_good S p len cap b off h1 h2 gone g1 g2 s (by omega) hS w hp _ rfl rb HRb)
  generalize sumB S 0 (S 0) len = ta at *
  generalize sumB S gone s len = tb at *
  clear HRa HRb
  have hpp := hp.at_ (by omega)
  subst hpp
  have hmk := make_bytes (S 0).size (by omega)
  have hcv := fun W : World => (zrow_row (w := W) (n := (S 0).size)).str (S 0).size
  have hl0 : 0 < len := by omega
  by_cases hg : 0 ≤ gone ∧ gone < (len : Int)
  · obtain ⟨g1, g2⟩ := hg
    cases ra <;> cases rb
    ·
      go_enter Try.func3, Try.ntmps3
      go_wp2_with (go_at_call 6; refine (few_any S _ _ _ b off (by omega) hSm _ hp true HF).mono ?_; rintro e w' ⟨rfl, rfl⟩)
      refine (GA.out _ hp).mono ?_
      rintro e w1 ⟨rfl, hb1⟩
      have hp1 := hp.below hb1 hp.lt
      go_wp2_with fail
      refine (GB.out g1 g2 _ hp1).mono ?_
      rintro e w2 ⟨rfl, hb2⟩
      have B2 := hb1.trans (hb2.mono hb1.size)
      have hp2 := hp.below B2 hp.lt
      have c2 : w2.cell? ⟨b, off, none⟩ = some (.string (S 0)) := hp2.cell 0 (by omega)
      clear hp1
      go_wp2_with fail
      refine (GC.out _ (hp2.below ((Below.refl _ _).alloc (Nat.le_refl _) _) hp2.lt)).mono ?_
      rintro e w3 ⟨rfl, hb3⟩
      have B3 := (B2.alloc B2.size (.cells (zrow (S 0).size) 5)).trans (hb3.mono (by simp; have := B2.size; omega))
      have hp3 := hp.below B3 hp.lt
      go_wp2_with fail
      refine (GD.out _ hp3).mono ?_
      rintro e w4 ⟨rfl, hb4⟩
      have B4 := B3.trans (hb4.mono B3.size)
      go_wp2_with (go_at_call 7; refine (awake_true _).mono ?_; rintro e w6 ⟨rfl, hb6⟩)
      go_ret
      exact ⟨rfl, B4.trans (hb6.mono B4.size)⟩
    ·
      go_enter Try.func3, Try.ntmps3
      go_wp2_with (go_at_call 6; refine (few_any S _ _ _ b off (by omega) hSm _ hp true HF).mono ?_; rintro e w' ⟨rfl, rfl⟩)
      refine (GA.out _ hp).mono ?_
      rintro e w1 ⟨rfl, hb1⟩
      have hp1 := hp.below hb1 hp.lt
      go_wp2_with fail
      refine (GB.out g1 g2 _ hp1).mono ?_
      rintro e w2 ⟨rfl, hb2⟩
      have B2 := hb1.trans (hb2.mono hb1.size)
      have hp2 := hp.below B2 hp.lt
      have c2 : w2.cell? ⟨b, off, none⟩ = some (.string (S 0)) := hp2.cell 0 (by omega)
      clear hp1
      go_wp2_with fail
      refine (GC.out _ (hp2.below ((Below.refl _ _).alloc (Nat.le_refl _) _) hp2.lt)).mono ?_
      rintro e w3 ⟨rfl, hb3⟩
      have B3 := (B2.alloc B2.size (.cells (zrow (S 0).size) 5)).trans (hb3.mono (by simp; have := B2.size; omega))
      have hp3 := hp.below B3 hp.lt
      go_wp2_with fail
      refine (GD.out _ hp3).mono ?_
      rintro e w4 ⟨rfl, hb4⟩
      have B4 := B3.trans (hb4.mono B3.size)
      go_wp2_with (go_at_call 7; refine (awake_true _).mono ?_; rintro e w6 ⟨rfl, hb6⟩)
      go_ret
      exact ⟨rfl, B4.trans (hb6.mono B4.size)⟩
    ·
      go_enter Try.func3, Try.ntmps3
      go_wp2_with (go_at_call 6; refine (few_any S _ _ _ b off (by omega) hSm _ hp true HF).mono ?_; rintro e w' ⟨rfl, rfl⟩)
      refine (GA.out _ hp).mono ?_
      rintro e w1 ⟨rfl, hb1⟩
      have hp1 := hp.below hb1 hp.lt
      go_wp2_with fail
      refine (GB.out g1 g2 _ hp1).mono ?_
      rintro e w2 ⟨rfl, hb2⟩
      have B2 := hb1.trans (hb2.mono hb1.size)
      have hp2 := hp.below B2 hp.lt
      have c2 : w2.cell? ⟨b, off, none⟩ = some (.string (S 0)) := hp2.cell 0 (by omega)
      clear hp1
      go_wp2_with fail
      refine (GC.out _ (hp2.below ((Below.refl _ _).alloc (Nat.le_refl _) _) hp2.lt)).mono ?_
      rintro e w3 ⟨rfl, hb3⟩
      have B3 := (B2.alloc B2.size (.cells (zrow (S 0).size) 5)).trans (hb3.mono (by simp; have := B2.size; omega))
      have hp3 := hp.below B3 hp.lt
      go_wp2_with fail
      refine (GD.out _ hp3).mono ?_
      rintro e w4 ⟨rfl, hb4⟩
      have B4 := B3.trans (hb4.mono B3.size)
      go_wp2_with (go_at_call 7; refine (awake_true _).mono ?_; rintro e w6 ⟨rfl, hb6⟩)
      go_ret
      exact ⟨rfl, B4.trans (hb6.mono B4.size)⟩
    ·
      go_enter Try.func3, Try.ntmps3
      go_wp2_with (go_at_call 6; refine (few_any S _ _ _ b off (by omega) hSm _ hp true HF).mono ?_; rintro e w' ⟨rfl, rfl⟩)
      refine (GA.out _ hp).mono ?_
      rintro e w1 ⟨rfl, hb1⟩
      have hp1 := hp.below hb1 hp.lt
      go_wp2_with fail
      refine (GB.out g1 g2 _ hp1).mono ?_
      rintro e w2 ⟨rfl, hb2⟩
      have B2 := hb1.trans (hb2.mono hb1.size)
      have hp2 := hp.below B2 hp.lt
      have c2 : w2.cell? ⟨b, off, none⟩ = some (.string (S 0)) := hp2.cell 0 (by omega)
      clear hp1
      go_wp2_with fail
      refine (GC.out _ (hp2.below ((Below.refl _ _).alloc (Nat.le_refl _) _) hp2.lt)).mono ?_
      rintro e w3 ⟨rfl, hb3⟩
      have B3 := (B2.alloc B2.size (.cells (zrow (S 0).size) 5)).trans (hb3.mono (by simp; have := B2.size; omega))
      have hp3 := hp.below B3 hp.lt
      go_wp2_with fail
      refine (GD.out _ hp3).mono ?_
      rintro e w4 ⟨rfl, hb4⟩
      have B4 := B3.trans (hb4.mono B3.size)
      go_wp2_with (go_at_call 7; refine (awake_true _).mono ?_; rintro e w6 ⟨rfl, hb6⟩)
      go_ret
      exact ⟨rfl, B4.trans (hb6.mono B4.size)⟩
  · by_cases hn : gone < 0
    · cases ra <;> cases rb
      ·
        go_enter Try.func3, Try.ntmps3
        go_wp2_with (go_at_call 6; refine (few_any S _ _ _ b off (by omega) hSm _ hp true HF).mono ?_; rintro e w' ⟨rfl, rfl⟩)
        refine (GA.out _ hp).mono ?_
        rintro e w1 ⟨rfl, hb1⟩
        have hp1 := hp.below hb1 hp.lt
        go_wp2_with fail
        refine (back_out _ len cap h1 h2 gone (.inl hn) s _).mono ?_
        rintro e w2 ⟨rfl, hb2⟩
        have B2 := hb1.trans (hb2.mono hb1.size)
        have hp2 := hp.below B2 hp.lt
        have c2 : w2.cell? ⟨b, off, none⟩ = some (.string (S 0)) := hp2.cell 0 (by omega)
        clear hp1
        go_wp2_with fail
        refine (GC.out _ (hp2.below ((Below.refl _ _).alloc (Nat.le_refl _) _) hp2.lt)).mono ?_
        rintro e w3 ⟨rfl, hb3⟩
        have B3 := (B2.alloc B2.size (.cells (zrow (S 0).size) 5)).trans (hb3.mono (by simp; have := B2.size; omega))
        have hp3 := hp.below B3 hp.lt
        go_wp2_with fail
        refine (GD.out _ hp3).mono ?_
        rintro e w4 ⟨rfl, hb4⟩
        have B4 := B3.trans (hb4.mono B3.size)
        go_wp2_with (go_at_call 7; refine (awake_true _).mono ?_; rintro e w6 ⟨rfl, hb6⟩)
        go_ret
        exact ⟨rfl, B4.trans (hb6.mono B4.size)⟩
      ·
        go_enter Try.func3, Try.ntmps3
        go_wp2_with (go_at_call 6; refine (few_any S _ _ _ b off (by omega) hSm _ hp true HF).mono ?_; rintro e w' ⟨rfl, rfl⟩)
        refine (GA.out _ hp).mono ?_
        rintro e w1 ⟨rfl, hb1⟩
        have hp1 := hp.below hb1 hp.lt
        go_wp2_with fail
        refine (back_out _ len cap h1 h2 gone (.inl hn) s _).mono ?_
        rintro e w2 ⟨rfl, hb2⟩
        have B2 := hb1.trans (hb2.mono hb1.size)
        have hp2 := hp.below B2 hp.lt
        have c2 : w2.cell? ⟨b, off, none⟩ = some (.string (S 0)) := hp2.cell 0 (by omega)
        clear hp1
        go_wp2_with fail
        refine (GC.out _ (hp2.below ((Below.refl _ _).alloc (Nat.le_refl _) _) hp2.lt)).mono ?_
        rintro e w3 ⟨rfl, hb3⟩
        have B3 := (B2.alloc B2.size (.cells (zrow (S 0).size) 5)).trans (hb3.mono (by simp; have := B2.size; omega))
        have hp3 := hp.below B3 hp.lt
        go_wp2_with fail
        refine (GD.out _ hp3).mono ?_
        rintro e w4 ⟨rfl, hb4⟩
        have B4 := B3.trans (hb4.mono B3.size)
        go_wp2_with (go_at_call 7; refine (awake_true _).mono ?_; rintro e w6 ⟨rfl, hb6⟩)
        go_ret
        exact ⟨rfl, B4.trans (hb6.mono B4.size)⟩
      ·
        go_enter Try.func3, Try.ntmps3
        go_wp2_with (go_at_call 6; refine (few_any S _ _ _ b off (by omega) hSm _ hp true HF).mono ?_; rintro e w' ⟨rfl, rfl⟩)
        refine (GA.out _ hp).mono ?_
        rintro e w1 ⟨rfl, hb1⟩
        have hp1 := hp.below hb1 hp.lt
        go_wp2_with fail
        refine (back_out _ len cap h1 h2 gone (.inl hn) s _).mono ?_
        rintro e w2 ⟨rfl, hb2⟩
        have B2 := hb1.trans (hb2.mono hb1.size)
        have hp2 := hp.below B2 hp.lt
        have c2 : w2.cell? ⟨b, off, none⟩ = some (.string (S 0)) := hp2.cell 0 (by omega)
        clear hp1
        go_wp2_with fail
        refine (GC.out _ (hp2.below ((Below.refl _ _).alloc (Nat.le_refl _) _) hp2.lt)).mono ?_
        rintro e w3 ⟨rfl, hb3⟩
        have B3 := (B2.alloc B2.size (.cells (zrow (S 0).size) 5)).trans (hb3.mono (by simp; have := B2.size; omega))
        have hp3 := hp.below B3 hp.lt
        go_wp2_with fail
        refine (GD.out _ hp3).mono ?_
        rintro e w4 ⟨rfl, hb4⟩
        have B4 := B3.trans (hb4.mono B3.size)
        go_wp2_with (go_at_call 7; refine (awake_true _).mono ?_; rintro e w6 ⟨rfl, hb6⟩)
        go_ret
        exact ⟨rfl, B4.trans (hb6.mono B4.size)⟩
      ·
        go_enter Try.func3, Try.ntmps3
        go_wp2_with (go_at_call 6; refine (few_any S _ _ _ b off (by omega) hSm _ hp true HF).mono ?_; rintro e w' ⟨rfl, rfl⟩)
        refine (GA.out _ hp).mono ?_
        rintro e w1 ⟨rfl, hb1⟩
        have hp1 := hp.below hb1 hp.lt
        go_wp2_with fail
        refine (back_out _ len cap h1 h2 gone (.inl hn) s _).mono ?_
        rintro e w2 ⟨rfl, hb2⟩
        have B2 := hb1.trans (hb2.mono hb1.size)
        have hp2 := hp.below B2 hp.lt
        have c2 : w2.cell? ⟨b, off, none⟩ = some (.string (S 0)) := hp2.cell 0 (by omega)
        clear hp1
        go_wp2_with fail
        refine (GC.out _ (hp2.below ((Below.refl _ _).alloc (Nat.le_refl _) _) hp2.lt)).mono ?_
        rintro e w3 ⟨rfl, hb3⟩
        have B3 := (B2.alloc B2.size (.cells (zrow (S 0).size) 5)).trans (hb3.mono (by simp; have := B2.size; omega))
        have hp3 := hp.below B3 hp.lt
        go_wp2_with fail
        refine (GD.out _ hp3).mono ?_
        rintro e w4 ⟨rfl, hb4⟩
        have B4 := B3.trans (hb4.mono B3.size)
        go_wp2_with (go_at_call 7; refine (awake_true _).mono ?_; rintro e w6 ⟨rfl, hb6⟩)
        go_ret
        exact ⟨rfl, B4.trans (hb6.mono B4.size)⟩
    · have hge : (len : Int) ≤ gone := by omega
      clear hg
      cases ra <;> cases rb
      ·
        go_enter Try.func3, Try.ntmps3
        go_wp2_with (go_at_call 6; refine (few_any S _ _ _ b off (by omega) hSm _ hp true HF).mono ?_; rintro e w' ⟨rfl, rfl⟩)
        refine (GA.out _ hp).mono ?_
        rintro e w1 ⟨rfl, hb1⟩
        have hp1 := hp.below hb1 hp.lt
        go_wp2_with fail
        refine (back_out _ len cap h1 h2 gone (.inr hge) s _).mono ?_
        rintro e w2 ⟨rfl, hb2⟩
        have B2 := hb1.trans (hb2.mono hb1.size)
        have hp2 := hp.below B2 hp.lt
        have c2 : w2.cell? ⟨b, off, none⟩ = some (.string (S 0)) := hp2.cell 0 (by omega)
        clear hp1
        go_wp2_with fail
        refine (GC.out _ (hp2.below ((Below.refl _ _).alloc (Nat.le_refl _) _) hp2.lt)).mono ?_
        rintro e w3 ⟨rfl, hb3⟩
        have B3 := (B2.alloc B2.size (.cells (zrow (S 0).size) 5)).trans (hb3.mono (by simp; have := B2.size; omega))
        have hp3 := hp.below B3 hp.lt
        go_wp2_with fail
        refine (GD.out _ hp3).mono ?_
        rintro e w4 ⟨rfl, hb4⟩
        have B4 := B3.trans (hb4.mono B3.size)
        go_wp2_with (go_at_call 7; refine (awake_true _).mono ?_; rintro e w6 ⟨rfl, hb6⟩)
        go_ret
        exact ⟨rfl, B4.trans (hb6.mono B4.size)⟩
      ·
        go_enter Try.func3, Try.ntmps3
        go_wp2_with (go_at_call 6; refine (few_any S _ _ _ b off (by omega) hSm _ hp true HF).mono ?_; rintro e w' ⟨rfl, rfl⟩)
        refine (GA.out _ hp).mono ?_
        rintro e w1 ⟨rfl, hb1⟩
        have hp1 := hp.below hb1 hp.lt
        go_wp2_with fail
        refine (back_out _ len cap h1 h2 gone (.inr hge) s _).mono ?_
        rintro e w2 ⟨rfl, hb2⟩
        have B2 := hb1.trans (hb2.mono hb1.size)
        have hp2 := hp.below B2 hp.lt
        have c2 : w2.cell? ⟨b, off, none⟩ = some (.string (S 0)) := hp2.cell 0 (by omega)
        clear hp1
        go_wp2_with fail
        refine (GC.out _ (hp2.below ((Below.refl _ _).alloc (Nat.le_refl _) _) hp2.lt)).mono ?_
        rintro e w3 ⟨rfl, hb3⟩
        have B3 := (B2.alloc B2.size (.cells (zrow (S 0).size) 5)).trans (hb3.mono (by simp; have := B2.size; omega))
        have hp3 := hp.below B3 hp.lt
        go_wp2_with fail
        refine (GD.out _ hp3).mono ?_
        rintro e w4 ⟨rfl, hb4⟩
        have B4 := B3.trans (hb4.mono B3.size)
        go_wp2_with (go_at_call 7; refine (awake_true _).mono ?_; rintro e w6 ⟨rfl, hb6⟩)
        go_ret
        exact ⟨rfl, B4.trans (hb6.mono B4.size)⟩
      ·
        go_enter Try.func3, Try.ntmps3
        go_wp2_with (go_at_call 6; refine (few_any S _ _ _ b off (by omega) hSm _ hp true HF).mono ?_; rintro e w' ⟨rfl, rfl⟩)
        refine (GA.out _ hp).mono ?_
        rintro e w1 ⟨rfl, hb1⟩
        have hp1 := hp.below hb1 hp.lt
        go_wp2_with fail
        refine (back_out _ len cap h1 h2 gone (.inr hge) s _).mono ?_
        rintro e w2 ⟨rfl, hb2⟩
        have B2 := hb1.trans (hb2.mono hb1.size)
        have hp2 := hp.below B2 hp.lt
        have c2 : w2.cell? ⟨b, off, none⟩ = some (.string (S 0)) := hp2.cell 0 (by omega)
        clear hp1
        go_wp2_with fail
        refine (GC.out _ (hp2.below ((Below.refl _ _).alloc (Nat.le_refl _) _) hp2.lt)).mono ?_
        rintro e w3 ⟨rfl, hb3⟩
        have B3 := (B2.alloc B2.size (.cells (zrow (S 0).size) 5)).trans (hb3.mono (by simp; have := B2.size; omega))
        have hp3 := hp.below B3 hp.lt
        go_wp2_with fail
        refine (GD.out _ hp3).mono ?_
        rintro e w4 ⟨rfl, hb4⟩
        have B4 := B3.trans (hb4.mono B3.size)
        go_wp2_with (go_at_call 7; refine (awake_true _).mono ?_; rintro e w6 ⟨rfl, hb6⟩)
        go_ret
        exact ⟨rfl, B4.trans (hb6.mono B4.size)⟩
      ·
        go_enter Try.func3, Try.ntmps3
        go_wp2_with (go_at_call 6; refine (few_any S _ _ _ b off (by omega) hSm _ hp true HF).mono ?_; rintro e w' ⟨rfl, rfl⟩)
        refine (GA.out _ hp).mono ?_
        rintro e w1 ⟨rfl, hb1⟩
        have hp1 := hp.below hb1 hp.lt
        go_wp2_with fail
        refine (back_out _ len cap h1 h2 gone (.inr hge) s _).mono ?_
        rintro e w2 ⟨rfl, hb2⟩
        have B2 := hb1.trans (hb2.mono hb1.size)
        have hp2 := hp.below B2 hp.lt
        have c2 : w2.cell? ⟨b, off, none⟩ = some (.string (S 0)) := hp2.cell 0 (by omega)
        clear hp1
        go_wp2_with fail
        refine (GC.out _ (hp2.below ((Below.refl _ _).alloc (Nat.le_refl _) _) hp2.lt)).mono ?_
        rintro e w3 ⟨rfl, hb3⟩
        have B3 := (B2.alloc B2.size (.cells (zrow (S 0).size) 5)).trans (hb3.mono (by simp; have := B2.size; omega))
        have hp3 := hp.below B3 hp.lt
        go_wp2_with fail
        refine (GD.out _ hp3).mono ?_
        rintro e w4 ⟨rfl, hb4⟩
        have B4 := B3.trans (hb4.mono B3.size)
        go_wp2_with (go_at_call 7; refine (awake_true _).mono ?_; rintro e w6 ⟨rfl, hb6⟩)
        go_ret
        exact ⟨rfl, B4.trans (hb6.mono B4.size)⟩
end Go.Proofs.Ytjhbahjomeflaaa
