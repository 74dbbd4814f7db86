/- LinearReal, but for its example. -/
import Derived.Test.YtpefcmmfocamdaaLin5
namespace Go.Proofs.Ytpefcmmfocamdaa
open Go.ChangeShapes Go.WideShapes Go.ChangeAt Go.RowKit
set_option linter.unusedVariables false

def Awake : Prop := ∀ w, Calls Try.prog 5 #[] w (TruePost w)
set_option maxRecDepth 100000 in
set_option maxHeartbeats 4000000 in
theorem lin_long (HA : Awake) (p : Option Addr) (n cap : Nat) (h : 20 < n) (hn : n ≤ maxLen) (w : World) : Calls Try.prog 3 #[.slice p n cap] w (TruePost w) := by
  have HN := Lib.hid hn
  clear hn
  go_enter Try.func3, Try.ntmps3
  go_wp2_with fail
  refine (few_long p n cap h HN.out _).mono ?_
  rintro e w1 ⟨rfl, rfl⟩
  go_wp2_with fail
  refine (HA _).mono ?_
  rintro e w1 ⟨rfl, hb⟩
  go_wp2_with fail
  go_ret
  exact ⟨rfl, hb⟩
set_option maxRecDepth 100000 in
set_option maxHeartbeats 8000000 in
theorem lin_few (HA : Awake) (E : Nat → Ev) (p : Option Addr) (bl off n cap : Nat) (hn : n ≤ 20) (hz : ∀ i, i < n → (E i).body.size ≤ maxLen ∧ (E i).ab.size ≤ maxLen) (hp : 0 < n → p = some ⟨bl, off, none⟩) (w : World) (hes : ES w bl off n E) :
    Calls Try.prog 3 #[.slice p n cap] w (TruePost w) := by
  have HF := Lib.hid (few_is E p bl off n cap hn hz hp w hes)
  have HO : Hid (Calls Try.prog 6 #[.slice p n cap] w (OrdPost w n E)) := Lib.hid (by
    by_cases h0 : n = 0
    · subst h0; exact order_zero E p cap w
    · rw [hp (by omega)]; exact order_is E bl off n cap (by omega) hn w hes)
  have HES := Lib.hid hes
  have hbl := hes.lt
  clear hz hes
  go_enter Try.func3, Try.ntmps3
  go_wp2_with fail
  refine HF.out.mono ?_
  rintro e w1 ⟨r, rfl, rfl⟩
  clear HF
  cases r with
  | false =>
    clear HO
    go_wp2_with fail
    refine (HA _).mono ?_
    rintro e w1 ⟨rfl, hb⟩
    go_wp2_with fail
    go_ret
    exact ⟨rfl, hb⟩
  | true =>
    go_wp2_with fail
    refine HO.out.mono ?_
    rintro e w2 (⟨_, rfl, hb⟩ | ⟨hok, g, M, rfl, hg, hM, hr, hb⟩)
    · clear HO
      have HB := Lib.hid hb
      clear hb
      go_wp2_with fail
      refine (HA _).mono ?_
      rintro e w3 ⟨rfl, hb3⟩
      go_wp2_with fail
      go_ret
      exact ⟨rfl, HB.out.trans (hb3.mono HB.out.size)⟩
    · clear HO
      have HB := Lib.hid hb
      have HR := Lib.hid hr
      have HM := Lib.hid hM
      have HOK := Lib.hid hok
      have HES2 := Lib.hid (HES.out.below hb)
      clear hb hr hM hok HES
      go_wp2_with fail
      go_loopw [5] (fun iv' wr => ∃ i : Nat, iv' = .int .i64 (i : Int) ∧ i ≤ n ∧ Kept [] w2 wr) (fun iv' _ => n - (intOf iv').toNat)
      case atStart => exact ⟨0, rfl, by omega, Kept.refl _ _⟩
      case round =>
        obtain ⟨i, rfl, hi, hk⟩ := hrel
        have HK := Lib.hid hk
        clear hk
        by_cases hin : i < n
        · go_wp2_with fail
          obtain ⟨wo, hwo⟩ : ∃ wo, wo = wr := ⟨_, rfl⟩
          go_loopw [6] (fun jv wr => ∃ k : Nat, jv = .int .i64 (k : Int) ∧ k ≤ i ∧ Kept [] w2 wr) (fun jv _ => i - (intOf jv).toNat)
          case atStart => exact ⟨0, rfl, by omega, HK.out⟩
          case round =>
            clear HK hwo
            obtain ⟨k, rfl, hki, hk⟩ := hrel
            have HK := Lib.hid hk
            clear hk
            by_cases hk2 : k < i
            · obtain rfl := hp (by omega)
              have hr2 := HR.out.kept HK.out (by simp)
              have he2 := HES2.out.kept HK.out (by simp)
              have ci := hr2.cell hin
              have ck := hr2.cell (j := k) (by omega)
              have hx := HM.out.lt i hin
              have hy := HM.out.lt k (by omega)
              obtain ⟨_, _, _, _, _, _, _, _, _, _, cf⟩ := he2.ev _ hx
              obtain ⟨_, _, _, _, _, _, _, _, _, cb, _⟩ := he2.ev _ hy
              have hd := sorted_real HM.out HOK.out i k hk2 hin
              unfold iv at ci ck
              generalize gi M i = x at *
              generalize gi M k = y at *
              generalize (E x).fin = f at *
              generalize (E y).beg = b at *
              clear hr2 he2
              have q1 : (0 : Int) ≤ (i : Int) := by omega
              have q2 : (i : Int) < (n : Int) := by omega
              have q3 : (0 : Int) ≤ (k : Int) := by omega
              have q4 : (k : Int) < (n : Int) := by omega
              have q5 : (0 : Int) ≤ (x : Int) := by omega
              have q6 : (x : Int) < (n : Int) := by omega
              have q7 : (0 : Int) ≤ (y : Int) := by omega
              have q8 : (y : Int) < (n : Int) := by omega
              have d1 : decide ((x : Int) < 0) = false := by rw [decide_eq_false_iff_not]; omega
              have d2 : decide ((n : Int) ≤ (x : Int)) = false := by rw [decide_eq_false_iff_not]; omega
              have d3 : decide ((y : Int) < 0) = false := by rw [decide_eq_false_iff_not]; omega
              have d4 : decide ((n : Int) ≤ (y : Int)) = false := by rw [decide_eq_false_iff_not]; omega
              have d5 : decide (f < b) = false := by rw [decide_eq_false_iff_not]; exact hd
              go_wp2_with fail
              go_quiet (fail)
              go_wp2_with fail
              go_roundw
              case rel => exact ⟨k + 1, by go_num, by omega, HK.out.drewN _⟩
              case measure => simp [intOf]; omega
            · obtain rfl : k = i := by omega
              go_wp2_with fail
              go_roundw
              case rel => exact ⟨k + 1, by go_num, by omega, HK.out⟩
              case measure => simp [intOf]; omega
        · obtain rfl : i = n := by omega
          go_wp2_with fail
          refine (HA _).mono ?_
          rintro e w3 ⟨rfl, hb3⟩
          have hb4 := HB.out.trans (HK.out.below HB.out.size (by simp))
          have HB5 := Lib.hid (hb4.trans (hb3.mono hb4.size))
          clear hb3 hb4
          go_wp2_with fail
          go_ret
          exact ⟨rfl, HB5.out⟩
end Go.Proofs.Ytpefcmmfocamdaa
