/- No names at all; lightshipref05.Texts; arguments as lists. -/
import Derived.Test.YtapokcjfhgbagaaPick7
namespace Go.Proofs.Ytapokcjfhgbagaa
open Go.ChangeShapes Go.WideShapes Go.ChangeAt Go.RowKit
set_option linter.unusedVariables false

theorem clone_zero (p : Option Addr) (c : Nat) (w : World) (hp : p = none → c = 0) : Calls Try.prog 16 #[.slice p 0 c] w fun e w' => ∃ p' c', e = .returned (.slice p' 0 c') ∧ Below w.heap.size w w' := by
  cases p with
  | none =>
    obtain rfl := hp rfl
    exact (clone_nil w).mono fun e w' h => ⟨none, 0, h.1, by rw [h.2]; exact Below.refl _ _⟩
  | some a =>
    have e0 := sl_non a 0 c
    have e1 : ∀ (a : Addr) (w : World), (loadCellsFrom a 0 0 #[]).run Try.prog w = .ok #[] w := by intro a w; rfl
    go_enter Try.func16, Try.ntmps16
    go_wp2_with fail
    go_ret
    exact ⟨_, _, rfl, by go_grown⟩
theorem order_zero (key : ByteArray) (p : Option Addr) (c : Nat) (hp : p = none → c = 0) (w : World) : Calls Try.prog 10 #[.string key, .slice p 0 c] w fun e w' => ∃ p' c', e = .returned (.slice p' 0 c') ∧ Below w.heap.size w w' := by
  go_enter Try.func10, Try.ntmps10
  go_wp2_with fail
  refine (clone_zero p c _ hp).mono ?_
  rintro e w1 ⟨p1, c1, rfl, hb1⟩
  have HB1 := Lib.hid hb1
  clear hb1
  go_wp2_with fail
  refine (by_is key _).mono ?_
  rintro e w3 ⟨rfl, hk3, hb3⟩
  have HB3 := Lib.hid (HB1.out.trans (hb3.mono HB1.out.size))
  clear hk3 hb3
  go_wp2_with (go_at_call 17; refine (sort_zero _ _ _ _).mono ?_; rintro e w4 ⟨rfl, rfl⟩)
  go_ret
  exact ⟨p1, c1, rfl, HB3.out⟩
theorem ref_zero (key : ByteArray) (p : Option Addr) (c : Nat) (w : World) : Calls Try.prog 8 #[.string key, .slice p 0 c] w fun e w' => e = .returned (.slice none 0 0) ∧ w' = w := by
  go_enter Try.func8, Try.ntmps8
  go_wp2_with fail
  go_loopw [5, 6] (fun mv iv wr => mv = .slice none 0 0 ∧ iv = .int .i64 0 ∧ wr = w) (fun _ _ _ => 0)
  case atStart => exact ⟨rfl, rfl, rfl⟩
  case round =>
    obtain ⟨rfl, rfl, rfl⟩ := hrel
    go_wp2_with fail
    go_ret
    exact ⟨rfl, rfl⟩
theorem texts_true (p q : Option Addr) (cap cap2 n : Nat) (L : List ByteArray) (hn : n = L.length) (w : World) (hs : RS w p cap L) (hq : RS w q cap2 L) :
    Calls Try.prog 11 #[.slice p n cap, .slice q n cap2] w fun e w' => e = .returned (.bool true) ∧ ∃ k, w' = w.drewN k := by
  have hfit := hs.src.fits
  have hfit2 := hq.src.fits
  have hbig := hs.src.big
  have hbig2 := hq.src.big
  unfold maxLen at hbig hbig2
  rw [← hn] at hfit hfit2
  have HS := Lib.hid hs
  have HQ := Lib.hid hq
  have HN := Lib.hid hn
  clear hs hq hn
  have bn : ((n : Int) != (n : Int)) = false := by simp
  go_enter Try.func11, Try.ntmps11
  go_wp2_with fail
  go_loopw [5] (fun iv wr => ∃ i k : Nat, iv = .int .i64 (i : Int) ∧ i ≤ n ∧ wr = w.drewN k) (fun iv _ => n - (intOf iv).toNat)
  case atStart => exact ⟨0, 0, rfl, Nat.zero_le _, rfl⟩
  case round =>
    obtain ⟨i, k, rfl, hin, hwr⟩ := hrel
    by_cases hlt : i < n
    · obtain ⟨lb, off, rfl⟩ := HS.out.src.of_pos (by omega)
      obtain ⟨lb2, off2, rfl⟩ := HQ.out.src.of_pos (by omega)
      have hiL : i < L.length := by rw [← HN.out]; exact hlt
      have y0 : wr.cell? ⟨lb, off + i, none⟩ = some (.string (gi L i)) := by rw [hwr]; exact HS.out.src.at_ i _ (sl_at L i hiL)
      have z0 : wr.cell? ⟨lb2, off2 + i, none⟩ = some (.string (gi L i)) := by rw [hwr]; exact HQ.out.src.at_ i _ (sl_at L i hiL)
      have HWR := Lib.hid hwr
      clear hwr hiL
      have q4 : (0 : Int) ≤ (i : Int) := by omega
      have q5 : (i : Int) < (n : Int) := by omega
      generalize gi L i = x at *
      go_wp2
      go_quiet (fail)
      go_wp2
      go_roundw
      case rel => exact ⟨i + 1, k + nq, by go_num, by omega, by rw [HWR.out]; exact World.drewN_drewN ..⟩
      case measure => simp [intOf]; omega
    · go_wp2
      go_ret
      exact ⟨rfl, k, by first | exact hwr | rfl⟩
/-- an argument, as a list -/
theorem arg_list {W : World} {p : Option Addr} {n cap b off : Nat} {S : Nat → ByteArray} (hnc : n ≤ cap) (hcm : cap ≤ maxLen) (ha : 0 < n → p = some ⟨b, off, none⟩) (hlt : n = 0 ∨ b < W.heap.size)
    (hS : ∀ i, i < n → W.cell? ⟨b, off + i, none⟩ = some (.string (S i))) (hSm : ∀ i, i < n → (S i).size ≤ maxLen) :
    ∃ L : List ByteArray, n = L.length ∧ Fit L ∧ (0 < n → RS W p cap L) := by
  refine ⟨(List.range n).map S, by simp, Fit.of fun i hi => ?_, fun h0 => ?_⟩
  · rw [gi_at _ _ hi]; simp at hi ⊢; exact hSm i hi
  · obtain rfl := ha h0
    refine ⟨⟨by simp [sl], by simpa using hnc, hcm, (fun h => nomatch h), (fun a ha => by injection ha with ha; subst ha; rfl), fun a ha j u hu => ?_⟩, fun a ha => by injection ha with ha; subst ha; show b < _; omega⟩
    injection ha with ha; subst ha
    have hj : j < ((List.range n).map S).length := by rw [← sl_len]; exact (List.getElem?_eq_some_iff.1 hu).1
    rw [sl_at _ j hj] at hu
    injection hu with hu; subst hu
    rw [gi_at _ _ hj, add_plain]
    simp at hj ⊢
    exact hS j hj
end Go.Proofs.Ytapokcjfhgbagaa
