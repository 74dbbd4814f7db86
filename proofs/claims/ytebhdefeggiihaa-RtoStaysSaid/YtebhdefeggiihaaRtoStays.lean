/- The walk of RtoStays, and the plain law beneath it: a sample that comes again and again is neared. -/
import Derived.Test.YtebhdefeggiihaaRtoLaws
namespace Go.Proofs.Ytebhdefeggiihaa
open Go.ChangeShapes Go.WideShapes Go.ChangeAt Go.RowKit
set_option linter.unusedVariables false

def fk : Nat → Nat
  | 0 => 524288
  | k + 1 => fk k - fk k / 8
theorem fk_400 : fk 400 ≤ 64 := by decide +kernel
def Inv (m v n : Int) : Prop := 0 ≤ m ∧ m ≤ 524287 ∧ 0 ≤ v ∧ v ≤ 1073741824 ∧ 0 ≤ n ∧ n ≤ 1073741824
def Near (k : Nat) (m s : Int) : Prop := m - 8 * s ≤ fk k ∧ -(fk k : Int) ≤ m - 8 * s
theorem inv_ok {m v n s : Int} (h : Inv m v n) (h0 : 0 ≤ s) (h1 : s ≤ 65535) : okT m v n s = true := by
  obtain ⟨a, b, c, d, e, f⟩ := h
  exact okT_iff.2 ⟨⟨a, by omega⟩, ⟨c, d⟩, ⟨h0, by omega⟩, e⟩
theorem inv_next {m v n s : Int} (h : Inv m v n) (h0 : 0 ≤ s) (h1 : s ≤ 65535) : Inv (tM m v n s) (tV m v n s) (tN m v n s) ∧ tE m v n s = 0 ∧ 1 ≤ tN m v n s := by
  have hk := inv_ok h h0 h1
  obtain ⟨a, b, c, d, e, f⟩ := h
  unfold Inv tM tV tN tE
  simp only [hk, if_true]
  by_cases hn : n = 0
  · simp only [hn, if_true]; refine ⟨⟨?_, ?_, ?_, ?_, ?_, ?_⟩, by simp, ?_⟩ <;> omega
  · simp only [hn, if_false]; refine ⟨⟨?_, ?_, ?_, ?_, ?_, ?_⟩, by simp, ?_⟩ <;> omega
theorem near_next {k : Nat} {m v n s : Int} (h : Inv m v n) (h0 : 0 ≤ s) (h1 : s ≤ 65535) (hr : Near k m s) : Near (k + 1) (tM m v n s) s := by
  have hk := inv_ok h h0 h1
  obtain ⟨a, b, c, d, e, f⟩ := h
  unfold Near at *
  simp only [fk]
  generalize fk k = F at *
  unfold tM
  simp only [hk, if_true]
  by_cases hn : n = 0
  · simp only [hn, if_true]; omega
  · simp only [hn, if_false]; omega

set_option maxRecDepth 100000 in
set_option maxHeartbeats 4000000 in
theorem stays_few (a : Option Addr) (len cap bl off : Nat) (X : Nat → Int) (s : Int) (h0 : 0 ≤ s) (h1 : s ≤ 65535) (hl : len ≤ 60) (W : World)
    (ha : 0 < len → a = some ⟨bl, off, none⟩) (hlt : len = 0 ∨ bl < W.heap.size) (hX : ∀ i, i < len → W.cell? ⟨bl, off + i, none⟩ = some (.int .u16 (X i)))
    (hX0 : ∀ i, i < len → 0 ≤ X i ∧ X i ≤ 65535) :
    Calls Try.prog 5 #[.slice a len cap, .int .u16 s] W (TruePost W) := by
  go_enter Try.func5, Try.ntmps5
  go_wp2_with fail
  go_loopw [6] (fun iv wr => ∃ (k : Nat) (m v n : Int), k ≤ len ∧ iv = .int .i64 k ∧ Inv m v n ∧ Blk wr W.heap.size #[.int .i64 m, .int .i64 v, .int .i64 n] 23 ∧ Below W.heap.size W wr) (fun iv _ => len - (intOf iv).toNat)
  case atStart => exact ⟨0, 0, 0, 0, Nat.zero_le _, rfl, by unfold Inv; omega, Blk.new _ _ _, by go_grown⟩
  case round =>
    obtain ⟨k, m, v, n, hk, rfl, hI, hB, hb⟩ := hrel
    by_cases hlk : k < len
    · have hbl : bl < W.heap.size := by omega
      have ha' := ha (by omega)
      subst ha'
      have hX1 := hX0 k hlk
      have hcX : wr.cell? ⟨bl, off + k, none⟩ = some (.int .u16 (X k)) := by rw [(bcell hb).1 _ _ hbl]; exact hX k hlk
      obtain ⟨c0, c1, c2⟩ := hB.three
      have hBl := hB.lt
      have hblw : bl < wr.heap.size := by have := hb.size; omega
      obtain ⟨hI2, hE2, hN2⟩ := inv_next hI hX1.1 hX1.2
      have iw : IntKind.i64.wrap (X k) = X k := IntWalk.i64_in _ (by omega)
      go_wp2_with fail
      have n1 : wr.heap.size ≠ bl := by omega
      have n2 : wr.heap.size ≠ W.heap.size := by omega
      go_region_held3 (fun w' => w'.cell? ⟨W.heap.size, 0, none⟩ = some (.int .i64 m) ∧ w'.cell? ⟨W.heap.size, 1, none⟩ = some (.int .i64 v) ∧ w'.cell? ⟨W.heap.size, 2, none⟩ = some (.int .i64 n) ∧ w'.cell? ⟨bl, off + k, none⟩ = some (.int .u16 (X k)))  (first | exact ⟨c0, c1, c2, hcX⟩ | exact ⟨d0, d1, d2, hdX⟩ | go_keep)  (first | (go_at_call 6; refine (take_any m v n (X k) (by have := hI.2.2.2.2.2; omega) _).mono ?_; rintro e w2 ⟨rfl, hb2⟩; have B2 := Blk.below (w := _) (by first | exact hB | exact hB.alloc _) hb2 (by first | exact hBl | exact Nat.lt_succ_of_lt hBl | (simp; omega)); obtain ⟨d0, d1, d2⟩ := B2.three; have hdX : w2.cell? ⟨bl, off + k, none⟩ = some (.int .u16 (X k)) := (by rw [(bcell hb2).1 _ _ (by first | exact hblw | (simp; omega))]; first | exact hcX | (simp [hcX, World.cell?_alloc_some])); have z2 := hb2.size; have z4 : wr.heap.size ≤ w2.heap.size := (by first | exact z2 | (simp at z2; omega)); have n3 : w2.heap.size ≠ bl := (by omega); have n4 : w2.heap.size ≠ W.heap.size := (by omega); have S2 : Below W.heap.size W w2 := Below.trans (b := _) (by go_grown) (hb2.mono (by first | exact Below.size hb | (have := Below.size hb; simp; omega))); try (have X2 : Blk w2 wr.heap.size #[.int .i64 0, .int .i64 0, .int .i64 0] 23 := Blk.below (w := _) (by exact Blk.new wr _ _) hb2 (by simp); obtain ⟨x0, x1, x2⟩ := X2.three; have y0 := X2.free 0; have y1 := X2.free 1; have y2 := X2.free 2)))
      all_goals go_wp2_with fail
      ·
        refine (timeout_any _ _ _ 3 (by have := hI2.2.1; omega) (by have := hI2.2.2.2.1; omega) _).mono ?_
        rintro e w4 ⟨rfl, hb4⟩
        have R4 : Blk w4 W.heap.size #[.int .i64 m, .int .i64 v, .int .i64 n] 23 := Blk.below (w := _) (by exact (B2.alloc _)) hb4 (by exact Blk.lt (B2.alloc _))
        have X4 : Blk w4 w2.heap.size #[.int .i64 (tM m v n (X k)), .int .i64 (tV m v n (X k)), .int .i64 (tN m v n (X k))] 23 := Blk.below (w := _) (by exact (Blk.new w2 _ _)) hb4 (by exact Blk.lt (Blk.new w2 _ _))
        have S4 : Below W.heap.size W w4 := Below.trans (b := _) (by go_grown) (hb4.mono (by exact Nat.le_trans (Below.size hb) (by simp; omega)))
        have ht := tmo_bd (tM m v n (X k)) (tV m v n (X k)) (tN m v n (X k)) 3
        rw [show lst 3 = 3 from by decide] at ht
        clear d0 d1 d2 hdX c0 c1 c2 hcX
        obtain ⟨d0, d1, d2⟩ := R4.three
        obtain ⟨c0, c1, c2⟩ := X4.three
        have f0 := R4.free 0
        have f1 := R4.free 1
        have f2 := R4.free 2
        have k0 := hI2.1
        have k1 := hI2.2.2.1
        generalize tM m v n (X k) = m1 at *
        generalize tV m v n (X k) = v1 at *
        generalize tN m v n (X k) = n1 at *
        generalize tmo m1 v1 n1 3 = tt at *
        go_wp2_with fail
        go_roundw
        case rel => exact ⟨k + 1, m1, v1, n1, by omega, by go_num, hI2, ((R4.set 0 _).set 1 _).set 2 _, by go_grown⟩
        case measure => simp [intOf]; omega
      ·
        refine (timeout_any _ _ _ 3 (by have := hI2.2.1; omega) (by have := hI2.2.2.2.1; omega) _).mono ?_
        rintro e w4 ⟨rfl, hb4⟩
        have R4 : Blk w4 W.heap.size #[.int .i64 m, .int .i64 v, .int .i64 n] 23 := Blk.below (w := _) (by exact (((B2.other _ (by simp; omega) _).other _ (by simp; omega) _).other _ (by simp; omega) _)) hb4 (by exact Blk.lt (((B2.other _ (by simp; omega) _).other _ (by simp; omega) _).other _ (by simp; omega) _))
        have X4 : Blk w4 wr.heap.size #[.int .i64 (tM m v n (X k)), .int .i64 (tV m v n (X k)), .int .i64 (tN m v n (X k))] 23 := Blk.below (w := _) (by exact (((X2.set 0 _).set 1 _).set 2 _)) hb4 (by exact Blk.lt (((X2.set 0 _).set 1 _).set 2 _))
        have S4 : Below W.heap.size W w4 := Below.trans (b := _) (by go_grown) (hb4.mono (by exact Nat.le_trans (Below.size hb) (by simp; omega)))
        have ht := tmo_bd (tM m v n (X k)) (tV m v n (X k)) (tN m v n (X k)) 3
        rw [show lst 3 = 3 from by decide] at ht
        clear d0 d1 d2 hdX c0 c1 c2 hcX
        obtain ⟨d0, d1, d2⟩ := R4.three
        obtain ⟨c0, c1, c2⟩ := X4.three
        have f0 := R4.free 0
        have f1 := R4.free 1
        have f2 := R4.free 2
        have k0 := hI2.1
        have k1 := hI2.2.2.1
        generalize tM m v n (X k) = m1 at *
        generalize tV m v n (X k) = v1 at *
        generalize tN m v n (X k) = n1 at *
        generalize tmo m1 v1 n1 3 = tt at *
        go_wp2_with fail
        go_roundw
        case rel => exact ⟨k + 1, m1, v1, n1, by omega, by go_num, hI2, ((R4.set 0 _).set 1 _).set 2 _, by go_grown⟩
        case measure => simp [intOf]; omega
    · go_wp2_with fail
      obtain ⟨wo, hwo⟩ : ∃ wo : World, wo = wr := ⟨_, rfl⟩
      rw [← hwo] at hB hb ⊢
      clear hwo
      go_loopw [10] (fun iv wr => ∃ (j : Nat) (m v n : Int), j ≤ 400 ∧ iv = .int .i64 j ∧ Inv m v n ∧ Near j m s ∧ Blk wr W.heap.size #[.int .i64 m, .int .i64 v, .int .i64 n] 23 ∧ Below W.heap.size W wr) (fun iv _ => 400 - (intOf iv).toNat)
      case atStart => exact ⟨0, m, v, n, by omega, rfl, hI, by (have := hI.1; have := hI.2.1; unfold Near fk; omega), hB, hb⟩
      case round =>
        obtain ⟨j, m, v, n, hj, rfl, hI, hN, hB, hb⟩ := hrel
        by_cases hjk : j < 400
        · obtain ⟨c0, c1, c2⟩ := hB.three
          obtain ⟨hI2, hE2, hN2⟩ := inv_next hI h0 h1
          have hNN := near_next hI h0 h1 hN
          go_wp2_with fail
          refine (take_any m v n s (by have := hI.2.2.2.2.2; omega) _).mono ?_
          rintro e w2 ⟨rfl, hb2⟩
          have B2 := Blk.below hB hb2 hB.lt
          have S2 : Below W.heap.size W w2 := hb.trans (hb2.mono hb.size)
          clear c0 c1 c2
          obtain ⟨c0, c1, c2⟩ := B2.three
          have f0 := B2.free 0
          have f1 := B2.free 1
          have f2 := B2.free 2
          have hlt2 := B2.lt
          generalize tM m v n s = m1 at *
          generalize tV m v n s = v1 at *
          generalize tN m v n s = n1 at *
          go_wp2_with fail
          go_roundw
          case rel => exact ⟨j + 1, m1, v1, n1, by omega, by go_num, hI2, hNN, (((B2.set 0 _).set 1 _).set 2 _).alloc _, by go_grown⟩
          case measure => simp [intOf]; omega
        · have hj4 : j = 400 := by omega
          obtain ⟨c0, c1, c2⟩ := hB.three
          have hd : -8 ≤ m / 8 - s ∧ m / 8 - s ≤ 8 := by
            rw [hj4] at hN
            unfold Near at hN
            have := fk_400
            omega
          have hm0 := hI.1
          have hm1 := hI.2.1
          clear hj4 hj
          go_wp2_with (go_at_call 10; refine (awake_true _).mono ?_; rintro e w6 ⟨rfl, hb6⟩)
          go_ret
          exact ⟨rfl, hb.trans (hb6.mono hb.size)⟩
theorem stays_all (a : Option Addr) (len cap bl off : Nat) (X : Nat → Int) (s : Int) (h0 : 0 ≤ s) (h1 : s ≤ 65535) (hl : len ≤ cap) (hm : cap ≤ maxLen) (W : World)
    (ha : 0 < len → a = some ⟨bl, off, none⟩) (hlt : len = 0 ∨ bl < W.heap.size) (hX : ∀ i, i < len → W.cell? ⟨bl, off + i, none⟩ = some (.int .u16 (X i)))
    (hX0 : ∀ i, i < len → 0 ≤ X i ∧ X i ≤ 65535) :
    Calls Try.prog 5 #[.slice a len cap, .int .u16 s] W (TruePost W) := by
  by_cases h : len ≤ 60
  · exact stays_few a len cap bl off X s h0 h1 h W ha hlt hX hX0
  · unfold maxLen at hm
    go_enter Try.func5, Try.ntmps5
    go_wp2_with (go_at_call 10; refine (awake_true _).mono ?_; rintro e w6 ⟨rfl, hb6⟩)
    go_ret
    exact ⟨rfl, hb6⟩
end Go.Proofs.Ytebhdefeggiihaa
