/- lightshiplaw47: awake and AimdHolds. -/
import Derived.Test.YtjmgopfeknlnnaaAimdGrow
import Derived.Test.YtjmgopfeknlnnaaAimdRef
import Derived.Test.YtjmgopfeknlnnaaOpen
namespace Go.Proofs.Ytjmgopfeknlnnaa
open Go.ChangeShapes Go.WideShapes Go.ChangeAt Go.RowKit
set_option linter.unusedVariables false

def AckPost (W : World) (b : Nat) (x : Win) (e : Ending) (w' : World) : Prop := e = .returned (.tuple #[]) ∧ IsWin w' b x ∧ W.grownBy w' (some b)
theorem acked_any (b : Nat) (x y : Win) (n : Int) (hx : x.Ok) (hy : acked x n = y) (w : World) (h : IsWin w b x) : Calls Try.prog 10 #[.pointer (some ⟨b, 0, none⟩), .int .i64 n] w (AckPost w b y) := by
  subst hy
  by_cases hn : n < 1
  · refine (acked_few b x n hn w h).mono fun e w' ⟨h1, h2⟩ => ⟨h1, ?_, ?_⟩
    · rw [← h2, show acked x n = x by unfold acked; rw [if_pos hn]]; exact h
    · rw [← h2]; exact grefl _ _
  · by_cases hs : x.size < x.bound
    · exact (acked_slow b x n (by omega) hx hs w h).mono fun e w' h => h
    · exact (acked_grow b x n _ (by omega) rfl hx hs w h).mono fun e w' h => h
def LostPost (W : World) (b : Nat) (r : Bool) (x : Win) (e : Ending) (w' : World) : Prop := e = .returned (.bool r) ∧ IsWin w' b x ∧ W.grownBy w' (some b)
theorem lost_at (b : Nat) (x y : Win) (bl nx : Int) (r : Bool) (hx : x.Ok) (h0 : 0 ≤ bl) (h1 : bl < 4294967296) (hr : lossB x bl = r) (hy : lostW x bl nx = y) (w : World) (h : IsWin w b x) :
    Calls Try.prog 8 #[.pointer (some ⟨b, 0, none⟩), .int .u32 bl, .int .u32 nx] w (LostPost w b r y) := by
  subst hr hy
  exact (lost_any b x bl nx hx h0 h1 w h).mono fun e w' h => h
theorem fresh_ok (l h : Int) (h1 : 1 ≤ l) (h2 : l ≤ h) (h3 : h ≤ 65535) : (freshW l h).Ok :=
  ⟨h1, Int.le_refl _, h2, h3, by simp [freshW], by simp [freshW]; omega, h2, Int.le_refl _, by simp [freshW], by simp [freshW]⟩
def TruePost (W : World) (e : Ending) (w' : World) : Prop := e = .returned (.bool true) ∧ Below W.heap.size W w'

set_option maxRecDepth 100000 in
set_option maxHeartbeats 4000000 in
theorem awake_true (w : World) : Calls Try.prog 5 #[] w (TruePost w) := by
  go_enter Try.func5, Try.ntmps5
  go_wp2_with fail
  refine (new_good 2 9 (by omega) (by omega) (by omega) _).mono ?_
  rintro e w1 ⟨rfl, hW1, hB1⟩
  have hl1 := Blk.lt hW1
  go_wp2_with fail
  refine (new_bad 3 2 (by omega) _).mono ?_
  rintro e w' ⟨rfl, rfl⟩
  go_wp2_with fail
  refine (slow_any _ _ _ hW1).mono ?_
  rintro e w' ⟨rfl, n1, rfl⟩
  go_wp2_with fail
  refine (acked_any _ (freshW 2 9) ⟨2, 9, 5, 9, 0, 0, false⟩ 3 (fresh_ok 2 9 (by omega) (by omega) (by omega)) (by rfl) _ (by exact hW1)).mono ?_
  rintro e w2 ⟨rfl, hW2, hG2⟩
  go_wp2_with fail
  refine (size_any _ _ _ hW2).mono ?_
  rintro e w' ⟨rfl, rfl⟩
  go_wp2_with fail
  refine (lost_at _ ⟨2, 9, 5, 9, 0, 0, false⟩ ⟨2, 9, 2, 2, 0, 4, true⟩ 0 4 true (by constructor <;> simp) (by omega) (by omega) (by rfl) (by rfl) _ hW2).mono ?_
  rintro e w3 ⟨rfl, hW3, hG3⟩
  go_wp2_with fail
  refine (size_any _ _ _ hW3).mono ?_
  rintro e w' ⟨rfl, rfl⟩
  go_wp2_with fail
  refine (lost_at _ ⟨2, 9, 2, 2, 0, 4, true⟩ ⟨2, 9, 2, 2, 0, 4, true⟩ 3 9 false (by constructor <;> simp) (by omega) (by omega) (by rfl) (by rfl) _ hW3).mono ?_
  rintro e w4 ⟨rfl, hW4, hG4⟩
  go_wp2_with fail
  refine (acked_any _ ⟨2, 9, 2, 2, 0, 4, true⟩ ⟨2, 9, 4, 2, 0, 4, true⟩ 5 (by constructor <;> simp) (by rfl) _ hW4).mono ?_
  rintro e w5 ⟨rfl, hW5, hG5⟩
  go_wp2_with fail
  refine (slow_any _ _ _ hW5).mono ?_
  rintro e w' ⟨rfl, n5, rfl⟩
  go_wp2_with fail
  refine (size_any _ _ _ (by exact hW5)).mono ?_
  rintro e w' ⟨rfl, rfl⟩
  go_wp2_with fail
  go_ret
  have s1 := hB1.size
  have s2 : Below w.heap.size w w2 := Below.trans (bdrewN hB1 n1) (below_g (w := w1.drewN n1) hG2 (Nat.le_refl _) s1)
  have s3 := s2.trans (below_g hG3 (Nat.le_refl _) s2.size)
  have s4 := s3.trans (below_g hG4 (Nat.le_refl _) s3.size)
  have s5 := s4.trans (below_g hG5 (Nat.le_refl _) s4.size)
  exact ⟨rfl, bdrewN s5 _⟩

set_option maxRecDepth 100000 in
set_option maxHeartbeats 8000000 in
theorem holds_few (l h : Int) (a : Option Addr) (len cap bl off : Nat) (N B X : Nat → Int) (L : Nat → Bool) (h0 : 1 ≤ l) (h1 : l ≤ h) (h2 : h ≤ 255) (hl : len ≤ 60) (W : World)
    (ha : 0 < len → a = some ⟨bl, off, none⟩) (hlt : len = 0 ∨ bl < W.heap.size)
    (hN : ∀ i, i < len → W.cell? ⟨bl, off + i * 4, none⟩ = some (.int .i64 (N i))) (hL : ∀ i, i < len → W.cell? ⟨bl, off + i * 4 + 1, none⟩ = some (.bool (L i)))
    (hB : ∀ i, i < len → W.cell? ⟨bl, off + i * 4 + 2, none⟩ = some (.int .u32 (B i))) (hX : ∀ i, i < len → W.cell? ⟨bl, off + i * 4 + 3, none⟩ = some (.int .u32 (X i)))
    (hB0 : ∀ i, i < len → 0 ≤ B i ∧ B i < 4294967296) (hX0 : ∀ i, i < len → 0 ≤ X i ∧ X i < 4294967296) :
    Calls Try.prog 4 #[.int .u8 l, .int .u8 h, .slice a len cap] W (TruePost W) := by
  have q1 : (l == 0) = false := by simp; omega
  have q2 : ¬ (h < l) := by omega
  go_enter Try.func4, Try.ntmps4
  go_wp2_with fail
  refine (new_good l h (by omega) (by omega) (by omega) _).mono ?_
  rintro e w1 ⟨rfl, hW1, hB1⟩
  have hlt1 := Blk.lt hW1
  go_wp2_with fail
  go_loopw [9] (fun iv wr => ∃ (k : Nat) (x : Win), k ≤ len ∧ iv = .int .i64 k ∧ x.Ok ∧ x.least = l ∧ x.most = h ∧ IsWin wr W.heap.size x ∧ Below W.heap.size W wr) (fun iv _ => len - (intOf iv).toNat)
  case atStart => exact ⟨0, freshW l h, Nat.zero_le _, rfl, fresh_ok l h h0 h1 (by omega), rfl, rfl, hW1, hB1⟩
  case round =>
    obtain ⟨k, x, hk, rfl, hx, hxl, hxm, hW2, hb⟩ := hrel
    by_cases hlk : k < len
    · have hbl : bl < W.heap.size := by omega
      have ha' := ha (by omega)
      subst ha'
      have cN : wr.cell? ⟨bl, off + k * 4, none⟩ = some (.int .i64 (N k)) := by rw [(bcell hb).1 _ _ hbl]; exact hN k hlk
      have cL : wr.cell? ⟨bl, off + k * 4 + 1, none⟩ = some (.bool (L k)) := by rw [(bcell hb).1 _ _ hbl]; exact hL k hlk
      have cB : wr.cell? ⟨bl, off + k * 4 + 2, none⟩ = some (.int .u32 (B k)) := by rw [(bcell hb).1 _ _ hbl]; exact hB k hlk
      have cX : wr.cell? ⟨bl, off + k * 4 + 3, none⟩ = some (.int .u32 (X k)) := by rw [(bcell hb).1 _ _ hbl]; exact hX k hlk
      have hBk := hB0 k hlk
      have hXk := hX0 k hlk
      clear hN hL hB hX hB0 hX0
      have XL := Lib.hid hxl
      have XM := Lib.hid hxm
      clear hxl hxm
      cases hLk : L k with
      | true =>
        rw [hLk] at cL
        go_wp2_with (go_at_call 11; refine (size_any _ _ _ hW2).mono ?_; rintro e w' ⟨rfl, rfl⟩)
        go_region_held3 (fun w' => w'.cell? ⟨bl, off + k * 4 + 2, none⟩ = some (.int .u32 (B k)) ∧ w'.cell? ⟨bl, off + k * 4 + 3, none⟩ = some (.int .u32 (X k))) (first | exact ⟨cB, cX⟩ | exact ⟨by rw [(bcell hb3).1 _ _ hbl]; exact cB, by rw [(bcell hb3).1 _ _ hbl]; exact cX⟩) (first | (go_at_call 8; refine (lost_at _ x (lostW x (B k) (X k)) (B k) (X k) (lossB x (B k)) hx hBk.1 hBk.2 rfl rfl _ (by exact hW2)).mono ?_; rintro e w3 ⟨rfl, hW3, hG3⟩; have hb3 := below_g hG3 (Nat.le_refl _) hb.size))
        have hy := lost_ok hx (B k) (X k) hXk.1 hXk.2
        have hle : (lostW x (B k) (X k)).size ≤ x.size := by
          have := hx.ls; have := hx.l1
          unfold lostW; split <;> (try simp only []) <;> omega
        have hyl : (lostW x (B k) (X k)).least = l := by rw [← XL.out]; unfold lostW; split <;> rfl
        have hym : (lostW x (B k) (X k)).most = h := by rw [← XM.out]; unfold lostW; split <;> rfl
        generalize lostW x (B k) (X k) = y at *
        have t1 := hy.ls
        have t2 := hy.sm
        have dL : w3.cell? ⟨bl, off + k * 4 + 1, none⟩ = some (.bool true) := ((bcell hb3).1 _ _ hbl).trans cL
        rw [hyl] at t1
        rw [hym] at t2
        have YL := Lib.hid hyl
        have YM := Lib.hid hym
        clear hyl hym cL
        have b1 : decide (y.size < l) = false := by simp; omega
        have b2 : decide (h < y.size) = false := by simp; omega
        have b3 : decide (x.size < y.size) = false := by simp; omega
        go_wp2_with (go_at_call 11; refine (size_any _ _ _ (by exact hW3)).mono ?_; rintro e w' ⟨rfl, rfl⟩)
        go_roundw
        case rel => exact ⟨k + 1, y, by omega, by go_num, hy, YL.out, YM.out, hW3, Below.trans (b := _) (by first | exact hb | exact bdrewN hb _) hb3⟩
        case measure => simp [intOf]; omega
      | false =>
        rw [hLk] at cL
        go_wp2_with (go_at_call 11; refine (size_any _ _ _ hW2).mono ?_; rintro e w' ⟨rfl, rfl⟩)
        refine (acked_any _ x (acked x (N k)) (N k) hx rfl _ hW2).mono ?_
        rintro e w3 ⟨rfl, hW3, hG3⟩
        have hb3 := below_g hG3 (Nat.le_refl _) hb.size
        have hyy := acked_ok hx (N k)
        have hy := hyy.1
        have hle := hyy.2
        have hyl : (acked x (N k)).least = l := by rw [← XL.out]; unfold acked; split <;> (try split) <;> rfl
        have hym : (acked x (N k)).most = h := by rw [← XM.out]; unfold acked; split <;> (try split) <;> rfl
        generalize acked x (N k) = y at *
        have t1 := hy.ls
        have t2 := hy.sm
        have dL : w3.cell? ⟨bl, off + k * 4 + 1, none⟩ = some (.bool false) := ((bcell hb3).1 _ _ hbl).trans cL
        rw [hyl] at t1
        rw [hym] at t2
        have YL := Lib.hid hyl
        have YM := Lib.hid hym
        clear hyl hym cL
        have b1 : decide (y.size < l) = false := by simp; omega
        have b2 : decide (h < y.size) = false := by simp; omega
        have b3 : decide (y.size < x.size) = false := by simp; omega
        go_wp2_with (go_at_call 11; refine (size_any _ _ _ (by exact hW3)).mono ?_; rintro e w' ⟨rfl, rfl⟩)
        go_roundw
        case rel => exact ⟨k + 1, y, by omega, by go_num, hy, YL.out, YM.out, hW3, Below.trans (b := _) (by first | exact hb | exact bdrewN hb _) hb3⟩
        case measure => simp [intOf]; omega
    · have hk0 : k = len := by omega
      go_wp2_with (first | (go_at_call 10; refine (acked_nil _ _).mono ?_; rintro e w' ⟨rfl, rfl⟩) | (go_at_call 8; refine (lost_nil _ _ _).mono ?_; rintro e w' ⟨rfl, rfl⟩) | (go_at_call 11; refine (size_nil _).mono ?_; rintro e w' ⟨rfl, rfl⟩) | (go_at_call 12; refine (slow_nil _).mono ?_; rintro e w5 ⟨rfl, hb5⟩) | (go_at_call 5; refine (awake_true _).mono ?_; rintro e w6 ⟨rfl, hb6⟩))
      go_ret
      exact ⟨rfl, (hb.trans (hb5.mono hb.size)).trans (hb6.mono (Nat.le_trans hb.size hb5.size))⟩
theorem holds_none (l h : Int) (a : Option Addr) (len cap : Nat) (hc : cap ≤ maxLen) (hlc : len ≤ cap) (hbad : 60 < len ∨ l = 0 ∨ h < l) (W : World) :
    Calls Try.prog 4 #[.int .u8 l, .int .u8 h, .slice a len cap] W (TruePost W) := by
  unfold maxLen at hc
  by_cases c1 : 60 < len
  · go_enter Try.func4, Try.ntmps4
    go_wp2_with (go_at_call 5; refine (awake_true _).mono ?_; rintro e w6 ⟨rfl, hb6⟩)
    go_ret
    exact ⟨rfl, hb6⟩
  · have c1' : decide ((60 : Int) < (len : Int)) = false := by simp; omega
    by_cases c2 : l = 0
    · subst c2
      go_enter Try.func4, Try.ntmps4
      go_wp2_with (go_at_call 5; refine (awake_true _).mono ?_; rintro e w6 ⟨rfl, hb6⟩)
      go_ret
      exact ⟨rfl, hb6⟩
    · have c2' : (l == 0) = false := by simpa using c2
      have c3 : h < l := by omega
      clear c2
      go_enter Try.func4, Try.ntmps4
      go_wp2_with (go_at_call 5; refine (awake_true _).mono ?_; rintro e w6 ⟨rfl, hb6⟩)
      go_ret
      exact ⟨rfl, hb6⟩
end Go.Proofs.Ytjmgopfeknlnnaa
