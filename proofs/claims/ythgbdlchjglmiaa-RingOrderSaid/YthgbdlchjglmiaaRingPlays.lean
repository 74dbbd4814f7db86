/- The walk of RingPlays. -/
import Derived.Test.YthgbdlchjglmiaaRingLaw
namespace Go.Proofs.Ythgbdlchjglmiaa
open Go.ChangeShapes Go.WideShapes Go.ChangeAt Go.RowKit
set_option linter.unusedVariables false

theorem doS_size (s body : ByteArray) (K : Int) (k m : Nat) (most : Nat) (hk : (k : Int) = min (body.size : Int) ((most : Int) - (s.size : Int))) (hs : s.size ≤ most) : (doS s body K k m).size ≤ most := by
  unfold doS
  split
  · rw [ByteArray.size_append, ByteArray.size_extract]; omega
  · split
    · rw [ByteArray.size_extract]; omega
    · split
      · exact hs
      · exact Nat.zero_le _
set_option maxRecDepth 100000 in
set_option maxHeartbeats 4000000 in
theorem plays_few (most : Nat) (m1 : 1 ≤ most) (m2 : most ≤ 1048576) (a : Option Addr) (len cap bl off : Nat) (K N : Nat → Int) (S : Nat → ByteArray) (hl : len ≤ 60) (W : World)
    (ha : 0 < len → a = some ⟨bl, off, none⟩) (hlt : len = 0 ∨ bl < W.heap.size) (hK : ∀ i, i < len → W.cell? ⟨bl, off + i * 3, none⟩ = some (.int .i64 (K i))) (hN : ∀ i, i < len → W.cell? ⟨bl, off + i * 3 + 1, none⟩ = some (.int .i64 (N i)))
    (hS : ∀ i, i < len → W.cell? ⟨bl, off + i * 3 + 2, none⟩ = some (.string (S i))) (hSm : ∀ i, i < len → (S i).size ≤ maxLen) :
    Calls Try.prog 3 #[.int .i64 (most : Int), .slice a len cap] W (TruePost W) := by
  go_enter Try.func3, Try.ntmps3
  go_wp2_with fail
  refine (new_good most m1 m2 _).mono ?_
  rintro e w1 ⟨b, g0, rfl, hR0, hbW, hgW0, hB0⟩
  go_wp2_with fail
  go_loopw [7, 8] (fun sv iv wr => ∃ (k g : Nat) (s : ByteArray), k ≤ len ∧ iv = .int .i64 k ∧ sv = .string s ∧ s.size ≤ most ∧ Ring wr b g most s ∧ W.heap.size ≤ g ∧ Below W.heap.size W wr) (fun _ iv _ => len - (intOf iv).toNat)
  case atStart => exact ⟨0, g0, ⟨#[]⟩, Nat.zero_le _, rfl, rfl, Nat.zero_le _, hR0, hgW0, hB0⟩
  case round =>
    obtain ⟨k, g, s, hk, rfl, rfl, hsm, hR, hgW, hb⟩ := hrel
    by_cases hlk : k < len
    · have hbl : bl < W.heap.size := by omega
      have ha' := ha (by omega)
      subst ha'
      have cK : wr.cell? ⟨bl, off + k * 3, none⟩ = some (.int .i64 (K k)) := by rw [(bcell hb).1 _ _ hbl]; exact hK k hlk
      have cN : wr.cell? ⟨bl, off + k * 3 + 1, none⟩ = some (.int .i64 (N k)) := by rw [(bcell hb).1 _ _ hbl]; exact hN k hlk
      have cS : wr.cell? ⟨bl, off + k * 3 + 2, none⟩ = some (.string (S k)) := by rw [(bcell hb).1 _ _ hbl]; exact hS k hlk
      have hSk := hSm k hlk
      unfold maxLen at hSk
      have HR := Lib.hid hR
      clear hR
      by_cases h5 : 500 < (S k).size
      · go_wp2_with fail
        go_roundw
        case rel => exact ⟨k + 1, g, s, by omega, by go_num, rfl, hsm, HR.out, hgW, hb⟩
        case measure => simp [intOf]; omega
      · obtain ⟨q, hq⟩ : ∃ q : Nat, min ((S k).size : Int) ((most : Int) - (s.size : Int)) = (q : Int) := ⟨min (S k).size (most - s.size), by omega⟩
        obtain ⟨m, hm⟩ : ∃ m : Nat, max 0 (min (N k) (s.size : Int)) = (m : Int) := ⟨(max 0 (min (N k) (s.size : Int))).toNat, by omega⟩
        have hds := doS_size s (S k) (K k) q m most hq.symm hsm
        have HD := Lib.hid (fun w h => do_any b g most s (S k) (K k) (N k) q m (by omega) hq hm w h)
        clear hq hm
        generalize doS s (S k) (K k) q m = s2 at *
        go_wp2_with fail
        refine (HD.out _ HR.out).mono ?_
        rintro e w2 ⟨rfl, g2, hR2, hK2, hg2⟩
        have hb2 := hb.trans (act_below hK2 hbW hgW hb.size)
        have hgW2 : W.heap.size ≤ g2 := by have := hb.size; omega
        have HR2 := Lib.hid hR2
        clear hR2 hK2 hg2 cK cN cS HD
        go_wp2_with (first | (go_at_call 9; refine (len_any b g2 most s2 _ HR2.out).mono ?_; rintro e w' ⟨rfl, rfl⟩) | (go_at_call 10; refine (room_any b g2 most s2 _ HR2.out).mono ?_; rintro e w3 ⟨rfl, n3, rfl⟩))
        go_roundw
        case rel => exact ⟨k + 1, g2, s2, by omega, by go_num, rfl, hds, HR2.out.drewN _, hgW2, bdrewN hb2 _⟩
        case measure => simp [intOf]; omega
    · have hkl : k = len := by omega
      have HR := Lib.hid hR
      clear hR
      go_wp2_with (go_at_call 6; refine (awake_true _).mono ?_; rintro e w6 ⟨rfl, hb6⟩)
      go_ret
      exact ⟨rfl, hb.trans (hb6.mono hb.size)⟩
theorem plays_bad (room : Int) (hr : room < 1 ∨ 1048576 < room) (a : Option Addr) (len cap : Nat) (hl : len ≤ 60) (W : World) : Calls Try.prog 3 #[.int .i64 room, .slice a len cap] W (TruePost W) := by
  by_cases h1 : room < 1
  all_goals
    go_enter Try.func3, Try.ntmps3
    go_wp2_with (first | (go_at_call 7; refine (new_bad _ hr _).mono ?_; rintro e w' ⟨rfl, rfl⟩) | (go_at_call 6; refine (awake_true _).mono ?_; rintro e w6 ⟨rfl, hb6⟩))
    go_ret
    exact ⟨rfl, hb6⟩
theorem plays_many (room : Int) (a : Option Addr) (len cap : Nat) (hc : cap ≤ maxLen) (hlc : len ≤ cap) (c1 : 60 < len) (W : World) : Calls Try.prog 3 #[.int .i64 room, .slice a len cap] W (TruePost W) := by
  unfold maxLen at hc
  go_enter Try.func3, Try.ntmps3
  go_wp2_with (go_at_call 6; refine (awake_true _).mono ?_; rintro e w6 ⟨rfl, hb6⟩)
  go_ret
  exact ⟨rfl, hb6⟩
theorem none_all (K N : Int) (body : ByteArray) (W : World) : Calls Try.prog 5 #[.agg #[.int .i64 K, .int .i64 N, .string body]] W (TruePost W) := by
  go_enter Try.func5, Try.ntmps5
  go_wp2_with (first | (go_at_call 13; refine (clear_nil _).mono ?_; rintro e w' ⟨rfl, rfl⟩) | (go_at_call 11; refine (put_nil _ _).mono ?_; rintro e w' ⟨rfl, rfl⟩) | (go_at_call 12; refine (take_nil _ _).mono ?_; rintro e w' ⟨rfl, rfl⟩) | (go_at_call 14; refine (peek_nil _ _).mono ?_; rintro e w' ⟨rfl, rfl⟩) | (go_at_call 9; refine (len_nil _).mono ?_; rintro e w' ⟨rfl, rfl⟩) | (go_at_call 10; refine (room_nil _).mono ?_; rintro e w3 ⟨rfl, n3, rfl⟩) | (go_at_call 6; refine (awake_true _).mono ?_; rintro e w6 ⟨rfl, hb6⟩))
  go_ret
  exact ⟨rfl, Below.trans (b := _) (by first | exact bdrewN ((Below.refl _ _).alloc (Nat.le_refl _) _) _ | exact (Below.refl _ _).alloc (Nat.le_refl _) _) (hb6.mono (by simp))⟩
end Go.Proofs.Ythgbdlchjglmiaa
