/- The walk of BlocksPlay. -/
import Derived.Test.YtncfenpeaoppnaaBlocksLaw
namespace Go.Proofs.Ytncfenpeaoppnaa
open Go.ChangeShapes Go.WideShapes Go.ChangeAt Go.RowKit
set_option linter.unusedVariables false

set_option maxRecDepth 100000 in
set_option maxHeartbeats 4000000 in
theorem plays_few (size most : Nat) (z1 : 1 ≤ size) (z2 : size ≤ 32768) (z3 : size ≤ most) (z4 : most ≤ 1048576) (a : Option Addr) (len cap bl off : Nat) (K : Nat → Int) (S : Nat → ByteArray) (hl : len ≤ 60) (W : World)
    (ha : 0 < len → a = some ⟨bl, off, none⟩) (hlt : len = 0 ∨ bl < W.heap.size) (hK : ∀ i, i < len → W.cell? ⟨bl, off + i * 2, none⟩ = some (.int .i64 (K i)))
    (hS : ∀ i, i < len → W.cell? ⟨bl, off + i * 2 + 1, none⟩ = some (.string (S i))) (hSm : ∀ i, i < len → (S i).size ≤ maxLen) :
    Calls Try.prog 4 #[.int .i64 (size : Int), .int .i64 (most : Int), .slice a len cap] W (TruePost W) := by
  have q1 : decide ((size : Int) < 1) = false := by rw [decide_eq_false_iff_not]; omega
  have q2 : decide ((32768 : Int) < (size : Int)) = false := by rw [decide_eq_false_iff_not]; omega
  have q3 : decide (most < size) = false := by rw [decide_eq_false_iff_not]; omega
  have q4 : decide ((1048576 : Int) < (most : Int)) = false := by rw [decide_eq_false_iff_not]; omega
  go_enter Try.func4, Try.ntmps4
  go_wp2_with fail
  refine (bnew_good size most z1 z2 z3 z4 _).mono ?_
  rintro e w1 ⟨b, r, g0, rfl, hR0, hbW, hrW, hgW0, hB0⟩
  go_wp2_with fail
  clear q1 q2 q3 q4
  go_loopw [9, 10] (fun sv iv wr => ∃ (k g : Nat) (s : ByteArray), k ≤ len ∧ iv = .int .i64 k ∧ sv = .string s ∧ s.size ≤ most ∧ BlocksAt wr b r g most size s ∧ W.heap.size ≤ g ∧ Below W.heap.size W wr) (fun _ iv _ => len - (intOf iv).toNat)
  case atStart => exact ⟨0, g0, ⟨#[]⟩, Nat.zero_le _, rfl, rfl, Nat.zero_le _, hR0, hgW0, hB0⟩
  case round =>
    obtain ⟨k, g, s, hk, rfl, rfl, hsm, hR, hgW, hb⟩ := hrel
    have HR := Lib.hid hR
    clear hR
    by_cases hlk : k < len
    · have hbl : bl < W.heap.size := by omega
      have ha' := ha (by omega)
      subst ha'
      have cK : wr.cell? ⟨bl, off + k * 2, none⟩ = some (.int .i64 (K k)) := by rw [(bcell hb).1 _ _ hbl]; exact hK k hlk
      have cS : wr.cell? ⟨bl, off + k * 2 + 1, none⟩ = some (.string (S k)) := by rw [(bcell hb).1 _ _ hbl]; exact hS k hlk
      have HCS := Lib.hid (hS k hlk)
      have hSk := hSm k hlk
      unfold maxLen at hSk
      by_cases h5 : 500 < (S k).size
      · go_wp2_with fail
        go_roundw
        case rel => exact ⟨k + 1, g, s, by omega, by go_num, rfl, hsm, HR.out, hgW, hb⟩
        case measure => simp [intOf]; omega
      · by_cases k0 : K k = 0
        · rw [k0] at cK
          clear k0
          obtain ⟨q, hq⟩ : ∃ q : Nat, min ((S k).size : Int) ((most : Int) - (s.size : Int)) = (q : Int) := ⟨min (S k).size (most - s.size), by omega⟩
          have hqS : q ≤ (S k).size := by omega
          have hqm : s.size + q ≤ most := by omega
          have HP := Lib.hid (fun w h => write_any b r g most size s (S k) q (by omega) hq w h)
          have hsz1 := size_extract (S k) 0 q hqS
          rw [Nat.sub_zero] at hsz1
          have hadd : ¬ 9223372036854775807 < s.size + q := by omega
          have hds : (s ++ (S k).extract 0 q).size ≤ most := by rw [ByteArray.size_append, hsz1]; exact hqm
          generalize S k = body at *
          go_wp2_with fail
          refine (HP.out _ HR.out).mono ?_
          rintro e w2 ⟨rfl, g2, hR2, hK2, hg2⟩
          have hb2 := Below.trans (b := _) (by exact hb) (bact_below hK2 hrW hgW (by exact hb.size))
          have hgW2 : W.heap.size ≤ g2 := by
            rcases hg2 with h | h
            · omega
            · exact Nat.le_trans hb.size h
          have HR2 := Lib.hid hR2
          clear hR2 hK2 hg2
          have cS2 : w2.cell? ⟨bl, off + k * 2 + 1, none⟩ = some (.string body) := kbelow hb2 hbl HCS.out
          clear cS cK hq HP
          go_wp2_with (first | (go_at_call 10; refine (blen_any b r g2 most size (s ++ body.extract 0 q) _ (by first | exact HR2.out | exact HR2.out.drewN _)).mono ?_; rintro e w' ⟨rfl, rfl⟩) | (go_at_call 13; refine (broom_any b r g2 most size (s ++ body.extract 0 q) _ (by first | exact HR2.out | exact HR2.out.drewN _)).mono ?_; rintro e w3 ⟨rfl, n3, rfl⟩))
          go_roundw
          case rel => exact ⟨k + 1, g2, s ++ body.extract 0 q, by omega, by go_num, rfl, hds, (by first | exact HR2.out.drewN _ | exact (HR2.out.drewN _).drewN _ | exact HR.out.drewN _), hgW2, (by first | exact bdrewN hb2 _ | exact bdrewN (bdrewN hb2 _) _ | exact bdrewN hb _)⟩
          case measure => simp [intOf]; omega
        · have b0 : (K k == 0) = false := by rw [beq_eq_false_iff_ne]; exact k0
          by_cases k1 : K k = 1
          · rw [k1] at cK
            clear k0 k1 b0
            rcases Nat.lt_or_ge s.size size with hlt2 | hge2
            · by_cases hne : s.size = 0
              · have HD := Lib.hid (lnext_none s size false hlt2 (.inl hne) (by omega))
                have HN := Lib.hid (fun w h => next_none b r g most size s false (.inl hne) w h)
                have hds : s.size ≤ most := hsm
                clear hne
                go_wp2_with fail
                refine (HD.out _).mono ?_
                rintro e w' ⟨rfl, nq, rfl⟩
                go_wp2_with fail
                refine (HN.out _ (HR.out.drewN _)).mono ?_
                rintro e w' ⟨rfl, rfl⟩
                have HR2 := Lib.hid (HR.out.drewN nq)
                have hb2 := bdrewN hb nq
                have hgW2 := hgW
                obtain ⟨g2, hg2⟩ : ∃ g2, g2 = g := ⟨_, rfl⟩
                subst hg2
                go_wp2_with (first | (go_at_call 10; refine (blen_any b r g2 most size (s) _ (by first | exact HR2.out | exact HR2.out.drewN _)).mono ?_; rintro e w' ⟨rfl, rfl⟩) | (go_at_call 13; refine (broom_any b r g2 most size (s) _ (by first | exact HR2.out | exact HR2.out.drewN _)).mono ?_; rintro e w3 ⟨rfl, n3, rfl⟩))
                go_roundw
                case rel => exact ⟨k + 1, g2, s, by omega, by go_num, rfl, hds, (by first | exact HR2.out.drewN _ | exact (HR2.out.drewN _).drewN _ | exact HR.out.drewN _), hgW2, (by first | exact bdrewN hb2 _ | exact bdrewN (bdrewN hb2 _) _ | exact bdrewN hb _)⟩
                case measure => simp [intOf]; omega
              ·
                have HD := Lib.hid (lnext_none s size false hlt2 (.inr rfl) (by omega))
                have HN := Lib.hid (fun w h => next_none b r g most size s false (.inr ⟨hlt2, rfl⟩) w h)
                have hds : s.size ≤ most := hsm
                clear hne
                go_wp2_with fail
                refine (HD.out _).mono ?_
                rintro e w' ⟨rfl, nq, rfl⟩
                go_wp2_with fail
                refine (HN.out _ (HR.out.drewN _)).mono ?_
                rintro e w' ⟨rfl, rfl⟩
                have HR2 := Lib.hid (HR.out.drewN nq)
                have hb2 := bdrewN hb nq
                have hgW2 := hgW
                obtain ⟨g2, hg2⟩ : ∃ g2, g2 = g := ⟨_, rfl⟩
                subst hg2
                go_wp2_with (first | (go_at_call 10; refine (blen_any b r g2 most size (s) _ (by first | exact HR2.out | exact HR2.out.drewN _)).mono ?_; rintro e w' ⟨rfl, rfl⟩) | (go_at_call 13; refine (broom_any b r g2 most size (s) _ (by first | exact HR2.out | exact HR2.out.drewN _)).mono ?_; rintro e w3 ⟨rfl, n3, rfl⟩))
                go_roundw
                case rel => exact ⟨k + 1, g2, s, by omega, by go_num, rfl, hds, (by first | exact HR2.out.drewN _ | exact (HR2.out.drewN _).drewN _ | exact HR.out.drewN _), hgW2, (by first | exact bdrewN hb2 _ | exact bdrewN (bdrewN hb2 _) _ | exact bdrewN hb _)⟩
                case measure => simp [intOf]; omega
            · have HD := Lib.hid (lnext_full s size false hge2 (by omega))
              have HN := Lib.hid (fun w h => next_lit b r g most size s (s.extract 0 size) (s.extract size s.size) false size (by omega) (by omega) rfl rfl w h)
              have hds : (s.extract size s.size).size ≤ most := by rw [ByteArray.size_extract]; omega
              go_wp2_with fail
              refine (HD.out _).mono ?_
              rintro e w' ⟨rfl, nq, rfl⟩
              go_wp2_with fail
              refine (HN.out _ (HR.out.drewN _)).mono ?_
              rintro e w2 ⟨rfl, g2, hR2, hK2, hg2⟩
              have hb2 := Below.trans (b := _) (by exact bdrewN hb _) (bact_below hK2 hrW hgW (by exact hb.size))
              have hgW2 : W.heap.size ≤ g2 := by
                rcases hg2 with h | h
                · omega
                · exact Nat.le_trans hb.size h
              have HR2 := Lib.hid hR2
              clear hR2 hK2 hg2
              go_wp2_with (first | (go_at_call 10; refine (blen_any b r g2 most size (s.extract size s.size) _ (by first | exact HR2.out | exact HR2.out.drewN _)).mono ?_; rintro e w' ⟨rfl, rfl⟩) | (go_at_call 13; refine (broom_any b r g2 most size (s.extract size s.size) _ (by first | exact HR2.out | exact HR2.out.drewN _)).mono ?_; rintro e w3 ⟨rfl, n3, rfl⟩))
              go_roundw
              case rel => exact ⟨k + 1, g2, s.extract size s.size, by omega, by go_num, rfl, hds, (by first | exact HR2.out.drewN _ | exact (HR2.out.drewN _).drewN _ | exact HR.out.drewN _), hgW2, (by first | exact bdrewN hb2 _ | exact bdrewN (bdrewN hb2 _) _ | exact bdrewN hb _)⟩
              case measure => simp [intOf]; omega
          · have b1 : (K k == 1) = false := by rw [beq_eq_false_iff_ne]; exact k1
            by_cases k2 : K k = 2
            · rw [k2] at cK
              clear k0 k1 b0 b1 k2
              rcases Nat.lt_or_ge s.size size with hlt2 | hge2
              · by_cases hne : s.size = 0
                · have HD := Lib.hid (lnext_none s size true hlt2 (.inl hne) (by omega))
                  have HN := Lib.hid (fun w h => next_none b r g most size s true (.inl hne) w h)
                  have hds : s.size ≤ most := hsm
                  clear hne
                  go_wp2_with fail
                  refine (HD.out _).mono ?_
                  rintro e w' ⟨rfl, nq, rfl⟩
                  go_wp2_with fail
                  refine (HN.out _ (HR.out.drewN _)).mono ?_
                  rintro e w' ⟨rfl, rfl⟩
                  have HR2 := Lib.hid (HR.out.drewN nq)
                  have hb2 := bdrewN hb nq
                  have hgW2 := hgW
                  obtain ⟨g2, hg2⟩ : ∃ g2, g2 = g := ⟨_, rfl⟩
                  subst hg2
                  go_wp2_with (first | (go_at_call 10; refine (blen_any b r g2 most size (s) _ (by first | exact HR2.out | exact HR2.out.drewN _)).mono ?_; rintro e w' ⟨rfl, rfl⟩) | (go_at_call 13; refine (broom_any b r g2 most size (s) _ (by first | exact HR2.out | exact HR2.out.drewN _)).mono ?_; rintro e w3 ⟨rfl, n3, rfl⟩))
                  go_roundw
                  case rel => exact ⟨k + 1, g2, s, by omega, by go_num, rfl, hds, (by first | exact HR2.out.drewN _ | exact (HR2.out.drewN _).drewN _ | exact HR.out.drewN _), hgW2, (by first | exact bdrewN hb2 _ | exact bdrewN (bdrewN hb2 _) _ | exact bdrewN hb _)⟩
                  case measure => simp [intOf]; omega
                ·
                  have HD := Lib.hid (lnext_flush s size hlt2 hne)
                  have HN := Lib.hid (fun w h => next_lit b r g most size s s ⟨#[]⟩ true s.size (by omega) ⟨by omega, .inr rfl⟩ (extract_all s) (bt_ext (by rw [size_extract _ _ _ (Nat.le_refl _)]; exact Nat.sub_self _) (fun p hp => by rw [size_extract _ _ _ (Nat.le_refl _), Nat.sub_self] at hp; omega)) w h)
                  have hds : (⟨#[]⟩ : ByteArray).size ≤ most := Nat.zero_le _
                  clear hne
                  go_wp2_with fail
                  refine (HD.out _ (by omega)).mono ?_
                  rintro e w' ⟨rfl, nq, rfl⟩
                  go_wp2_with fail
                  refine (HN.out _ (HR.out.drewN _)).mono ?_
                  rintro e w2 ⟨rfl, g2, hR2, hK2, hg2⟩
                  have hb2 := Below.trans (b := _) (by exact bdrewN hb _) (bact_below hK2 hrW hgW (by exact hb.size))
                  have hgW2 : W.heap.size ≤ g2 := by
                    rcases hg2 with h | h
                    · omega
                    · exact Nat.le_trans hb.size h
                  have HR2 := Lib.hid hR2
                  clear hR2 hK2 hg2
                  go_wp2_with (first | (go_at_call 10; refine (blen_any b r g2 most size (⟨#[]⟩) _ (by first | exact HR2.out | exact HR2.out.drewN _)).mono ?_; rintro e w' ⟨rfl, rfl⟩) | (go_at_call 13; refine (broom_any b r g2 most size (⟨#[]⟩) _ (by first | exact HR2.out | exact HR2.out.drewN _)).mono ?_; rintro e w3 ⟨rfl, n3, rfl⟩))
                  go_roundw
                  case rel => exact ⟨k + 1, g2, ⟨#[]⟩, by omega, by go_num, rfl, hds, (by first | exact HR2.out.drewN _ | exact (HR2.out.drewN _).drewN _ | exact HR.out.drewN _), hgW2, (by first | exact bdrewN hb2 _ | exact bdrewN (bdrewN hb2 _) _ | exact bdrewN hb _)⟩
                  case measure => simp [intOf]; omega
              · have HD := Lib.hid (lnext_full s size true hge2 (by omega))
                have HN := Lib.hid (fun w h => next_lit b r g most size s (s.extract 0 size) (s.extract size s.size) true size (by omega) (by omega) rfl rfl w h)
                have hds : (s.extract size s.size).size ≤ most := by rw [ByteArray.size_extract]; omega
                go_wp2_with fail
                refine (HD.out _).mono ?_
                rintro e w' ⟨rfl, nq, rfl⟩
                go_wp2_with fail
                refine (HN.out _ (HR.out.drewN _)).mono ?_
                rintro e w2 ⟨rfl, g2, hR2, hK2, hg2⟩
                have hb2 := Below.trans (b := _) (by exact bdrewN hb _) (bact_below hK2 hrW hgW (by exact hb.size))
                have hgW2 : W.heap.size ≤ g2 := by
                  rcases hg2 with h | h
                  · omega
                  · exact Nat.le_trans hb.size h
                have HR2 := Lib.hid hR2
                clear hR2 hK2 hg2
                go_wp2_with (first | (go_at_call 10; refine (blen_any b r g2 most size (s.extract size s.size) _ (by first | exact HR2.out | exact HR2.out.drewN _)).mono ?_; rintro e w' ⟨rfl, rfl⟩) | (go_at_call 13; refine (broom_any b r g2 most size (s.extract size s.size) _ (by first | exact HR2.out | exact HR2.out.drewN _)).mono ?_; rintro e w3 ⟨rfl, n3, rfl⟩))
                go_roundw
                case rel => exact ⟨k + 1, g2, s.extract size s.size, by omega, by go_num, rfl, hds, (by first | exact HR2.out.drewN _ | exact (HR2.out.drewN _).drewN _ | exact HR.out.drewN _), hgW2, (by first | exact bdrewN hb2 _ | exact bdrewN (bdrewN hb2 _) _ | exact bdrewN hb _)⟩
                case measure => simp [intOf]; omega
            · have b2 : (K k == 2) = false := by rw [beq_eq_false_iff_ne]; exact k2
              clear k0 k1 k2
              go_wp2_with fail
              refine (bclear_any b r g most size s _ HR.out).mono ?_
              rintro e w2 ⟨rfl, g2, hR2, hK2, hg2⟩
              have hb2 := Below.trans (b := _) (by exact hb) (bact_below hK2 hrW hgW (by exact hb.size))
              have hgW2 : W.heap.size ≤ g2 := by
                rcases hg2 with h | h
                · omega
                · exact Nat.le_trans hb.size h
              have HR2 := Lib.hid hR2
              clear hR2 hK2 hg2
              have hds : (⟨#[]⟩ : ByteArray).size ≤ most := Nat.zero_le _
              go_wp2_with (first | (go_at_call 10; refine (blen_any b r g2 most size (⟨#[]⟩) _ (by first | exact HR2.out | exact HR2.out.drewN _)).mono ?_; rintro e w' ⟨rfl, rfl⟩) | (go_at_call 13; refine (broom_any b r g2 most size (⟨#[]⟩) _ (by first | exact HR2.out | exact HR2.out.drewN _)).mono ?_; rintro e w3 ⟨rfl, n3, rfl⟩))
              go_roundw
              case rel => exact ⟨k + 1, g2, ⟨#[]⟩, by omega, by go_num, rfl, hds, (by first | exact HR2.out.drewN _ | exact (HR2.out.drewN _).drewN _ | exact HR.out.drewN _), hgW2, (by first | exact bdrewN hb2 _ | exact bdrewN (bdrewN hb2 _) _ | exact bdrewN hb _)⟩
              case measure => simp [intOf]; omega
    · have hkl : k = len := by omega
      go_wp2_with (go_at_call 6; refine (awake_true _).mono ?_; rintro e w6 ⟨rfl, hb6⟩)
      go_ret
      exact ⟨rfl, hb.trans (hb6.mono hb.size)⟩
set_option maxRecDepth 100000 in
set_option maxHeartbeats 2000000 in
theorem plays_bad (size room : Int) (hb : size < 1 ∨ 32768 < size ∨ room < size ∨ 1048576 < room) (a : Option Addr) (len cap : Nat) (hl : len ≤ 60) (W : World) : Calls Try.prog 4 #[.int .i64 size, .int .i64 room, .slice a len cap] W (TruePost W) := by
  by_cases h1 : size < 1
  ·
    go_enter Try.func4, Try.ntmps4
    go_wp2_with (first | (go_at_call 7; refine (bnew_bad _ _ hb _).mono ?_; rintro e w' ⟨rfl, rfl⟩) | (go_at_call 6; refine (awake_true _).mono ?_; rintro e w6 ⟨rfl, hb6⟩))
    go_ret
    exact ⟨rfl, hb6⟩
  · by_cases h2 : 32768 < size
    ·
      go_enter Try.func4, Try.ntmps4
      go_wp2_with (first | (go_at_call 7; refine (bnew_bad _ _ hb _).mono ?_; rintro e w' ⟨rfl, rfl⟩) | (go_at_call 6; refine (awake_true _).mono ?_; rintro e w6 ⟨rfl, hb6⟩))
      go_ret
      exact ⟨rfl, hb6⟩
    · by_cases h3 : room < size
      ·
        go_enter Try.func4, Try.ntmps4
        go_wp2_with (first | (go_at_call 7; refine (bnew_bad _ _ hb _).mono ?_; rintro e w' ⟨rfl, rfl⟩) | (go_at_call 6; refine (awake_true _).mono ?_; rintro e w6 ⟨rfl, hb6⟩))
        go_ret
        exact ⟨rfl, hb6⟩
      · have h4 : 1048576 < room := by omega
        go_enter Try.func4, Try.ntmps4
        go_wp2_with (first | (go_at_call 7; refine (bnew_bad _ _ hb _).mono ?_; rintro e w' ⟨rfl, rfl⟩) | (go_at_call 6; refine (awake_true _).mono ?_; rintro e w6 ⟨rfl, hb6⟩))
        go_ret
        exact ⟨rfl, hb6⟩
theorem plays_many (size room : Int) (a : Option Addr) (len cap : Nat) (hc : cap ≤ maxLen) (hlc : len ≤ cap) (c1 : 60 < len) (W : World) : Calls Try.prog 4 #[.int .i64 size, .int .i64 room, .slice a len cap] W (TruePost W) := by
  unfold maxLen at hc
  go_enter Try.func4, Try.ntmps4
  go_wp2_with (go_at_call 6; refine (awake_true _).mono ?_; rintro e w6 ⟨rfl, hb6⟩)
  go_ret
  exact ⟨rfl, hb6⟩
end Go.Proofs.Ytncfenpeaoppnaa
