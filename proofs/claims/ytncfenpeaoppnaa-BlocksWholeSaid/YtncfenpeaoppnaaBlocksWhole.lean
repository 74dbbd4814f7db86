/- The walk of BlocksWhole. -/
import Derived.Test.YtncfenpeaoppnaaBlocksPlay
namespace Go.Proofs.Ytncfenpeaoppnaa
open Go.ChangeShapes Go.WideShapes Go.ChangeAt Go.RowKit
set_option linter.unusedVariables false

theorem app_assoc (a b c : ByteArray) : (a ++ b) ++ c = a ++ (b ++ c) := by
  refine bt_ext (by rw [ByteArray.size_append, ByteArray.size_append, ByteArray.size_append, ByteArray.size_append]; omega) fun p hp => ?_
  simp only [bt_app, ByteArray.size_append]
  by_cases h1 : p < a.size
  · rw [if_pos (by omega), if_pos h1, if_pos h1]
  · by_cases h2 : p < a.size + b.size
    · rw [if_pos h2, if_neg h1, if_neg h1, if_pos (by omega)]
    · rw [if_neg h2, if_neg h1, if_neg (by omega)]; congr 1; omega
theorem split_ext (s : ByteArray) (m : Nat) (hm : m ≤ s.size) : s.extract 0 m ++ s.extract m s.size = s := by
  refine bt_ext (by rw [ByteArray.size_append, size_extract _ _ _ hm, size_extract _ _ _ (Nat.le_refl _)]; omega) fun p hp => ?_
  rw [bt_app, size_extract _ _ _ hm]
  rw [ByteArray.size_append, size_extract _ _ _ hm, size_extract _ _ _ (Nat.le_refl _)] at hp
  by_cases h : p < m - 0
  · rw [if_pos h, bt_extract _ _ _ _ hm h, Nat.zero_add]
  · rw [if_neg h, bt_extract _ _ _ _ (Nat.le_refl _) (by omega)]; congr 1; omega
theorem part_eq (out s : ByteArray) (m : Nat) (hm : m ≤ s.size) : out ++ s = (out ++ s.extract 0 m) ++ s.extract m s.size := by
  rw [app_assoc, split_ext _ _ hm]
theorem app_zero (a s : ByteArray) (h : s.size = 0) : a ++ s = a := by
  refine bt_ext (by rw [ByteArray.size_append, h, Nat.add_zero]) fun p hp => ?_
  rw [bt_app, if_pos (by rw [ByteArray.size_append] at hp; omega)]
theorem bnew_lit (size most : Nat) (h1 : 1 ≤ size) (h2 : size ≤ 32768) (h3 : most = 65536) (n : Int) (hn : n = (size : Int)) (w : World) : Calls Try.prog 7 #[.int .i64 n, .int .i64 65536] w (BNewPost w most size) := by
  subst h3 hn
  exact bnew_good size 65536 h1 h2 (by omega) (by omega) w

set_option maxRecDepth 100000 in
set_option maxHeartbeats 4000000 in
theorem whole_few (a0 : Int) (size : Nat) (h0 : 0 ≤ a0) (h1 : a0 ≤ 255) (h2 : a0 + 1 = (size : Int)) (p : Option Addr) (len cap bl off : Nat) (S : Nat → ByteArray) (hl : len ≤ 40) (W : World) (hp : Strs W p len S bl off) (hSm : ∀ i, i < len → (S i).size ≤ maxLen) :
    Calls Try.prog 3 #[.int .u8 a0, .slice p len cap] W (TruePost W) := by
  obtain ⟨most, hmost⟩ : ∃ most : Nat, most = 65536 := ⟨_, rfl⟩
  have hz1 : 1 ≤ size := by omega
  have hz2 : size ≤ 256 := by omega
  have q40 : decide ((40 : Int) < (len : Int)) = false := by rw [decide_eq_false_iff_not]; omega
  go_enter Try.func3, Try.ntmps3
  go_wp2_with fail
  clear q40
  refine (bnew_lit size most (by omega) (by omega) hmost _ (by omega) _).mono ?_
  rintro e w1 ⟨b, r, g0, rfl, hR0, hbW, hrW, hgW0, hB0⟩
  go_wp2_with fail
  clear h2
  have hmost1 : most ≤ 65536 := by omega
  have hmost2 : 65536 ≤ most := by omega
  clear hmost
  go_loopw [8, 9, 10] (fun inv outv iv wr => ∃ (k g : Nat) (out s : ByteArray), k ≤ len ∧ iv = .int .i64 k ∧ inv = .string (out ++ s) ∧ outv = .string out ∧ out.size + s.size ≤ k * 300 ∧ BlocksAt wr b r g most size s ∧ W.heap.size ≤ g ∧ Below W.heap.size W wr) (fun _ _ iv _ => len - (intOf iv).toNat)
  case atStart => exact ⟨0, g0, ⟨#[]⟩, ⟨#[]⟩, Nat.zero_le _, rfl, rfl, rfl, Nat.le_refl _, hR0, hgW0, hB0⟩
  case round =>
    obtain ⟨k, g, out, s, hk, rfl, rfl, rfl, hsz, hR, hgW, hb⟩ := hrel
    have HR := Lib.hid hR
    clear hR
    by_cases hlk : k < len
    · have hpp := hp.at_ (by omega)
      subst hpp
      have hbl := hp.lt (by omega)
      have cS : wr.cell? ⟨bl, off + k, none⟩ = some (.string (S k)) := kbelow hb hbl (hp.cell k hlk)
      have HCS := Lib.hid (hp.cell k hlk)
      have hSk := hSm k hlk
      unfold maxLen at hSk
      by_cases h3 : 300 < (S k).size
      · go_wp2_with fail
        go_roundw
        case rel => exact ⟨k + 1, g, out, s, by omega, by go_num, rfl, rfl, by omega, HR.out, hgW, hb⟩
        case measure => simp [intOf]; omega
      · have hq : min ((S k).size : Int) ((most : Int) - (s.size : Int)) = ((S k).size : Int) := by omega
        have HP := Lib.hid (fun w h => write_any b r g most size s (S k) (S k).size (by omega) hq w h)
        have hsz1 := size_extract (S k) 0 (S k).size (Nat.le_refl _)
        rw [Nat.sub_zero] at hsz1
        clear hq
        generalize S k = body at *
        have hszi : (out ++ s).size = out.size + s.size := ByteArray.size_append
        have hsz2 : (s ++ body).size = s.size + body.size := ByteArray.size_append
        have HIN := Lib.hid (app_assoc out s body)
        rw [extract_all] at HP
        obtain ⟨t, ht⟩ : ∃ t, s ++ body = t := ⟨_, rfl⟩
        rw [ht] at hsz2 HIN HP
        clear ht
        have hadd : ¬ 9223372036854775807 < out.size + s.size + body.size := by omega
        go_wp2_with fail
        go_region_held3 (fun w' => w'.cell? ⟨bl, off + k, none⟩ = some (.string body)) (first | exact cS | exact kbelow (Below.trans (b := _) (by first | exact hb | exact hb.drew) (bact_below hK2 hrW hgW (by exact hb.size))) hbl HCS.out) ((go_at_call 8; refine (HP.out _ (by first | exact HR.out | exact HR.out.drewN 1)).mono ?_; rintro e w2 ⟨rfl, g2, hR2, hK2, hg2⟩))
        have hb2 := Below.trans (b := _) (by first | exact hb | exact hb.drew) (bact_below hK2 hrW hgW (by exact hb.size))
        have hgW2 : W.heap.size ≤ g2 := by
          rcases hg2 with h | h
          · omega
          · exact Nat.le_trans hb.size h
        have HR2 := Lib.hid hR2
        clear hR2 hK2 hg2
        clear cS HP
        by_cases hc : size ≤ t.size
        · have HN := Lib.hid (fun w h => next_lit b r g2 most size t (t.extract 0 size) (t.extract size t.size) false size (by omega) (by omega) rfl rfl w h)
          have hsz3 := size_extract t 0 size hc
          have hsz4 := size_extract t size t.size (Nat.le_refl _)
          rw [Nat.sub_zero] at hsz3
          have HP2 := Lib.hid (part_eq out t size hc)
          have HS4 := Lib.hid hsz4
          clear hsz4
          have hadd2 : ¬ 9223372036854775807 < out.size + size := by omega
          go_wp2_with fail
          refine (HN.out _ (by first | exact HR2.out | exact HR2.out.drewN _)).mono ?_
          rintro e w4 ⟨rfl, g4, hR4, hK4, hg4⟩
          have hb4 : Below W.heap.size W w4 := Below.trans (b := _) (by first | exact hb2 | exact bdrewN hb2 _) (bact_below hK4 hrW hgW2 (by exact hb2.size))
          have hgW4 : W.heap.size ≤ g4 := by
            rcases hg4 with h | h
            · omega
            · exact Nat.le_trans hb2.size h
          have HR4 := Lib.hid hR4
          clear hR4 hK4 hg4
          go_wp2_with fail
          go_roundw
          case rel => exact ⟨k + 1, g4, out ++ t.extract 0 size, t.extract size t.size, by omega, by go_num, congrArg Value.string (HIN.out.trans HP2.out), rfl, by rw [ByteArray.size_append, hsz3, HS4.out, hsz2]; omega, HR4.out, hgW4, hb4⟩
          case measure => simp [intOf]; omega
        · have HN := Lib.hid (fun w h => next_none b r g2 most size t false (.inr ⟨by omega, rfl⟩) w h)
          go_wp2_with fail
          refine (HN.out _ (by first | exact HR2.out | exact HR2.out.drewN _)).mono ?_
          rintro e w4 ⟨rfl, rfl⟩
          go_wp2_with fail
          go_roundw
          case rel => exact ⟨k + 1, g2, out, t, by omega, by go_num, congrArg Value.string HIN.out, rfl, by rw [hsz2]; omega, (by first | exact HR2.out | exact HR2.out.drewN _), hgW2, (by first | exact hb2 | exact bdrewN hb2 _)⟩
          case measure => simp [intOf]; omega
    · have hkl : k = len := by omega
      clear hp hSm
      subst hkl
      have qk : decide ((k : Int) < (k : Int)) = false := by rw [decide_eq_false_iff_not]; omega
      obtain ⟨ins, hins⟩ : ∃ x, x = out ++ s := ⟨_, rfl⟩
      rw [← hins]
      obtain ⟨wo, hwo⟩ : ∃ wo : World, wo = wr := ⟨_, rfl⟩
      subst hwo
      go_wp2_with fail
      clear qk
      go_loopw [9, 13] (fun outv iv wr => ∃ (i g : Nat) (out s : ByteArray), iv = .int .i64 i ∧ outv = .string out ∧ ins = out ++ s ∧ out.size + s.size ≤ 12000 ∧ i + s.size ≤ 12000 ∧ BlocksAt wr b r g most size s ∧ W.heap.size ≤ g ∧ Below W.heap.size W wr) (fun _ iv _ => 13000 - (intOf iv).toNat)
      case atStart => exact ⟨0, g, out, s, rfl, rfl, hins, by omega, by omega, HR.out, hgW, hb⟩
      case round =>
        clear hins hsz hgW hb HR
        obtain ⟨i, g3, out3, s3, rfl, rfl, hin3, hsz, hsi, hR, hgW, hb⟩ := hrel
        have HR := Lib.hid hR
        have HI3 := Lib.hid hin3
        clear hR hin3
        by_cases hs0 : s3.size = 0
        · have hio : ins = out3 := by rw [HI3.out]; exact app_zero _ _ hs0
          clear HI3
          subst hio
          go_wp2_with (first | (go_at_call 10; refine (blen_any b r g3 most size s3 _ HR.out).mono ?_; rintro e w' ⟨rfl, rfl⟩) | (go_at_call 6; refine (awake_true _).mono ?_; rintro e w6 ⟨rfl, hb6⟩))
          go_ret
          exact ⟨rfl, hb.trans (hb6.mono hb.size)⟩
        · have q13 : decide ((13000 : Int) < (i : Int)) = false := by rw [decide_eq_false_iff_not]; omega
          have qs0 : decide ((0 : Int) < (s3.size : Int)) = true := by rw [decide_eq_true_iff]; omega
          go_wp2_with (go_at_call 10; refine (blen_any b r g3 most size s3 _ HR.out).mono ?_; rintro e w' ⟨rfl, rfl⟩)
          by_cases hc : size ≤ s3.size
          · have HN := Lib.hid (fun w h => next_lit b r g3 most size s3 (s3.extract 0 size) (s3.extract size s3.size) true size (by omega) (by omega) rfl rfl w h)
            have hsz3 := size_extract s3 0 size hc
            have hsz4 := size_extract s3 size s3.size (Nat.le_refl _)
            rw [Nat.sub_zero] at hsz3
            have HP2 := Lib.hid (part_eq out3 s3 size hc)
            have HS4 := Lib.hid hsz4
            clear hsz4
            have hadd2 : ¬ 9223372036854775807 < out3.size + size := by omega
            refine (HN.out _ HR.out).mono ?_
            rintro e w4 ⟨rfl, g4, hR4, hK4, hg4⟩
            have hb4 : Below W.heap.size W w4 := Below.trans (b := _) (by exact hb) (bact_below hK4 hrW hgW (by exact hb.size))
            have hgW4 : W.heap.size ≤ g4 := by
              rcases hg4 with h | h
              · omega
              · exact Nat.le_trans hb.size h
            have HR4 := Lib.hid hR4
            clear hR4 hK4 hg4
            go_wp2_with (go_at_call 10; refine (blen_any b r g4 most size (s3.extract size s3.size) _ HR4.out).mono ?_; rintro e w' ⟨rfl, rfl⟩)
            go_roundw
            case rel => exact ⟨i + 1, g4, out3 ++ (s3.extract 0 size), s3.extract size s3.size, by go_num, rfl, HI3.out.trans HP2.out, by rw [ByteArray.size_append, hsz3, HS4.out]; omega, by rw [HS4.out]; omega, HR4.out, hgW4, hb4⟩
            case measure => simp [intOf]; omega
          · have hc2 : (size : Int) ≠ (s3.size : Int) := by omega
            have HN := Lib.hid (fun w h => next_lit b r g3 most size s3 s3 ⟨#[]⟩ true s3.size (by omega) ⟨by omega, .inr rfl⟩ (extract_all s3) (bt_ext (by rw [size_extract _ _ _ (Nat.le_refl _)]; exact Nat.sub_self _) (fun p hp => by rw [size_extract _ _ _ (Nat.le_refl _), Nat.sub_self] at hp; omega)) w h)
            have hsz3 : s3.size = s3.size := rfl
            have HS4 := Lib.hid (show (⟨#[]⟩ : ByteArray).size = 0 from rfl)
            have hadd2 : ¬ 9223372036854775807 < out3.size + s3.size := by omega
            have b4 : ((s3.size : Int) == (size : Int)) = false := by rw [beq_eq_false_iff_ne]; omega
            refine (HN.out _ HR.out).mono ?_
            rintro e w4 ⟨rfl, g4, hR4, hK4, hg4⟩
            have hb4 : Below W.heap.size W w4 := Below.trans (b := _) (by exact hb) (bact_below hK4 hrW hgW (by exact hb.size))
            have hgW4 : W.heap.size ≤ g4 := by
              rcases hg4 with h | h
              · omega
              · exact Nat.le_trans hb.size h
            have HR4 := Lib.hid hR4
            clear hR4 hK4 hg4
            go_wp2_with (go_at_call 10; refine (blen_any b r g4 most size (⟨#[]⟩) _ HR4.out).mono ?_; rintro e w' ⟨rfl, rfl⟩)
            go_roundw
            case rel => exact ⟨i + 1, g4, out3 ++ (s3), ⟨#[]⟩, by go_num, rfl, HI3.out.trans (app_zero _ _ rfl).symm, by rw [ByteArray.size_append, show s3.size = s3.size from rfl, HS4.out]; omega, by rw [HS4.out]; omega, HR4.out, hgW4, hb4⟩
            case measure => simp [intOf]; omega
theorem whole_many (a0 : Int) (p : Option Addr) (len cap : Nat) (hc : cap ≤ maxLen) (hlc : len ≤ cap) (c1 : 40 < len) (W : World) : Calls Try.prog 3 #[.int .u8 a0, .slice p len cap] W (TruePost W) := by
  unfold maxLen at hc
  go_enter Try.func3, Try.ntmps3
  go_wp2_with (go_at_call 6; refine (awake_true _).mono ?_; rintro e w6 ⟨rfl, hb6⟩)
  go_ret
  exact ⟨rfl, hb6⟩
theorem open_strs {w : World} {p : Option Addr} {len b off : Nat} {V : Nat → Nat → Value} (ha : 0 < len → p = some ⟨b, off, none⟩) (hs : SL w b off len 1 V) (hv : ∀ i, i < len → IsS (V i 0)) :
    ∃ S : Nat → ByteArray, Strs w p len S b off ∧ ∀ i, i < len → (S i).size ≤ maxLen := by
  obtain ⟨S, h1, h2⟩ := hs.strs 0 (by omega) hv
  refine ⟨S, ⟨ha, fun h => ?_, fun i hi => ?_⟩, h2⟩
  · rcases hs.lt with h3 | h3
    · omega
    · exact h3
  · have := h1 i hi
    simpa using this
end Go.Proofs.Ytncfenpeaoppnaa
