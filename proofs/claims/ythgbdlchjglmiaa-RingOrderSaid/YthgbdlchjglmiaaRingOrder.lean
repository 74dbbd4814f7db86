/- The walk of RingOrder. -/
import Derived.Test.YthgbdlchjglmiaaRingPlays
namespace Go.Proofs.Ythgbdlchjglmiaa
open Go.ChangeShapes Go.WideShapes Go.ChangeAt Go.RowKit
set_option linter.unusedVariables false

theorem app_assoc (a b c : ByteArray) : (a ++ b) ++ c = a ++ (b ++ c) := by
  refine bt_ext (by rw [ByteArray.size_append, ByteArray.size_append, ByteArray.size_append, ByteArray.size_append]; omega) fun p hp => ?_
  simp only [bt_app, ByteArray.size_append]
  by_cases h1 : p < a.size
  · rw [if_pos (by omega), if_pos h1, if_pos h1]
  · by_cases h2 : p < a.size + b.size
    · rw [if_pos h2, if_neg h1, if_neg h1, if_pos (by omega)]
    · rw [if_neg h2, if_neg h1, if_neg (by omega)]; congr 1; omega
theorem split_ext (s : ByteArray) (m : Nat) (hm : m ≤ s.size) : s.extract 0 m ++ s.extract m s.size = s := by
  refine bt_ext (by rw [ByteArray.size_append, size_extract _ _ _ hm, size_extract _ _ _ (Nat.le_refl _)]; omega) fun p hp => ?_
  rw [bt_app, size_extract _ _ _ hm]
  rw [ByteArray.size_append, size_extract _ _ _ hm, size_extract _ _ _ (Nat.le_refl _)] at hp
  by_cases h : p < m - 0
  · rw [if_pos h, bt_extract _ _ _ _ hm h, Nat.zero_add]
  · rw [if_neg h, bt_extract _ _ _ _ (Nat.le_refl _) (by omega)]; congr 1; omega
theorem turn_eq (out s e : ByteArray) (m : Nat) (hm : m ≤ (s ++ e).size) : (out ++ s) ++ e = (out ++ (s ++ e).extract 0 m) ++ (s ++ e).extract m (s ++ e).size := by
  rw [app_assoc, app_assoc, split_ext _ _ hm]
set_option maxRecDepth 100000 in
set_option maxHeartbeats 4000000 in
theorem order_few (room : Int) (most : Nat) (hro : room + 1 = (most : Int)) (hr0 : 0 ≤ room) (hr1 : room ≤ 255) (p pn : Option Addr) (len cap b off ln cn bn offn : Nat) (S : Nat → ByteArray) (X : Nat → Int) (hl : len ≤ 40) (hlnm : ln ≤ maxLen) (W : World) (hp : Strs W p len S b off) (hSm : ∀ i, i < len → (S i).size ≤ maxLen)
    (hn : 0 < ln → pn = some ⟨bn, offn, none⟩) (hnl : ln = 0 ∨ bn < W.heap.size) (hX : ∀ i, i < ln → W.cell? ⟨bn, offn + i, none⟩ = some (.int .u8 (X i))) (hX0 : ∀ i, i < ln → 0 ≤ X i ∧ X i ≤ 255) :
    Calls Try.prog 4 #[.int .u8 room, .slice p len cap, .slice pn ln cn] W (TruePost W) := by
  unfold maxLen at hlnm
  go_enter Try.func4, Try.ntmps4
  go_wp2_with fail
  refine (new_good most (by omega) (by omega) _).mono ?_
  rintro e w1 ⟨r, g0, rfl, hR0, hbW, hgW0, hB0⟩
  clear hro
  go_wp2_with fail
  go_loopw [9, 10, 11] (fun inv outv iv wr => ∃ (k g : Nat) (out s : ByteArray), k ≤ len ∧ iv = .int .i64 k ∧ inv = .string (out ++ s) ∧ outv = .string out ∧ out.size + s.size ≤ k * 300 ∧ s.size ≤ most ∧ Ring wr r g most s ∧ W.heap.size ≤ g ∧ Below W.heap.size W wr) (fun _ _ iv _ => len - (intOf iv).toNat)
  case atStart => exact ⟨0, g0, ⟨#[]⟩, ⟨#[]⟩, Nat.zero_le _, rfl, rfl, rfl, Nat.le_refl _, Nat.zero_le _, hR0, hgW0, hB0⟩
  case round =>
    obtain ⟨k, g, out, s, hk, rfl, rfl, rfl, hsz, hsm, hR, hgW, hb⟩ := hrel
    have HR := Lib.hid hR
    clear hR
    by_cases hlk : k < len
    · have hpp := hp.at_ (by omega)
      subst hpp
      have hbl := hp.lt (by omega)
      have cS : wr.cell? ⟨b, off + k, none⟩ = some (.string (S k)) := kbelow hb hbl (hp.cell k hlk)
      have HCS := Lib.hid (hp.cell k hlk)
      have hSk := hSm k hlk
      unfold maxLen at hSk
      by_cases h3 : 300 < (S k).size
      · go_wp2_with fail
        go_roundw
        case rel => exact ⟨k + 1, g, out, s, by omega, by go_num, rfl, rfl, by omega, hsm, HR.out, hgW, hb⟩
        case measure => simp [intOf]; omega
      · obtain ⟨q, hq⟩ : ∃ q : Nat, min ((S k).size : Int) ((most : Int) - (s.size : Int)) = (q : Int) := ⟨min (S k).size (most - s.size), by omega⟩
        have hqS : q ≤ (S k).size := by omega
        have hqm : s.size + q ≤ most := by omega
        have hq0 : q = 0 → (S k).size = 0 ∨ s.size = most := by omega
        have HP := Lib.hid (fun w h => put_any r g most s (S k) q (by omega) hq w h)
        clear hq
        go_wp2_with fail
        refine (HP.out _ HR.out).mono ?_
        rintro e w2 ⟨rfl, g2, hR2, hK2, hg2⟩
        have hb2 := hb.trans (act_below hK2 hbW hgW hb.size)
        have hgW2 : W.heap.size ≤ g2 := by have := hb.size; omega
        have cS2 : w2.cell? ⟨b, off + k, none⟩ = some (.string (S k)) := kbelow hb2 hbl HCS.out
        have HR2 := Lib.hid hR2
        have hsz1 := size_extract (S k) 0 q hqS
        rw [Nat.sub_zero] at hsz1
        clear hR2 hK2 hg2 cS HP
        generalize S k = body at *
        have hszi : (out ++ s).size = out.size + s.size := ByteArray.size_append
        have hsz2 : (s ++ body.extract 0 q).size = s.size + q := by rw [ByteArray.size_append, hsz1]
        have hadd : ¬ 9223372036854775807 < out.size + s.size + q := by omega
        by_cases hkn : k < ln
        · have hbn : bn < W.heap.size := by omega
          have hpn := hn (by omega)
          subst hpn
          have hX2 := hX0 k hkn
          have cX2 : w2.cell? ⟨bn, offn + k, none⟩ = some (.int .u8 (X k)) := kbelow hb2 hbn (hX k hkn)
          obtain ⟨m, hm⟩ : ∃ m : Nat, max 0 (min (X k) ((s ++ body.extract 0 q).size : Int)) = (m : Int) := ⟨(max 0 (min (X k) ((s ++ body.extract 0 q).size : Int))).toNat, by omega⟩
          have hms : m ≤ (s ++ body.extract 0 q).size := by omega
          have HT := Lib.hid (fun w h => take_any r g2 most (s ++ body.extract 0 q) (X k) m hm w h)
          have HEQ := Lib.hid (turn_eq out s (body.extract 0 q) m hms)
          have hsz3 := size_extract (s ++ body.extract 0 q) 0 m hms
          rw [Nat.sub_zero] at hsz3
          have hsz4 := size_extract (s ++ body.extract 0 q) m _ (Nat.le_refl _)
          have HS4 := Lib.hid hsz4
          have hmq : m ≤ s.size + q := by omega
          have hadd2 : ¬ 9223372036854775807 < out.size + m := by omega
          clear hm hsz4
          by_cases hq1 : q = 0
          · have bq : ((q : Int) == 0) = true := by simp; omega
            have HQ0 := Lib.hid hq1
            rcases hq0 hq1 with hE | hE
            · have hE1 : body.toList = [] := by
                rw [ByteArray.toList_eq]
                exact List.eq_nil_of_length_eq_zero (by simpa using hE)
              have hE2 : body.toList.isEmpty = true := by rw [hE1]; rfl
              clear hq1 hq0 hE
              go_wp2_with fail
              refine (HT.out _ (by first | exact HR2.out | exact HR2.out.drewN _)).mono ?_
              rintro e w4 ⟨rfl, g4, hR4, hK4, hg4⟩
              have hb4 : Below W.heap.size W w4 := Below.trans (b := _) (by first | exact hb2 | exact bdrewN hb2 _) (act_below hK4 hbW hgW2 (by exact hb2.size))
              have hgW4 : W.heap.size ≤ g4 := by
                rcases hg4 with h | h
                · omega
                · exact Nat.le_trans hb2.size h
              have HR4 := Lib.hid hR4
              clear hR4 hK4 hg4
              go_wp2_with fail
              go_roundw
              case rel => exact ⟨k + 1, g4, out ++ (s ++ body.extract 0 q).extract 0 m, (s ++ body.extract 0 q).extract m (s ++ body.extract 0 q).size, by omega, by go_num, congrArg Value.string HEQ.out, rfl, by rw [ByteArray.size_append, hsz3, HS4.out, hsz2]; omega, by rw [HS4.out, hsz2]; omega, HR4.out, hgW4, hb4⟩
              case measure => simp [intOf]; omega
            · have hroom : decide ((0 : Int) < (most : Int) - ((s.size : Int) + (q : Int))) = false := by rw [decide_eq_false_iff_not]; omega
              have hroom2 : (most : Int) - ((s.size : Int) + (q : Int)) ≤ 0 := by omega
              clear hq1 hq0 hE
              go_wp2_with (go_at_call 10; refine (room_any r g2 most _ _ HR2.out).mono ?_; rintro e w3 ⟨rfl, n3, rfl⟩)
              all_goals
                refine (HT.out _ (by first | exact HR2.out | exact HR2.out.drewN _)).mono ?_
                rintro e w4 ⟨rfl, g4, hR4, hK4, hg4⟩
                have hb4 : Below W.heap.size W w4 := Below.trans (b := _) (by first | exact hb2 | exact bdrewN hb2 _) (act_below hK4 hbW hgW2 (by exact hb2.size))
                have hgW4 : W.heap.size ≤ g4 := by
                  rcases hg4 with h | h
                  · omega
                  · exact Nat.le_trans hb2.size h
                have HR4 := Lib.hid hR4
                clear hR4 hK4 hg4
                go_wp2_with fail
                go_roundw
                case rel => exact ⟨k + 1, g4, out ++ (s ++ body.extract 0 q).extract 0 m, (s ++ body.extract 0 q).extract m (s ++ body.extract 0 q).size, by omega, by go_num, congrArg Value.string HEQ.out, rfl, by rw [ByteArray.size_append, hsz3, HS4.out, hsz2]; omega, by rw [HS4.out, hsz2]; omega, HR4.out, hgW4, hb4⟩
                case measure => simp [intOf]; omega
          · have bq : ((q : Int) == 0) = false := by simp; omega
            clear hq1 hq0
            go_wp2_with fail
            refine (HT.out _ (by first | exact HR2.out | exact HR2.out.drewN _)).mono ?_
            rintro e w4 ⟨rfl, g4, hR4, hK4, hg4⟩
            have hb4 : Below W.heap.size W w4 := Below.trans (b := _) (by first | exact hb2 | exact bdrewN hb2 _) (act_below hK4 hbW hgW2 (by exact hb2.size))
            have hgW4 : W.heap.size ≤ g4 := by
              rcases hg4 with h | h
              · omega
              · exact Nat.le_trans hb2.size h
            have HR4 := Lib.hid hR4
            clear hR4 hK4 hg4
            go_wp2_with fail
            go_roundw
            case rel => exact ⟨k + 1, g4, out ++ (s ++ body.extract 0 q).extract 0 m, (s ++ body.extract 0 q).extract m (s ++ body.extract 0 q).size, by omega, by go_num, congrArg Value.string HEQ.out, rfl, by rw [ByteArray.size_append, hsz3, HS4.out, hsz2]; omega, by rw [HS4.out, hsz2]; omega, HR4.out, hgW4, hb4⟩
            case measure => simp [intOf]; omega
        · clear hn hnl hX hX0
          by_cases hq1 : q = 0
          · have bq : ((q : Int) == 0) = true := by simp; omega
            have HQ0 := Lib.hid hq1
            rcases hq0 hq1 with hE | hE
            · have hE1 : body.toList = [] := by
                rw [ByteArray.toList_eq]
                exact List.eq_nil_of_length_eq_zero (by simpa using hE)
              have hE2 : body.toList.isEmpty = true := by rw [hE1]; rfl
              clear hq1 hq0 hE
              go_wp2_with fail
              go_roundw
              case rel => exact ⟨k + 1, g2, out, s ++ body.extract 0 q, by omega, by go_num, congrArg Value.string (app_assoc _ _ _), rfl, by rw [hsz2]; omega, by rw [hsz2]; omega, (by first | exact HR2.out | exact HR2.out.drewN _), hgW2, (by first | exact hb2 | exact bdrewN hb2 _)⟩
              case measure => simp [intOf]; omega
            · have hroom : decide ((0 : Int) < (most : Int) - ((s.size : Int) + (q : Int))) = false := by rw [decide_eq_false_iff_not]; omega
              have hroom2 : (most : Int) - ((s.size : Int) + (q : Int)) ≤ 0 := by omega
              clear hq1 hq0 hE
              go_wp2_with (go_at_call 10; refine (room_any r g2 most _ _ HR2.out).mono ?_; rintro e w3 ⟨rfl, n3, rfl⟩)
              all_goals
                go_roundw
                case rel => exact ⟨k + 1, g2, out, s ++ body.extract 0 q, by omega, by go_num, congrArg Value.string (app_assoc _ _ _), rfl, by rw [hsz2]; omega, by rw [hsz2]; omega, (by first | exact HR2.out | exact HR2.out.drewN _), hgW2, (by first | exact hb2 | exact bdrewN hb2 _)⟩
                case measure => simp [intOf]; omega
          · have bq : ((q : Int) == 0) = false := by simp; omega
            clear hq1 hq0
            go_wp2_with fail
            go_roundw
            case rel => exact ⟨k + 1, g2, out, s ++ body.extract 0 q, by omega, by go_num, congrArg Value.string (app_assoc _ _ _), rfl, by rw [hsz2]; omega, by rw [hsz2]; omega, (by first | exact HR2.out | exact HR2.out.drewN _), hgW2, (by first | exact hb2 | exact bdrewN hb2 _)⟩
            case measure => simp [intOf]; omega
    · have hkl : k = len := by omega
      go_wp2_with fail
      refine (take_lit r g most s s ⟨#[]⟩ 1048576 s.size (by omega) (extract_all s) (bt_ext (by rw [size_extract _ _ _ (Nat.le_refl _)]; exact Nat.sub_self _) (fun p hp => by rw [size_extract _ _ _ (Nat.le_refl _), Nat.sub_self] at hp; omega)) _ HR.out).mono ?_
      rintro e w2 ⟨rfl, g2, hR2, hK2, hg2⟩
      have hb2 := hb.trans (act_below hK2 hbW hgW hb.size)
      have HR2 := Lib.hid hR2
      clear hR2 hK2 hg2
      have hadd : ¬ 9223372036854775807 < out.size + s.size := by omega
      go_wp2_with (first | (go_at_call 9; refine (len_any r g2 most _ _ HR2.out).mono ?_; rintro e w' ⟨rfl, rfl⟩) | (go_at_call 6; refine (awake_true _).mono ?_; rintro e w6 ⟨rfl, hb6⟩))
      go_ret
      exact ⟨rfl, hb2.trans (hb6.mono hb2.size)⟩

theorem order_many (room : Int) (p pn : Option Addr) (len cap ln cn : Nat) (hc : cap ≤ maxLen) (hlc : len ≤ cap) (c1 : 40 < len) (W : World) : Calls Try.prog 4 #[.int .u8 room, .slice p len cap, .slice pn ln cn] W (TruePost W) := by
  unfold maxLen at hc
  go_enter Try.func4, Try.ntmps4
  go_wp2_with (go_at_call 6; refine (awake_true _).mono ?_; rintro e w6 ⟨rfl, hb6⟩)
  go_ret
  exact ⟨rfl, hb6⟩
theorem open_strs {w : World} {p : Option Addr} {len b off : Nat} {V : Nat → Nat → Value} (ha : 0 < len → p = some ⟨b, off, none⟩) (hs : SL w b off len 1 V) (hv : ∀ i, i < len → IsS (V i 0)) :
    ∃ S : Nat → ByteArray, Strs w p len S b off ∧ ∀ i, i < len → (S i).size ≤ maxLen := by
  obtain ⟨S, h1, h2⟩ := hs.strs 0 (by omega) hv
  refine ⟨S, ⟨ha, fun h => ?_, fun i hi => ?_⟩, h2⟩
  · rcases hs.lt with h3 | h3
    · omega
    · exact h3
  · have := h1 i hi
    simpa using this
end Go.Proofs.Ythgbdlchjglmiaa
