/- The walk of FifoOrder. -/
import Derived.Test.YtmlhbdmndbdegaaFifoLaw
namespace Go.Proofs.Ytmlhbdmndbdegaa
open Go.ChangeShapes Go.WideShapes Go.ChangeAt Go.RowKit
set_option linter.unusedVariables false

/-- a slice of strings that is read -/
structure StrsF (w : World) (p : Option Addr) (len : Nat) (S : Nat → ByteArray) (b off : Nat) : Prop where
  at_ : 0 < len → p = some ⟨b, off, none⟩
  lt : 0 < len → b < w.heap.size
  cell : ∀ i, i < len → w.cell? ⟨b, off + i, none⟩ = some (.string (S i))
theorem rd_zero {s t : ByteArray} {n : Int} (h : rdK s t n = 0) : rdS s t n = s.extract t.size s.size ∧ s = t ++ s.extract t.size s.size ∧ t.size ≤ s.size := by
  have hp : isPre s t = true := by
    unfold rdK at h
    split at h
    · cases h
    · split at h
      · cases h
      · rename_i h2
        cases hp : isPre s t with
        | true => rfl
        | false => exact absurd (.inl hp) h2
  unfold isPre at hp
  simp at hp
  refine ⟨by unfold rdS; rw [if_pos h], ?_, hp.1⟩
  have h1 : s.extract 0 s.size = s.extract 0 t.size ++ s.extract t.size s.size := ByteArray.extract_eq_extract_append_extract t.size (by omega) hp.1
  rw [ByteArray.extract_zero_size, hp.2] at h1
  exact h1
theorem rd_not {s t : ByteArray} {n : Int} (h : rdK s t n ≠ 0) : rdS s t n = s := by unfold rdS; rw [if_neg h]
set_option maxRecDepth 100000 in
set_option maxHeartbeats 8000000 in
theorem order_few (p pn : Option Addr) (len cap b0 off ln cn bn offn : Nat) (S T : Nat → ByteArray) (hl : len ≤ 30) (hl2 : ln ≤ 30) (W : World) (hp : StrsF W p len S b0 off) (hq : StrsF W pn ln T bn offn) (hSm : ∀ i, i < len → (S i).size ≤ maxLen) (hTs : ∀ i, i < ln → (T i).size ≤ maxLen) :
    Calls Try.prog 3 #[.slice p len cap, .slice pn ln cn] W (TruePost W) := by
  obtain ⟨kl, hkl⟩ := fkey0
  have HKL := Lib.hid hkl
  clear hkl
  go_enter Try.func3, Try.ntmps3
  go_wp2_with fail
  refine (fnew kl _).mono ?_
  rintro e w1 ⟨b, bq, bb, rfl, hN, hB0⟩
  have hF0 := FS.new hN
  clear hN
  go_wp2_with fail
  go_loopw [6, 7, 8] (fun inv outv iv wr => ∃ (k : Nat) (out s : ByteArray), k ≤ 30 ∧ iv = .int .i64 k ∧ inv = .string (out ++ s) ∧ outv = .string out ∧ out.size + s.size ≤ k * 300 ∧ FS wr W.heap.size b bq bb kl s false ∧ Below W.heap.size W wr) (fun _ _ iv _ => 30 - (intOf iv).toNat)
  case atStart => exact ⟨0, ⟨#[]⟩, ⟨#[]⟩, by omega, rfl, rfl, rfl, Nat.le_refl _, hF0, hB0⟩
  case round =>
    obtain ⟨k, out, s, hk, rfl, rfl, rfl, hsz, hF, hb⟩ := hrel
    have HF := Lib.hid hF
    have HB := Lib.hid hb
    have hWr := hb.size
    clear hF hb
    have has : (out ++ s).size = out.size + s.size := ByteArray.size_append
    by_cases hgo : k < len ∨ k < ln
    · by_cases hwr : k < len ∧ (S k).size ≤ 300
      · obtain ⟨hkl, hS3⟩ := hwr
        have hpp := hp.at_ (by omega)
        subst hpp
        have hbl := hp.lt (by omega)
        have cS : wr.cell? ⟨b0, off + k, none⟩ = some (.string (S k)) := kbelow HB.out hbl (hp.cell k hkl)
        have HWR := Lib.hid (fun w h hB => fwrite_lit W.heap.size b bq bb 0 0 kl s (s ++ S k) (S k) ⟨#[]⟩ (S k).size (by omega) (Nat.le_refl _) (by omega) (by omega) (by rw [ByteArray.extract_zero_size]) HKL.out w h hB)
        have hCS := hp.cell k hkl
        have hsz5 : out.size + (s ++ S k).size ≤ (k + 1) * 300 := by rw [ByteArray.size_append]; omega
        generalize S k = body at *
        have HCS := Lib.hid hCS
        clear hCS
        have q4 : (0 : Int) ≤ (k : Int) := by omega
        have q5 : (k : Int) < (len : Int) := by omega
        have d300 : decide ((body.size : Int) ≤ 300) = true := by rw [decide_eq_true_iff]; omega
        have dk : decide ((k : Int) < (len : Int)) = true := by rw [decide_eq_true_iff]; omega
        have hadd1 : ¬ 9223372036854775807 < (out ++ s).size + body.size := by omega
        have hadd0 : ¬ 9223372036854775807 < out.size + s.size + body.size := by omega
        go_wp2_with fail
        go_region_held3 (fun w' => w'.cell? ⟨b0, off + k, none⟩ = some (.string body)) (repeat' (first | (with_reducible assumption) | refine kdrew ?_)) ((go_at_call 6; refine (HWR.out _ (HF.out.kept (Kept.refl [] _).drew) (by exact HB.out.size)).mono ?_; rintro e w5 ⟨rfl, hF5, hb5⟩; have hb15 := Below.trans (b := _) (by exact HB.out.drew) hb5; have cS2 := kbelow hb15 hbl HCS.out))
        have HF5 := Lib.hid hF5
        have HB5 := Lib.hid hb15
        clear hF5 hb5 hb15 HWR cS
        go_wp2_with fail
        -- region 12: a read
        by_cases hrd : k < ln ∧ (T k).size ≤ 300
        · obtain ⟨hkn, hT3⟩ := hrd
          have hpp := hq.at_ (by omega)
          subst hpp
          have hbl2 := hq.lt (by omega)
          have cT : w5.cell? ⟨bn, offn + k, none⟩ = some (.string (T k)) := kbelow HB5.out hbl2 (hq.cell k hkn)
          have HRD := Lib.hid (fun w h hB => fdo_read W.heap.size b bq bb 0 300 kl (s ++ body) ⟨#[]⟩ (T k) false ((T k).size : Int) (by omega) (by omega) HKL.out w h hB)
          have hz := Lib.hid (rd_zero (s := s ++ body) (t := T k) (n := 300))
          have hnz := Lib.hid (rd_not (s := s ++ body) (t := T k) (n := 300))
          have hTm := hTs k hkn
          unfold maxLen at hTm
          generalize hTk : T k = t at *
          have HTK := Lib.hid hTk
          clear hTk
          generalize rdK (s ++ body) t 300 = kk at *
          generalize hss : rdS (s ++ body) t 300 = s6 at *
          clear hss
          have q4 : (0 : Int) ≤ (k : Int) := by omega
          have q5 : (k : Int) < (ln : Int) := by omega
          have d300 : decide ((t.size : Int) ≤ 300) = true := by rw [decide_eq_true_iff]; omega
          have dk2 : decide ((k : Int) < (ln : Int)) = true := by rw [decide_eq_true_iff]; omega
          go_wp2_with fail
          go_region_held3 (fun w' => w'.cell? ⟨bn, offn + k, none⟩ = some (.string t)) (repeat' (first | (with_reducible assumption) | refine kdrew ?_)) ((go_at_call 6; refine (HRD.out _ (HF5.out.kept (Kept.refl [] _).drew) (by exact HB5.out.size)).mono ?_; rintro e w6 ⟨rfl, hF6, hb6⟩; have hb56 := Below.trans (b := _) (by exact HB5.out.drew) hb6; have cT2 : w6.cell? ⟨bn, offn + k, none⟩ = some (.string t) := kbelow hb56 hbl2 (by rw [← HTK.out]; exact hq.cell k hkn)))
          have HF6 := Lib.hid hF6
          have HB6 := Lib.hid hb56
          clear hF6 hb6 hb56 HRD cT
          by_cases hk0 : kk = 0
          · obtain ⟨z1, z2, z3⟩ := hz.out hk0
            have hsz6 : s6.size = (s ++ body).size - t.size := by rw [z1, ByteArray.size_extract]; omega
            rw [← z1] at z2
            have Z2 := Lib.hid z2
            subst hk0
            clear hz hnz z1 z2
            have hadd2 : ¬ 9223372036854775807 < out.size + t.size := by omega
            go_wp2_with fail
            go_roundw
            case rel => exact ⟨k + 1, out ++ t, s6, by omega, by go_num, congrArg Value.string (by rw [ByteArray.append_assoc, Z2.out, ByteArray.append_assoc]), rfl, by rw [ByteArray.size_append]; omega, HF6.out, HB6.out⟩
            case measure => simp [intOf]; omega
          · have z1 := hnz.out hk0
            have bk : (kk == 0) = false := by rw [beq_eq_false_iff_ne]; exact hk0
            have Z1 := Lib.hid z1
            clear hz hnz z1
            go_wp2_with fail
            go_roundw
            case rel => exact ⟨k + 1, out, s6, by omega, by go_num, congrArg Value.string (by rw [Z1.out] <;> first | rfl | exact ByteArray.append_assoc), rfl, by rw [Z1.out]; omega, HF6.out, HB6.out⟩
            case measure => simp [intOf]; omega
        · by_cases hkn : k < ln
          · have hT3 : decide (((T k).size : Int) ≤ 300) = false := by rw [decide_eq_false_iff_not]; omega
            have hpp := hq.at_ (by omega)
            subst hpp
            have hbl2 := hq.lt (by omega)
            have cT : w5.cell? ⟨bn, offn + k, none⟩ = some (.string (T k)) := kbelow HB5.out hbl2 (hq.cell k hkn)
            have q4 : (0 : Int) ≤ (k : Int) := by omega
            have q5 : (k : Int) < (ln : Int) := by omega
            have dk2 : decide ((k : Int) < (ln : Int)) = true := by rw [decide_eq_true_iff]; omega
            go_wp2_with fail
            go_quiet (fail)
            go_wp2_with fail
            go_roundw
            case rel => exact ⟨k + 1, out, s ++ body, by omega, by go_num, by first | rfl | exact congrArg Value.string ByteArray.append_assoc, rfl, by omega, HF5.out.kept ((Kept.refl [] _).drewN _), bdrewN HB5.out _⟩
            case measure => simp [intOf]; omega
          · try (exfalso; omega)
            all_goals
              have q5 : decide ((k : Int) < (ln : Int)) = false := by rw [decide_eq_false_iff_not]; omega
              go_wp2_with fail
              go_quiet (fail)
              go_wp2_with fail
              go_roundw
              case rel => exact ⟨k + 1, out, s ++ body, by omega, by go_num, by first | rfl | exact congrArg Value.string ByteArray.append_assoc, rfl, by omega, HF5.out.kept ((Kept.refl [] _).drewN _), bdrewN HB5.out _⟩
              case measure => simp [intOf]; omega
      · have hsz5 : out.size + s.size ≤ (k + 1) * 300 := by omega
        by_cases hkl : k < len
        · have d300 : decide (((S k).size : Int) ≤ 300) = false := by rw [decide_eq_false_iff_not]; omega
          have dk : decide ((k : Int) < (len : Int)) = true := by rw [decide_eq_true_iff]; omega
          have hpp := hp.at_ (by omega)
          subst hpp
          have hbl := hp.lt (by omega)
          have cS : wr.cell? ⟨b0, off + k, none⟩ = some (.string (S k)) := kbelow HB.out hbl (hp.cell k hkl)
          have q4 : (0 : Int) ≤ (k : Int) := by omega
          have q5 : (k : Int) < (len : Int) := by omega
          go_wp2_with fail
          go_quiet (fail)
          generalize hw5 : wr.drewN nq = w5
          have HF5 : Hid (FS w5 W.heap.size b bq bb kl s false) := Lib.hid (by rw [← hw5]; exact HF.out.kept ((Kept.refl [] _).drewN _))
          have HB5 : Hid (Below W.heap.size W w5) := Lib.hid (by rw [← hw5]; exact bdrewN HB.out _)
          clear hw5 cS
          go_wp2_with fail
          -- region 12: a read
          by_cases hrd : k < ln ∧ (T k).size ≤ 300
          · obtain ⟨hkn, hT3⟩ := hrd
            have hpp := hq.at_ (by omega)
            subst hpp
            have hbl2 := hq.lt (by omega)
            have cT : w5.cell? ⟨bn, offn + k, none⟩ = some (.string (T k)) := kbelow HB5.out hbl2 (hq.cell k hkn)
            have HRD := Lib.hid (fun w h hB => fdo_read W.heap.size b bq bb 0 300 kl (s) ⟨#[]⟩ (T k) false ((T k).size : Int) (by omega) (by omega) HKL.out w h hB)
            have hz := Lib.hid (rd_zero (s := s) (t := T k) (n := 300))
            have hnz := Lib.hid (rd_not (s := s) (t := T k) (n := 300))
            have hTm := hTs k hkn
            unfold maxLen at hTm
            generalize hTk : T k = t at *
            have HTK := Lib.hid hTk
            clear hTk
            generalize rdK (s) t 300 = kk at *
            generalize hss : rdS (s) t 300 = s6 at *
            clear hss
            have q4 : (0 : Int) ≤ (k : Int) := by omega
            have q5 : (k : Int) < (ln : Int) := by omega
            have d300 : decide ((t.size : Int) ≤ 300) = true := by rw [decide_eq_true_iff]; omega
            have dk2 : decide ((k : Int) < (ln : Int)) = true := by rw [decide_eq_true_iff]; omega
            go_wp2_with fail
            go_region_held3 (fun w' => w'.cell? ⟨bn, offn + k, none⟩ = some (.string t)) (repeat' (first | (with_reducible assumption) | refine kdrew ?_)) ((go_at_call 6; refine (HRD.out _ (HF5.out.kept (Kept.refl [] _).drew) (by exact HB5.out.size)).mono ?_; rintro e w6 ⟨rfl, hF6, hb6⟩; have hb56 := Below.trans (b := _) (by exact HB5.out.drew) hb6; have cT2 : w6.cell? ⟨bn, offn + k, none⟩ = some (.string t) := kbelow hb56 hbl2 (by rw [← HTK.out]; exact hq.cell k hkn)))
            have HF6 := Lib.hid hF6
            have HB6 := Lib.hid hb56
            clear hF6 hb6 hb56 HRD cT
            by_cases hk0 : kk = 0
            · obtain ⟨z1, z2, z3⟩ := hz.out hk0
              have hsz6 : s6.size = (s).size - t.size := by rw [z1, ByteArray.size_extract]; omega
              rw [← z1] at z2
              have Z2 := Lib.hid z2
              subst hk0
              clear hz hnz z1 z2
              have hadd2 : ¬ 9223372036854775807 < out.size + t.size := by omega
              go_wp2_with fail
              go_roundw
              case rel => exact ⟨k + 1, out ++ t, s6, by omega, by go_num, congrArg Value.string (by rw [Z2.out, ByteArray.append_assoc]), rfl, by rw [ByteArray.size_append]; omega, HF6.out, HB6.out⟩
              case measure => simp [intOf]; omega
            · have z1 := hnz.out hk0
              have bk : (kk == 0) = false := by rw [beq_eq_false_iff_ne]; exact hk0
              have Z1 := Lib.hid z1
              clear hz hnz z1
              go_wp2_with fail
              go_roundw
              case rel => exact ⟨k + 1, out, s6, by omega, by go_num, congrArg Value.string (by rw [Z1.out] <;> first | rfl | exact ByteArray.append_assoc), rfl, by rw [Z1.out]; omega, HF6.out, HB6.out⟩
              case measure => simp [intOf]; omega
          · by_cases hkn : k < ln
            · have hT3 : decide (((T k).size : Int) ≤ 300) = false := by rw [decide_eq_false_iff_not]; omega
              have hpp := hq.at_ (by omega)
              subst hpp
              have hbl2 := hq.lt (by omega)
              have cT : w5.cell? ⟨bn, offn + k, none⟩ = some (.string (T k)) := kbelow HB5.out hbl2 (hq.cell k hkn)
              have q4 : (0 : Int) ≤ (k : Int) := by omega
              have q5 : (k : Int) < (ln : Int) := by omega
              have dk2 : decide ((k : Int) < (ln : Int)) = true := by rw [decide_eq_true_iff]; omega
              go_wp2_with fail
              go_quiet (fail)
              go_wp2_with fail
              go_roundw
              case rel => exact ⟨k + 1, out, s, by omega, by go_num, by first | rfl | exact congrArg Value.string ByteArray.append_assoc, rfl, by omega, HF5.out.kept ((Kept.refl [] _).drewN _), bdrewN HB5.out _⟩
              case measure => simp [intOf]; omega
            · try (exfalso; omega)
              all_goals
                have q5 : decide ((k : Int) < (ln : Int)) = false := by rw [decide_eq_false_iff_not]; omega
                go_wp2_with fail
                go_quiet (fail)
                go_wp2_with fail
                go_roundw
                case rel => exact ⟨k + 1, out, s, by omega, by go_num, by first | rfl | exact congrArg Value.string ByteArray.append_assoc, rfl, by omega, HF5.out.kept ((Kept.refl [] _).drewN _), bdrewN HB5.out _⟩
                case measure => simp [intOf]; omega
        · have dk : decide ((k : Int) < (len : Int)) = false := by rw [decide_eq_false_iff_not]; omega
          have hkn0 : k < ln := by omega
          have dk3 : decide ((k : Int) < (ln : Int)) = true := by rw [decide_eq_true_iff]; omega
          go_wp2_with fail
          go_quiet (fail)
          generalize hw5 : wr.drewN nq = w5
          have HF5 : Hid (FS w5 W.heap.size b bq bb kl s false) := Lib.hid (by rw [← hw5]; exact HF.out.kept ((Kept.refl [] _).drewN _))
          have HB5 : Hid (Below W.heap.size W w5) := Lib.hid (by rw [← hw5]; exact bdrewN HB.out _)
          clear hw5
          go_wp2_with fail
          -- region 12: a read
          by_cases hrd : k < ln ∧ (T k).size ≤ 300
          · obtain ⟨hkn, hT3⟩ := hrd
            have hpp := hq.at_ (by omega)
            subst hpp
            have hbl2 := hq.lt (by omega)
            have cT : w5.cell? ⟨bn, offn + k, none⟩ = some (.string (T k)) := kbelow HB5.out hbl2 (hq.cell k hkn)
            have HRD := Lib.hid (fun w h hB => fdo_read W.heap.size b bq bb 0 300 kl (s) ⟨#[]⟩ (T k) false ((T k).size : Int) (by omega) (by omega) HKL.out w h hB)
            have hz := Lib.hid (rd_zero (s := s) (t := T k) (n := 300))
            have hnz := Lib.hid (rd_not (s := s) (t := T k) (n := 300))
            have hTm := hTs k hkn
            unfold maxLen at hTm
            generalize hTk : T k = t at *
            have HTK := Lib.hid hTk
            clear hTk
            generalize rdK (s) t 300 = kk at *
            generalize hss : rdS (s) t 300 = s6 at *
            clear hss
            have q4 : (0 : Int) ≤ (k : Int) := by omega
            have q5 : (k : Int) < (ln : Int) := by omega
            have d300 : decide ((t.size : Int) ≤ 300) = true := by rw [decide_eq_true_iff]; omega
            have dk2 : decide ((k : Int) < (ln : Int)) = true := by rw [decide_eq_true_iff]; omega
            go_wp2_with fail
            go_region_held3 (fun w' => w'.cell? ⟨bn, offn + k, none⟩ = some (.string t)) (repeat' (first | (with_reducible assumption) | refine kdrew ?_)) ((go_at_call 6; refine (HRD.out _ (HF5.out.kept (Kept.refl [] _).drew) (by exact HB5.out.size)).mono ?_; rintro e w6 ⟨rfl, hF6, hb6⟩; have hb56 := Below.trans (b := _) (by exact HB5.out.drew) hb6; have cT2 : w6.cell? ⟨bn, offn + k, none⟩ = some (.string t) := kbelow hb56 hbl2 (by rw [← HTK.out]; exact hq.cell k hkn)))
            have HF6 := Lib.hid hF6
            have HB6 := Lib.hid hb56
            clear hF6 hb6 hb56 HRD cT
            by_cases hk0 : kk = 0
            · obtain ⟨z1, z2, z3⟩ := hz.out hk0
              have hsz6 : s6.size = (s).size - t.size := by rw [z1, ByteArray.size_extract]; omega
              rw [← z1] at z2
              have Z2 := Lib.hid z2
              subst hk0
              clear hz hnz z1 z2
              have hadd2 : ¬ 9223372036854775807 < out.size + t.size := by omega
              go_wp2_with fail
              go_roundw
              case rel => exact ⟨k + 1, out ++ t, s6, by omega, by go_num, congrArg Value.string (by rw [Z2.out, ByteArray.append_assoc]), rfl, by rw [ByteArray.size_append]; omega, HF6.out, HB6.out⟩
              case measure => simp [intOf]; omega
            · have z1 := hnz.out hk0
              have bk : (kk == 0) = false := by rw [beq_eq_false_iff_ne]; exact hk0
              have Z1 := Lib.hid z1
              clear hz hnz z1
              go_wp2_with fail
              go_roundw
              case rel => exact ⟨k + 1, out, s6, by omega, by go_num, congrArg Value.string (by rw [Z1.out] <;> first | rfl | exact ByteArray.append_assoc), rfl, by rw [Z1.out]; omega, HF6.out, HB6.out⟩
              case measure => simp [intOf]; omega
          · by_cases hkn : k < ln
            · have hT3 : decide (((T k).size : Int) ≤ 300) = false := by rw [decide_eq_false_iff_not]; omega
              have hpp := hq.at_ (by omega)
              subst hpp
              have hbl2 := hq.lt (by omega)
              have cT : w5.cell? ⟨bn, offn + k, none⟩ = some (.string (T k)) := kbelow HB5.out hbl2 (hq.cell k hkn)
              have q4 : (0 : Int) ≤ (k : Int) := by omega
              have q5 : (k : Int) < (ln : Int) := by omega
              have dk2 : decide ((k : Int) < (ln : Int)) = true := by rw [decide_eq_true_iff]; omega
              go_wp2_with fail
              go_quiet (fail)
              go_wp2_with fail
              go_roundw
              case rel => exact ⟨k + 1, out, s, by omega, by go_num, by first | rfl | exact congrArg Value.string ByteArray.append_assoc, rfl, by omega, HF5.out.kept ((Kept.refl [] _).drewN _), bdrewN HB5.out _⟩
              case measure => simp [intOf]; omega
            · try (exfalso; omega)
              all_goals
                have q5 : decide ((k : Int) < (ln : Int)) = false := by rw [decide_eq_false_iff_not]; omega
                go_wp2_with fail
                go_quiet (fail)
                go_wp2_with fail
                go_roundw
                case rel => exact ⟨k + 1, out, s, by omega, by go_num, by first | rfl | exact congrArg Value.string ByteArray.append_assoc, rfl, by omega, HF5.out.kept ((Kept.refl [] _).drewN _), bdrewN HB5.out _⟩
                case measure => simp [intOf]; omega
    · have q5 : decide ((k : Int) < (ln : Int)) = false := by rw [decide_eq_false_iff_not]; omega
      have q6 : decide ((k : Int) < (len : Int)) = false := by rw [decide_eq_false_iff_not]; omega
      have hg1 : ¬ k < len := fun h => hgo (.inl h)
      have hg2 : ¬ k < ln := fun h => hgo (.inr h)
      have hg3 : len ≤ k := by omega
      have hg4 : ln ≤ k := by omega
      have hg5 : (len : Int) ≤ (k : Int) := by omega
      have hg6 : (ln : Int) ≤ (k : Int) := by omega
      have hex : (out ++ s).extract 0 out.size = out := ByteArray.extract_append_eq_left rfl
      generalize out ++ s = inn at *
      have hle : decide ((out.size : Int) ≤ (inn.size : Int)) = true := by rw [decide_eq_true_iff]; omega
      have hle2 : (out.size : Int) ≤ (inn.size : Int) := by omega
      have hfi : (inn.size : Int) - (out.size : Int) = (s.size : Int) := by omega
      have hr1 : -9223372036854775808 ≤ (s.size : Int) ∧ (s.size : Int) ≤ 9223372036854775807 := by omega
      clear hsz hgo has
      go_wp2_with (first | (go_at_call 7; refine (flen W.heap.size b bq bb 0 kl s false (by omega) HKL.out _ HF.out HB.out.size).mono ?_; rintro e w5 ⟨rfl, hF5, hb5⟩) | (go_at_call 4; refine (awake_true _).mono ?_; rintro e w6 ⟨rfl, hb6⟩))
      go_ret
      exact ⟨rfl, (HB.out.trans hb5).trans (hb6.mono (HB.out.trans hb5).size)⟩
end Go.Proofs.Ytmlhbdmndbdegaa
