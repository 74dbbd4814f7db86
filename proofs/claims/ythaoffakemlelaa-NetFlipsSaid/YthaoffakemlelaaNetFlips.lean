/- lightshiplaw31: NetFlips. -/
import Derived.Test.YthaoffakemlelaaNetPlays
namespace Go.Proofs.Ythaoffakemlelaa
open Go.ChangeShapes Go.WideShapes Go.ChangeAt Go.RowKit
set_option linter.unusedVariables false

def LS (S : Nat → ByteArray) (k : Nat) : List ByteArray := (List.range k).map S
theorem LS_len (S : Nat → ByteArray) (k : Nat) : (LS S k).length = k := by simp [LS]
theorem LS_succ (S : Nat → ByteArray) (k : Nat) : LS S k ++ [S k] = LS S (k + 1) := by simp [LS, List.range_succ]
theorem LS_bg (S : Nat → ByteArray) (n k : Nat) (h : k < n) : bg (LS S n) k = S k := by rw [bg_at _ _ (by rw [LS_len]; exact h)]; simp [LS]
theorem bg_set (L : List ByteArray) (k j : Nat) (x : ByteArray) (hk : k < L.length) : bg (L.set k x) j = if j = k then x else bg L j := by
  unfold bg
  simp only [List.getD, List.getElem?_set]
  by_cases h : k = j
  · subst h; simp [hk]
  · rw [if_neg h, if_neg (fun e => h e.symm)]
theorem atN_self (k n : Nat) (h : k < n) : atN (k : Int) n = k := by
  unfold atN
  rw [show max (k : Int) 0 = (k : Int) by omega, Int.toNat_natCast, Nat.mod_eq_of_lt h]
theorem flip_pos (s : ByteArray) (bit : Int) (h : s.size ≠ 0) : atN bit (8 * s.size) / 8 < s.size := by
  have := atN_lt bit (8 * s.size) (by omega)
  omega
theorem flipS_twice (s : ByteArray) (bit : Int) : flipS (flipS s bit) bit = s := by
  refine bt_ext (by rw [flipS_size, flipS_size]) fun p hp => ?_
  rw [flipS_size, flipS_size] at hp
  unfold flipS
  rw [sof_bt _ _ _ (by rw [sof_size]; exact hp), sof_size]
  unfold flipF
  rw [sof_bt _ _ _ hp]
  split
  · rw [UInt8.xor_assoc, UInt8.xor_self, UInt8.xor_zero]
  · rfl
theorem flipS_ne (s : ByteArray) (bit : Int) (h : s.size ≠ 0) : flipS s bit ≠ s := by
  intro e
  have h1 : bt (flipS s bit) (atN bit (8 * s.size) / 8) = bt s (atN bit (8 * s.size) / 8) := by rw [e]
  unfold flipS at h1
  rw [sof_bt _ _ _ (flip_pos s bit h)] at h1
  unfold flipF at h1
  rw [if_pos rfl] at h1
  have h2 : bt s (atN bit (8 * s.size) / 8) ^^^ (bt s (atN bit (8 * s.size) / 8) ^^^ UInt8.ofNat (2 ^ (atN bit (8 * s.size) % 8))) = bt s (atN bit (8 * s.size) / 8) ^^^ bt s (atN bit (8 * s.size) / 8) := by rw [h1]
  rw [← UInt8.xor_assoc, UInt8.xor_self, UInt8.zero_xor] at h2
  have h3 : ∀ m, m < 8 → UInt8.ofNat (2 ^ m) ≠ 0 := by decide
  exact h3 _ (Nat.mod_lt _ (by omega)) h2
theorem list_ne {s t : ByteArray} (h : s ≠ t) : (s.toList == t.toList) = false := by
  rw [beq_eq_false_iff_ne, ByteArray.toList_eq, ByteArray.toList_eq]
  intro e
  apply h
  obtain ⟨a⟩ := s
  obtain ⟨b⟩ := t
  congr 1
  exact Array.toList_inj.1 e
set_option maxRecDepth 100000 in
set_option maxHeartbeats 4000000 in
theorem flips_few (p : Option Addr) (len cap bl off : Nat) (S : Nat → ByteArray) (i bit : Int) (hl : len ≤ 30) (W : World) (hp : Strs W p len S bl off) (hSm : ∀ i, i < len → (S i).size ≤ maxLen) :
    Calls Try.prog 5 #[.slice p len cap, .int .i64 i, .int .i64 bit] W (TruePost W) := by
  go_enter Try.func5, Try.ntmps5
  go_wp2_with fail
  refine (nnew_good 64 (by omega) (by omega) _).mono ?_
  rintro e w1 ⟨rfl, hN0, hB0⟩
  go_wp2_with fail
  go_loopw [9] (fun iv wr => ∃ (k : Nat) (v : Value), k ≤ len ∧ iv = .int .i64 k ∧ NetAt wr W.heap.size v (LS S k) 64 ∧ Below W.heap.size W wr ∧ ∀ j, j < k → (S j).size ≤ 200) (fun iv _ => len - (intOf iv).toNat)
  case atStart => exact ⟨0, _, Nat.zero_le _, rfl, hN0, hB0, fun j hj => absurd hj (Nat.not_lt_zero _)⟩
  case round =>
    clear hN0 hB0
    obtain ⟨k, v, hk, rfl, hN, hb, hsm⟩ := hrel
    have HN := Lib.hid hN
    have HSM := Lib.hid hsm
    clear hN hsm
    by_cases hlk : k < len
    · have hpp := hp.at_ (by omega)
      subst hpp
      have hbl := hp.lt (by omega)
      have cS : wr.cell? ⟨bl, off + k, none⟩ = some (.string (S k)) := kbelow hb hbl (hp.cell k hlk)
      have hSk := hSm k hlk
      unfold maxLen at hSk
      by_cases h2 : 200 < (S k).size
      · go_wp2_with (go_at_call 6; refine (awake_true _).mono ?_; rintro e w6 ⟨rfl, hb6⟩)
        go_ret
        exact ⟨rfl, hb.trans (hb6.mono hb.size)⟩
      · have hll := LS_len S k
        have HP := Lib.hid (nput_lit W.heap.size v (LS S k) (LS S (k + 1)) 64 (S k) (by rw [hll]; omega) (LS_succ S k) wr HN.out)
        clear hll
        go_wp2_with fail
        refine HP.out.mono ?_
        rintro e w3 ⟨rfl, v3, hN3, hK3, hr3⟩
        have hb3 : Below W.heap.size W w3 := hb.trans (nact_below HN.out hK3 (Nat.le_refl _))
        have HN3 := Lib.hid hN3
        clear hN3 hK3 hr3 cS HP
        go_wp2_with fail
        go_roundw
        case rel => exact ⟨k + 1, v3, by omega, by go_num, HN3.out, hb3, fun j hj => by (rcases Nat.lt_or_ge j k with h | h); exact HSM.out j h; (obtain rfl : j = k := by omega); omega⟩
        case measure => simp [intOf]; omega
    · have hkl : k = len := by omega
      subst hkl
      have hll := LS_len S k
      clear hSm
      have q40 : decide ((k : Int) < (k : Int)) = false := by rw [decide_eq_false_iff_not]; omega
      by_cases h0 : k = 0
      · subst h0
        have HF := Lib.hid (fun w h => nflip_none W.heap.size v (LS S 0) 64 i bit hll w h)
        have HP := Lib.hid (fun w h => npeek_none W.heap.size v (LS S 0) 64 i hll w h)
        clear hll
        go_wp2_with (first | (go_at_call 13; refine (HF.out _ HN.out).mono ?_; rintro e w' ⟨rfl, rfl⟩) | (go_at_call 12; refine (HP.out _ HN.out).mono ?_; rintro e w' ⟨rfl, rfl⟩) | (go_at_call 6; refine (awake_true _).mono ?_; rintro e w6 ⟨rfl, hb6⟩))
        go_ret
        exact ⟨rfl, hb.trans (hb6.mono hb.size)⟩
      · have hpp := hp.at_ (by omega)
        subst hpp
        have hbl := hp.lt (by omega)
        have hq := atN_lt i k (by omega)
        have hbgq := LS_bg S k (atN i k) hq
        obtain ⟨q, hqq⟩ : ∃ q, q = atN i k := ⟨_, rfl⟩
        rw [← hqq] at hq hbgq
        have hsz := HSM.out q hq
        by_cases hz : (S q).size = 0
        · have hE : S q = ⟨#[]⟩ := bt_ext (by rw [hz]; rfl) (fun p hp => by omega)
          have HF := Lib.hid (fun w h => nflip_blank W.heap.size v (LS S k) 64 i bit (by rw [hll]; omega) (by rw [hll, ← hqq, hbgq, hz]) w h)
          have HP := Lib.hid (fun w h => npeek_lit W.heap.size v (LS S k) 64 i ⟨#[]⟩ (by rw [hll]; omega) (by rw [hll, ← hqq, hbgq, hE]) w h)
          clear hll hqq hbgq hE hz
          go_wp2_with (first | (go_at_call 13; refine (HF.out _ HN.out).mono ?_; rintro e w3 ⟨rfl, n3, rfl⟩) | (go_at_call 12; refine (HP.out _ (HN.out.drewN _)).mono ?_; rintro e w3 ⟨rfl, n4, rfl⟩) | (go_at_call 6; refine (awake_true _).mono ?_; rintro e w6 ⟨rfl, hb6⟩))
          go_ret
          have hb2 := bdrewN (bdrewN hb n3) n4
          exact ⟨rfl, Below.trans (b := _) (by first | exact hb2 | exact bdrewN hb _) (hb6.mono (by exact hb.size))⟩
        · obtain ⟨T, hT⟩ : ∃ T, T = flipS (S q) bit := ⟨_, rfl⟩
          have hTne : (T.toList == (S q).toList) = false := list_ne (by rw [hT]; exact flipS_ne _ _ hz)
          have hTT : flipS T bit = S q := by rw [hT]; exact flipS_twice _ _
          have hTs : T.size = (S q).size := by rw [hT]; exact flipS_size _ _
          obtain ⟨L2, hL2⟩ : ∃ L2, L2 = (LS S k).set q T := ⟨_, rfl⟩
          have hl2 : L2.length = k := by rw [hL2, List.length_set, hll]
          have hbg2 : ∀ j, bg L2 j = if j = q then T else bg (LS S k) j := fun j => by rw [hL2]; exact bg_set _ _ _ _ (by rw [hll]; exact hq)
          have hback : L2.set q (S q) = LS S k := by
            rw [hL2, List.set_set]
            apply List.ext_getElem?
            intro j
            rw [List.getElem?_set]
            split
            · rename_i h; subst h
              rw [if_pos (by rw [hll]; exact hq), ← hbgq, bg_at _ _ (by rw [hll]; exact hq)]; simp
            · rfl
          have HF1 := Lib.hid (fun w h => nflip_lit W.heap.size v (LS S k) L2 64 i bit (by rw [hll]; omega) (by rw [hll, ← hqq, hbgq]; exact hz) (by rw [hll, ← hqq, hbgq]; omega) (by rw [hll, ← hqq, hbgq, hL2, hT]) w h)
          have HF2 := Lib.hid (fun v w h => nflip_lit W.heap.size v L2 (LS S k) 64 i bit (by rw [hl2]; omega) (by rw [hl2, ← hqq, hbg2, if_pos rfl, hTs]; exact hz) (by rw [hl2, ← hqq, hbg2, if_pos rfl, hTs]; omega) (by rw [hl2, ← hqq, hbg2, if_pos rfl, hTT]; exact hback) w h)
          have HP2 := Lib.hid (fun j (hj : j < k) v w h => npeek_lit W.heap.size v L2 64 (j : Int) (if j = q then T else S j) (by rw [hl2]; omega) (by rw [hl2, atN_self j k hj, hbg2, LS_bg S k j hj]) w h)
          have HP3 := Lib.hid (fun j (hj : j < k) v w h => npeek_lit W.heap.size v (LS S k) 64 (j : Int) (S j) (by rw [hll]; omega) (by rw [hll, atN_self j k hj, LS_bg S k j hj]) w h)
          clear hll hqq hbgq hbg2 hback hTT hT hTs hL2 hl2
          go_wp2_with fail
          refine (HF1.out _ HN.out).mono ?_
          rintro e w3 ⟨rfl, v3, hN3, hK3, hr3⟩
          have hb3 : Below W.heap.size W w3 := hb.trans (nact_below HN.out hK3 (Nat.le_refl _))
          have HN3 := Lib.hid hN3
          clear hN3 hK3 hr3 HF1 HN hb
          go_wp2_with fail
          clear q40
          go_loopw [12, 13] (fun cv jv wr => ∃ (j c n : Nat), j ≤ k ∧ jv = .int .i64 j ∧ cv = .int .i64 c ∧ (c = if q < j then 1 else 0) ∧ wr = w3.drewN n) (fun _ jv _ => k - (intOf jv).toNat)
          case atStart => exact ⟨0, 0, 0, Nat.zero_le _, rfl, rfl, by simp, rfl⟩
          case round =>
            obtain ⟨j, c, n, hj, rfl, rfl, hc, rfl⟩ := hrel
            have HC := Lib.hid hc
            clear hc
            have hc1 : c ≤ 1 := by have := HC.out; split at this <;> omega
            by_cases hjk : j < k
            · have cS : w3.cell? ⟨bl, off + j, none⟩ = some (.string (S j)) := kbelow hb3 hbl (hp.cell j hjk)
              have HPj := Lib.hid (HP2.out j hjk v3 _ (HN3.out.drewN n))
              by_cases hjq : j = q
              · have HPj2 : Hid (Calls Try.prog 12 #[.pointer (some ⟨W.heap.size, 0, none⟩), .int .i64 (j : Int)] (w3.drewN n) (SomePost (w3.drewN n) T)) := Lib.hid (by
                  have := HPj.out
                  rw [if_pos hjq] at this; exact this)
                have hTj : (T.toList == (S j).toList) = false := by rw [hjq]; exact hTne
                have HJQ := Lib.hid hjq
                clear HPj hjq
                go_wp2_with (go_at_call 12; refine (HPj2.out).mono ?_; rintro e w4 ⟨rfl, nq, rfl⟩)
                go_roundw
                case rel => exact ⟨j + 1, c + 1, n + nq, by omega, by go_num, by go_num, by (have := HJQ.out; rw [HC.out, if_neg (by omega), if_pos (by omega)]), rfl⟩
                case measure => simp [intOf]; omega
              · have HPj2 : Hid (Calls Try.prog 12 #[.pointer (some ⟨W.heap.size, 0, none⟩), .int .i64 (j : Int)] (w3.drewN n) (SomePost (w3.drewN n) (S j))) := Lib.hid (by
                  have := HPj.out
                  rw [if_neg hjq] at this; exact this)
                clear HPj
                go_wp2_with (go_at_call 12; refine (HPj2.out).mono ?_; rintro e w4 ⟨rfl, nq, rfl⟩)
                go_roundw
                case rel => exact ⟨j + 1, c, n + nq, by omega, by go_num, rfl, by (rw [HC.out]; split <;> split <;> omega), rfl⟩
                case measure => simp [intOf]; omega
            · have hjk2 : j = k := by omega
              have hc2 : c = 1 := by rw [HC.out, if_pos (by omega)]
              have HN4 := Lib.hid (HN3.out.drewN n)
              have hb4 := bdrewN hb3 n
              clear HC HN3 hb3
              subst hc2
              subst hjk2
              have qjj : decide ((j : Int) < (j : Int)) = false := by rw [decide_eq_false_iff_not]; omega
              generalize w3.drewN n = w4 at *
              go_wp2_with fail
              refine (HF2.out v3 _ HN4.out).mono ?_
              rintro e w5 ⟨rfl, v5, hN5, hK5, hr5⟩
              have hb5 : Below W.heap.size W w5 := hb4.trans (nact_below HN4.out hK5 (Nat.le_refl _))
              have HN5 := Lib.hid hN5
              clear hN5 hK5 hr5 HF2 HN4 hb4 HP2
              go_wp2_with fail
              clear qjj
              go_loopw [16] (fun mv wr => ∃ (m n : Nat), m ≤ j ∧ mv = .int .i64 m ∧ wr = w5.drewN n) (fun mv _ => j - (intOf mv).toNat)
              case atStart => exact ⟨0, 0, Nat.zero_le _, rfl, rfl⟩
              case round =>
                obtain ⟨m, n, hm, rfl, rfl⟩ := hrel
                by_cases hmk : m < j
                · have cS : w5.cell? ⟨bl, off + m, none⟩ = some (.string (S m)) := kbelow hb5 hbl (hp.cell m hmk)
                  have HPm := Lib.hid (HP3.out m hmk v5 _ (HN5.out.drewN n))
                  go_wp2_with (go_at_call 12; refine (HPm.out).mono ?_; rintro e w4 ⟨rfl, nq, rfl⟩)
                  go_roundw
                  case rel => exact ⟨m + 1, n + nq, by omega, by go_num, rfl⟩
                  case measure => simp [intOf]; omega
                · have hmj : m = j := by omega
                  subst hmj
                  go_wp2_with (go_at_call 6; refine (awake_true _).mono ?_; rintro e w6 ⟨rfl, hb6⟩)
                  go_ret
                  exact ⟨rfl, Below.trans (b := _) (bdrewN hb5 n) (hb6.mono (by exact hb5.size))⟩
theorem flips_many (p : Option Addr) (len cap : Nat) (i bit : Int) (hc : cap ≤ maxLen) (hlc : len ≤ cap) (c1 : 30 < len) (W : World) : Calls Try.prog 5 #[.slice p len cap, .int .i64 i, .int .i64 bit] W (TruePost W) := by
  unfold maxLen at hc
  go_enter Try.func5, Try.ntmps5
  go_wp2_with (go_at_call 6; refine (awake_true _).mono ?_; rintro e w6 ⟨rfl, hb6⟩)
  go_ret
  exact ⟨rfl, hb6⟩
theorem open_strs {w : World} {p : Option Addr} {len b off : Nat} {V : Nat → Nat → Value} (ha : 0 < len → p = some ⟨b, off, none⟩) (hs : SL w b off len 1 V) (hv : ∀ i, i < len → IsS (V i 0)) :
    ∃ S : Nat → ByteArray, Strs w p len S b off ∧ ∀ i, i < len → (S i).size ≤ maxLen := by
  obtain ⟨S, h1, h2⟩ := hs.strs 0 (by omega) hv
  refine ⟨S, ⟨ha, fun h => ?_, fun i hi => ?_⟩, h2⟩
  · rcases hs.lt with h3 | h3
    · omega
    · exact h3
  · have := h1 i hi
    simpa using this
end Go.Proofs.Ythaoffakemlelaa
