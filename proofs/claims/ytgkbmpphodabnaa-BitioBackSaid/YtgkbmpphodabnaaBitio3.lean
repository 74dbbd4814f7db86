/- Contracts of package bitio: the other ways of Put; Bytes, Len, New; the reader. -/
import Derived.Test.YtgkbmpphodabnaaBitio2
namespace Go.Proofs.Ytgkbmpphodabnaa
open Go.ChangeShapes Go.WideShapes Go.ChangeAt Go.RowKit
set_option linter.unusedVariables false

theorem put_arg (b : Nat) (n bits : Int) (w : World) (h : bits < 1 ∨ 64 < bits) :
    Calls Try.prog 10 #[.pointer (some ⟨b, 0, none⟩), .int .u64 n, .int .i64 bits] w fun e w' => e = .returned (.int .i64 1) ∧ w = w' := by
  have hbad : decide (bits < 1 ∨ 64 < bits) = true := by rw [decide_eq_true_eq]; exact h
  clear h
  go_enter Try.func10, Try.ntmps10
  go_wp2_with (go_at_call 17; refine (bad_any _ _).mono ?_; rintro e w' ⟨rfl, rfl⟩)
  go_ret
  exact ⟨rfl, rfl⟩
theorem put_range (b : Nat) (n bits : Nat) (w : World) (h1 : 1 ≤ bits) (h2 : bits < 64) (hn : 2 ^ bits ≤ n) :
    Calls Try.prog 10 #[.pointer (some ⟨b, 0, none⟩), .int .u64 (n : Int), .int .i64 (bits : Int)] w fun e w' => e = .returned (.int .i64 2) ∧ w = w' := by
  have hbad : decide ((bits : Int) < 1 ∨ (64 : Int) < (bits : Int)) = false := by simp; omega
  have hn0 : 0 ≤ (n : Int) := by omega
  have hz : ((n : Int) / 2 ^ bits != 0) = true := by
    have h3 : 0 < n / 2 ^ bits := Nat.div_pos hn (Nat.pow_pos (by omega))
    have h5 : (n : Int) / 2 ^ bits = ((n / 2 ^ bits : Nat) : Int) := by simp
    rw [h5]; simp; omega
  clear hn
  go_enter Try.func10, Try.ntmps10
  go_wp2_with (go_at_call 17; refine (bad_any _ _).mono ?_; rintro e w' ⟨rfl, rfl⟩)
  go_ret
  exact ⟨rfl, rfl⟩
theorem put_nil (n bits : Int) (w : World) :
    Calls Try.prog 10 #[.pointer none, .int .u64 n, .int .i64 bits] w fun e w' => e = .returned (.int .i64 17) ∧ w = w' := by
  go_enter Try.func10, Try.ntmps10
  go_wp2
  go_ret
  exact ⟨rfl, rfl⟩
theorem bytes_any (b : Nat) (v : Value) (L : List Bool) (w : World) (h : IsW w b v L) :
    Calls Try.prog 12 #[.pointer (some ⟨b, 0, none⟩)] w fun e w' => e = .returned (.string (ofL (bytesL L))) ∧ w = w' := by
  have c0 := h.1.cell 0
  simp at c0
  have hs := own_string h.2.1
  have H := Lib.hid h
  clear h
  go_enter Try.func12, Try.ntmps12
  go_wp2
  go_ret
  exact ⟨rfl, rfl⟩
theorem bytes_nil (w : World) : Calls Try.prog 12 #[.pointer none] w fun e w' => e = .returned (.string ⟨#[]⟩) ∧ w = w' := by
  go_enter Try.func12, Try.ntmps12
  go_wp2
  go_ret
  exact ⟨rfl, rfl⟩
theorem wlen_any (b : Nat) (v : Value) (L : List Bool) (w : World) (h : IsW w b v L) :
    Calls Try.prog 11 #[.pointer (some ⟨b, 0, none⟩)] w fun e w' => e = .returned (.int .i64 (L.length : Int)) ∧ w = w' := by
  have c1 := h.1.cell 1
  simp at c1
  go_enter Try.func11, Try.ntmps11
  go_wp2
  go_ret
  exact ⟨rfl, rfl⟩
theorem wlen_nil (w : World) : Calls Try.prog 11 #[.pointer none] w fun e w' => e = .returned (.int .i64 0) ∧ w = w' := by
  go_enter Try.func11, Try.ntmps11
  go_wp2
  go_ret
  exact ⟨rfl, rfl⟩
def NewPost (W : World) (e : Ending) (w' : World) : Prop := e = .returned (.pointer (some ⟨W.heap.size, 0, none⟩)) ∧ IsW w' W.heap.size (.slice none 0 0) [] ∧ Below W.heap.size W w'
theorem new_any (w : World) : Calls Try.prog 7 #[] w (NewPost w) := by
  go_enter Try.func7, Try.ntmps7
  go_wp2
  go_ret
  exact ⟨rfl, ⟨Blk.new _ _ _, World.ownsRow_nil _ _ _ _, by simp⟩, by go_grown⟩

/-- a reader in block b -/
def IsR (w : World) (b : Nat) (s : ByteArray) (at0 : Nat) : Prop := Blk w b #[.string s, .int .i64 (at0 : Int)] 50 ∧ at0 ≤ 8 * s.size ∧ s.size ≤ 1000000
def FromPost (W : World) (s : ByteArray) (e : Ending) (w' : World) : Prop := e = .returned (.pointer (some ⟨W.heap.size, 0, none⟩)) ∧ IsR w' W.heap.size s 0 ∧ Below W.heap.size W w'
theorem from_any (s : ByteArray) (hs : s.size ≤ 1000000) (w : World) : Calls Try.prog 14 #[.string s] w (FromPost w s) := by
  go_enter Try.func14, Try.ntmps14
  go_wp2
  go_ret
  exact ⟨rfl, ⟨Blk.new _ _ _, by omega, hs⟩, by go_grown⟩
def LeftPost (W : World) (n : Int) (e : Ending) (w' : World) : Prop := e = .returned (.int .i64 n) ∧ ∃ k, w' = W.drewN k
theorem left_any (b : Nat) (s : ByteArray) (at0 : Nat) (w : World) (h : IsR w b s at0) : Calls Try.prog 16 #[.pointer (some ⟨b, 0, none⟩)] w (LeftPost w (8 * (s.size : Int) - (at0 : Int))) := by
  have c0 := h.1.cell 0
  have c1 := h.1.cell 1
  simp at c0 c1
  have hs := h.2.2
  have ha := h.2.1
  have q1 : IntKind.i64.wrap (8 * (s.size : Int)) = 8 * (s.size : Int) := IntWalk.i64_in _ (by omega)
  have q2 : IntKind.i64.wrap (8 * (s.size : Int) - (at0 : Int)) = 8 * (s.size : Int) - (at0 : Int) := IntWalk.i64_in _ (by omega)
  go_enter Try.func16, Try.ntmps16
  go_wp2
  go_quiet (fail)
  go_wp2
  go_ret
  exact ⟨rfl, _, rfl⟩
theorem left_nil (w : World) : Calls Try.prog 16 #[.pointer none] w (LeftPost w 0) := by
  go_enter Try.func16, Try.ntmps16
  go_wp2
  go_ret
  exact ⟨rfl, 0, rfl⟩
theorem num_nil (bits : Int) (w : World) : Calls Try.prog 15 #[.pointer none, .int .i64 bits] w fun e w' => e = .returned (.tuple #[.int .u64 0, .int .i64 17]) ∧ w = w' := by
  go_enter Try.func15, Try.ntmps15
  go_wp2
  go_ret2
  exact ⟨rfl, rfl⟩
theorem num_arg (b : Nat) (bits : Int) (w : World) (h : bits < 1 ∨ 64 < bits) : Calls Try.prog 15 #[.pointer (some ⟨b, 0, none⟩), .int .i64 bits] w fun e w' => e = .returned (.tuple #[.int .u64 0, .int .i64 1]) ∧ w = w' := by
  have hbad : decide (bits < 1 ∨ 64 < bits) = true := by rw [decide_eq_true_eq]; exact h
  clear h
  go_enter Try.func15, Try.ntmps15
  go_wp2_with (go_at_call 17; refine (bad_any _ _).mono ?_; rintro e w' ⟨rfl, rfl⟩)
  go_ret2
  exact ⟨rfl, rfl⟩
def CutPost (W : World) (e : Ending) (w' : World) : Prop := e = .returned (.tuple #[.int .u64 0, .int .i64 4]) ∧ ∃ k, w' = W.drewN k
theorem num_cut (b : Nat) (s : ByteArray) (at0 : Nat) (bits : Int) (w : World) (h : IsR w b s at0) (h1 : 1 ≤ bits) (h2 : bits ≤ 64) (hc : 8 * (s.size : Int) - (at0 : Int) < bits) : Calls Try.prog 15 #[.pointer (some ⟨b, 0, none⟩), .int .i64 bits] w (CutPost w) := by
  have hbad : decide (bits < 1 ∨ 64 < bits) = false := by simp; omega
  have H := Lib.hid h
  clear h
  go_enter Try.func15, Try.ntmps15
  go_wp2_with (first | (go_at_call 17; refine (bad_any _ _).mono ?_; rintro e w' ⟨rfl, rfl⟩) | (go_at_call 16; refine (left_any b s at0 _ H.out).mono ?_; rintro e w' ⟨rfl, k, rfl⟩))
  go_ret2
  exact ⟨rfl, _, rfl⟩
/-- bit k of a text -/
def bitAt (s : ByteArray) (k : Nat) : Bool := (bt s (k / 8)).toNat.testBit (7 - k % 8)
/-- a number's first bits -/
def numOf (s : ByteArray) (at0 : Nat) : Nat → Nat
  | 0 => 0
  | i + 1 => numOf s at0 i * 2 + (bitAt s (at0 + i)).toNat
theorem numOf_lt (s : ByteArray) (at0 i : Nat) : numOf s at0 i < 2 ^ i := by
  induction i with
  | zero => simp [numOf]
  | succ i ih =>
    rw [numOf, Nat.pow_succ]
    have : (bitAt s (at0 + i)).toNat ≤ 1 := Bool.toNat_le _
    omega
theorem num_step (A y k : Nat) (hA : A < 9223372036854775808) (hy : y < 256) : Go.bits .or .u64 (IntKind.u64.wrap ((A : Int) * 2)) (IntKind.u64.wrap (Go.bits .and .u8 ((y : Int) / 2 ^ k) 1)) = ((A * 2 + (y.testBit k).toNat : Nat) : Int) := by
  have e1 : (y : Int) / 2 ^ k = ((y / 2 ^ k : Nat) : Int) := by simp
  have h1 := u8_and_nat (y / 2 ^ k) 1 (Nat.lt_of_le_of_lt (Nat.div_le_self _ _) hy) (by omega)
  have h1' : Go.bits .and .u8 ((y / 2 ^ k : Nat) : Int) 1 = ((y / 2 ^ k &&& 1 : Nat) : Int) := h1
  have hb : (y / 2 ^ k &&& 1) = (y.testBit k).toNat := by
    rw [Nat.and_one_is_mod, Nat.testBit_eq_decide_div_mod_eq]
    by_cases h3 : y / 2 ^ k % 2 = 1
    · simp [h3]
    · have : y / 2 ^ k % 2 = 0 := by omega
      simp [this]
  have hb1 : (y.testBit k).toNat ≤ 1 := Bool.toNat_le _
  rw [e1, h1', hb]
  generalize (y.testBit k).toNat = c at *
  have w1 : IntKind.u64.wrap ((A : Int) * 2) = ((A * 2 : Nat) : Int) := by rw [IntKind.wrap_u64]; omega
  have w2 : IntKind.u64.wrap (c : Int) = ((c : Nat) : Int) := by rw [IntKind.wrap_u64]; omega
  rw [w1, w2, u64_or_nat _ _ (by omega) (by omega)]
  congr 1
  have h5 := Nat.shiftLeft_add_eq_or_of_lt (a := A) (i := 1) (b := c) (by omega)
  rw [Nat.shiftLeft_eq] at h5
  simpa using h5.symm
def NumPost (W : World) (b : Nat) (s : ByteArray) (at0 bits : Nat) (e : Ending) (w' : World) : Prop :=
  e = .returned (.tuple #[.int .u64 (numOf s at0 bits : Int), .int .i64 0]) ∧ IsR w' b s (at0 + bits) ∧ W.grownBy w' (some b)
set_option maxRecDepth 100000 in
set_option maxHeartbeats 4000000 in
theorem num_good (b : Nat) (s : ByteArray) (at0 bits : Nat) (w : World) (h : IsR w b s at0) (h1 : 1 ≤ bits) (h2 : bits ≤ 64) (hc : at0 + bits ≤ 8 * s.size) : Calls Try.prog 15 #[.pointer (some ⟨b, 0, none⟩), .int .i64 (bits : Int)] w (NumPost w b s at0 bits) := by
  have hbad : decide ((bits : Int) < 1 ∨ (64 : Int) < (bits : Int)) = false := by simp; omega
  have hs := h.2.2
  have H := Lib.hid h
  clear h
  go_enter Try.func15, Try.ntmps15
  go_wp2_with (first | (go_at_call 17; refine (bad_any _ _).mono ?_; rintro e w' ⟨rfl, rfl⟩) | (go_at_call 16; refine (left_any b s at0 _ H.out).mono ?_; rintro e w' ⟨rfl, nq, rfl⟩))
  go_loopw [6, 19] (fun nv iv wr => ∃ i : Nat, i ≤ bits ∧ iv = .int .i64 i ∧ nv = .int .u64 (numOf s at0 i : Int) ∧ IsR wr b s (at0 + i) ∧ w.grownBy wr (some b)) (fun _ iv _ => bits - (intOf iv).toNat)
  case atStart => exact ⟨0, Nat.zero_le _, rfl, rfl, H.out, gdrewN (grefl _ _) _⟩
  case round =>
    obtain ⟨i, hi, rfl, rfl, hR, hG⟩ := hrel
    by_cases hlt : i < bits
    · have c0 := hR.1.cell 0
      have c1 := hR.1.cell 1
      have f1 := hR.1.free 1
      simp at c0 c1
      have hR' := Lib.hid hR
      clear hR
      have hk : (at0 + i) / 8 < s.size := by omega
      obtain ⟨k, hke⟩ : ∃ k, k = at0 + i := ⟨_, rfl⟩
      rw [← hke] at hk
      have hkI : (at0 : Int) + (i : Int) = (k : Int) := by omega
      rw [hkI] at c1
      obtain ⟨A, hA⟩ : ∃ A, numOf s at0 i = A := ⟨_, rfl⟩
      rw [hA]
      have hy : s[k / 8].toNat < 256 := UInt8.toNat_lt _
      have HA := Lib.hid hA
      have HK := Lib.hid hke
      clear hA hke hkI
      have p1 : (0 : Int) ≤ (k : Int) / 8 := by omega
      have p2 : (k : Int) / 8 < (s.size : Int) := by omega
      have p3 : IntKind.i64.wrap (7 - (k : Int) % 8) = 7 - (k : Int) % 8 := IntWalk.i64_in _ (by omega)
      go_wp2_with fail
      go_quiet (fail)
      go_wp2_with fail
      go_roundw
      case rel =>
        refine ⟨i + 1, by omega, by go_num, ?_, ?_, ?_⟩
        · have h3 : A < 9223372036854775808 := by
            have := numOf_lt s at0 i
            rw [HA.out] at this
            have h4 : 2 ^ i ≤ 2 ^ 63 := Nat.pow_le_pow_right (by omega) (by omega)
            exact Nat.lt_of_lt_of_le this h4
          rw [num_step A _ _ h3 hy, numOf, HA.out, bitAt, ← HK.out, bt_at _ _ hk]
        · refine ⟨?_, by omega, hR'.out.2.2⟩
          have h1 := hR'.out.1.set 1 (.int .i64 ((k : Int) + 1))
          have e : (#[Value.string s, Value.int .i64 ((at0 + i : Nat) : Int)].setIfInBounds 1 (.int .i64 ((k : Int) + 1))) = #[Value.string s, Value.int .i64 ((at0 + (i + 1) : Nat) : Int)] := by
            have := HK.out
            simp; omega
          rw [e] at h1
          exact h1
        · exact gset (gdrewN hG _) _ rfl _
      case measure => simp [intOf]; omega
    · have hie : i = bits := by omega
      subst hie
      have HR := Lib.hid hR
      clear hR
      go_wp2_with fail
      go_ret2
      exact ⟨rfl, HR.out, hG⟩
end Go.Proofs.Ytgkbmpphodabnaa
