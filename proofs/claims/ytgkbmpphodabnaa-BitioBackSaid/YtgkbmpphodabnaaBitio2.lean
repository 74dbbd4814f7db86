/- Contracts of package bitio: Put, Bytes, Len, New; the reader. -/
import Derived.Test.YtgkbmpphodabnaaBitio
namespace Go.Proofs.Ytgkbmpphodabnaa
open Go.ChangeShapes Go.WideShapes Go.ChangeAt Go.RowKit
set_option linter.unusedVariables false

theorem bad_any (bits : Int) (w : World) : Calls Try.prog 17 #[.int .i64 bits] w fun e w' => e = .returned (.bool (decide (bits < 1 ∨ 64 < bits))) ∧ w = w' := by
  by_cases h : bits < 1
  all_goals
    go_enter Try.func17, Try.ntmps17
    go_wp2
    go_ret
    exact ⟨ret_bool (by rw [Bool.eq_iff_iff]; simp; omega), rfl⟩
theorem bitarg (n k : Nat) : Go.bits .and .u8 ((n : Int) / 2 ^ k % 256) 1 = bitI (n.testBit k) := by
  have e : (n : Int) / 2 ^ k % 256 = ((n / 2 ^ k % 256 : Nat) : Int) := by simp
  rw [e]
  have h := u8_and_nat (n / 2 ^ k % 256) 1 (Nat.mod_lt _ (by omega)) (by omega)
  have h1 : Go.bits .and .u8 ((n / 2 ^ k % 256 : Nat) : Int) 1 = ((n / 2 ^ k % 256 &&& 1 : Nat) : Int) := h
  rw [h1, Nat.and_one_is_mod, Nat.testBit_eq_decide_div_mod_eq, bitI]
  have h2 : n / 2 ^ k % 256 % 2 = n / 2 ^ k % 2 := by omega
  rw [h2]
  by_cases h3 : n / 2 ^ k % 2 = 1
  · simp [h3]
  · have : n / 2 ^ k % 2 = 0 := by omega
    simp [this]
/-- a number's bits, the highest first -/
def bitsOf (n bits : Nat) : List Bool := (List.range bits).map fun i => n.testBit (bits - 1 - i)
theorem bitsOf_len (n bits : Nat) : (bitsOf n bits).length = bits := by simp [bitsOf]
theorem bitsOf_step (n bits i : Nat) (h : i < bits) : (bitsOf n bits).take (i + 1) = (bitsOf n bits).take i ++ [n.testBit (bits - 1 - i)] := by
  have hl : i < (bitsOf n bits).length := by rw [bitsOf_len]; exact h
  rw [List.take_succ_eq_append_getElem hl]
  congr 1
  simp [bitsOf]
def PutPost (W : World) (b : Nat) (v : Value) (L : List Bool) (r : Int) (e : Ending) (w' : World) : Prop :=
  e = .returned (.int .i64 r) ∧ ∃ v', IsW w' b v' L ∧ Kept (b :: rowOf v) W w' ∧ ∀ x ∈ rowOf v', x ∈ rowOf v ∨ W.heap.size ≤ x
set_option maxRecDepth 100000 in
set_option maxHeartbeats 4000000 in
theorem put_good (b : Nat) (v : Value) (L : List Bool) (n bits : Nat) (w : World) (h : IsW w b v L) (hL : L.length ≤ 1000000) (h1 : 1 ≤ bits) (h2 : bits ≤ 64) (hn : n < 2 ^ bits) :
    Calls Try.prog 10 #[.pointer (some ⟨b, 0, none⟩), .int .u64 (n : Int), .int .i64 (bits : Int)] w (PutPost w b v (L ++ bitsOf n bits) 0) := by
  have c1 := h.1.cell 1
  simp at c1
  have hbad : decide ((bits : Int) < 1 ∨ (64 : Int) < (bits : Int)) = false := by simp; omega
  have hn0 : 0 ≤ (n : Int) := by omega
  have H := Lib.hid h
  have HN := Lib.hid hn
  clear h hn
  by_cases hb : bits < 64
  · have hz : ((n : Int) / 2 ^ bits != 0) = false := by
      have : (n : Int) / 2 ^ bits = 0 := by
        have h3 := Nat.div_eq_of_lt HN.out
        have h4 : (n : Int) / ((2 ^ bits : Nat) : Int) = ((n / 2 ^ bits : Nat) : Int) := rfl
        rw [h3] at h4
        simpa using h4
      simp [this]
    go_enter Try.func10, Try.ntmps10
    go_wp2_with (go_at_call 17; refine (bad_any _ _).mono ?_; rintro e w' ⟨rfl, rfl⟩)
    clear c1 hz
    go_loopw [32] (fun iv wr => ∃ (i : Nat) (v' : Value), i ≤ bits ∧ iv = .int .i64 i ∧ IsW wr b v' (L ++ (bitsOf n bits).take i) ∧ Kept (b :: rowOf v) w wr ∧ ∀ x ∈ rowOf v', x ∈ rowOf v ∨ w.heap.size ≤ x) (fun iv _ => bits - (intOf iv).toNat)
    case atStart => exact ⟨0, v, Nat.zero_le _, rfl, by simpa using H.out, Kept.refl _ _, fun x hx => .inl hx⟩
    case round =>
      obtain ⟨i, v', hi, rfl, hW, hK, hr⟩ := hrel
      by_cases hlt : i < bits
      · have HW := Lib.hid hW
        clear hW
        have q1 : IntKind.i64.wrap ((bits : Int) - 1) = (bits : Int) - 1 := IntWalk.i64_in _ (by omega)
        have q2 : IntKind.i64.wrap ((bits : Int) - 1 - (i : Int)) = (bits : Int) - 1 - (i : Int) := IntWalk.i64_in _ (by omega)
        go_wp2_with fail
        rw [bitarg]
        refine (one_any b v' _ (n.testBit (bits - 1 - i)) _ HW.out (by simp [bitsOf_len]; omega)).mono ?_
        rintro e w1 ⟨rfl, v2, hW2, hK2, hr2⟩
        have HW2 := Lib.hid hW2
        clear hW2
        clear q1 q2
        go_wp2_with fail
        go_roundw
        case rel =>
          refine ⟨i + 1, v2, by omega, by go_num, ?_, hK.trans hK2 (fun x hx => ?_), fun x hx => ?_⟩
          · rw [bitsOf_step n bits i hlt, ← List.append_assoc]; exact HW2.out
          · rcases List.mem_cons.1 hx with h | h
            · left; rw [h]; simp
            · rcases hr x h with h3 | h3
              · left; exact List.mem_cons_of_mem _ h3
              · right; exact h3
          · rcases hr2 x hx with h3 | h3
            · exact hr x h3
            · right; have := hK.size; omega
        case measure => simp [intOf]; omega
      · have hie : i = bits := by omega
        have HW := Lib.hid hW
        clear hW
        go_wp2_with fail
        go_ret
        refine ⟨rfl, v', ?_, hK, hr⟩
        have := HW.out
        rw [hie, List.take_of_length_le (by rw [bitsOf_len]; exact Nat.le_refl _)] at this
        exact this
  · go_enter Try.func10, Try.ntmps10
    go_wp2_with (go_at_call 17; refine (bad_any _ _).mono ?_; rintro e w' ⟨rfl, rfl⟩)
    clear c1
    go_loopw [32] (fun iv wr => ∃ (i : Nat) (v' : Value), i ≤ bits ∧ iv = .int .i64 i ∧ IsW wr b v' (L ++ (bitsOf n bits).take i) ∧ Kept (b :: rowOf v) w wr ∧ ∀ x ∈ rowOf v', x ∈ rowOf v ∨ w.heap.size ≤ x) (fun iv _ => bits - (intOf iv).toNat)
    case atStart => exact ⟨0, v, Nat.zero_le _, rfl, by simpa using H.out, Kept.refl _ _, fun x hx => .inl hx⟩
    case round =>
      obtain ⟨i, v', hi, rfl, hW, hK, hr⟩ := hrel
      by_cases hlt : i < bits
      · have HW := Lib.hid hW
        clear hW
        have q1 : IntKind.i64.wrap ((bits : Int) - 1) = (bits : Int) - 1 := IntWalk.i64_in _ (by omega)
        have q2 : IntKind.i64.wrap ((bits : Int) - 1 - (i : Int)) = (bits : Int) - 1 - (i : Int) := IntWalk.i64_in _ (by omega)
        go_wp2_with fail
        rw [bitarg]
        refine (one_any b v' _ (n.testBit (bits - 1 - i)) _ HW.out (by simp [bitsOf_len]; omega)).mono ?_
        rintro e w1 ⟨rfl, v2, hW2, hK2, hr2⟩
        have HW2 := Lib.hid hW2
        clear hW2
        clear q1 q2
        go_wp2_with fail
        go_roundw
        case rel =>
          refine ⟨i + 1, v2, by omega, by go_num, ?_, hK.trans hK2 (fun x hx => ?_), fun x hx => ?_⟩
          · rw [bitsOf_step n bits i hlt, ← List.append_assoc]; exact HW2.out
          · rcases List.mem_cons.1 hx with h | h
            · left; rw [h]; simp
            · rcases hr x h with h3 | h3
              · left; exact List.mem_cons_of_mem _ h3
              · right; exact h3
          · rcases hr2 x hx with h3 | h3
            · exact hr x h3
            · right; have := hK.size; omega
        case measure => simp [intOf]; omega
      · have hie : i = bits := by omega
        have HW := Lib.hid hW
        clear hW
        go_wp2_with fail
        go_ret
        refine ⟨rfl, v', ?_, hK, hr⟩
        have := HW.out
        rw [hie, List.take_of_length_le (by rw [bitsOf_len]; exact Nat.le_refl _)] at this
        exact this
end Go.Proofs.Ytgkbmpphodabnaa
