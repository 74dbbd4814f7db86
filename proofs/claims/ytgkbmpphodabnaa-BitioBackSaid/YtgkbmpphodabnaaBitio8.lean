/- The walk of BitioBack. -/
import Derived.Test.YtgkbmpphodabnaaBitio7
namespace Go.Proofs.Ytgkbmpphodabnaa
open Go.ChangeShapes Go.WideShapes Go.ChangeAt Go.RowKit
set_option linter.unusedVariables false

theorem byteOf_test (L : List Bool) (j m : Nat) (hm : m < 8) (n : Nat) : (byteOf L j n).testBit m = (decide (8 * j + (7 - m) < n) && L.getD (8 * j + (7 - m)) false) := by
  induction n with
  | zero => simp [byteOf]
  | succ n ih =>
    rw [byteOf]
    by_cases hc : n / 8 = j ∧ L.getD n false = true
    · rw [if_pos hc, Nat.testBit_or, ih, Nat.testBit_two_pow]
      by_cases he : n = 8 * j + (7 - m)
      · have e1 : 7 - n % 8 = m := by omega
        have h2 := hc.2
        rw [he] at h2
        have e2 : decide (8 * j + (7 - m) < n + 1) = true := by simp; omega
        rw [h2, e1, e2]; simp
      · have e1 : ¬ (7 - n % 8 = m) := by omega
        have e3 : decide (8 * j + (7 - m) < n + 1) = decide (8 * j + (7 - m) < n) := by rw [decide_eq_decide]; omega
        rw [e3]; simp [e1]
    · rw [if_neg hc, ih]
      by_cases he : n = 8 * j + (7 - m)
      · have h2 : L.getD (8 * j + (7 - m)) false = false := by
          rw [← he]
          cases h : L.getD n false with
          | false => rfl
          | true => exact absurd ⟨by omega, h⟩ hc
        rw [h2]; simp
      · have e3 : decide (8 * j + (7 - m) < n + 1) = decide (8 * j + (7 - m) < n) := by rw [decide_eq_decide]; omega
        rw [e3]
theorem bitAt_bytes (L : List Bool) (k : Nat) (h : k < L.length) : bitAt (ofL (bytesL L)) k = L.getD k false := by
  have hj : k / 8 < (bytesL L).length := by rw [bytesL_len]; omega
  have e : bt (ofL (bytesL L)) (k / 8) = UInt8.ofNat (byteOf L (k / 8) L.length) := by
    unfold bt
    rw [ofL_data, List.getD, List.getElem?_eq_getElem hj, bytesL_at]; rfl
  have e2 : (UInt8.ofNat (byteOf L (k / 8) L.length)).toNat = byteOf L (k / 8) L.length := by
    simp only [UInt8.toNat_ofNat']; exact Nat.mod_eq_of_lt (byteOf_lt _ _ _)
  rw [bitAt, e, e2, byteOf_test _ _ _ (by omega)]
  have e3 : 8 * (k / 8) + (7 - (7 - k % 8)) = k := by omega
  rw [e3]; simp [h]
theorem num_back (A C : List Bool) (n kb d : Nat) (hn : n < 2 ^ kb) (hd : d ≤ kb) : numOf (ofL (bytesL (A ++ bitsOf n kb ++ C))) A.length d = n / 2 ^ (kb - d) := by
  induction d with
  | zero => rw [numOf, Nat.sub_zero, Nat.div_eq_of_lt hn]
  | succ d ih =>
    rw [numOf, ih (by omega), bitAt_bytes _ _ (by simp [bitsOf_len]; omega)]
    have e : (A ++ bitsOf n kb ++ C).getD (A.length + d) false = n.testBit (kb - 1 - d) := by
      rw [List.getD, List.append_assoc, List.getElem?_append_right (by omega), List.getElem?_append_left (by rw [bitsOf_len]; omega), show A.length + d - A.length = d by omega]
      simp [bitsOf, show d < kb by omega]
    rw [e, Nat.testBit_eq_decide_div_mod_eq]
    have h1 : kb - d = (kb - 1 - d) + 1 := by omega
    have h2 : kb - (d + 1) = kb - 1 - d := by omega
    rw [h1, h2, Nat.pow_succ, ← Nat.div_div_eq_div_mul]
    generalize n / 2 ^ (kb - 1 - d) = m
    by_cases h3 : m % 2 = 1
    · simp [h3]; omega
    · have : m % 2 = 0 := by omega
      simp [this]; omega
theorem num_whole (A C : List Bool) (n kb : Nat) (hn : n < 2 ^ kb) : numOf (ofL (bytesL (A ++ bitsOf n kb ++ C))) A.length kb = n := by
  rw [num_back A C n kb kb hn (Nat.le_refl _), Nat.sub_self]; simp

/-- numbers that came in -/
def bitsP : List (Nat × Nat) → List Bool
  | [] => []
  | x :: P => bitsOf x.1 x.2 ++ bitsP P
theorem bitsP_app (P Q : List (Nat × Nat)) : bitsP (P ++ Q) = bitsP P ++ bitsP Q := by
  induction P with
  | nil => rfl
  | cons x P ih => simp [bitsP, ih]
def pv : List (Nat × Nat) → List Value
  | [] => []
  | x :: P => .int .u64 (x.1 : Int) :: .int .i64 (x.2 : Int) :: pv P
theorem pv_app (P Q : List (Nat × Nat)) : pv (P ++ Q) = pv P ++ pv Q := by
  induction P with
  | nil => rfl
  | cons x P ih => simp [pv, ih]
theorem pv_len (P : List (Nat × Nat)) : (pv P).length = P.length * 2 := by
  induction P with
  | nil => rfl
  | cons x P ih => simp [pv, ih]; omega
theorem pv_at (P : List (Nat × Nat)) (i : Nat) (h : i < P.length) : (pv P)[i * 2]? = some (.int .u64 (P[i].1 : Int)) ∧ (pv P)[i * 2 + 1]? = some (.int .i64 (P[i].2 : Int)) := by
  induction P generalizing i with
  | nil => simp at h
  | cons x P ih =>
    cases i with
    | zero => exact ⟨rfl, rfl⟩
    | succ i =>
      obtain ⟨h1, h2⟩ := ih i (by simpa using h)
      have e : (i + 1) * 2 = i * 2 + 2 := by omega
      rw [e]
      exact ⟨by simpa [pv] using h1, by simpa [pv] using h2⟩
theorem own_disjoint {w : World} {b1 b2 s1 s2 n1 n2 : Nat} {e1 e2 : TypeId} {v1 v2 : Value} {x1 x2 : List Value} (h1 : w.ownsRow b1 e1 s1 v1 n1 x1) (h2 : w.ownsRow b2 e2 s2 v2 n2 x2) (hne : e1 ≠ e2) : ∀ x ∈ rowOf v1, x ∉ rowOf v2 := by
  intro x hx hy
  rcases h1.2 with ⟨rfl, _⟩ | ⟨g, cap, cur, rfl, _, hh, _⟩
  · simp [rowOf, Value.ownBlock] at hx
  · rcases h2.2 with ⟨rfl, _⟩ | ⟨g', cap', cur', rfl, _, hh', _⟩
    · simp [rowOf, Value.ownBlock] at hy
    · simp [rowOf, Value.ownBlock] at hx hy
      subst hx; subst hy
      rw [hh] at hh'
      injection hh' with hh'
      injection hh' with _ ht
      exact hne ht
theorem part_info : (Try.prog.info? 29).map (fun i => (i.zero, i.size, i.bytes)) = some (some (.agg #[.int .u64 0, .int .i64 0]), 2, 16) := by kernel_rfl
def GoodP (P : List (Nat × Nat)) : Prop := ∀ x ∈ P, 1 ≤ x.2 ∧ x.2 ≤ 64 ∧ x.1 < 2 ^ x.2
theorem split_at (P : List (Nat × Nat)) (i : Nat) (h : i < P.length) : bitsP P = bitsP (P.take i) ++ bitsOf P[i].1 P[i].2 ++ bitsP (P.drop (i + 1)) := by
  have e : P = P.take i ++ P[i] :: P.drop (i + 1) := by rw [List.getElem_cons_drop, List.take_append_drop]
  conv => lhs; rw [e, bitsP_app]
  simp [bitsP]
theorem take_len (P : List (Nat × Nat)) (i : Nat) (h : i < P.length) : (bitsP (P.take (i + 1))).length = (bitsP (P.take i)).length + P[i].2 := by
  rw [List.take_succ_eq_append_getElem h, bitsP_app, List.length_append]
  simp [bitsP, bitsOf_len]
end Go.Proofs.Ytgkbmpphodabnaa
