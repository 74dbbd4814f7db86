/- Contracts: cookie.Sum, cmp.Compare, cmp.Or. -/
import Derived.Test.YtapokcjfhgbagaaApp
import Derived.Test.YtapokcjfhgbagaaOpen
import Derived.Outline
import Derived.Handy
import Derived.BigRegion
import Derived.BigQuiet
import Derived.Deep.QuietTactic
import Derived.Deep.RegionHeld3
import Derived.Laws.Cover1
import Derived.IntWalk
import Derived.WalkMore
namespace Go.Proofs.Ytapokcjfhgbagaa
open Go.ChangeShapes Go.WideShapes Go.ChangeAt Go.RowKit
set_option linter.unusedVariables false

theorem idx0 (a b c : ByteArray) (w : World) : (Instr.index 46 (.agg #[.string a, .string b, .string c]) (.int .i64 0)).run Try.prog w = .ok (.string a) w := by kernel_rfl
theorem idx1 (a b c : ByteArray) (w : World) : (Instr.index 46 (.agg #[.string a, .string b, .string c]) (.int .i64 1)).run Try.prog w = .ok (.string b) w := by kernel_rfl
theorem idx2 (a b c : ByteArray) (w : World) : (Instr.index 46 (.agg #[.string a, .string b, .string c]) (.int .i64 2)).run Try.prog w = .ok (.string c) w := by kernel_rfl
/-- one byte more in a sum -/
def sumStep (x : Int) (b : UInt8) : Int := IntKind.u64.wrap (bits .xor .u64 x (IntKind.u64.wrap (b.toNat : Int)) * 1099511628211)
def sumTo (x : Int) (l : ByteArray) : Nat → Int
  | 0 => x
  | k + 1 => if h : k < l.size then sumStep (sumTo x l k) l[k] else sumTo x l k
theorem sumTo_succ (x : Int) (l : ByteArray) (k : Nat) (h : k < l.size) : sumTo x l (k + 1) = sumStep (sumTo x l k) l[k] := by simp [sumTo, h]
def ksum (key s : ByteArray) : Int := sumTo (sumTo (sumTo 14695981039346656037 key key.size) ⟨#[0]⟩ 1) s s.size
set_option maxRecDepth 100000 in
theorem ksum_any (key s : ByteArray) (h1 : key.size ≤ maxLen) (h2 : s.size ≤ maxLen) (w : World) :
    Calls Try.prog 18 #[.string key, .string s] w fun e w' => e = .returned (.int .u64 (ksum key s)) ∧ w = w' := by
  unfold maxLen at h1 h2
  go_enter Try.func18, Try.ntmps18
  go_wp2_with fail
  go_loopw [5, 12] (fun xv iv wr => ∃ (i : Nat), iv = .int .i64 (i : Int) ∧ i ≤ 3 ∧ xv = .int .u64 (if i = 0 then 14695981039346656037 else if i = 1 then sumTo 14695981039346656037 key key.size else if i = 2 then sumTo (sumTo 14695981039346656037 key key.size) ⟨#[0]⟩ 1 else ksum key s) ∧ wr = w) (fun _ iv _ => 3 - (intOf iv).toNat)
  case atStart => exact ⟨0, rfl, by omega, rfl, rfl⟩
  case round =>
    obtain ⟨i, rfl, hi, rfl, rfl⟩ := hrel
    obtain rfl | rfl | rfl | rfl : i = 0 ∨ i = 1 ∨ i = 2 ∨ i = 3 := by omega
    · simp only [if_true]
      have ix := (idx0 key ⟨#[0]⟩ s)
      go_wp2_with fail
      obtain ⟨w0, hw0⟩ : ∃ w0, w0 = wr := ⟨_, rfl⟩
      go_loopw [5, 17] (fun xv iv wr => ∃ k : Nat, iv = .int .i64 (k : Int) ∧ k ≤ key.size ∧ xv = .int .u64 (sumTo 14695981039346656037 key k) ∧ wr = w0) (fun _ iv _ => key.size - (intOf iv).toNat)
      case atStart => exact ⟨0, rfl, by omega, rfl, hw0.symm⟩
      case round =>
        obtain ⟨k, rfl, hi, rfl, rfl⟩ := hrel
        by_cases hk : k < key.size
        · have hst := Lib.hid (sumTo_succ 14695981039346656037 key k hk)
          generalize sumTo 14695981039346656037 key k = y at *
          go_wp2_with fail
          refine ⟨⟨k + 1, by go_num, by omega, ?_, by first | exact hw0.symm | exact hw0 | rfl | trivial⟩, ?_⟩
          · rw [hst.out]; rfl
          · simp [intOf]; omega
        · obtain rfl : k = key.size := by omega
          go_wp2_with fail
          exact ⟨⟨1, by simp, by omega, by first | (simp; done) | simp [ksum], by first | exact hw0.symm | exact hw0 | rfl | trivial⟩, by simp [intOf]⟩
    · simp only [if_true, Nat.one_ne_zero, if_false]
      have ix := (idx1 key ⟨#[0]⟩ s)
      go_wp2_with fail
      obtain ⟨w0, hw0⟩ : ∃ w0, w0 = wr := ⟨_, rfl⟩
      go_loopw [5, 17] (fun xv iv wr => ∃ k : Nat, iv = .int .i64 (k : Int) ∧ k ≤ 1 ∧ xv = .int .u64 (sumTo (sumTo 14695981039346656037 key key.size) (⟨#[0]⟩ : ByteArray) k) ∧ wr = w0) (fun _ iv _ => 1 - (intOf iv).toNat)
      case atStart => exact ⟨0, rfl, by omega, rfl, hw0.symm⟩
      case round =>
        obtain ⟨k, rfl, hi, rfl, rfl⟩ := hrel
        by_cases hk : k < 1
        · have hst := Lib.hid (sumTo_succ (sumTo 14695981039346656037 key key.size) (⟨#[0]⟩ : ByteArray) k hk)
          generalize sumTo (sumTo 14695981039346656037 key key.size) (⟨#[0]⟩ : ByteArray) k = y at *
          go_wp2_with fail
          refine ⟨⟨k + 1, by go_num, by omega, ?_, by first | exact hw0.symm | exact hw0 | rfl | trivial⟩, ?_⟩
          · rw [hst.out]; rfl
          · simp [intOf]; omega
        · obtain rfl : k = 1 := by omega
          go_wp2_with fail
          exact ⟨⟨2, by simp, by omega, by first | (simp; done) | simp [ksum], by first | exact hw0.symm | exact hw0 | rfl | trivial⟩, by simp [intOf]⟩
    · simp only [if_true, show ¬ (2 = 0) by omega, show ¬ (2 = 1) by omega, if_false]
      have ix := (idx2 key ⟨#[0]⟩ s)
      go_wp2_with fail
      obtain ⟨w0, hw0⟩ : ∃ w0, w0 = wr := ⟨_, rfl⟩
      go_loopw [5, 17] (fun xv iv wr => ∃ k : Nat, iv = .int .i64 (k : Int) ∧ k ≤ s.size ∧ xv = .int .u64 (sumTo (sumTo (sumTo 14695981039346656037 key key.size) (⟨#[0]⟩ : ByteArray) 1) s k) ∧ wr = w0) (fun _ iv _ => s.size - (intOf iv).toNat)
      case atStart => exact ⟨0, rfl, by omega, rfl, hw0.symm⟩
      case round =>
        obtain ⟨k, rfl, hi, rfl, rfl⟩ := hrel
        by_cases hk : k < s.size
        · have hst := Lib.hid (sumTo_succ (sumTo (sumTo 14695981039346656037 key key.size) (⟨#[0]⟩ : ByteArray) 1) s k hk)
          generalize sumTo (sumTo (sumTo 14695981039346656037 key key.size) (⟨#[0]⟩ : ByteArray) 1) s k = y at *
          go_wp2_with fail
          refine ⟨⟨k + 1, by go_num, by omega, ?_, by first | exact hw0.symm | exact hw0 | rfl | trivial⟩, ?_⟩
          · rw [hst.out]; rfl
          · simp [intOf]; omega
        · obtain rfl : k = s.size := by omega
          go_wp2_with fail
          exact ⟨⟨3, by simp, by omega, by first | (simp; done) | simp [ksum], by first | exact hw0.symm | exact hw0 | rfl | trivial⟩, by simp [intOf]⟩
    · simp only [show ¬ (3 = 0) by omega, show ¬ (3 = 1) by omega, show ¬ (3 = 2) by omega, if_false]
      go_wp2_with fail
      go_ret
      exact ⟨rfl, rfl⟩
def tlt (a b : ByteArray) : Bool := Op.bytesLess a.toList b.toList
def cmpI (a b : Int) : Int := if a < b then -1 else if b < a then 1 else 0
def cmpS (a b : ByteArray) : Int := if tlt a b then -1 else if a = b then 0 else 1
theorem nan_u (x : Int) (w : World) : Calls Try.prog 24 #[.int .u64 x] w fun e w' => e = .returned (.bool false) ∧ w = w' := by
  have e : ((x : Int) != x) = false := by simp
  go_enter Try.func24, Try.ntmps24
  go_wp2_with fail
  go_ret
  exact ⟨rfl, rfl⟩
theorem nan_s (x : ByteArray) (w : World) : Calls Try.prog 25 #[.string x] w fun e w' => e = .returned (.bool false) ∧ w = w' := by
  go_enter Try.func25, Try.ntmps25
  go_wp2_with fail
  go_ret
  exact ⟨ret_bool (by simp), rfl⟩
theorem cmp_u (x y : Int) (w : World) : Calls Try.prog 21 #[.int .u64 x, .int .u64 y] w fun e w' => e = .returned (.int .i64 (cmpI x y)) ∧ w = w' := by
  unfold cmpI
  by_cases h1 : x < y
  · rw [if_pos h1]
    go_enter Try.func21, Try.ntmps21
    go_wp2_with (go_at_call 24; refine (nan_u _ _).mono ?_; rintro e w' ⟨rfl, rfl⟩)
    go_ret
    exact ⟨rfl, rfl⟩
  · rw [if_neg h1]
    by_cases h2 : y < x
    · rw [if_pos h2]
      go_enter Try.func21, Try.ntmps21
      go_wp2_with (go_at_call 24; refine (nan_u _ _).mono ?_; rintro e w' ⟨rfl, rfl⟩)
      go_ret
      exact ⟨rfl, rfl⟩
    · rw [if_neg h2]
      go_enter Try.func21, Try.ntmps21
      go_wp2_with (go_at_call 24; refine (nan_u _ _).mono ?_; rintro e w' ⟨rfl, rfl⟩)
      go_ret
      exact ⟨rfl, rfl⟩
theorem tlist_eq (a b : ByteArray) : (a.toList == b.toList) = decide (a = b) := by
  rw [Bool.eq_iff_iff, beq_iff_eq, decide_eq_true_iff, ByteArray.toList_eq, ByteArray.toList_eq]
  exact ⟨fun h => ByteArray.ext (Array.toList_inj.1 h), fun h => by rw [h]⟩
theorem cmp_s (x y : ByteArray) (w : World) : Calls Try.prog 22 #[.string x, .string y] w fun e w' => e = .returned (.int .i64 (cmpS x y)) ∧ w = w' := by
  unfold cmpS tlt
  cases h1 : Op.bytesLess x.toList y.toList with
  | true =>
    go_enter Try.func22, Try.ntmps22
    go_wp2_with (go_at_call 25; refine (nan_s _ _).mono ?_; rintro e w' ⟨rfl, rfl⟩)
    go_ret
    exact ⟨rfl, rfl⟩
  | false =>
    by_cases h2 : x = y
    · subst h2
      have e2 : (x.toList == x.toList) = true := by simp
      go_enter Try.func22, Try.ntmps22
      go_wp2_with (go_at_call 25; refine (nan_s _ _).mono ?_; rintro e w' ⟨rfl, rfl⟩)
      go_ret
      exact ⟨ret_int (by simp), rfl⟩
    · have e2 : (x.toList == y.toList) = false := by rw [tlist_eq, decide_eq_false h2]
      go_enter Try.func22, Try.ntmps22
      go_wp2_with (go_at_call 25; refine (nan_s _ _).mono ?_; rintro e w' ⟨rfl, rfl⟩)
      go_ret
      exact ⟨ret_int (by rfl), rfl⟩
def orI (a b : Int) : Int := if a ≠ 0 then a else b
theorem or_2 (g : Nat) (x y : Int) (T : TypeId) (w : World) (h : Blk w g #[.int .i64 x, .int .i64 y] T) : Calls Try.prog 20 #[.slice (some ⟨g, 0, none⟩) 2 2] w fun e w' => e = .returned (.int .i64 (orI x y)) ∧ w = w' := by
  have c0 := h.cell 0
  have c1 := h.cell 1
  simp at c0 c1
  unfold orI
  clear h
  by_cases h1 : x = 0
  · subst h1
    by_cases h2 : y = 0
    · subst h2
      go_enter Try.func20, Try.ntmps20
      go_wp2_with fail
      go_loopw [8] (fun iv wr => ∃ i : Nat, iv = .int .i64 (i : Int) ∧ i ≤ 2 ∧ wr = w) (fun iv _ => 2 - (intOf iv).toNat)
      case atStart => exact ⟨0, rfl, by omega, rfl⟩
      case round =>
        obtain ⟨i, rfl, hi, rfl⟩ := hrel
        obtain rfl | rfl | rfl : i = 0 ∨ i = 1 ∨ i = 2 := by omega
        · go_wp2_with fail
          exact ⟨⟨1, by simp, by omega, by first | rfl | trivial⟩, by simp [intOf]⟩
        · go_wp2_with fail
          exact ⟨⟨2, by simp, by omega, by first | rfl | trivial⟩, by simp [intOf]⟩
        · go_wp2_with fail
          go_ret
          exact ⟨rfl, rfl⟩
    · have e : (y != 0) = true := by simpa using h2
      go_enter Try.func20, Try.ntmps20
      go_wp2_with fail
      go_loopw [8] (fun iv wr => ∃ i : Nat, iv = .int .i64 (i : Int) ∧ i ≤ 1 ∧ wr = w) (fun iv _ => 2 - (intOf iv).toNat)
      case atStart => exact ⟨0, rfl, by omega, rfl⟩
      case round =>
        obtain ⟨i, rfl, hi, rfl⟩ := hrel
        obtain rfl | rfl : i = 0 ∨ i = 1 := by omega
        · go_wp2_with fail
          exact ⟨⟨1, by simp, by omega, by first | rfl | trivial⟩, by simp [intOf]⟩
        · go_wp2_with fail
          go_ret
          exact ⟨ret_int (by simp), rfl⟩
  · have e : (x != 0) = true := by simpa using h1
    go_enter Try.func20, Try.ntmps20
    go_wp2_with fail
    go_loopw [8] (fun iv wr => iv = .int .i64 0 ∧ wr = w) (fun iv _ => 0)
    case atStart => exact ⟨rfl, rfl⟩
    case round =>
      obtain ⟨rfl, rfl⟩ := hrel
      go_wp2_with fail
      go_ret
      exact ⟨ret_int (by rfl), rfl⟩
def cmpK (key a b : ByteArray) : Int := orI (cmpI (ksum b key) (ksum a key)) (cmpS a b)
set_option maxRecDepth 100000 in
set_option maxHeartbeats 2000000 in
theorem bydollar (kb : Nat) (key a b : ByteArray) (h1 : key.size ≤ maxLen) (h2 : a.size ≤ maxLen) (h3 : b.size ≤ maxLen) (w : World) (hk : w.cell? ⟨kb, 0, none⟩ = some (.string key)) :
    Calls Try.prog 19 #[.string a, .string b, .pointer (some ⟨kb, 0, none⟩)] w fun e w' => e = .returned (.int .i64 (cmpK key a b)) ∧ Below w.heap.size w w' := by
  unfold cmpK
  go_enter Try.func19, Try.ntmps19
  go_wp2_with fail
  go_region_held3 (fun w' => w'.cell? ⟨kb, 0, none⟩ = some (.string key))    (repeat' (first | (with_reducible assumption) | refine ⟨?_, ?_⟩ | refine kset ?_ (by with_reducible assumption) | refine kalloc ?_ _ | refine kdrew ?_ | refine kdrewN ?_ _))    (first | (go_at_call 18; refine (ksum_any _ _ (by with_reducible assumption) (by with_reducible assumption) _).mono ?_; rintro e w' ⟨rfl, rfl⟩) | (go_at_call 21; refine (cmp_u _ _ _).mono ?_; rintro e w' ⟨rfl, rfl⟩) | (go_at_call 22; refine (cmp_s _ _ _).mono ?_; rintro e w' ⟨rfl, rfl⟩) | (go_at_call 20; refine (or_2 _ _ _ 3 _ (by exact Blk.drew (Blk.new _ _ _))).mono ?_; rintro e w' ⟨rfl, rfl⟩))
  go_wp2_with fail
  go_ret
  exact ⟨rfl, ((Below.refl _ _).alloc (Nat.le_refl _) _).drew⟩
end Go.Proofs.Ytapokcjfhgbagaa
