/- Contract of parity.Groups; lightshiplaw44.awake; the walk of ParityGroups. -/
import Derived.Test.YtjhbahjomeflaaaParity2
import Derived.Deep.RegionHeld3
namespace Go.Proofs.Ytjhbahjomeflaaa
open Go.ChangeShapes Go.WideShapes Go.ChangeAt Go.RowKit
set_option linter.unusedVariables false

theorem pair_info : (Try.prog.info? 37).map (fun i => (i.zero, i.size, i.bytes)) = some (some (.agg #[.int .i64 0, .int .i64 0]), 2, 16) := by kernel_rfl
/-- the first k rows' bounds -/
def grpL (n size : Nat) : Nat → List Value
  | 0 => []
  | k + 1 => grpL n size k ++ [.int .i64 ((k * size : Nat) : Int), .int .i64 ((min n ((k + 1) * size) : Nat) : Int)]
theorem grpL_len (n size k : Nat) : (grpL n size k).length = k * 2 := by
  induction k with
  | zero => rfl
  | succ k ih => rw [grpL, List.length_append, ih]; simp; omega
theorem grpL_at (n size k i : Nat) (h : i < k) : (grpL n size k)[i * 2]? = some (.int .i64 ((i * size : Nat) : Int)) ∧ (grpL n size k)[i * 2 + 1]? = some (.int .i64 ((min n ((i + 1) * size) : Nat) : Int)) := by
  induction k with
  | zero => omega
  | succ k ih =>
    have hl := grpL_len n size k
    rcases Nat.lt_or_ge i k with h1 | h1
    · obtain ⟨e1, e2⟩ := ih h1
      rw [grpL, List.getElem?_append_left (by omega), List.getElem?_append_left (by omega)]
      exact ⟨e1, e2⟩
    · have : i = k := by omega
      subst this
      rw [grpL, List.getElem?_append_right (by omega), List.getElem?_append_right (by omega), hl, show i * 2 - i * 2 = 0 by omega, show i * 2 + 1 - i * 2 = 1 by omega]
      exact ⟨rfl, rfl⟩
def GrpPost (W : World) (n size : Nat) (e : Ending) (w' : World) : Prop :=
  ∃ (m : Nat) (v : Value), e = .returned (.tuple #[v, .int .i64 0]) ∧ n ≤ m * size ∧ (∀ i, i < m → i * size < n) ∧ w'.ownsRow W.heap.size 37 2 v m (grpL n size m) ∧ Below W.heap.size W w'
theorem groups_bad (n size : Int) (hb : n < 0 ∨ 65536 < n ∨ size < 1 ∨ 255 < size) (w : World) : Calls Try.prog 11 #[.int .i64 n, .int .i64 size] w fun e w' => e = .returned (.tuple #[.slice none 0 0, .int .i64 1]) ∧ w = w' := by
  by_cases h1 : n < 0
  all_goals by_cases h2 : 65536 < n
  all_goals by_cases h3 : size < 1
  all_goals by_cases h4 : 255 < size
  all_goals try (exfalso; omega)
  all_goals
    go_enter Try.func11, Try.ntmps11
    go_wp2
    go_ret2
    exact ⟨rfl, rfl⟩
set_option maxRecDepth 100000 in
set_option maxHeartbeats 2000000 in
theorem groups_good (n size : Nat) (h1 : n ≤ 65536) (h2 : 1 ≤ size) (h3 : size ≤ 255) (w : World) : Calls Try.prog 11 #[.int .i64 (n : Int), .int .i64 (size : Int)] w (GrpPost w n size) := by
  obtain ⟨i0, hi, hz0, hz1, hz2⟩ := info_parts pair_info
  go_enter Try.func11, Try.ntmps11
  go_wp2
  go_loopw [6, 7] (fun v iv wr => ∃ k fr : Nat, fr = k * size ∧ fr < n + size ∧ k ≤ fr ∧ iv = .int .i64 fr ∧ (∀ i, i < k → i * size < n) ∧ wr.ownsRow w.heap.size 37 2 v k (grpL n size k) ∧ Below w.heap.size w wr) (fun _ iv _ => n - (intOf iv).toNat)
  case atStart => exact ⟨0, 0, by simp, by omega, Nat.le_refl _, rfl, fun i hi => absurd hi (Nat.not_lt_zero _), World.ownsRow_nil _ _ _ _, Below.refl _ _⟩
  case round =>
    obtain ⟨k, fr, hfr, hfn, hkf, rfl, hall, hown, hbel⟩ := hrel
    have HF := Lib.hid hfr
    have HA := Lib.hid hall
    clear hfr hall
    by_cases hlt : fr < n
    ·
      go_wp2_with (at_builtin; refine wpList_append_own _ rfl _ _ 34 rfl w.heap.size 37 i0 _ 2 16 Try.underlying34 hi hz0 hz1 hz2 rfl (by decide) _ _ _ rfl (hown.alloc _) ⟨wr.heap.size, 0, none⟩ 1 1 [.int .i64 (fr : Int), .int .i64 (min (n : Int) ((fr : Int) + (size : Int)))] rfl rfl ?c1 ?c2 ?c3 ?c4 ?c5 ?_)
      case c1 =>
        intro j u hj
        match j, hj with
        | 0, hj => simp at hj; subst hj; simp [Addr.add]
        | 1, hj => simp at hj; subst hj; simp [Addr.add]
      case c2 => intro u hu; simp at hu; rcases hu with rfl | rfl <;> rfl
      case c3 => unfold maxLen; omega
      case c4 => omega
      case c5 => have := hbel.size; simp; omega
      intro v' w1 hown' hgrow _
      have hlo := hown.lt
      go_wp2
      go_roundw
      case rel =>
        refine ⟨k + 1, fr + size, by rw [HF.out, Nat.add_mul, Nat.one_mul], by omega, by omega, by go_num, fun i hi => ?_, ?_, (hbel.alloc hbel.size _).grown hgrow (by simp; have := hbel.size; omega) (fun k hk => (hlo k hk).1)⟩
        · rcases Nat.lt_or_ge i k with h | h
          · exact HA.out i h
          · obtain rfl : i = k := by omega
            rw [← HF.out]; exact hlt
        · rw [grpL, ← HF.out, Nat.add_mul, Nat.one_mul, ← HF.out]
          have e : (((min n (fr + size) : Nat) : Int)) = min (n : Int) ((fr : Int) + (size : Int)) := by omega
          rw [e]; exact hown'
      case measure => simp [intOf]; omega
    · go_wp2
      go_ret2
      exact ⟨k, _, rfl, by rw [← HF.out]; omega, HA.out, hown, hbel⟩
end Go.Proofs.Ytjhbahjomeflaaa
