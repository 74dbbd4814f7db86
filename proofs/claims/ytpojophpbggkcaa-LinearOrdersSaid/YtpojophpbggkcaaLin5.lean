/- lightshiplaw35: few; the loops of LinearReal. -/
import Derived.Test.YtpojophpbggkcaaLin4
namespace Go.Proofs.Ytpojophpbggkcaa
open Go.ChangeShapes Go.WideShapes Go.ChangeAt Go.RowKit
set_option linter.unusedVariables false

theorem sorted_real {E : Nat → Ev} {n : Nat} {M : List Nat} (h : Sorted E n M) (hok : ∀ i, i < n → ¬ badE (E i)) (i k : Nat) (hk : k < i) (hi : i < n) : ¬ (E (gi M i)).fin < (E (gi M k)).beg := by
  have h1 := h.2.to k i hk (by rw [h.len]; exact hi)
  rw [elt_niff] at h1
  have h2 := hok _ (h.lt i hi)
  have h3 := hok _ (h.lt k (by omega))
  unfold badE at h2 h3
  unfold whenE at h1
  split at h1 <;> split at h1 <;> omega
def FewPost (W : World) (e : Ending) (w' : World) : Prop := ∃ r, e = .returned (.bool r) ∧ w' = W
/-- are the events few, and their texts short -/
def fewB (n : Nat) (E : Nat → Ev) : Prop := ∀ i, i < n → (E i).body.size ≤ 200 ∧ (E i).ab.size ≤ 200
theorem few_long (p : Option Addr) (n cap : Nat) (h : 20 < n) (hn : n ≤ maxLen) (w : World) : Calls Try.prog 4 #[.slice p n cap] w fun e w' => e = .returned (.bool false) ∧ w = w' := by
  unfold maxLen at hn
  go_enter Try.func4, Try.ntmps4
  go_wp2_with fail
  go_ret
  exact ⟨rfl, rfl⟩
set_option maxRecDepth 100000 in
set_option maxHeartbeats 4000000 in
theorem few_is (E : Nat → Ev) (p : Option Addr) (bl off n cap : Nat) (hn : n ≤ 20) (hb : ∀ i, i < n → (E i).body.size ≤ maxLen ∧ (E i).ab.size ≤ maxLen) (hp : 0 < n → p = some ⟨bl, off, none⟩) (w : World) (hes : ES w bl off n E) :
    Calls Try.prog 4 #[.slice p n cap] w (FewPost w) := by
  have HES := Lib.hid hes
  have HB := Lib.hid hb
  clear hes hb
  go_enter Try.func4, Try.ntmps4
  go_wp2_with fail
  go_loopw [3] (fun iv' wr => ∃ i : Nat, iv' = .int .i64 (i : Int) ∧ i ≤ n ∧ wr = w) (fun iv' _ => n - (intOf iv').toNat)
  case atStart => exact ⟨0, rfl, by omega, rfl⟩
  case round =>
    obtain ⟨i, rfl, hi, rfl⟩ := hrel
    by_cases hin : i < n
    · obtain rfl := hp (by omega)
      obtain ⟨a0, a1, a2, a3, a4, a5, a6, a7, a8, a9, a10⟩ := HES.out.ev i hin
      have hb1 := (HB.out i hin).1
      have hb2 := (HB.out i hin).2
      unfold maxLen at hb1 hb2
      generalize E i = x at *
      have q1 : (0 : Int) ≤ (i : Int) := by omega
      have q2 : (i : Int) < (n : Int) := by omega
      clear a0 a1 a2 a3 a4 a6 a8 a9 a10
      by_cases h1 : 200 < x.body.size
      · go_wp2_with fail
        go_ret
        exact ⟨false, rfl, rfl⟩
      · by_cases h2 : 200 < x.ab.size
        · go_wp2_with fail
          go_ret
          exact ⟨false, rfl, rfl⟩
        · go_wp2_with fail
          go_roundw
          case rel => exact ⟨i + 1, by go_num, by omega, by first | rfl | trivial⟩
          case measure => simp [intOf]; omega
    · obtain rfl : i = n := by omega
      go_wp2_with fail
      go_ret
      exact ⟨true, rfl, rfl⟩
def TruePost (W : World) (e : Ending) (w' : World) : Prop := e = .returned (.bool true) ∧ Below W.heap.size W w'
end Go.Proofs.Ytpojophpbggkcaa
