/- Contracts of package credit: an edge behind a pointer. -/
import Derived.Test.YtppbkmnelkdgaaaSerial
import Derived.Test.YtppbkmnelkdgaaaMem
import Derived.Outline
import Derived.BigQuiet
import Derived.Deep.QuietTactic
namespace Go.Proofs.Ytppbkmnelkdgaaa
open Go.ChangeShapes Go.WideShapes Go.ChangeAt Go.RowKit
set_option linter.unusedVariables false

/-- so many are let -/
def letN (n : Int) : Bool := decide (0 ≤ n) && decide (n ≤ 65535)
theorem bad_any (n : Int) (w : World) : Calls Try.prog 11 #[.int .i64 n] w fun e w' => e = .returned (.bool (!letN n)) ∧ w = w' := by
  by_cases h1 : n < 0
  all_goals
    go_enter Try.func11, Try.ntmps11
    go_wp2
    go_ret
    exact ⟨ret_bool (by unfold letN; rw [Bool.eq_iff_iff]; simp; omega), rfl⟩

/-- an edge that stands at 'at', in block b -/
def IsEdge (w : World) (b : Nat) (x : Int) : Prop := Blk w b #[.int .u32 x] 41

theorem new_bad (base n : Int) (hn : letN n = false) (w : World) :
    Calls Try.prog 6 #[.int .u32 base, .int .i64 n] w fun e w' => e = .returned (.tuple #[.pointer none, .int .i64 1]) ∧ w = w' := by
  go_enter Try.func6, Try.ntmps6
  go_wp2_with (go_at_call 11; refine (bad_any n _).mono ?_; rintro e w' ⟨rfl, rfl⟩)
  go_ret2
  exact ⟨rfl, rfl⟩

def NewPost (W : World) (x : Int) (e : Ending) (w' : World) : Prop := e = .returned (.tuple #[.pointer (some ⟨W.heap.size, 0, none⟩), .int .i64 0]) ∧ IsEdge w' W.heap.size x ∧ W.grownBy w' none ∧ w'.heap.size = W.heap.size + 1
theorem new_good (base n : Int) (hb0 : 0 ≤ base) (hb1 : base < 4294967296) (hn : letN n = true) (w : World) :
    Calls Try.prog 6 #[.int .u32 base, .int .i64 n] w (NewPost w ((base + n) % 4294967296)) := by
  have hx : 0 ≤ n ∧ n ≤ 65535 := by simpa [letN] using hn
  go_enter Try.func6, Try.ntmps6
  go_wp2_with (go_at_call 11; refine (bad_any n _).mono ?_; rintro e w' ⟨rfl, rfl⟩)
  go_ret2
  exact ⟨rfl, Blk.new _ _ _, galloc (grefl _ _) _, by simp⟩

theorem at_any (b : Nat) (x : Int) (w : World) (he : IsEdge w b x) :
    Calls Try.prog 9 #[.pointer (some ⟨b, 0, none⟩)] w fun e w' => e = .returned (.int .u32 x) ∧ w = w' := by
  have h0 := he.cell 0
  simp at h0
  go_enter Try.func9, Try.ntmps9
  go_wp2
  go_ret
  exact ⟨rfl, rfl⟩

theorem lets_any (b : Nat) (x y : Int) (hb0 : 0 ≤ x) (hb1 : x < 4294967296) (hy0 : 0 ≤ y) (hy1 : y < 4294967296) (w : World) (he : IsEdge w b x) :
    Calls Try.prog 10 #[.pointer (some ⟨b, 0, none⟩), .int .u32 y] w fun e w' => e = .returned (.bool (lessB y x)) ∧ w = w' := by
  have h0 := he.cell 0
  simp at h0
  go_enter Try.func10, Try.ntmps10
  go_wp2_with (go_at_call 14; refine (serialLess y x hy0 hy1 hb0 hb1 _).mono ?_; rintro e w' ⟨rfl, rfl⟩)
  go_ret
  exact ⟨rfl, rfl⟩

/-- does so much let more? -/
def moreB (x base n : Int) : Bool := letN n && lessB x ((base + n) % 4294967296)
def GrantPost (W : World) (b : Nat) (x base n : Int) (e : Ending) (w' : World) : Prop :=
  e = .returned (.bool (moreB x base n)) ∧ IsEdge w' b (if moreB x base n then (base + n) % 4294967296 else x) ∧ W.grownBy w' (some b)
theorem grant_bad (b : Nat) (x base n : Int) (hn : letN n = false) (w : World) (he : IsEdge w b x) :
    Calls Try.prog 8 #[.pointer (some ⟨b, 0, none⟩), .int .u32 base, .int .i64 n] w (GrantPost w b x base n) := by
  have hm : moreB x base n = false := by simp [moreB, hn]
  have HM := Lib.hid hm
  clear hm
  go_enter Try.func8, Try.ntmps8
  go_wp2_with (go_at_call 11; refine (bad_any n _).mono ?_; rintro e w' ⟨rfl, rfl⟩)
  go_ret
  exact ⟨ret_bool HM.out.symm, by rw [HM.out]; exact he, grefl _ _⟩
theorem edge_neq (x y : Int) (w : World) : (binOp .neq 39 (.agg #[.int .u32 x]) (.agg #[.int .u32 y])).run Try.prog w = .ok (.bool (x != y)) w := by
  rw [run_neq_struct, run_equalIn_agg _ _ _ _ _ (by kernel_rfl) (by kernel_rfl), eqFields_eqF _ _ _ _ (by kernel_rfl)]
  have hf : ((Try.prog.fieldsOf 39).toList.map fun f => (f.type, f.offset)) = [(22, 0)] := by kernel_rfl
  rw [hf]
  have hp : ∀ (c : Value) (w : World), (part 22 #[c] 0).run Try.prog w = .ok c w := fun c w => by kernel_rfl
  have hu : Try.prog.underlying 22 = some (.int .u32) := by kernel_rfl
  simp [eqF, hp, run_equalIn_int _ _ _ _ _ _ _ hu]
  by_cases h : x = y <;> simp [h]
theorem edge_guard (x y : Int) (w : World) (p q : Operand) : (eqGuard .neq 39 p q (.agg #[.int .u32 x]) (.agg #[.int .u32 y])).run Try.prog w = .ok () w := by kernel_rfl
theorem grant_good (b : Nat) (x base n : Int) (hb0 : 0 ≤ x) (hb1 : x < 4294967296) (hc0 : 0 ≤ base) (hc1 : base < 4294967296) (hn : letN n = true) (w : World) (he : IsEdge w b x) :
    Calls Try.prog 8 #[.pointer (some ⟨b, 0, none⟩), .int .u32 base, .int .i64 n] w (GrantPost w b x base n) := by
  have hx : 0 ≤ n ∧ n ≤ 65535 := by simpa [letN] using hn
  have h0 := he.cell 0
  have f0 := he.free 0
  have hlt := he.lt
  simp at h0
  have q1 := edge_neq
  have q2 := edge_guard
  go_enter Try.func8, Try.ntmps8
  go_wp2_with (first | (go_at_call 11; refine (bad_any n _).mono ?_; rintro e w' ⟨rfl, rfl⟩) | (go_at_call 13; refine (serialMax _ _ (by omega) (by omega) (by omega) (by omega) _).mono ?_; rintro e w' ⟨rfl, rfl⟩))
  go_quiet (fail)
  go_wp2
  have hlb : lessB x ((base + n) % 4294967296) = moreB x base n := by simp [moreB, hn]
  have key : maxI x ((base + n) % 4294967296) = if moreB x base n then (base + n) % 4294967296 else x := by unfold maxI; rw [hlb]
  have kb : (maxI x ((base + n) % 4294967296) != x) = moreB x base n := by
    rw [key]
    cases hm : moreB x base n with
    | false => simp
    | true =>
      simp only [if_true, bne_iff_ne]
      intro e
      rw [← hlb, e] at hm
      simp [lessB, ahead] at hm
  go_ret
  refine ⟨ret_bool kb, ?_, ?_⟩
  · rw [← key]
    exact ((he.set 0 _).alloc _).drewN _
  · exact gdrewN (galloc (gset (grefl _ _) _ rfl _) _) _
theorem grant_any (b : Nat) (x base n : Int) (hb0 : 0 ≤ x) (hb1 : x < 4294967296) (hc0 : 0 ≤ base) (hc1 : base < 4294967296) (w : World) (he : IsEdge w b x) :
    Calls Try.prog 8 #[.pointer (some ⟨b, 0, none⟩), .int .u32 base, .int .i64 n] w (GrantPost w b x base n) := by
  cases hn : letN n with
  | false => exact grant_bad b x base n hn w he
  | true => exact grant_good b x base n hb0 hb1 hc0 hc1 hn w he
theorem grant_nil (base n : Int) (w : World) :
    Calls Try.prog 8 #[.pointer none, .int .u32 base, .int .i64 n] w fun e w' => e = .returned (.bool false) ∧ w = w' := by
  go_enter Try.func8, Try.ntmps8
  go_wp2
  go_ret
  exact ⟨rfl, rfl⟩
theorem lets_nil (x : Int) (w : World) :
    Calls Try.prog 10 #[.pointer none, .int .u32 x] w fun e w' => e = .returned (.bool false) ∧ w = w' := by
  go_enter Try.func10, Try.ntmps10
  go_wp2
  go_ret
  exact ⟨rfl, rfl⟩
theorem at_nil (w : World) :
    Calls Try.prog 9 #[.pointer none] w fun e w' => e = .returned (.int .u32 0) ∧ w = w' := by
  go_enter Try.func9, Try.ntmps9
  go_wp2
  go_ret
  exact ⟨rfl, rfl⟩
theorem moreB_bd (x base n : Int) (h0 : 0 ≤ x) (h1 : x < 4294967296) : 0 ≤ (if moreB x base n then (base + n) % 4294967296 else x) ∧ (if moreB x base n then (base + n) % 4294967296 else x) < 4294967296 := by
  split <;> omega
end Go.Proofs.Ytppbkmnelkdgaaa
