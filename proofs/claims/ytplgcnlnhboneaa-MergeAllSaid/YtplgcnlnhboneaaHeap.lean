/- Contracts of package heap: less, New, Len. -/
import Derived.Test.YtplgcnlnhboneaaDue
import Derived.Test.YtplgcnlnhboneaaOwn
import Derived.Test.YtplgcnlnhboneaaApp
import Derived.Outline
import Derived.Handy
import Derived.BigRegion
import Derived.BigQuiet
import Derived.Deep.QuietTactic
import Derived.Deep.RegionHeld3
import Derived.Deep.RegionLaw
import Derived.IntWalk
namespace Go.Proofs.Ytplgcnlnhboneaa
open Go.ChangeShapes Go.WideShapes Go.ChangeAt Go.RowKit
set_option linter.unusedVariables false

def dc (d : Du) : List Value := [.int .i64 d.st, .int .u32 d.bl, .int .i64 d.at_]
def dv (d : Du) : Value := .agg #[.int .i64 d.st, .int .u32 d.bl, .int .i64 d.at_]
def dl (L : List Du) : List Value := L.flatMap dc
theorem dl_nil : dl [] = [] := rfl
theorem dl_cons (d : Du) (L : List Du) : dl (d :: L) = dc d ++ dl L := by simp [dl]
theorem dl_app (L M : List Du) : dl (L ++ M) = dl L ++ dl M := by simp [dl]
theorem dl_len (L : List Du) : (dl L).length = L.length * 3 := by
  induction L with
  | nil => rfl
  | cons d L ih => rw [dl_cons, List.length_append, ih]; simp [dc]; omega
theorem dl_get (L : List Du) (i j : Nat) (h : i < L.length) (hj : j < 3) : (dl L)[i * 3 + j]? = (dc (ga L i))[j]? := by
  induction L generalizing i with
  | nil => simp at h
  | cons d L ih =>
    rw [dl_cons]
    cases i with
    | zero =>
      rw [List.getElem?_append_left (by simp [dc]; omega), Nat.zero_mul, Nat.zero_add]; rfl
    | succ i =>
      rw [List.getElem?_append_right (by simp [dc]; omega), show (i + 1) * 3 + j - (dc d).length = i * 3 + j by simp [dc]; omega, ih i (by simpa using h)]
      rfl
theorem dl_take (L : List Du) (k : Nat) : (dl L).take (k * 3) = dl (L.take k) := by
  induction L generalizing k with
  | nil => simp [dl]
  | cons d L ih =>
    cases k with
    | zero => simp [dl]
    | succ k =>
      rw [dl_cons, List.take_succ_cons, dl_cons, ← ih k, List.take_append, List.take_of_length_le (by simp [dc]; omega)]
      congr 2
      simp [dc]; omega
theorem dl_drop (L : List Du) (k : Nat) : (dl L).drop (k * 3) = dl (L.drop k) := by
  induction L generalizing k with
  | nil => simp [dl]
  | cons d L ih =>
    cases k with
    | zero => simp
    | succ k =>
      rw [dl_cons, List.drop_succ_cons, ← ih k, List.drop_append, List.drop_of_length_le (by simp [dc]; omega), List.nil_append]
      congr 1
      simp [dc]; omega
theorem dl_one (L : List Du) : ∀ u ∈ dl L, u.oneCell' = true := by
  intro u hu
  simp only [dl, List.mem_flatMap] at hu
  obtain ⟨d, _, hd⟩ := hu
  simp [dc] at hd
  rcases hd with rfl | rfl | rfl <;> rfl
theorem d_info : (Try.prog.info? 30).map (fun i => (i.zero, i.size, i.bytes)) = some (some (.agg #[.int .i64 0, .int .u32 0, .int .i64 0]), 3, 24) := by kernel_rfl

/-- a heap in block b, its row v -/
structure HeapAt (w : World) (b : Nat) (v : Value) (L : List Du) : Prop where
  blk : Blk w b #[v, .func (.func 15) #[] #[]] 48
  own : w.ownsRow (b + 1) 30 3 v L.length (dl L)
  len : L.length ≤ 5000
theorem HeapAt.form {w : World} {b : Nat} {v : Value} {L : List Du} (h : HeapAt w b v L) : ∃ (p : Option Addr) (cap : Nat), v = .slice p L.length cap := by
  rcases h.own.2 with ⟨h1, h2⟩ | ⟨g, cap, cur, h1, _⟩
  · exact ⟨none, 0, by rw [h1, h2]⟩
  · exact ⟨_, _, h1⟩
theorem HeapAt.cells {w : World} {b : Nat} {v : Value} {L : List Du} (h : HeapAt w b v L) : w.cell? ⟨b, 0, none⟩ = some v ∧ w.cell? ⟨b, 1, none⟩ = some (.func (.func 15) #[] #[]) := ⟨h.blk.cell 0, h.blk.cell 1⟩
theorem HeapAt.kept {w w' : World} {b : Nat} {v : Value} {L : List Du} {r : List Nat} (h : HeapAt w b v L) (hk : Kept r w w') (h1 : b ∉ r) (h2 : ∀ x ∈ rowOf v, x ∉ r) : HeapAt w' b v L :=
  ⟨h.blk.kept hk h1, own_kept h.own hk h2, h.len⟩
theorem HeapAt.elem {w : World} {b g cap : Nat} {L : List Du} (h : HeapAt w b (.slice (some ⟨g, 0, none⟩) L.length cap) L) (i : Nat) (hi : i < L.length) :
    w.cell? ⟨g, i * 3, none⟩ = some (.int .i64 (ga L i).st) ∧ w.cell? ⟨g, i * 3 + 1, none⟩ = some (.int .u32 (ga L i).bl) ∧ w.cell? ⟨g, i * 3 + 2, none⟩ = some (.int .i64 (ga L i).at_) :=
  ⟨by rw [h.own.cellAt _ (by omega)]; exact dl_get L i 0 hi (by omega), by rw [h.own.cellAt _ (by omega)]; exact dl_get L i 1 hi (by omega), by rw [h.own.cellAt _ (by omega)]; exact dl_get L i 2 hi (by omega)⟩
def LessPost (W : World) (r : Bool) (e : Ending) (w' : World) : Prop := e = .returned (.bool r) ∧ Below W.heap.size W w'
theorem hless (x y : Du) (w : World) : Calls Try.prog 15 #[dv x, dv y] w (LessPost w (x.lt y)) := by
  obtain ⟨a, b, c⟩ := x
  obtain ⟨a', b', c'⟩ := y
  show Calls Try.prog 15 #[.agg #[.int .i64 a, .int .u32 b, .int .i64 c], .agg #[.int .i64 a', .int .u32 b', .int .i64 c']] w _
  by_cases h1 : c = c'
  · subst h1
    by_cases h2 : a = a'
    · subst h2
      have hr : Hid (Du.lt ⟨a, b, c⟩ ⟨a, b', c⟩ = decide (b < b')) := Lib.hid (by simp [Du.lt])
      go_enter Try.func15, Try.ntmps15
      go_wp2
      go_ret
      exact ⟨ret_bool hr.out.symm, by go_grown⟩
    · have q2 : (a != a') = true := by simp [h2]
      have hr : Hid (Du.lt ⟨a, b, c⟩ ⟨a', b', c⟩ = decide (a < a')) := Lib.hid (by simp [Du.lt, h2])
      go_enter Try.func15, Try.ntmps15
      go_wp2
      go_ret
      exact ⟨ret_bool hr.out.symm, by go_grown⟩
  · have q1 : (c != c') = true := by simp [h1]
    have hr : Hid (Du.lt ⟨a, b, c⟩ ⟨a', b', c'⟩ = decide (c < c')) := Lib.hid (by simp [Du.lt, h1])
    go_enter Try.func15, Try.ntmps15
    go_wp2
    go_ret
    exact ⟨ret_bool hr.out.symm, by go_grown⟩
theorem hnew (w : World) : Calls Try.prog 10 #[] w fun e w' => e = .returned (.pointer (some ⟨w.heap.size, 0, none⟩)) ∧ HeapAt w' w.heap.size (.slice none 0 0) [] ∧ Below w.heap.size w w' := by
  go_enter Try.func10, Try.ntmps10
  go_wp2
  go_ret
  exact ⟨rfl, ⟨Blk.new' rfl, World.ownsRow_nil _ _ _ _, by simp⟩, by go_grown⟩
theorem hlen_any (b : Nat) (v : Value) (L : List Du) (w : World) (h : HeapAt w b v L) : Calls Try.prog 17 #[.pointer (some ⟨b, 0, none⟩)] w fun e w' => e = .returned (.int .i64 (L.length : Int)) ∧ w = w' := by
  obtain ⟨p, cap, rfl⟩ := h.form
  obtain ⟨c0, c1⟩ := h.cells
  go_enter Try.func17, Try.ntmps17
  go_wp2
  go_ret
  exact ⟨rfl, rfl⟩
theorem hlen_nil (w : World) : Calls Try.prog 17 #[.pointer none] w fun e w' => e = .returned (.int .i64 0) ∧ w = w' := by
  go_enter Try.func17, Try.ntmps17
  go_wp2
  go_ret
  exact ⟨rfl, rfl⟩
end Go.Proofs.Ytplgcnlnhboneaa
