/- A row of one-cell values, cell j holds V j. No function of the program in sight. -/
import Derived.Test.YtpojophpbggkcaaOwn
namespace Go.Proofs.Ytpojophpbggkcaa
open Go.ChangeShapes Go.WideShapes Go.ChangeAt Go.RowKit
set_option linter.unusedVariables false

def RowV (w : World) (g n : Nat) (V : Nat → Value) : Prop := g < w.heap.size ∧ ∀ j, j < n → w.cell? ⟨g, j, none⟩ = some (V j) ∧ w.frozen? ⟨g, j, none⟩ = false
theorem RowV.cell {w : World} {g n : Nat} {V : Nat → Value} (h : RowV w g n V) {j : Nat} (hj : j < n) : w.cell? ⟨g, j, none⟩ = some (V j) := (h.2 j hj).1
theorem RowV.free {w : World} {g n : Nat} {V : Nat → Value} (h : RowV w g n V) {j : Nat} (hj : j < n) : w.frozen? ⟨g, j, none⟩ = false := (h.2 j hj).2
theorem RowV.kept {w w' : World} {g n : Nat} {V : Nat → Value} {r : List Nat} (h : RowV w g n V) (hk : Kept r w w') (hg : g ∉ r) : RowV w' g n V := by
  have hb := hk.block g h.1 hg
  refine ⟨Nat.lt_of_lt_of_le h.1 hk.size, fun j hj => ⟨?_, ?_⟩⟩
  · rw [World.cell?_of_block (a := ⟨g, j, none⟩) hb]; exact h.cell hj
  · rw [World.frozen?_of_block (a := ⟨g, j, none⟩) hb]; exact h.free hj
theorem frozen_setV (w : World) (a b : Addr) (v : Value) : (w.setCell a v).frozen? b = w.frozen? b := by
  simp only [World.frozen?, World.setCell, Array.getElem?_modify]
  by_cases hb : a.block = b.block
  · rw [if_pos hb]
    cases h : w.heap[b.block]? with
    | none => simp
    | some o => cases o <;> simp
  · rw [if_neg hb]
def upd {α : Type} (f : Nat → α) (i : Nat) (x : α) (p : Nat) : α := if p = i then x else f p
theorem RowV.set {w : World} {g n : Nat} {V : Nat → Value} (h : RowV w g n V) (j : Nat) (hj : j < n) (v : Value) : RowV (w.setCell ⟨g, j, none⟩ v) g n (upd V j v) := by
  refine ⟨by simpa [World.setCell] using h.1, fun k hk => ⟨?_, by rw [frozen_setV]; exact h.free hk⟩⟩
  unfold upd
  by_cases he : k = j
  · subst he
    rw [if_pos rfl]
    exact World.cell?_setCell_same _ _ _ (h.cell hk)
  · rw [if_neg he]
    rw [World.cell?_setCell_other _ _ _ _ (fun e => he (by injection e with _ e2 _; exact e2.symm))]
    exact h.cell hk
theorem RowV.congr {w : World} {g n : Nat} {V V' : Nat → Value} (h : RowV w g n V) (hv : ∀ j, j < n → V j = V' j) : RowV w g n V' := ⟨h.1, fun j hj => by rw [← hv j hj]; exact h.2 j hj⟩
theorem RowV.of_blk {w : World} {g n : Nat} {V : Nat → Value} (c : Array Value) (T : TypeId) (h : Blk w g c T) (hc : ∀ j, j < n → c[j]? = some (V j)) : RowV w g n V :=
  ⟨h.lt, fun j hj => ⟨by rw [h.cell]; exact hc j hj, h.free j⟩⟩
end Go.Proofs.Ytpojophpbggkcaa
