/- More on rows of bytes: copy of a string into one, strings out of a part of one; parts of strings. No function of the program in sight. -/
import Derived.Test.YtdggnhgflfaffaaRowF
import Derived.Test.YtdggnhgflfaffaaOwn
import Derived.Laws.IdiomCopy
set_option maxRecDepth 20000
namespace Go.Proofs.Ytdggnhgflfaffaa
open Go.ChangeShapes Go.WideShapes Go.ChangeAt Go.RowKit
set_option linter.unusedVariables false

def copyF (f : Nat → UInt8) (o : Nat) (t : ByteArray) (k p : Nat) : UInt8 := if o ≤ p ∧ p < o + k then bt t (p - o) else f p
theorem copy_str {w : World} {g cap : Nat} {f : Nat → UInt8} (h : RowF w g cap f) (o : Nat) (ho : o ≤ cap) (t : ByteArray) (dCap k : Nat) (ty : TypeId) (hk : min t.size (cap - o) = k) :
    ∃ w', (Builtin.copy_ #[97, 9] ty #[.slice (some ⟨g, o, none⟩) (cap - o) dCap, .string t]).run Try.prog w = .ok (.int .i64 (k : Int)) w' ∧ RowF w' g cap (copyF f o t k) ∧ w.grownBy w' (some g) ∧ w'.heap.size = w.heap.size := by
  have hmin : Nat.min t.size (cap - o) = k := hk
  have hkl : k ≤ t.data.toList.length := by have e : t.data.toList.length = t.size := by simp
                                            omega
  have hvl : ((t.data.toList.map fun x => Value.int .u8 (x.toNat : Int)).take k).length = k := by rw [List.length_take, List.length_map]; omega
  have hst := run_storeCells_cells (P := Try.prog) g o ((t.data.toList.map fun x => Value.int .u8 (x.toNat : Int)).take k) 0 w (fun j hj => by rw [hvl] at hj; rw [Nat.add_zero, h.cell (by omega)]; rfl) (fun j hj => by rw [hvl] at hj; rw [Nat.add_zero]; exact h.free (by omega)) (by
    intro v hv
    obtain ⟨x, _, rfl⟩ := List.mem_map.1 (List.mem_of_mem_take hv)
    rfl)
  have hsz : ∀ (vs : List Value) (o : Nat) (w : World), (w.setCells g o vs).heap.size = w.heap.size := by
    intro vs
    induction vs with
    | nil => intro o w; rfl
    | cons v r ih => intro o w; rw [World.setCells, ih]; simp [World.setCell]
  have hgr : ∀ (vs : List Value) (o : Nat) (w : World), w.grownBy (w.setCells g o vs) (some g) := by
    intro vs
    induction vs with
    | nil => intro o w; exact grefl _ _
    | cons v r ih => intro o w; rw [World.setCells]; exact gtrans (gset (grefl _ _) _ rfl _) (ih _ _)
  refine ⟨w.setCells g (o + 0) ((t.data.toList.map fun x => Value.int .u8 (x.toNat : Int)).take k), ?_, ⟨by rw [hsz]; exact h.lt, fun j hj => ⟨?_, ?_⟩⟩, hgr _ _ _, hsz _ _ _⟩
  · simp [Builtin.copy_, run_underlying Try.underlying97, Builtin.lenOf, Builtin.firstCells, hmin]
    rw [← List.map_take] at hst ⊢
    first
      | (rw [hst]; rfl)
      | (rw [List.map_take] at hst ⊢; rw [hst]; rfl)
  · rw [Nat.add_zero]
    by_cases hin : o ≤ j ∧ j < o + k
    · have hj2 : j - o < ((t.data.toList.map fun x => Value.int .u8 (x.toNat : Int)).take k).length := by rw [hvl]; omega
      have := World.cell?_setCells_in g ((t.data.toList.map fun x => Value.int .u8 (x.toNat : Int)).take k) o w (fun i hi => by rw [hvl] at hi; rw [h.cell (by omega)]; rfl) (j - o) hj2
      rw [show o + (j - o) = j by omega] at this
      rw [this, copyF, if_pos hin]
      have hj3 : j - o < t.size := by omega
      rw [bt_at t _ hj3]
      simp
      rfl
    · rw [World.cell?_setCells_out g _ _ _ _ (fun _ _ => by rw [hvl]; show j < o ∨ o + k ≤ j; omega), copyF, if_neg hin]
      exact h.cell hj
  · rw [World.frozen?_setCells]; exact h.free hj
theorem RowF.part {w : World} {g n : Nat} {f : Nat → UInt8} (h : RowF w g n f) (o k cap : Nat) (hok : o + k ≤ n) : (convert 97 9 (.slice (some ⟨g, o, none⟩) k cap)).run Try.prog w = .ok (.string (sof k (fun i => f (o + i)))) w := by
  have hl : k = ((List.range k).map fun i => f (o + i)).length := by simp
  have := run_convert_bytes_back (P := Try.prog) w 97 9 5 ⟨g, o, none⟩ cap ((List.range k).map fun i => f (o + i)) Try.underlying97 Try.underlying5 Try.underlying9 (fun j hj => by
    have hj' : j < k := by simpa using hj
    rw [add_plain, h.cell (by omega)]
    simp)
  rw [← hl] at this
  exact this

theorem bt_extract (s : ByteArray) (a b p : Nat) (hb : b ≤ s.size) (hp : p < b - a) : bt (s.extract a b) p = bt s (a + p) := by
  have h1 : p < (s.extract a b).size := by rw [ByteArray.size_extract]; omega
  rw [bt_at _ _ h1, bt_at _ _ (by omega)]
  exact ByteArray.getElem_extract _
theorem size_extract (s : ByteArray) (a b : Nat) (hb : b ≤ s.size) : (s.extract a b).size = b - a := by rw [ByteArray.size_extract]; omega
theorem bt_app (s t : ByteArray) (p : Nat) : bt (s ++ t) p = if p < s.size then bt s p else bt t (p - s.size) := by
  unfold bt
  have h1 : (s ++ t).data = s.data ++ t.data := ByteArray.data_append
  rw [h1]
  have e : s.size = s.data.toList.length := by simp
  rw [Array.toList_append, List.getD, List.getD, List.getD, e]
  split
  · rw [List.getElem?_append_left (by assumption)]
  · rw [List.getElem?_append_right (by omega)]
end Go.Proofs.Ytdggnhgflfaffaa
