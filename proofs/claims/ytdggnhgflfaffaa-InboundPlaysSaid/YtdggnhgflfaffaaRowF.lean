/- A row of bytes in memory, byte j is f j; arrays of strings that are read. No function of the program in sight. -/
import Derived.Test.YtdggnhgflfaffaaBytes
import Derived.Laws.BitsAll
import Derived.Laws.MakeOwn
import Derived.Lib.BufferWrite
import Derived.Lib.SlBuf
import Derived.Laws.CopyOwn
set_option maxRecDepth 20000
namespace Go.Proofs.Ytdggnhgflfaffaa
open Go.ChangeShapes Go.WideShapes Go.ChangeAt Go.RowKit
set_option linter.unusedVariables false

/-- byte p of a string -/
def bt (s : ByteArray) (p : Nat) : UInt8 := s.data.toList.getD p 0
theorem bt_at (s : ByteArray) (k : Nat) (h : k < s.size) : bt s k = s[k] := by
  unfold bt
  rw [List.getD, List.getElem?_eq_getElem (by simpa using h)]; rfl
theorem bt_ext {s t : ByteArray} (h : s.size = t.size) (hb : ∀ p, p < s.size → bt s p = bt t p) : s = t := by
  obtain ⟨a⟩ := s
  obtain ⟨b⟩ := t
  congr 1
  apply Array.ext h
  intro i h1 h2
  have := hb i h1
  rw [bt_at ⟨a⟩ i h1, bt_at ⟨b⟩ i h2] at this
  exact this
/-- the string of n bytes f -/
def sof (n : Nat) (f : Nat → UInt8) : ByteArray := ofL ((List.range n).map f)
theorem sof_size (n : Nat) (f : Nat → UInt8) : (sof n f).size = n := by rw [sof, ofL_size]; simp
theorem sof_bt (n : Nat) (f : Nat → UInt8) (p : Nat) (h : p < n) : bt (sof n f) p = f p := by
  unfold bt sof
  rw [ofL_data]
  simp [List.getD, h]
theorem sof_eq (s : ByteArray) : sof s.size (bt s) = s := bt_ext (sof_size _ _) (fun p h => sof_bt _ _ _ (by rw [sof_size] at h; exact h))
theorem sof_congr {n : Nat} {f g : Nat → UInt8} (h : ∀ p, p < n → f p = g p) : sof n f = sof n g :=
  bt_ext (by rw [sof_size, sof_size]) (fun p hp => by rw [sof_size] at hp; rw [sof_bt _ _ _ hp, sof_bt _ _ _ hp]; exact h p hp)

def RowF (w : World) (g n : Nat) (f : Nat → UInt8) : Prop :=
  g < w.heap.size ∧ ∀ j, j < n → w.cell? ⟨g, j, none⟩ = some (.int .u8 ((f j).toNat : Int)) ∧ w.frozen? ⟨g, j, none⟩ = false
section
variable {w w' : World} {g n : Nat} {f : Nat → UInt8}
theorem RowF.lt (h : RowF w g n f) : g < w.heap.size := h.1
theorem RowF.cell (h : RowF w g n f) {j : Nat} (hj : j < n) : w.cell? ⟨g, j, none⟩ = some (.int .u8 ((f j).toNat : Int)) := (h.2 j hj).1
theorem RowF.free (h : RowF w g n f) {j : Nat} (hj : j < n) : w.frozen? ⟨g, j, none⟩ = false := (h.2 j hj).2
theorem RowF.of_block (h : RowF w g n f) (hs : w.heap.size ≤ w'.heap.size) (hb : w'.heap[g]? = w.heap[g]?) : RowF w' g n f := by
  refine ⟨Nat.lt_of_lt_of_le h.1 hs, fun j hj => ⟨?_, ?_⟩⟩
  · rw [World.cell?_of_block (a := ⟨g, j, none⟩) hb]; exact h.cell hj
  · rw [World.frozen?_of_block (a := ⟨g, j, none⟩) hb]; exact h.free hj
theorem RowF.drew (h : RowF w g n f) : RowF w.drew g n f := h
theorem RowF.drewN (h : RowF w g n f) (k : Nat) : RowF (w.drewN k) g n f := h
theorem RowF.alloc (h : RowF w g n f) (o : Obj) : RowF (w.alloc o) g n f := h.of_block (by simp) (Below.heap_alloc _ _ _ h.1)
theorem RowF.other (h : RowF w g n f) (a : Addr) (ha : g ≠ a.block) (v : Value) : RowF (w.setCell a v) g n f := h.of_block (by simp [World.setCell]) (Below.heap_setCell _ _ _ _ ha)
theorem RowF.below (h : RowF w g n f) {B : Nat} (hb : Below B w w') (hg : g < B) : RowF w' g n f := h.of_block hb.size (hb.block g hg)
theorem RowF.grown (h : RowF w g n f) {row : Option Nat} (hg : w.grownBy w' row) (hne : some g ≠ row) : RowF w' g n f := h.of_block hg.size (hg.block g h.1 hne)
theorem RowF.congr (h : RowF w g n f) {f' : Nat → UInt8} (hf : ∀ p, p < n → f p = f' p) : RowF w g n f' :=
  ⟨h.1, fun j hj => by rw [← hf j hj]; exact h.2 j hj⟩
theorem frozen_set (w : World) (a b : Addr) (v : Value) : (w.setCell a v).frozen? b = w.frozen? b := by
  simp only [World.frozen?, World.setCell, Array.getElem?_modify]
  by_cases hb : a.block = b.block
  · rw [if_pos hb]
    cases h : w.heap[b.block]? with
    | none => simp
    | some o => cases o <;> simp
  · rw [if_neg hb]
theorem RowF.set (h : RowF w g n f) (j : Nat) (hj : j < n) (b : UInt8) (v : Value) (hv : v = .int .u8 (b.toNat : Int)) : RowF (w.setCell ⟨g, j, none⟩ v) g n (fun p => if p = j then b else f p) := by
  subst hv
  refine ⟨by simpa [World.setCell] using h.1, fun k hk => ⟨?_, by rw [frozen_set]; exact h.free hk⟩⟩
  by_cases he : k = j
  · subst he
    simp only [if_true]
    exact World.cell?_setCell_same _ _ _ (h.cell hk)
  · simp only [he, if_false]
    rw [World.cell?_setCell_other _ _ _ _ (fun e => he (by injection e with _ e2 _; exact e2.symm))]
    exact h.cell hk
theorem RowF.str (h : RowF w g n f) (cap : Nat) : (convert 97 9 (.slice (some ⟨g, 0, none⟩) n cap)).run Try.prog w = .ok (.string (sof n f)) w := by
  have hl : n = ((List.range n).map f).length := by simp
  have := run_convert_bytes_back (P := Try.prog) w 97 9 5 ⟨g, 0, none⟩ cap ((List.range n).map f) Try.underlying97 Try.underlying5 Try.underlying9 (fun j hj => by
    have hj' : j < n := by simpa using hj
    rw [add_plain, Nat.zero_add, h.cell hj']
    simp)
  rw [← hl] at this
  exact this
theorem RowF.of_blk (c : Array Value) (T : TypeId) (h : Blk w g c T) (hc : ∀ j, j < n → c[j]? = some (.int .u8 ((f j).toNat : Int))) : RowF w g n f :=
  ⟨h.lt, fun j hj => ⟨by rw [h.cell]; exact hc j hj, h.free j⟩⟩
end

/-- 'make([]byte, n)' -/
def zrow (n : Nat) : Array Value := Array.replicate n (.int .u8 0)
theorem make_bytes (n : Nat) (hn : n ≤ 1048576) (w : World) : (Instr.makeSlice 97 (.int .i64 (n : Int)) (.int .i64 (n : Int))).run Try.prog w = .ok (.slice (some ⟨w.heap.size, 0, none⟩) n n) (w.alloc (.cells (zrow n) 5)) := by
  obtain ⟨i0, hi, hz0, hz1, hz2⟩ := info_parts u8_info
  have hb : (i0.bytes : Int) * (n : Int) ≤ 281474976710656 := by rw [hz2]; omega
  have hr := run_make (P := Try.prog) w 97 5 i0 (.int .u8 0) Try.underlying97 hi hz0 .i64 .i64 n n (by omega) (by omega) hb (by omega)
  simp only [Int.toNat_natCast] at hr
  rw [hr]
  congr 3
  rw [hz1, Nat.mul_one]
  apply Array.ext'
  rw [show (Value.int .u8 0).cells = #[Value.int .u8 0] from rfl, toList_madeCells_one]
  simp [zrow]
theorem zrow_row {w : World} {n : Nat} : RowF (w.alloc (.cells (zrow n) 5)) w.heap.size n (fun _ => 0) :=
  RowF.of_blk _ _ (Blk.new _ _ _) (fun j hj => by simp [zrow, hj])

/-- '[]byte(s)' -/
theorem conv_row (s : ByteArray) (w : World) : ∃ (cap : Nat) (w' : World), (convert 9 97 (.string s)).run Try.prog w = .ok (.slice (some ⟨w.heap.size, 0, none⟩) s.size cap) w' ∧ RowF w' w.heap.size s.size (bt s) ∧ Below w.heap.size w w' ∧ s.size ≤ cap := by
  refine ⟨_, _, run_bytes_of_string w 9 97 5 s Try.underlying9 Try.underlying97 Try.underlying5, ?_, ?_, grownCap_ge _ _ _ _⟩
  · refine ⟨by simp, fun j hj => ⟨?_, ?_⟩⟩
    · have := World.cell?_alloc_mark w.drew (bytesRow s (grownCap w s.size 0 5)) 5 ((bytesRow s (grownCap w s.size 0 5)).size, (bytesRow s (grownCap w s.size 0 5)).size + 1) j
      have h2 : w.drew.heap.size = w.heap.size := rfl
      rw [h2] at this
      rw [this, bytesRow_at s _ j hj, bt_at s j hj]
      rfl
    · have := World.frozen?_alloc_mark w.drew (bytesRow s (grownCap w s.size 0 5)) 5 (bytesRow s (grownCap w s.size 0 5)).size ((bytesRow s (grownCap w s.size 0 5)).size + 1) j
      have h2 : w.drew.heap.size = w.heap.size := rfl
      rw [h2] at this
      rw [this]
      have hj2 : j < (bytesRow s (grownCap w s.size 0 5)).size := by
        have : s.size = s.data.size := rfl
        simp only [bytesRow, Array.size_append, Array.size_map]
        omega
      simp; omega
  · exact (Below.refl _ _).drew.alloc (Nat.le_refl _) _

/-- copy(b, s), b a whole row of s's length -/
theorem copy_row {w : World} {n cap : Nat} {s : ByteArray} {c : Array Value} {g : Nat} (h : Blk w g c 5) (hc : c.size = n) (hs : s.size = n) (ty : TypeId) : ∃ w', (Builtin.copy_ #[97, 9] ty #[.slice (some ⟨g, 0, none⟩) n cap, .string s]).run Try.prog w = .ok (goInt n) w' ∧ RowF w' g n (bt s) ∧ w.grownBy w' (some g) := by
  obtain ⟨i0, hi, hz0, hz1, hz2⟩ := info_parts u8_info
  have hr := Lib.run_copy_row_string (P := Try.prog) w 97 9 ty 5 g 0 n cap s c 5 Try.underlying97 (by rw [hi]; simp [hz1]) h (by omega) (by omega)
  rw [hs] at hr
  refine ⟨_, hr, ?_, ?_⟩
  · have hb : Blk (w.setRow g (c.toList.take 0 ++ Lib.byteCells s.data.toList ++ c.toList.drop (0 + n)).toArray) g (c.toList.take 0 ++ Lib.byteCells s.data.toList ++ c.toList.drop (0 + n)).toArray 5 := setRow_heap w g _ _ _ _ h
    refine RowF.of_blk _ _ hb (fun j hj => ?_)
    have hj' : j < s.data.toList.length := by
      have : s.data.toList.length = s.size := by simp
      omega
    simp only [List.take_zero, List.nil_append, List.getElem?_toArray]
    rw [List.getElem?_append_left (by simpa [Lib.byteCells] using hj')]
    simp only [Lib.byteCells, List.getElem?_map, List.getElem?_eq_getElem hj', Option.map_some]
    rw [bt_at s j (by simpa using hj')]
    rfl
  · have hb := below_setRow (Below.refl g w) (Nat.le_refl _) (c.toList.take 0 ++ Lib.byteCells s.data.toList ++ c.toList.drop (0 + n)).toArray
    exact ⟨hb.os, hb.tape, hb.output, hb.size, fun k hk hne => by
      simp only [World.setRow, Array.getElem?_modify]
      rw [if_neg (fun e => hne (by rw [e]))]⟩

/-- a slice of strings that is read -/
structure Strs (w : World) (p : Option Addr) (len : Nat) (S : Nat → ByteArray) (b off : Nat) : Prop where
  at_ : 0 < len → p = some ⟨b, off, none⟩
  lt : 0 < len → b < w.heap.size
  cell : ∀ i, i < len → w.cell? ⟨b, off + i, none⟩ = some (.string (S i))
theorem Strs.below {w w' : World} {p : Option Addr} {len : Nat} {S : Nat → ByteArray} {b off B : Nat} (h : Strs w p len S b off) (hb : Below B w w') (hB : 0 < len → b < B) : Strs w' p len S b off :=
  ⟨h.at_, fun h0 => Nat.lt_of_lt_of_le (h.lt h0) hb.size, fun i hi => (hb.cell (p := ⟨b, off + i, none⟩) (hB (by omega))).trans (h.cell i hi)⟩
end Go.Proofs.Ytdggnhgflfaffaa
