/- Rows of bytes: a slice of bytes of the call's own, and strings made of it. No function of the program in sight. -/
import Derived.Test.YtdggnhgflfaffaaKeep
import Derived.Laws.IdiomStrings
import Derived.OwnWalk
import Derived.Laws.OwnMore
set_option maxRecDepth 20000
namespace Go.Proofs.Ytdggnhgflfaffaa
open Go.ChangeShapes Go.WideShapes Go.ChangeAt Go.RowKit
set_option linter.unusedVariables false

/-- bytes as cells -/
def bv (l : List UInt8) : List Value := l.map fun b => .int .u8 (b.toNat : Int)
theorem bv_len (l : List UInt8) : (bv l).length = l.length := by simp [bv]
theorem bv_app (l m : List UInt8) : bv (l ++ m) = bv l ++ bv m := by simp [bv]
theorem bv_cons (b : UInt8) (l : List UInt8) : bv (b :: l) = .int .u8 (b.toNat : Int) :: bv l := by simp [bv]
theorem bv_at (l : List UInt8) (j : Nat) (h : j < l.length) : (bv l)[j]? = some (.int .u8 (l[j].toNat : Int)) := by simp [bv, h]
theorem bv_one (l : List UInt8) : ∀ u ∈ bv l, u.oneCell' = true := by
  intro u hu
  simp only [bv, List.mem_map] at hu
  obtain ⟨b, _, rfl⟩ := hu; rfl
theorem u8_info : (Try.prog.info? 5).map (fun i => (i.zero, i.size, i.bytes)) = some (some (.int .u8 0), 1, 1) := by kernel_rfl
def ofL (l : List UInt8) : ByteArray := ⟨l.toArray⟩
theorem ofL_size (l : List UInt8) : (ofL l).size = l.length := by simp [ofL, ByteArray.size]
theorem ofL_get (l : List UInt8) (k : Nat) (h : k < (ofL l).size) : (ofL l)[k] = l[k]'(by simpa [ofL_size] using h) := by
  show (ofL l).data[k] = _
  simp [ofL]
theorem ofL_list (s : ByteArray) : ofL s.data.toList = s := by cases s; simp [ofL]
theorem ofL_data (l : List UInt8) : (ofL l).data.toList = l := by simp [ofL]

/-- 'string(b)' of a row of the call's own -/
theorem own_string {w : World} {base n : Nat} {v : Value} {l : List UInt8} (h : w.ownsRow base 5 1 v n (bv l)) :
    (convert 97 9 v).run Try.prog w = .ok (.string (ofL l)) w := by
  rcases h.2 with ⟨rfl, hn⟩ | ⟨g, cap, cur, rfl, _, hh, _⟩
  · have hl : l = [] := by
      have := h.1
      rw [bv_len, hn] at this
      exact List.eq_nil_of_length_eq_zero (by omega)
    subst hl
    rw [run_convert_bytes_string w 97 9 5 none 0 0 Try.underlying97 Try.underlying5 Try.underlying9]
    rfl
  · have hl : n = l.length := by have := h.1; rw [bv_len] at this; omega
    subst hl
    refine run_convert_bytes_back w 97 9 5 ⟨g, 0, none⟩ cap l Try.underlying97 Try.underlying5 Try.underlying9 (fun j hj => ?_)
    have := h.cells (g := g) rfl j _ (bv_at l j hj)
    exact this
end Go.Proofs.Ytdggnhgflfaffaa
