/- Contracts of package parity, and of lightshiplaw44's own sum. -/
import Derived.Test.YtjhbahjomeflaaaRowF
import Derived.Outline
import Derived.Handy
import Derived.BigRegion
import Derived.IntWalk
namespace Go.Proofs.Ytjhbahjomeflaaa
open Go.ChangeShapes Go.WideShapes Go.ChangeAt Go.RowKit
set_option linter.unusedVariables false

/-- r says P -/
def Fits (r : Bool) (P : Prop) : Prop := r = true ↔ P
/-- byte by byte: the exclusive or with the first k texts but one -/
def sumF (S : Nat → ByteArray) (but : Int) (f : Nat → UInt8) : Nat → Nat → UInt8
  | 0 => f
  | k + 1 => fun p => if (k : Int) = but then sumF S but f k p else sumF S but f k p ^^^ bt (S k) p
theorem sumF_hit {k : Nat} {but : Int} (h : (k : Int) = but) (S : Nat → ByteArray) (f : Nat → UInt8) (p : Nat) : sumF S but f (k + 1) p = sumF S but f k p := by
  show (if (k : Int) = but then _ else _) = _
  rw [if_pos h]
theorem sumF_mix {k : Nat} {but : Int} (h : ¬ (k : Int) = but) (S : Nat → ByteArray) (f : Nat → UInt8) (p : Nat) : sumF S but f (k + 1) p = sumF S but f k p ^^^ bt (S k) p := by
  show (if (k : Int) = but then _ else _) = _
  rw [if_neg h]
/-- have the first k texts but one this length? -/
def fitF (S : Nat → ByteArray) (but : Int) (n k : Nat) : Prop := ∀ i, i < k → (i : Int) ≠ but → (S i).size = n
def sumB (S : Nat → ByteArray) (but : Int) (s : ByteArray) (k : Nat) : ByteArray := sof s.size (sumF S but (bt s) k)

/-- the inner loop's row -/
def mixF (f x : Nat → UInt8) (k p : Nat) : UInt8 := if p < k then f p ^^^ x p else f p
theorem mixF_step (f x : Nat → UInt8) (k p : Nat) : mixF f x (k + 1) p = if p = k then f k ^^^ x k else mixF f x k p := by
  unfold mixF
  by_cases h : p = k
  · subst h; simp
  · rw [if_neg h]
    by_cases h2 : p < k
    · rw [if_pos (by omega), if_pos h2]
    · rw [if_neg (by omega), if_neg h2]
theorem xor_bits (a b : UInt8) : (Value.int .u8 (bits .xor .u8 (a.toNat : Int) (b.toNat : Int))) = .int .u8 ((a ^^^ b).toNat : Int) := by
  rw [u8_xor_nat _ _ a.toNat_lt b.toNat_lt, UInt8.toNat_xor]

def SumPost (W : World) (t : ByteArray) (e : Ending) (w' : World) : Prop := e = .returned (.tuple #[.string t, .int .i64 0]) ∧ Below W.heap.size W w'
def BadPost (W : World) (r : Int) (e : Ending) (w' : World) : Prop := e = .returned (.tuple #[.string ⟨#[]⟩, .int .i64 r]) ∧ Below W.heap.size W w'
def SumRes (W : World) (t : ByteArray) (r : Bool) (e : Ending) (w' : World) : Prop := if r then SumPost W t e w' else BadPost W 16 e w'
set_option maxRecDepth 100000 in
set_option maxHeartbeats 4000000 in
theorem sum_any (S : Nat → ByteArray) (p : Option Addr) (len cap b off : Nat) (but : Int) (s : ByteArray) (hl : len ≤ 300) (hs : s.size ≤ 1000) (hS : ∀ i, i < len → (S i).size ≤ 1000) (w : World) (hp : Strs w p len S b off)
    (r : Bool) (hr : Fits r (fitF S but s.size len)) :
    Calls Try.prog 13 #[.slice p len cap, .int .i64 but, .string s] w (SumRes w (sumB S but s len) r) := by
  have hmk := make_bytes s.size (by omega)
  obtain ⟨w1, hcp, hrow, hg⟩ := copy_row (w := w.alloc (.cells (zrow s.size) 5)) (n := s.size) (cap := s.size) (s := s) (Blk.new w _ _) (by simp [zrow]) rfl 3
  have hB1 : Below w.heap.size w w1 := (Below.refl _ _).alloc (Nat.le_refl _) _ |>.trans (below_g hg (Nat.le_refl _) (by simp))
  clear hg
  go_enter Try.func13, Try.ntmps13
  go_wp2_with fail
  clear hmk hcp
  go_loopw [20] (fun iv wr => ∃ k : Nat, k ≤ len ∧ iv = .int .i64 k ∧ RowF wr w.heap.size s.size (sumF S but (bt s) k) ∧ fitF S but s.size k ∧ Below w.heap.size w wr) (fun iv _ => len - (intOf iv).toNat)
  case atStart => exact ⟨0, Nat.zero_le _, rfl, hrow, fun i hi => absurd hi (Nat.not_lt_zero _), hB1⟩
  case round =>
    obtain ⟨k, hk, rfl, hR, hF, hBw⟩ := hrel
    by_cases hkl : k < len
    · have hpp := hp.at_ (by omega)
      subst hpp
      have hcl : wr.cell? ⟨b, off + k, none⟩ = some (.string (S k)) := (hBw.cell (hp.lt (by omega))).trans (hp.cell k hkl)
      have hSk := hS k hkl
      by_cases hbut : (k : Int) = but
      · have hb1 : ((k : Int) == but) = true := by simpa using hbut
        have HB := Lib.hid hbut
        clear hbut
        go_wp2_with fail
        go_roundw
        case rel => exact ⟨k + 1, by omega, by go_num, hR.congr (fun p _ => (sumF_hit HB.out _ _ _).symm), fun i hi hne => by (rcases Nat.lt_or_ge i k with h | h); exact hF i h hne; exact absurd (by rw [← HB.out]; congr 1; omega) hne, hBw⟩
        case measure => simp [intOf]; omega
      · have hb1 : ((k : Int) == but) = false := by simpa using hbut
        have HB := Lib.hid hbut
        clear hbut
        by_cases hz : (S k).size = s.size
        · have hz1 : (((S k).size : Int) != (s.size : Int)) = false := by simp [hz]
          have HZ := Lib.hid hz
          clear hz
          go_wp2_with fail
          obtain ⟨wo, hwo⟩ : ∃ wo : World, wo = wr := ⟨_, rfl⟩
          subst hwo
          go_loopw [35] (fun jv wr => ∃ j : Nat, j ≤ s.size ∧ jv = .int .i64 j ∧ RowF wr w.heap.size s.size (mixF (sumF S but (bt s) k) (bt (S k)) j) ∧ Below w.heap.size w wr) (fun jv _ => s.size - (intOf jv).toNat)
          case atStart => exact ⟨0, Nat.zero_le _, rfl, hR.congr (fun p _ => by simp [mixF]), hBw⟩
          case round =>
            obtain ⟨j, hj, rfl, hR2, hBw2⟩ := hrel
            by_cases hjl : j < s.size
            · have c0 := hR2.cell hjl
              have f0 := hR2.free hjl
              have hjs : j < (S k).size := by rw [HZ.out]; exact hjl
              have hm : mixF (sumF S but (bt s) k) (bt (S k)) j j = sumF S but (bt s) k j := by simp [mixF]
              rw [hm] at c0
              clear hm
              obtain ⟨A, hA⟩ : ∃ A, sumF S but (bt s) k j = A := ⟨_, rfl⟩
              rw [hA] at c0
              have HA := Lib.hid hA
              clear hA
              have hAlt : A.toNat < 256 := A.toNat_lt
              go_wp2_with fail
              go_region
              go_wp2_with fail
              go_roundw
              case rel =>
                refine ⟨j + 1, by omega, by go_num, ?_, ?_⟩
                · refine RowF.drew (RowF.congr (RowF.set hR2 j hjl (A ^^^ bt (S k) j) _ ?_) fun p _ => ?_)
                  · rw [bt_at _ j hjs]; exact xor_bits _ _
                  · rw [mixF_step, HA.out]
                · exact (hBw2.setCell (by exact Nat.le_refl _) _).drew
              case measure => simp [intOf]; omega
            · have hje : j = s.size := by omega
              go_wp2_with fail
              go_roundw
              case rel => exact ⟨k + 1, by omega, by go_num, hR2.congr (fun p hp => by rw [sumF_mix HB.out]; simp only [mixF]; rw [if_pos (by omega)]), fun i hi hne => by (rcases Nat.lt_or_ge i k with h | h); exact hF i h hne; (obtain rfl : i = k := by omega); exact HZ.out, hBw2⟩
              case measure => simp [intOf]; omega
        · have hz1 : (((S k).size : Int) != (s.size : Int)) = true := by simp; omega
          have hr0 : r = false := by
            cases r with
            | false => rfl
            | true => exact absurd (hr.1 rfl k hkl HB.out) hz
          go_wp2_with fail
          go_ret2
          rw [hr0]
          exact ⟨rfl, hBw⟩
    · have hke : k = len := by omega
      subst hke
      have hr1 : r = true := hr.2 hF
      have hstr := hR.str s.size
      go_wp2_with fail
      go_ret2
      rw [hr1]
      exact ⟨rfl, hBw⟩
end Go.Proofs.Ytjhbahjomeflaaa
