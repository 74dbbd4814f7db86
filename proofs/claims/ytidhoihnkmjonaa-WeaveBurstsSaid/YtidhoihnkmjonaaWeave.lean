/- Contracts of package weave. -/
import Derived.Test.YtidhoihnkmjonaaBytes
import Derived.Outline
import Derived.Handy
namespace Go.Proofs.Ytidhoihnkmjonaa
open Go.ChangeShapes Go.WideShapes Go.ChangeAt Go.RowKit
set_option linter.unusedVariables false

/-- why a text may not be woven -/
def faultI (n : Nat) (rows : Int) : Int := if rows < 1 ∨ 255 < rows then 1 else if 65536 < n then 3 else if (n : Int) % rows ≠ 0 then 5 else 0
set_option maxHeartbeats 1000000 in
theorem check_any (s : ByteArray) (rows : Int) (w : World) (hs : s.size ≤ maxLen) : Calls Try.prog 10 #[.string s, .int .i64 rows] w fun e w' => e = .returned (.int .i64 (faultI s.size rows)) ∧ w = w' := by
  unfold maxLen at hs
  by_cases h1 : rows < 1
  ·
    go_enter Try.func10, Try.ntmps10
    go_wp2
    go_ret
    exact ⟨ret_int (by unfold faultI; rw [if_pos (Or.inl h1)]), rfl⟩
  · by_cases h2 : 255 < rows
    ·
      go_enter Try.func10, Try.ntmps10
      go_wp2
      go_ret
      exact ⟨ret_int (by unfold faultI; rw [if_pos (Or.inr h2)]), rfl⟩
    · have HF := Lib.hid (show faultI s.size rows = if 65536 < s.size then 3 else if (s.size : Int) % rows ≠ 0 then 5 else 0 by unfold faultI; rw [if_neg (by omega)])
      by_cases h3 : 65536 < s.size
      ·
        go_enter Try.func10, Try.ntmps10
        go_wp2
        go_ret
        exact ⟨ret_int (by rw [HF.out, if_pos h3]), rfl⟩
      · by_cases h4 : (s.size : Int) % rows = 0
        · have b4 : ((s.size : Int) % rows != 0) = false := by simpa using h4
          have H4 := Lib.hid h4
          clear h4
          go_enter Try.func10, Try.ntmps10
          go_wp2
          go_ret
          exact ⟨ret_int (by rw [HF.out, if_neg h3, if_neg (by rw [H4.out]; omega)]), rfl⟩
        · have b4 : ((s.size : Int) % rows != 0) = true := by simpa using h4
          have H4 := Lib.hid h4
          clear h4
          go_enter Try.func10, Try.ntmps10
          go_wp2
          go_ret
          exact ⟨ret_int (by rw [HF.out, if_neg h3, if_pos H4.out]), rfl⟩

/-- a text's rows, read by columns -/
def weaveL (l : List UInt8) (rows cols : Nat) : List UInt8 := (List.range (rows * cols)).map fun k => l.getD (k % rows * cols + k / rows) 0
def weaveB (s : ByteArray) (rows cols : Nat) : ByteArray := ofL (weaveL s.data.toList rows cols)
theorem weaveL_len (l : List UInt8) (rows cols : Nat) : (weaveL l rows cols).length = rows * cols := by simp [weaveL]
theorem weaveL_step (l : List UInt8) (rows cols c r : Nat) (hr : r < rows) (hc : c < cols) :
    (weaveL l rows cols).take (c * rows + r + 1) = (weaveL l rows cols).take (c * rows + r) ++ [l.getD (r * cols + c) 0] := by
  have h0 : (c + 1) * rows ≤ cols * rows := Nat.mul_le_mul_right _ hc
  rw [Nat.add_mul] at h0
  have hlt : c * rows + r < rows * cols := by rw [Nat.mul_comm rows cols]; omega
  have hm : (c * rows + r) % rows = r := by rw [Nat.mul_comm, Nat.mul_add_mod]; exact Nat.mod_eq_of_lt hr
  have hd : (c * rows + r) / rows = c := by
    rw [Nat.mul_comm, Nat.mul_add_div (by omega), Nat.div_eq_of_lt hr]; rfl
  have hl : c * rows + r < (weaveL l rows cols).length := by rw [weaveL_len]; exact hlt
  rw [List.take_succ_eq_append_getElem hl]
  congr 1
  simp [weaveL, hm, hd]
theorem mul_step (r c rows cols : Nat) (hr : r < rows) (hc : c < cols) : r * cols + c < rows * cols := by
  have h0 : (r + 1) * cols ≤ rows * cols := Nat.mul_le_mul_right _ hr
  rw [Nat.add_mul] at h0
  omega

theorem getB (s : ByteArray) (k : Nat) (h : k < s.size) : s.data.toList.getD k 0 = s[k] := by
  rw [List.getD, List.getElem?_eq_getElem (by simpa using h)]; rfl
def OwnB (W w : World) (v : Value) (n : Nat) (l : List UInt8) : Prop := w.ownsRow W.heap.size 5 1 v n (bv l) ∧ Below W.heap.size W w
set_option maxRecDepth 100000 in
set_option maxHeartbeats 2000000 in
theorem turned_any (s : ByteArray) (rows cols : Nat) (hr : 1 ≤ rows) (hn : rows * cols = s.size) (hs : s.size ≤ 65536) (w : World) (t : ByteArray) (ht : weaveB s rows cols = t) :
    Calls Try.prog 11 #[.string s, .int .i64 rows] w fun e w' => e = .returned (.string t) ∧ Below w.heap.size w w' := by
  obtain ⟨i0, hi, hz0, hz1, hz2⟩ := info_parts u8_info
  have hq : (s.size : Int) / (rows : Int) = (cols : Int) := by rw [← hn]; rw [Int.natCast_mul]; exact Int.mul_ediv_cancel_left _ (by omega)
  have HT := Lib.hid ht
  have HN := Lib.hid hn
  have hrs : rows * cols ≤ s.size := Nat.le_of_eq hn
  clear ht hn
  have hcs : cols ≤ s.size := Nat.le_trans (Nat.le_mul_of_pos_left _ hr) hrs
  have hrl : s.size ≠ 0 → rows ≤ s.size := fun h => by
    have : 0 < cols := by
      rcases Nat.eq_zero_or_pos cols with h0 | h0
      · exfalso; apply h; rw [← HN.out, h0]; simp
      · exact h0
    exact Nat.le_trans (Nat.le_mul_of_pos_right _ this) hrs
  go_enter Try.func11, Try.ntmps11
  go_wp2_with (at_make; refine wpList_make_own _ rfl _ _ 31 rfl w.heap.size 5 i0 (.int .u8 0) 1 Try.underlying31 hi hz0 hz1 _ _ _ s.size rfl rfl (by omega) (by rw [hz2]; omega) (by unfold maxLen; omega) (Nat.le_refl _) ?_; intro w0 hown0 hgrow0)
  go_loopw [6, 17] (fun out ci wr => ∃ c : Nat, c ≤ cols ∧ ci = .int .i64 c ∧ out = .slice (some ⟨w.heap.size, 0, none⟩) (c * rows) s.size ∧ OwnB w wr (.slice (some ⟨w.heap.size, 0, none⟩) (c * rows) s.size) (c * rows) ((weaveL s.data.toList rows cols).take (c * rows))) (fun _ ci _ => cols - (intOf ci).toNat)
  case atStart => exact ⟨0, Nat.zero_le _, rfl, by simp, by simpa [bv] using hown0, (Below.refl _ _).grown hgrow0 (Nat.le_refl _) (fun k h => by cases h)⟩
  case round =>
    obtain ⟨c, hc, rfl, rfl, hO⟩ := hrel
    by_cases hlt : c < cols
    · go_wp2
      obtain ⟨wo, hwo⟩ : ∃ wo : World, wo = wr := ⟨_, rfl⟩
      subst hwo
      go_loopw [6, 21] (fun out ri wr => ∃ r : Nat, r ≤ rows ∧ ri = .int .i64 r ∧ out = .slice (some ⟨w.heap.size, 0, none⟩) (c * rows + r) s.size ∧ OwnB w wr (.slice (some ⟨w.heap.size, 0, none⟩) (c * rows + r) s.size) (c * rows + r) ((weaveL s.data.toList rows cols).take (c * rows + r))) (fun _ ri _ => rows - (intOf ri).toNat)
      case atStart => exact ⟨0, Nat.zero_le _, rfl, rfl, hO⟩
      case round =>
        obtain ⟨r, hrr, rfl, rfl, hO⟩ := hrel
        by_cases hrl : r < rows
        · have hst := Lib.hid (weaveL_step s.data.toList rows cols c r hrl hlt)
          have hk : r * cols + c < s.size := Nat.lt_of_lt_of_le (mul_step r c rows cols hrl hlt) hrs
          have hk' : (r : Int) * (cols : Int) + (c : Int) < (s.size : Int) := by exact_mod_cast hk
          have hk0 : 0 ≤ (r : Int) * (cols : Int) := Int.mul_nonneg (by omega) (by omega)
          have hcap : c * rows + r + 1 ≤ s.size := by
            have h := mul_step c r cols rows hlt hrl
            have h2 : cols * rows ≤ s.size := by rw [Nat.mul_comm]; exact hrs
            omega
          have HG := Lib.hid (getB s (r * cols + c) hk)
          obtain ⟨hown, hb⟩ := hO
          go_wp2_with (at_builtin; refine wpList_append_fits _ rfl _ _ 31 rfl w.heap.size 5 i0 1 Try.underlying31 hi hz1 w.heap.size (c * rows + r) s.size _ rfl (hown.alloc _) ⟨wr.heap.size, 0, none⟩ 1 1 [.int .u8 (s[r * cols + c].toNat : Int)] rfl rfl ?c1 ?c2 hcap ?_)
          case c1 =>
            intro j u hj
            match j, hj with
            | 0, hj => simp at hj; subst hj; simp [Addr.add]
          case c2 => intro u hu; simp at hu; subst hu; rfl
          intro w1 hown1 hg1
          go_wp2
          go_roundw
          case rel => exact ⟨r + 1, by omega, by go_num, rfl, by rw [← Nat.add_assoc, hst.out, HG.out, bv_app]; exact hown1, (hb.alloc hb.size _).grown hg1 (by simp; have := hb.size; omega) (fun k h => by cases h; exact Nat.le_refl _)⟩
          case measure => simp [intOf]; omega
        · have hre : r = rows := by omega
          subst hre
          go_wp2
          go_roundw
          case rel => exact ⟨c + 1, by omega, by go_num, by rw [Nat.add_mul, Nat.one_mul], by rw [Nat.add_mul, Nat.one_mul]; exact hO⟩
          case measure => simp [intOf]; omega
    · have hce : c = cols := by omega
      subst hce
      have HC := Lib.hid hO
      clear hO
      have hstr := own_string (w := wr) (v := .slice (some ⟨w.heap.size, 0, none⟩) (c * rows) s.size) HC.out.1
      go_wp2
      go_ret
      refine ⟨?_, HC.out.2⟩
      rw [← HT.out, weaveB, List.take_of_length_le (by rw [weaveL_len, Nat.mul_comm]; exact Nat.le_refl _)]
      rfl
end Go.Proofs.Ytidhoihnkmjonaa
