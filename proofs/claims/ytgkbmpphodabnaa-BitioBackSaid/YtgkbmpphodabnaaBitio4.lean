/- lightshiplaw56: bits, packed, fits. -/
import Derived.Test.YtgkbmpphodabnaaBitio3
namespace Go.Proofs.Ytgkbmpphodabnaa
open Go.ChangeShapes Go.WideShapes Go.ChangeAt Go.RowKit
set_option linter.unusedVariables false

def chr (x : Bool) : UInt8 := if x then 49 else 48
def strOf (L : List Bool) : ByteArray := ofL (L.map chr)
theorem strOf_size (L : List Bool) : (strOf L).size = L.length := by rw [strOf, ofL_size]; simp
theorem strOf_app (L M : List Bool) : strOf L ++ strOf M = strOf (L ++ M) := by
  show ByteArray.append _ _ = _
  apply bt_ext
  · show (strOf L ++ strOf M).size = _
    rw [ByteArray.size_append, strOf_size, strOf_size, strOf_size, List.length_append]
  · intro p hp
    have h1 : (strOf L ++ strOf M).data = (strOf L).data ++ (strOf M).data := ByteArray.data_append
    show (strOf L ++ strOf M).data.toList.getD p 0 = (strOf (L ++ M)).data.toList.getD p 0
    rw [h1]
    simp [strOf, ofL]
theorem strOf_at (L : List Bool) (k : Nat) (h : k < (strOf L).size) : (strOf L)[k] = chr (L.getD k false) := by
  have hl : k < L.length := by rw [strOf_size] at h; exact h
  have := ofL_get (L.map chr) k h
  rw [show (strOf L)[k] = (ofL (L.map chr))[k] from rfl, this, List.getElem_map, List.getD, List.getElem?_eq_getElem hl]
  rfl
theorem fits_any (n bits : Int) (r : Bool) (w : World) (h : bits = 64 ∧ r = true ∨ ∃ k : Nat, bits = (k : Int) ∧ k < 64 ∧ 1 ≤ k ∧ 0 ≤ n ∧ (n / 2 ^ k == 0) = r) :
    Calls Try.prog 8 #[.agg #[.int .u64 n, .int .i64 bits]] w fun e w' => e = .returned (.bool r) ∧ Below w.heap.size w w' := by
  rcases h with ⟨rfl, rfl⟩ | ⟨k, rfl, hk, hk1, hn, hr⟩
  · go_enter Try.func8, Try.ntmps8
    go_wp2
    go_ret
    exact ⟨rfl, by go_grown⟩
  · have hb : ((k : Int) == 64) = false := by simp; omega
    go_enter Try.func8, Try.ntmps8
    go_wp2
    go_ret
    exact ⟨rfl, by go_grown⟩
def oneB (c : Int) : ByteArray := ⟨#[UInt8.ofNat c.toNat]⟩
theorem conv_one (c : Int) (W : World) : (convert 44 9 (.slice (some ⟨W.heap.size, 0, none⟩) 1 1)).run Try.prog (W.alloc (.cells #[.int .u8 c] 5)) = .ok (.string (oneB c)) (W.alloc (.cells #[.int .u8 c] 5)) := by
  rw [run_convert_bytes_string _ 44 9 5 _ 1 1 Try.underlying44 Try.underlying5 Try.underlying9]
  have hl := run_loadCells_list (P := Try.prog) (w := W.alloc (.cells #[.int .u8 c] 5)) ⟨W.heap.size, 0, none⟩ ([c].map (Value.int .u8)) (fun j v hj => by
    match j, hj with
    | 0, hj =>
      simp at hj; subst hj
      rw [add_plain, (Blk.new W #[.int .u8 c] 5).cell]; rfl)
  rw [run_bytesToString _ _ 1 1 [c] hl]
  rfl
theorem bit_chr (n j : Nat) : oneB (IntKind.u64.wrap (48 + ((n : Int) / 2 ^ j).tmod 2) % 256) = strOf [n.testBit j] := by
  have e0 : (n : Int) / 2 ^ j = ((n / 2 ^ j : Nat) : Int) := by simp
  rw [e0, Int.tmod_eq_emod_of_nonneg (Int.natCast_nonneg _), IntKind.wrap_u64, Nat.testBit_eq_decide_div_mod_eq]
  generalize n / 2 ^ j = m
  by_cases h3 : m % 2 = 1
  · have e : ((48 + (m : Int) % 2) % 18446744073709551616 % 256) = 49 := by omega
    rw [e]; simp [h3]; rfl
  · have h4 : m % 2 = 0 := by omega
    have e : ((48 + (m : Int) % 2) % 18446744073709551616 % 256) = 48 := by omega
    rw [e]; simp [h4]; rfl
theorem oneB_size (c : Int) : (oneB c).size = 1 := rfl
set_option maxRecDepth 100000 in
set_option maxHeartbeats 4000000 in
theorem lbits_any (n bits : Nat) (h1 : 1 ≤ bits) (h2 : bits ≤ 64) (w : World) :
    Calls Try.prog 9 #[.agg #[.int .u64 (n : Int), .int .i64 (bits : Int)]] w fun e w' => e = .returned (.string (strOf (bitsOf n bits))) ∧ Below w.heap.size w w' := by
  have hn0 : 0 ≤ (n : Int) := by omega
  go_enter Try.func9, Try.ntmps9
  go_wp2
  go_loopw [3, 4] (fun sv iv wr => ∃ d : Nat, d ≤ bits ∧ iv = .int .i64 ((bits : Int) - 1 - (d : Int)) ∧ sv = .string (strOf ((bitsOf n bits).take d)) ∧ Blk wr w.heap.size #[.int .u64 (n : Int), .int .i64 (bits : Int)] 29 ∧ Below w.heap.size w wr) (fun _ iv _ => (intOf iv + 1).toNat)
  case atStart => exact ⟨0, Nat.zero_le _, by simp, rfl, Blk.new _ _ _, by go_grown⟩
  case round =>
    obtain ⟨d, hd, rfl, rfl, hB, hbel⟩ := hrel
    by_cases hlt : d < bits
    · have c0 := hB.cell 0
      simp at c0
      obtain ⟨j, hj⟩ : ∃ j : Nat, (bits : Int) - 1 - (d : Int) = (j : Int) := ⟨bits - 1 - d, by omega⟩
      have hj64 : j < 64 := by omega
      have HB := Lib.hid hB
      clear hB
      have hlb := HB.out.lt
      rw [hj]
      have HJ := Lib.hid hj
      clear hj
      have hcv := conv_one
      have hs1 : (strOf ((bitsOf n bits).take d)).size ≤ 64 := by rw [strOf_size]; have := List.length_take_le d (bitsOf n bits); omega
      have hs2 := oneB_size
      go_wp2
      clear hcv hs1 hs2
      go_roundw
      case rel =>
        refine ⟨d + 1, by omega, by (have := HJ.out; exact congrArg (Value.int .i64) (by omega)), ?_, Blk.alloc HB.out _, hbel.alloc hbel.size _⟩
        rw [bitsOf_step n bits d hlt, ← strOf_app, show bits - 1 - d = j by have := HJ.out; omega, bit_chr]
      case measure => simp [intOf]
    · have hde : d = bits := by omega
      have HB := Lib.hid hB
      clear hB
      go_wp2
      go_ret
      exact ⟨by rw [hde, List.take_of_length_le (by rw [bitsOf_len]; exact Nat.le_refl _)]; rfl, hbel⟩

theorem or_val2 (y : Nat) (L : List Bool) (hy : y = byteOf L (L.length / 8) L.length) : (Value.int .u8 (Go.bits .or .u8 (y : Int) (128 / 2 ^ (L.length % 8)))) = .int .u8 ((UInt8.ofNat (nb L true)).toNat : Int) := by
  rw [← or_val y L true hy]
  have e : (128 : Int) / 2 ^ (L.length % 8) = bitI true * 2 ^ (7 - L.length % 8) % 256 := by
    obtain ⟨m, hm⟩ : ∃ m, L.length % 8 = m := ⟨_, rfl⟩
    rw [hm]
    have : m < 8 := by omega
    match m, this with
    | 0, _ => rfl
    | 1, _ => rfl
    | 2, _ => rfl
    | 3, _ => rfl
    | 4, _ => rfl
    | 5, _ => rfl
    | 6, _ => rfl
    | 7, _ => rfl
  rw [e]
theorem bytesL_false (L : List Bool) (h : L.length % 8 ≠ 0) : bytesL (L ++ [false]) = bytesL L := by
  rw [bytesL_snoc L false h]
  have hj : L.length / 8 < (bytesL L).length := by rw [bytesL_len]; omega
  have e : UInt8.ofNat (nb L false) = (bytesL L)[L.length / 8] := by rw [bytesL_at]; rfl
  rw [e, List.set_getElem_self]
theorem bytesL_false0 (L : List Bool) (h : L.length % 8 = 0) : bytesL (L ++ [false]) = bytesL L ++ [0] := by
  rw [bytesL_snoc0 L false h]
  have hl : (bytesL L).length = L.length / 8 := by rw [bytesL_len]; omega
  have e : UInt8.ofNat (nb L false) = (0 : UInt8) := by
    show UInt8.ofNat (byteOf L (L.length / 8) L.length) = 0
    rw [byteOf_high _ _ _ (by omega)]; rfl
  rw [e, List.set_append, if_neg (by omega), hl, Nat.sub_self]
  rfl
set_option maxRecDepth 100000 in
set_option maxHeartbeats 4000000 in
theorem packed_any (L : List Bool) (hL : L.length ≤ 3000) (w : World) :
    Calls Try.prog 13 #[.string (strOf L)] w fun e w' => e = .returned (.string (ofL (bytesL L))) ∧ Below w.heap.size w w' := by
  obtain ⟨i0, hi, hz0, hz1, hz2⟩ := info_parts u8_info
  have hsz := strOf_size L
  go_enter Try.func13, Try.ntmps13
  go_wp2
  go_loopw [3, 4] (fun v iv wr => ∃ i : Nat, i ≤ L.length ∧ iv = .int .i64 i ∧ wr.ownsRow w.heap.size 5 1 v (bytesL (L.take i)).length (bv (bytesL (L.take i))) ∧ Below w.heap.size w wr) (fun _ iv _ => L.length - (intOf iv).toNat)
  case atStart => exact ⟨0, Nat.zero_le _, rfl, by simpa [bytesL, bv] using World.ownsRow_nil w w.heap.size 5 1, Below.refl _ _⟩
  case round =>
    obtain ⟨i, hil, rfl, hown, hbel⟩ := hrel
    by_cases hlt : i < L.length
    · have hxs : (strOf L)[i]'(by rw [strOf_size]; exact hlt) = chr (L.getD i false) := strOf_at L i _
      have htk : L.take (i + 1) = L.take i ++ [L.getD i false] := by
        rw [List.take_succ_eq_append_getElem hlt, List.getD, List.getElem?_eq_getElem hlt]; rfl
      have htl : (L.take i).length = i := by rw [List.length_take]; omega
      have HT := Lib.hid htk
      have HTL := Lib.hid htl
      have hbl : (bytesL (L.take i)).length = (i + 7) / 8 := by rw [bytesL_len, htl]
      have HBL := Lib.hid hbl
      clear htk htl hbl
      generalize L.take i = t at *
      cases hx : L.getD i false with
      | true =>
        rw [hx] at hxs
        have e1 : ((strOf L)[i]'(by rw [strOf_size]; exact hlt)).toNat = 49 := by rw [hxs]; rfl
        rw [hx] at HT
        clear hxs
        by_cases hm : i % 8 = 0
        · have hmI : ((i : Int) % 8 == 0) = true := by simp; omega
          have HM := Lib.hid hm
          clear hm
          go_wp2_with (at_builtin; refine wpList_append_own _ rfl _ _ 44 rfl w.heap.size 5 i0 (.int .u8 0) 1 1 Try.underlying44 hi hz0 hz1 hz2 rfl (by decide) _ _ _ rfl (hown.alloc _) ⟨wr.heap.size, 0, none⟩ 1 1 [.int .u8 0] rfl rfl ?c1 ?c2 ?c3 ?c4 ?c5 ?_)
          case c1 =>
            intro j u hj
            match j, hj with
            | 0, hj => simp at hj; subst hj; simp [Addr.add]
          case c2 => intro u hu; simp at hu; subst hu; rfl
          case c3 => have := HBL.out; unfold maxLen; omega
          case c4 => have := HBL.out; omega
          case c5 => have := hbel.size; simp; omega
          intro v' w1 hown' hg _
          have hbel1 : Below w.heap.size w w1 := (hbel.alloc hbel.size _).grown hg (by simp; have := hbel.size; omega) (fun k hk => (hown.lt k hk).1)
          obtain ⟨g, cap', hv, hge, hgl⟩ := hown'.form (by omega)
          subst hv
          have hj : i / 8 = (bytesL t).length := by have := HBL.out; have := HM.out; omega
          have cj : w1.cell? ⟨g, i / 8, none⟩ = some (.int .u8 0) := by rw [hown'.cellAt _ (by omega), hj, List.getElem?_append_right (by rw [bv_len]; exact Nat.le_refl _), bv_len, Nat.sub_self]; rfl
          have fj := hown'.frozenAt (i / 8)
          have q2 : i / 8 < (bytesL t).length + 1 := by omega
          have HJ := Lib.hid hj
          clear hj
          go_wp2
          go_roundw
          case rel =>
            refine ⟨i + 1, by omega, by go_num, ?_, hbel1.setCell (by exact hge) _⟩
            have hm8 : t.length % 8 = 0 := by rw [HTL.out]; exact HM.out
            have ho := or_val2 0 t (by rw [byteOf_high]; omega)
            rw [HTL.out] at ho
            have h1 := (hown'.stored (i / 8) (Value.int .u8 (Go.bits .or .u8 ((0 : Nat) : Int) (128 / 2 ^ (i % 8))))).1
            rw [HT.out, bytesL_snoc0 t true hm8, List.length_set, bv_set, bv_app, HTL.out, ← ho, List.length_append]
            exact h1
          case measure => simp [intOf]; omega
        · have hmI : ((i : Int) % 8 == 0) = false := by simp; omega
          have hj : i / 8 < (bytesL t).length := by have := HBL.out; omega
          obtain ⟨g, cap', hv, hge, hgl⟩ := hown.form (by omega)
          subst hv
          have HM := Lib.hid hm
          clear hm
          have cj : wr.cell? ⟨g, i / 8, none⟩ = some (.int .u8 ((bytesL t)[i / 8].toNat : Int)) := by rw [hown.cellAt _ (by omega)]; exact bv_at _ _ hj
          have fj := hown.frozenAt (i / 8)
          have hbl : (bytesL t)[i / 8].toNat < 256 := UInt8.toNat_lt _
          have HY := Lib.hid (show (bytesL t)[i / 8].toNat = byteOf t (i / 8) t.length by rw [bytesL_at]; simp only [UInt8.toNat_ofNat']; exact Nat.mod_eq_of_lt (byteOf_lt _ _ _))
          generalize (bytesL t)[i / 8].toNat = y at *
          go_wp2
          go_roundw
          case rel =>
            refine ⟨i + 1, by omega, by go_num, ?_, hbel.setCell (by exact hge) _⟩
            have hm8 : t.length % 8 ≠ 0 := by rw [HTL.out]; exact HM.out
            have ho := or_val2 y t (by rw [HTL.out]; have := HY.out; rw [HTL.out] at this; exact this)
            rw [HTL.out] at ho
            have h1 := (hown.stored (i / 8) (Value.int .u8 (Go.bits .or .u8 (y : Int) (128 / 2 ^ (i % 8))))).1
            rw [HT.out, bytesL_snoc t true hm8, List.length_set, bv_set, HTL.out, ← ho]
            exact h1
          case measure => simp [intOf]; omega
      | false =>
        rw [hx] at hxs
        have e1 : ((strOf L)[i]'(by rw [strOf_size]; exact hlt)).toNat = 48 := by rw [hxs]; rfl
        rw [hx] at HT
        clear hxs
        by_cases hm : i % 8 = 0
        · have hmI : ((i : Int) % 8 == 0) = true := by simp; omega
          have HM := Lib.hid hm
          clear hm
          go_wp2_with (at_builtin; refine wpList_append_own _ rfl _ _ 44 rfl w.heap.size 5 i0 (.int .u8 0) 1 1 Try.underlying44 hi hz0 hz1 hz2 rfl (by decide) _ _ _ rfl (hown.alloc _) ⟨wr.heap.size, 0, none⟩ 1 1 [.int .u8 0] rfl rfl ?c1 ?c2 ?c3 ?c4 ?c5 ?_)
          case c1 =>
            intro j u hj
            match j, hj with
            | 0, hj => simp at hj; subst hj; simp [Addr.add]
          case c2 => intro u hu; simp at hu; subst hu; rfl
          case c3 => have := HBL.out; unfold maxLen; omega
          case c4 => have := HBL.out; omega
          case c5 => have := hbel.size; simp; omega
          intro v' w1 hown' hg _
          have hbel1 : Below w.heap.size w w1 := (hbel.alloc hbel.size _).grown hg (by simp; have := hbel.size; omega) (fun k hk => (hown.lt k hk).1)
          go_wp2
          go_roundw
          case rel => exact ⟨i + 1, by omega, by go_num, by rw [HT.out, bytesL_false0 t (by rw [HTL.out]; exact HM.out), bv_app, List.length_append]; exact hown', hbel1⟩
          case measure => simp [intOf]; omega
        · have hmI : ((i : Int) % 8 == 0) = false := by simp; omega
          have HM := Lib.hid hm
          clear hm
          go_wp2
          go_roundw
          case rel => exact ⟨i + 1, by omega, by go_num, by rw [HT.out, bytesL_false t (by rw [HTL.out]; exact HM.out)]; exact hown, hbel⟩
          case measure => simp [intOf]; omega
    · have hie : i = L.length := by omega
      subst hie
      rw [List.take_of_length_le (Nat.le_refl _)] at hown
      have hs := own_string hown
      clear hown
      go_wp2
      go_ret
      exact ⟨rfl, hbel⟩
end Go.Proofs.Ytgkbmpphodabnaa
