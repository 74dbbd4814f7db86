/- Contracts of package net: Take, Flip. -/
import Derived.Test.YthaoffakemlelaaNet2
namespace Go.Proofs.Ythaoffakemlelaa
open Go.ChangeShapes Go.WideShapes Go.ChangeAt Go.RowKit
set_option linter.unusedVariables false

theorem ntake_nil (i : Int) (w : World) : Calls Try.prog 11 #[.pointer none, .int .i64 i] w (NonePost w) := by
  go_enter Try.func11, Try.ntmps11
  go_wp2_with (go_at_call 12; refine (npeek_nil _ _).mono ?_; rintro e w' ⟨rfl, rfl⟩)
  go_ret2
  exact ⟨rfl, rfl⟩
theorem ntake_none (b : Nat) (v : Value) (L : List ByteArray) (room : Nat) (i : Int) (h0 : L.length = 0) (w : World) (h : NetAt w b v L room) : Calls Try.prog 11 #[.pointer (some ⟨b, 0, none⟩), .int .i64 i] w (NonePost w) := by
  have HP := Lib.hid (npeek_none b v L room i h0 w h)
  clear h
  go_enter Try.func11, Try.ntmps11
  go_wp2_with (go_at_call 12; refine (HP.out).mono ?_; rintro e w' ⟨rfl, rfl⟩)
  go_ret2
  exact ⟨rfl, rfl⟩
set_option maxRecDepth 100000 in
set_option maxHeartbeats 2000000 in
theorem ntake_some (b : Nat) (v : Value) (L : List ByteArray) (room : Nat) (i : Int) (h0 : 0 < L.length) (w : World) (h : NetAt w b v L room) :
    Calls Try.prog 11 #[.pointer (some ⟨b, 0, none⟩), .int .i64 i] w (NActPost w b v (L.eraseIdx (atN i L.length)) room (.tuple #[.string (bg L (atN i L.length)), .bool true])) := by
  obtain ⟨g, cap, rfl, hg1, hg2⟩ := h.own.form h0
  have HP := Lib.hid (npeek_some b _ L room i h0 w h)
  have hk := atN_lt i L.length h0
  have hl : L.length ≤ 4096 := Nat.le_trans h.len h.rm
  have hle : (L.eraseIdx (atN i L.length)).length = L.length - 1 := by rw [List.length_eraseIdx, if_pos hk]
  have HLE := Lib.hid hle
  have H := Lib.hid h
  have HA := Lib.hid (fun w => at_any i L.length h0 (by omega) w)
  generalize hkk : atN i L.length = k at *
  clear h hle hkk
  go_enter Try.func11, Try.ntmps11
  go_wp2_with fail
  refine HP.out.mono ?_
  rintro e w' ⟨rfl, nq, rfl⟩
  have H2 := Lib.hid (H.out.drewN nq)
  have hk0 : Kept [] w (w.drewN nq) := (Kept.refl _ _).drewN nq
  have hsz0 : w.heap.size = (w.drewN nq).heap.size := rfl
  rw [hsz0] at hg2
  clear hsz0 HP
  generalize w.drewN nq = w0 at *
  obtain ⟨c0, c1⟩ := H2.out.cells
  have f0 := H2.out.blk.free 0
  go_wp2_with (go_at_call 16; refine (HA.out _).mono ?_; rintro e w' ⟨rfl, rfl⟩)
  refine (del_any (b + 1) g cap L k (k + 1) rfl hk hl _ (by omega) _ H2.out.own).mono ?_
  rintro e w1 ⟨rfl, hown1, hK1⟩
  have hbg : b ≠ g := by omega
  have hB1 : Blk w1 b #[.slice (some ⟨g, 0, none⟩) L.length cap, .int .i64 (room : Int)] 42 := H2.out.blk.kept hK1 (by simpa using hbg)
  have hk2 : Kept (b :: rowOf (.slice (some ⟨g, 0, none⟩) L.length cap)) w w1 := (hk0.mono (by simp)).trans hK1 (fun x hx => .inl (by simp at hx; simp [hx, rowOf, Value.ownBlock]))
  have e0 := hB1.cell 0
  have g0 := hB1.free 0
  simp at e0
  have HO1 := Lib.hid hown1
  have HB1 := Lib.hid hB1
  clear c0 c1 f0 hK1 hown1 hB1
  go_wp2
  go_ret2
  refine ⟨rfl, .slice (some ⟨g, 0, none⟩) (L.eraseIdx k).length cap, ⟨HB1.out.set 0 _, ?_, ?_, H.out.rm⟩, hk2.set _ (.inl (by simp)) _, fun x hx => .inl hx⟩
  · exact own_kept (r := [b]) HO1.out ((Kept.refl [b] _).set ⟨b, 0, none⟩ (.inl (by simp)) _) (fun z hz => by have := (own_lt HO1.out z hz).1; simp; omega)
  · have := H.out.len; have := HLE.out; omega
def flipF (f : Nat → UInt8) (q p : Nat) : UInt8 := if p = q / 8 then f p ^^^ UInt8.ofNat (2 ^ (q % 8)) else f p
def flipS (s : ByteArray) (bit : Int) : ByteArray := sof s.size (flipF (bt s) (atN bit (8 * s.size)))
theorem flip_val (y : UInt8) (m : Nat) (hm : m < 8) : (Value.int .u8 (bits .xor .u8 (y.toNat : Int) (2 ^ m % 256))) = .int .u8 ((y ^^^ UInt8.ofNat (2 ^ m)).toNat : Int) := by
  have hp : 2 ^ m < 256 := by
    have : 2 ^ m < 2 ^ 8 := Nat.pow_lt_pow_right (by omega) (by omega)
    exact this
  have e : ((2 : Int) ^ m % 256) = (((UInt8.ofNat (2 ^ m)).toNat : Nat) : Int) := by
    simp only [UInt8.toNat_ofNat']
    simp
  rw [e, u8_xor_nat _ _ y.toNat_lt (UInt8.toNat_lt _), UInt8.toNat_xor]
theorem nflip_nil (i bit : Int) (w : World) : Calls Try.prog 13 #[.pointer none, .int .i64 i, .int .i64 bit] w fun e w' => e = .returned (.bool false) ∧ w = w' := by
  go_enter Try.func13, Try.ntmps13
  go_wp2_with (go_at_call 12; refine (npeek_nil _ _).mono ?_; rintro e w' ⟨rfl, rfl⟩)
  go_ret
  exact ⟨rfl, rfl⟩
theorem nflip_none (b : Nat) (v : Value) (L : List ByteArray) (room : Nat) (i bit : Int) (h0 : L.length = 0) (w : World) (h : NetAt w b v L room) : Calls Try.prog 13 #[.pointer (some ⟨b, 0, none⟩), .int .i64 i, .int .i64 bit] w fun e w' => e = .returned (.bool false) ∧ w = w' := by
  have HP := Lib.hid (npeek_none b v L room i h0 w h)
  clear h
  go_enter Try.func13, Try.ntmps13
  go_wp2_with (go_at_call 12; refine (HP.out).mono ?_; rintro e w' ⟨rfl, rfl⟩)
  go_ret
  exact ⟨rfl, rfl⟩
theorem empty_list (s : ByteArray) (h : s.size = 0) : s.toList = [] := by
  rw [ByteArray.toList_eq]
  exact List.eq_nil_of_length_eq_zero (by simpa using h)
theorem full_list (s : ByteArray) (h : s.size ≠ 0) : s.toList.isEmpty = false := by
  rw [ByteArray.toList_eq]
  have : s.data.toList ≠ [] := by
    intro e; apply h
    have : s.data.toList.length = 0 := by rw [e]; rfl
    simpa using this
  simpa using this
theorem nflip_blank (b : Nat) (v : Value) (L : List ByteArray) (room : Nat) (i bit : Int) (h0 : 0 < L.length) (hz : (bg L (atN i L.length)).size = 0) (w : World) (h : NetAt w b v L room) : Calls Try.prog 13 #[.pointer (some ⟨b, 0, none⟩), .int .i64 i, .int .i64 bit] w fun e w' => e = .returned (.bool false) ∧ ∃ q, w' = w.drewN q := by
  have HP := Lib.hid (npeek_some b v L room i h0 w h)
  have hz2 : (bg L (atN i L.length)).toList.isEmpty = true := by rw [empty_list _ hz]; rfl
  clear h hz
  generalize bg L (atN i L.length) = s at *
  go_enter Try.func13, Try.ntmps13
  go_wp2_with (go_at_call 12; refine (HP.out).mono ?_; rintro e w' ⟨rfl, nq, rfl⟩)
  go_ret
  exact ⟨rfl, _, rfl⟩
set_option maxRecDepth 100000 in
set_option maxHeartbeats 4000000 in
theorem nflip_some (b : Nat) (v : Value) (L : List ByteArray) (room : Nat) (i bit : Int) (h0 : 0 < L.length) (hz : (bg L (atN i L.length)).size ≠ 0) (hs : (bg L (atN i L.length)).size ≤ 1000) (w : World) (h : NetAt w b v L room) :
    Calls Try.prog 13 #[.pointer (some ⟨b, 0, none⟩), .int .i64 i, .int .i64 bit] w (NActPost w b v (L.set (atN i L.length) (flipS (bg L (atN i L.length)) bit)) room (.bool true)) := by
  obtain ⟨g, cap, rfl, hg1, hg2⟩ := h.own.form h0
  have HP := Lib.hid (npeek_some b _ L room i h0 w h)
  have hk := atN_lt i L.length h0
  have hl : L.length ≤ 4096 := Nat.le_trans h.len h.rm
  have H := Lib.hid h
  have HA := Lib.hid (fun w => at_any i L.length h0 (by omega) w)
  generalize hkk : atN i L.length = k at *
  clear h hkk
  generalize bg L k = s at *
  have hz2 := full_list s hz
  have hq := atN_lt bit (8 * s.size) (by omega)
  have HA2 := Lib.hid (fun w => at_any bit (8 * s.size) (by omega) (by omega) w)
  have HS : Hid (flipS s bit = sof s.size (flipF (bt s) (atN bit (8 * s.size)))) := Lib.hid rfl
  generalize flipS s bit = fs at *
  generalize atN bit (8 * s.size) = q at *
  have hmk := make_bytes s.size (by omega)
  go_enter Try.func13, Try.ntmps13
  go_wp2_with fail
  refine HP.out.mono ?_
  rintro e w' ⟨rfl, nq, rfl⟩
  have H2 := Lib.hid (H.out.drewN nq)
  have hsz0 : w.heap.size = (w.drewN nq).heap.size := rfl
  rw [hsz0] at hg2
  clear hsz0 HP
  obtain ⟨w0, hw0⟩ : ∃ w0, w0 = w.drewN nq := ⟨_, rfl⟩
  rw [← hw0] at hg2 H2 ⊢
  have HW0 := Lib.hid hw0
  clear H hw0
  obtain ⟨w1, hcp, hrow, hg⟩ := copy_row (w := w0.alloc (.cells (zrow s.size) 5)) (n := s.size) (cap := s.size) (s := s) (Blk.new w0 _ _) (by simp [zrow]) rfl 3
  have hne : g ≠ w0.heap.size := by omega
  have hk1 : Kept [] w0 w1 := ((Kept.refl [w0.heap.size] w0).alloc _).grown hg (fun x hx => by injection hx with hx; subst hx; exact .inl (by simp)) |>.mono (fun x hx => .inr (by simp at hx; omega))
  have H1 : Hid (NetAt w1 b (.slice (some ⟨g, 0, none⟩) L.length cap) L room) := Lib.hid (H2.out.kept hk1 (by simp) (by simp))
  clear hg
  go_wp2_with (go_at_call 16; refine (HA2.out _).mono ?_; rintro e w' ⟨rfl, rfl⟩)
  have hq8 : q / 8 < s.size := by omega
  have cq := hrow.cell hq8
  have fq := hrow.free hq8
  have hAlt : (bt s (q / 8)).toNat < 256 := UInt8.toNat_lt _
  have q1 : (0 : Int) ≤ (q : Int) / 8 := by omega
  have q2 : (q : Int) / 8 < (s.size : Int) := by omega
  go_region
  go_wp2_with fail
  generalize hw4 : World.drew _ = w4
  have hrow4 : RowF w4 w0.heap.size s.size (flipF (bt s) q) := by
    rw [← hw4]
    refine RowF.drew (RowF.congr (RowF.set hrow (q / 8) hq8 (bt s (q / 8) ^^^ UInt8.ofNat (2 ^ (q % 8))) _ (flip_val _ _ (Nat.mod_lt _ (by omega)))) fun p _ => ?_)
    unfold flipF
    split
    · rename_i h; rw [h]
    · rfl
  have hk4 : Kept [] w0 w4 := by
    rw [← hw4]
    exact (hk1.set _ (.inr (by exact Nat.le_refl _)) _).drew
  have H4 : Hid (NetAt w4 b (.slice (some ⟨g, 0, none⟩) L.length cap) L room) := Lib.hid (H2.out.kept hk4 (by simp) (by simp))
  have hkw : Kept [] w w0 := by rw [HW0.out]; exact (Kept.refl [] w).drewN nq
  have HK4 := Lib.hid (hkw.trans hk4 (fun x hx => .inl hx))
  clear hkw
  have hconv : ∀ N, (convert 48 9 (.slice (some ⟨w0.heap.size, 0, none⟩) s.size s.size)).run Try.prog (w4.drewN N) = .ok (.string fs) (w4.drewN N) := fun N => by
    rw [HS.out]; exact (hrow4.drewN N).str s.size
  have hconv1 : (convert 48 9 (.slice (some ⟨w0.heap.size, 0, none⟩) s.size s.size)).run Try.prog w4.drew = .ok (.string fs) w4.drew := hconv 1
  have hconv2 := Lib.hid (show ∀ v, (convert 48 9 (.slice (some ⟨w0.heap.size, 0, none⟩) s.size s.size)).run Try.prog (w4.setCell ⟨g, k, none⟩ v).drew = .ok (.string fs) (w4.setCell ⟨g, k, none⟩ v).drew from fun v => by
    rw [HS.out]; exact (RowF.drew (RowF.other hrow4 _ (fun e => hne e.symm) v)).str s.size)
  have hconv3 := Lib.hid hconv1
  clear hconv hconv1 hw4 hrow4 hk4 hk1 H1 hrow hmk hcp cq fq H2
  obtain ⟨c0, c1⟩ := H4.out.cells
  have ck : w4.cell? ⟨g, k, none⟩ = some (.string (bg L k)) := by rw [H4.out.own.cellAt _ (by omega)]; exact sv_bg _ _ hk
  have fk := H4.out.own.frozenAt k
  go_region_held3 (fun w' => w'.cell? ⟨b, 0, none⟩ = some (.slice (some ⟨g, 0, none⟩) L.length cap) ∧ (convert 48 9 (.slice (some ⟨w0.heap.size, 0, none⟩) s.size s.size)).run Try.prog w' = .ok (.string fs) w') (first | exact ⟨c0, hconv3.out⟩ | exact ⟨kdrew (kset c0 (by show b ≠ g; omega)), hconv2.out _⟩) ((go_at_call 16; refine (HA.out _).mono ?_; rintro e w' ⟨rfl, rfl⟩))
  all_goals
    go_wp2_with fail
    go_ret
    refine ⟨rfl, .slice (some ⟨g, 0, none⟩) (L.set k fs).length cap, ⟨?_, ?_, ?_, H4.out.rm⟩, ?_, fun x hx => .inl hx⟩
    · rw [List.length_set]
      exact Blk.drew (Blk.other H4.out.blk _ (by show b ≠ g; omega) _)
    · rw [List.length_set, sv_set]
      exact (H4.out.own.stored k _).1
    · rw [List.length_set]; exact H4.out.len
    · exact ((HK4.out.mono (by simp)).set _ (.inl (by simp [rowOf, Value.ownBlock])) _).drew
end Go.Proofs.Ythaoffakemlelaa
