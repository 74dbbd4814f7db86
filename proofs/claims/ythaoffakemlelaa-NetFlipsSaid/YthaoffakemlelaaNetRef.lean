/- Contracts of lightshipref31. -/
import Derived.Test.YthaoffakemlelaaNet3
import Derived.Test.YthaoffakemlelaaApp
namespace Go.Proofs.Ythaoffakemlelaa
open Go.ChangeShapes Go.WideShapes Go.ChangeAt Go.RowKit
set_option linter.unusedVariables false

theorem rat_any (i : Int) (n : Nat) (h0 : 0 < n) (hn : n ≤ 1048576) (w : World) : Calls Try.prog 18 #[.int .i64 i, .int .i64 (n : Int)] w fun e w' => e = .returned (.int .i64 (atN i n : Int)) ∧ w = w' := by
  by_cases h : i < 0
  · have e : atN i n = 0 := by unfold atN; rw [show max i 0 = 0 by omega]; simp
    rw [e]
    go_enter Try.func18, Try.ntmps18
    go_wp2
    go_ret
    exact ⟨rfl, rfl⟩
  · have e := Lib.hid (show i % (n : Int) = (atN i n : Int) by rw [← atN_int, show max i 0 = i by omega])
    go_enter Try.func18, Try.ntmps18
    go_wp2
    go_ret
    exact ⟨ret_int e.out, rfl⟩
theorem own_base {w : World} {base base' : Nat} {e : TypeId} {size n : Nat} {v : Value} {xs : List Value} (h : w.ownsRow base e size v n xs) (hb : base' ≤ base) : w.ownsRow base' e size v n xs := by
  refine ⟨h.1, ?_⟩
  rcases h.2 with h0 | ⟨g, cap, cur, hv, hg, r⟩
  · exact .inl h0
  · exact .inr ⟨g, cap, cur, hv, by omega, r⟩
theorem erase_app (L : List ByteArray) (k : Nat) (hk : k < L.length) : (sv L).take k ++ (sv L).drop (k + 1) = sv (L.eraseIdx k) ∧ k + (L.length - (k + 1)) = (L.eraseIdx k).length := by
  refine ⟨?_, by rw [List.length_eraseIdx, if_pos hk]; omega⟩
  rw [List.eraseIdx_eq_take_drop_succ]
  simp [sv]
def RTakePost (W : World) (L : List ByteArray) (s : ByteArray) (e : Ending) (w' : World) : Prop :=
  ∃ v', e = .returned (.tuple #[.string s, v', .bool true]) ∧ w'.ownsRow W.heap.size 9 1 v' L.length (sv L) ∧ Below W.heap.size W w'
theorem rtake_none (p : Option Addr) (n cap : Nat) (h0 : n = 0) (i : Int) (w : World) : Calls Try.prog 14 #[.slice p n cap, .int .i64 i] w fun e w' => e = .returned (.tuple #[.string ⟨#[]⟩, .slice p n cap, .bool false]) ∧ w = w' := by
  subst h0
  go_enter Try.func14, Try.ntmps14
  go_wp2
  go_ret3
  exact ⟨rfl, rfl⟩
set_option maxRecDepth 100000 in
set_option maxHeartbeats 2000000 in
theorem rtake_some (p : Option Addr) (cap : Nat) (L : List ByteArray) (i : Int) (h0 : 0 < L.length) (hL : L.length ≤ 4096) (w : World) (hs : Src w p L.length cap 1 (sv L)) : Calls Try.prog 14 #[.slice p L.length cap, .int .i64 i] w (RTakePost w (L.eraseIdx (atN i L.length)) (bg L (atN i L.length))) := by
  obtain ⟨i0, hi, hz0, hz1, hz2⟩ := info_parts s_info
  obtain ⟨b, off, rfl⟩ := hs.of_pos (by have := hs.fits; omega)
  have hbl := hs.lt h0 (by omega)
  have hk := atN_lt i L.length h0
  have hcap := hs.fits
  have hmax := hs.big
  unfold maxLen at hmax
  have HA := Lib.hid (fun w => rat_any i L.length h0 (by omega) w)
  generalize atN i L.length = k at *
  have hkc : k ≤ cap := by omega
  have HS := Lib.hid hs
  have b0 : ((L.length : Int) == 0) = false := by rw [beq_eq_false_iff_ne]; omega
  clear hs
  go_enter Try.func14, Try.ntmps14
  go_wp2_with (first | (go_at_call 18; refine (HA.out _).mono ?_; rintro e w' ⟨rfl, rfl⟩) | (at_builtin; refine wpList_append_src _ rfl (.tmp 17) (.tmp 20) 28 rfl w.heap.size 9 i0 (.string ⟨#[]⟩) 1 16 Try.underlying28 hi hz0 hz1 hz2 rfl (by decide) _ 0 [] rfl (World.ownsRow_nil _ _ _ _) _ k cap rfl _ (HS.out.head k (by omega)) (fun u hu => sv_one _ _ (List.mem_of_mem_take hu)) (by unfold maxLen; omega) (by omega) (Nat.le_refl _) ?_))
  intro v1 w1 hown1 hg1 hat1
  have hb1 : Below w.heap.size w w1 := below_gn hg1
  have HS1 := Lib.hid (HS.out.below hb1 (fun a ha => by injection ha with ha; subst ha; exact hbl))
  have HO1 := Lib.hid hown1
  have hsz1 := hb1.size
  have HB1 := Lib.hid hb1
  obtain ⟨ao, hcut, hsrc, _⟩ := HS1.out.cut 28 (by kernel_rfl) (by intro w; kernel_rfl) (k + 1) (by omega) ((k : Int) + 1) (by omega)
  have HC := Lib.hid hsrc
  clear hown1 hg1 hat1 hb1 hsrc
  go_wp2_with (at_builtin; refine wpList_append_src _ rfl (.tmp 22) (.tmp 26) 28 rfl w.heap.size 9 i0 (.string ⟨#[]⟩) 1 16 Try.underlying28 hi hz0 hz1 hz2 rfl (by decide) _ _ _ rfl HO1.out _ (L.length - (k + 1)) (cap - (k + 1)) rfl _ HC.out (fun u hu => sv_one _ _ (List.mem_of_mem_drop hu)) (by unfold maxLen; omega) (by omega) hsz1 ?_)
  intro v2 w2 hown2 hg2 hat2
  have hb2 : Below w.heap.size w w2 := HB1.out.trans (by
    refine ⟨hg2.os, hg2.tape, hg2.output, hg2.size, fun q hq => hg2.block q (by omega) fun e => ?_⟩
    have := HO1.out.lt q e.symm
    omega)
  have ck : w2.cell? ⟨b, off + k, none⟩ = some (.string (bg L k)) := (HS.out.below hb2 (fun a ha => by injection ha with ha; subst ha; exact hbl)).at_ k _ (sv_bg L k hk)
  rw [(erase_app L k hk).1, (erase_app L k hk).2] at hown2
  have HO2 := Lib.hid hown2
  have HB2 := Lib.hid hb2
  clear hown2 hg2 hat2 hb2
  go_wp2
  go_ret3
  exact ⟨v2, rfl, HO2.out, HB2.out⟩
theorem rflip_none (p : Option Addr) (n cap : Nat) (h0 : n = 0) (i bit : Int) (w : World) : Calls Try.prog 15 #[.slice p n cap, .int .i64 i, .int .i64 bit] w fun e w' => e = .returned (.tuple #[.slice p n cap, .bool false]) ∧ w = w' := by
  subst h0
  go_enter Try.func15, Try.ntmps15
  go_wp2
  go_ret2
  exact ⟨rfl, rfl⟩
theorem rflip_blank (p : Option Addr) (cap : Nat) (L : List ByteArray) (i bit : Int) (h0 : 0 < L.length) (hL : L.length ≤ 4096) (hz : (bg L (atN i L.length)).size = 0) (w : World) (hs : Src w p L.length cap 1 (sv L)) : Calls Try.prog 15 #[.slice p L.length cap, .int .i64 i, .int .i64 bit] w fun e w' => e = .returned (.tuple #[.slice p L.length cap, .bool false]) ∧ w = w' := by
  obtain ⟨b, off, rfl⟩ := hs.of_pos (by have := hs.fits; omega)
  have hk := atN_lt i L.length h0
  have HA := Lib.hid (fun w => rat_any i L.length h0 (by omega) w)
  have hz2 : (bg L (atN i L.length)).toList.isEmpty = true := by rw [empty_list _ hz]; rfl
  have ck : w.cell? ⟨b, off + atN i L.length, none⟩ = some (.string (bg L (atN i L.length))) := hs.at_ _ _ (sv_bg L _ hk)
  have b0 : ((L.length : Int) == 0) = false := by rw [beq_eq_false_iff_ne]; omega
  clear hs hz
  generalize bg L (atN i L.length) = s at *
  generalize atN i L.length = k at *
  go_enter Try.func15, Try.ntmps15
  go_wp2_with (go_at_call 18; refine (HA.out _).mono ?_; rintro e w' ⟨rfl, rfl⟩)
  go_ret2
  exact ⟨rfl, rfl⟩
def RFlipPost (W : World) (L : List ByteArray) (e : Ending) (w' : World) : Prop :=
  ∃ v', e = .returned (.tuple #[v', .bool true]) ∧ w'.ownsRow W.heap.size 9 1 v' L.length (sv L) ∧ Below W.heap.size W w'
set_option maxRecDepth 100000 in
set_option maxHeartbeats 2000000 in
theorem rflip_some (p : Option Addr) (cap : Nat) (L : List ByteArray) (i bit : Int) (h0 : 0 < L.length) (hL : L.length ≤ 4096) (hz : (bg L (atN i L.length)).size ≠ 0) (hsz : (bg L (atN i L.length)).size ≤ 1000) (w : World) (hs : Src w p L.length cap 1 (sv L)) :
    Calls Try.prog 15 #[.slice p L.length cap, .int .i64 i, .int .i64 bit] w (RFlipPost w (L.set (atN i L.length) (flipS (bg L (atN i L.length)) bit))) := by
  obtain ⟨i0, hi, hz0, hz1, hz2⟩ := info_parts s_info
  obtain ⟨b, off, rfl⟩ := hs.of_pos (by have := hs.fits; omega)
  have hbl := hs.lt h0 (by omega)
  have hk := atN_lt i L.length h0
  have hcap := hs.fits
  have hmax := hs.big
  unfold maxLen at hmax
  have HA := Lib.hid (fun w => rat_any i L.length h0 (by omega) w)
  have ck : w.cell? ⟨b, off + atN i L.length, none⟩ = some (.string (bg L (atN i L.length))) := hs.at_ _ _ (sv_bg L _ hk)
  generalize atN i L.length = k at *
  generalize bg L k = s at *
  have hzz := full_list s hz
  have hq := atN_lt bit (8 * s.size) (by omega)
  have HA2 := Lib.hid (fun w => rat_any bit (8 * s.size) (by omega) (by omega) w)
  have HF : Hid (flipS s bit = sof s.size (flipF (bt s) (atN bit (8 * s.size)))) := Lib.hid rfl
  generalize flipS s bit = fs at *
  generalize atN bit (8 * s.size) = q at *
  have b0 : ((L.length : Int) == 0) = false := by rw [beq_eq_false_iff_ne]; omega
  obtain ⟨bcap, w1, hconv, hrow, hb1, hbc⟩ := conv_row s w
  have HS := Lib.hid hs
  have HB1 := Lib.hid hb1
  have hq8 : q / 8 < s.size := by omega
  have cq := hrow.cell hq8
  have fq := hrow.free hq8
  have hAlt : (bt s (q / 8)).toNat < 256 := UInt8.toNat_lt _
  have q1 : (0 : Int) ≤ (q : Int) / 8 := by omega
  have q2 : (q : Int) / 8 < (s.size : Int) := by omega
  clear hs hb1 hz
  go_enter Try.func15, Try.ntmps15
  go_wp2_with (first | (go_at_call 18; refine (HA.out _).mono ?_; rintro e w' ⟨rfl, rfl⟩) | (go_at_call 18; refine (HA2.out _).mono ?_; rintro e w' ⟨rfl, rfl⟩) | (at_builtin; refine wpList_append_src _ rfl (.tmp 50) (.tmp 51) 28 rfl w.heap.size 9 i0 (.string ⟨#[]⟩) 1 16 Try.underlying28 hi hz0 hz1 hz2 rfl (by decide) _ 0 [] rfl (World.ownsRow_nil _ _ _ _) _ L.length cap rfl (sv L) ?c1 (sv_one _) (by unfold maxLen; omega) (by omega) ?c2 ?_))
  case c1 => exact HS.out.below (Below.setCell (by exact HB1.out) (Nat.le_refl _) _) (fun a ha => by injection ha with ha; subst ha; exact hbl)
  case c2 => have := HB1.out.size; simpa [World.setCell] using this
  intro v2 w2 hown2 hg2 hat2
  have hrow2 : RowF w2 w.heap.size s.size (flipF (bt s) q) := by
    refine RowF.grown (w := _) (RowF.congr (RowF.set hrow (q / 8) hq8 (bt s (q / 8) ^^^ UInt8.ofNat (2 ^ (q % 8))) _ (flip_val _ _ (Nat.mod_lt _ (by omega)))) fun p _ => ?_) hg2 (by simp [Value.ownBlock])
    unfold flipF
    split
    · rename_i h; rw [h]
    · rfl
  have hb2 : Below w.heap.size w w2 := Below.trans (b := _) (Below.setCell HB1.out (Nat.le_refl _) _) ((below_gn hg2).mono (by have := HB1.out.size; simpa [World.setCell] using this))
  obtain ⟨g, cap', hv, hge, hgl⟩ := hown2.form (by omega)
  subst hv
  have hgne : g ≠ w.heap.size := by
    have h1 := HB1.out.size
    rcases hat2 with h | h
    · simp [Value.ownBlock] at h
    · simp [Value.ownBlock] at h
      have h2 := hrow.lt
      omega
  have hstr : (convert 48 9 (.slice (some ⟨w.heap.size, 0, none⟩) s.size bcap)).run Try.prog w2 = .ok (.string fs) w2 := by rw [HF.out]; exact hrow2.str bcap
  have ck2 : w2.cell? ⟨g, k, none⟩ = some (.string (bg L k)) := by rw [hown2.cellAt _ (by omega)]; exact sv_bg _ _ hk
  have fk2 := hown2.frozenAt k
  have HO2 := Lib.hid hown2
  have HB2 := Lib.hid hb2
  clear hown2 hg2 hat2 hb2 hrow2 hrow cq fq hconv ck
  go_wp2
  go_ret2
  refine ⟨.slice (some ⟨g, 0, none⟩) L.length cap', rfl, ?_, HB2.out.setCell hge _⟩
  rw [List.length_set, sv_set]
  exact (HO2.out.stored k _).1
end Go.Proofs.Ythaoffakemlelaa
