/- Contracts of package fifo: CutPrefix, bad, closes, write, read. -/
import Derived.Test.YtpojophpbggkcaaFifo
namespace Go.Proofs.Ytpojophpbggkcaa
open Go.ChangeShapes Go.WideShapes Go.ChangeAt Go.RowKit
set_option linter.unusedVariables false

theorem str_beq (s t : ByteArray) : (s.toList == t.toList) = decide (s = t) := by
  rw [Bool.eq_iff_iff, beq_iff_eq, decide_eq_true_iff, ByteArray.toList_eq, ByteArray.toList_eq]
  constructor
  · intro h
    cases s; cases t
    congr 1
    exact Array.toList_inj.1 h
  · intro h; rw [h]
theorem str_full (s : ByteArray) (h : s.size ≠ 0) : s.toList.isEmpty = false := by
  rw [ByteArray.toList_eq]
  have : s.data.toList ≠ [] := by
    intro e; apply h
    have : s.data.toList.length = 0 := by rw [e]; rfl
    simpa using this
  simpa using this
theorem str_empty (s : ByteArray) (h : s.size = 0) : s = ⟨#[]⟩ := by
  obtain ⟨a⟩ := s
  congr 1
  exact Array.eq_empty_of_size_eq_zero h
def isPre (s p : ByteArray) : Bool := decide (p.size ≤ s.size) && decide (s.extract 0 p.size = p)
theorem hasp_any (s p : ByteArray) (r : Bool) (hr : r = isPre s p) (w : World) : Calls Try.prog 44 #[.string s, .string p] w fun e w' => e = .returned (.bool r) ∧ w = w' := by
  unfold isPre at hr
  by_cases h : p.size ≤ s.size
  · have hb := Lib.hid (str_beq (s.extract 0 p.size) p)
    have hR := Lib.hid hr
    have hi : (p.size : Int) ≤ (s.size : Int) := by omega
    clear hr
    go_enter Try.func44, Try.ntmps44
    go_wp2
    go_ret
    exact ⟨ret_bool (by rw [hR.out, ← hb.out]; simp [h]), rfl⟩
  · have hR : Hid (r = false) := Lib.hid (by rw [hr]; simp [h])
    have d1 : decide ((p.size : Int) ≤ (s.size : Int)) = false := by rw [decide_eq_false_iff_not]; omega
    clear hr
    go_enter Try.func44, Try.ntmps44
    go_wp2
    go_ret
    exact ⟨ret_bool (by rw [hR.out]), rfl⟩
def cutS (s p : ByteArray) : ByteArray := if isPre s p then s.extract p.size s.size else s
theorem cut_in (s p : ByteArray) (w : World) : Calls Try.prog 42 #[.string s, .string p] w fun e w' => e = .returned (.tuple #[.string (cutS s p), .bool (isPre s p)]) ∧ w = w' := by
  have HH := Lib.hid (fun w => hasp_any s p _ rfl w)
  have hC : Hid (isPre s p = true → p.size ≤ s.size) := Lib.hid (fun h => by unfold isPre at h; simp at h; exact h.1)
  unfold cutS
  cases hp : isPre s p with
  | true =>
    rw [hp] at HH
    have hle := hC.out hp
    have hi : (p.size : Int) ≤ (s.size : Int) := by omega
    clear hp hC
    go_enter Try.func42, Try.ntmps42
    go_wp2_with (go_at_call 44; refine (HH.out _).mono ?_; rintro e w' ⟨rfl, rfl⟩)
    go_ret2
    exact ⟨rfl, rfl⟩
  | false =>
    rw [hp] at HH
    clear hp hC
    go_enter Try.func42, Try.ntmps42
    go_wp2_with (go_at_call 44; refine (HH.out _).mono ?_; rintro e w' ⟨rfl, rfl⟩)
    go_ret2
    exact ⟨rfl, rfl⟩
theorem cut_any (s p : ByteArray) (w : World) : Calls Try.prog 40 #[.string s, .string p] w fun e w' => e = .returned (.tuple #[.string (cutS s p), .bool (isPre s p)]) ∧ w = w' := by
  have HH := Lib.hid (fun w => cut_in s p w)
  generalize cutS s p = r at *
  generalize isPre s p = q at *
  go_enter Try.func40, Try.ntmps40
  go_wp2_with (go_at_call 42; refine (HH.out _).mono ?_; rintro e w' ⟨rfl, rfl⟩)
  go_ret2
  exact ⟨rfl, rfl⟩
theorem fbad_no (side s : Int) (h1 : 0 ≤ side ∧ side ≤ 1) (h2 : 0 ≤ s ∧ s ≤ 255) (w : World) : Calls Try.prog 31 #[.int .i64 side, .int .i64 s] w fun e w' => e = .returned (.bool false) ∧ w = w' := by
  have d1 : decide (side < 0) = false := by rw [decide_eq_false_iff_not]; omega
  have d2 : decide (1 < side) = false := by rw [decide_eq_false_iff_not]; omega
  have d3 : decide (s < 0) = false := by rw [decide_eq_false_iff_not]; omega
  have d4 : decide (256 ≤ s) = false := by rw [decide_eq_false_iff_not]; omega
  go_enter Try.func31, Try.ntmps31
  go_wp2
  go_ret
  exact ⟨rfl, rfl⟩
theorem fbad_yes (s : Int) (w : World) : Calls Try.prog 31 #[.int .i64 2, .int .i64 s] w fun e w' => e = .returned (.bool true) ∧ w = w' := by
  go_enter Try.func31, Try.ntmps31
  go_wp2
  go_ret
  exact ⟨rfl, rfl⟩
theorem fcloses_ok (w : World) : Calls Try.prog 32 #[.int .i64 0] w fun e w' => e = .returned (.bool true) ∧ w = w' := by
  go_enter Try.func32, Try.ntmps32
  go_wp2
  go_ret
  exact ⟨rfl, rfl⟩
/-- what a deed at a queue leaves -/
def QPost (W : World) (q : Nat) (s : ByteArray) (c : Bool) (k : Int) (e : Ending) (w' : World) : Prop := e = .returned (.int .i64 k) ∧ Blk w' q #[.string s, .bool c] 73 ∧ Kept [q] W w'
set_option maxRecDepth 100000 in
theorem qwrite_ok (q : Nat) (s : ByteArray) (K S N0 : Int) (body ab : ByteArray) (N : Nat) (er : Int) (hN : N ≤ body.size) (hb : body.size ≤ 1000000) (hs : s.size ≤ 1000000) (w : World) (h : Blk w q #[.string s, .bool false] 73) :
    Calls Try.prog 34 #[.pointer (some ⟨q, 0, none⟩), .agg #[.int .i64 K, .int .i64 S, .int .i64 N0, .string body], .agg #[.int .i64 (N : Int), .string ab, .int .i64 er]] w (QPost w q (s ++ body.extract 0 N) false 0) := by
  have hlt := h.lt
  have x0 := h.cell 0
  have x1 := h.cell 1
  have f0 := h.free 0
  simp at x0 x1
  have d1 : decide ((N : Int) < 0) = false := by rw [decide_eq_false_iff_not]; omega
  have d2 : decide ((body.size : Int) < (N : Int)) = false := by rw [decide_eq_false_iff_not]; omega
  have hi : (N : Int) ≤ (body.size : Int) := by omega
  have hadd : ¬ 9223372036854775807 < s.size + N := by omega
  have H := Lib.hid h
  clear h
  go_enter Try.func34, Try.ntmps34
  go_wp2
  go_region
  go_wp2
  go_ret
  refine ⟨rfl, ?_, ?_⟩
  · exact (((H.out.set 0 (.string (s ++ body.extract 0 N))).alloc _).alloc _).drew
  · exact ((((Kept.refl _ _).set _ (.inl (by simp)) _).alloc _).alloc _).drew
set_option maxRecDepth 100000 in
theorem qwrite_closed (q : Nat) (s : ByteArray) (K S N0 : Int) (body ab : ByteArray) (N : Nat) (er : Int) (hN : N ≤ body.size) (h0 : N ≠ 0) (hb : body.size ≤ 1000000) (w : World) (h : Blk w q #[.string s, .bool true] 73) :
    Calls Try.prog 34 #[.pointer (some ⟨q, 0, none⟩), .agg #[.int .i64 K, .int .i64 S, .int .i64 N0, .string body], .agg #[.int .i64 (N : Int), .string ab, .int .i64 er]] w (QPost w q s true 11) := by
  have hlt := h.lt
  have x0 := h.cell 0
  have x1 := h.cell 1
  simp at x0 x1
  have d1 : decide ((N : Int) < 0) = false := by rw [decide_eq_false_iff_not]; omega
  have d2 : decide ((body.size : Int) < (N : Int)) = false := by rw [decide_eq_false_iff_not]; omega
  have d3 : ((N : Int) != 0) = true := by rw [bne_iff_ne]; omega
  have H := Lib.hid h
  clear h
  go_enter Try.func34, Try.ntmps34
  go_wp2
  go_ret
  exact ⟨rfl, (H.out.alloc _).alloc _, ((Kept.refl _ _).alloc _).alloc _⟩
/-- what a read says -/
def rdK (s body : ByteArray) (n : Int) : Int := if body.size = 0 then 7 else if isPre s body = false ∨ n < (body.size : Int) then 16 else 0
def rdS (s body : ByteArray) (n : Int) : ByteArray := if rdK s body n = 0 then s.extract body.size s.size else s
set_option maxRecDepth 100000 in
set_option maxHeartbeats 2000000 in
theorem qread_any (q : Nat) (s : ByteArray) (c br : Bool) (K S n : Int) (cb body : ByteArray) (N : Int) (hb : body.size ≤ 1000000) (w : World) (h : Blk w q #[.string s, .bool c] 73) :
    Calls Try.prog 35 #[.pointer (some ⟨q, 0, none⟩), .agg #[.int .i64 K, .int .i64 S, .int .i64 n, .string cb], .agg #[.int .i64 N, .string body, .int .i64 0], .bool br] w (QPost w q (rdS s body n) c (rdK s body n)) := by
  have hlt := h.lt
  have x0 := h.cell 0
  have f0 := h.free 0
  simp at x0
  have HC := Lib.hid (fun w => cut_any s body w)
  have H := Lib.hid h
  have hcut : Hid (isPre s body = true → cutS s body = s.extract body.size s.size) := Lib.hid (fun e => by unfold cutS; rw [if_pos e])
  clear h
  unfold rdS
  by_cases hz : body.size = 0
  · have e : rdK s body n = 7 := by unfold rdK; rw [if_pos hz]
    rw [e, if_neg (by decide)]
    obtain rfl := str_empty body hz
    clear e hcut
    generalize cutS s ⟨#[]⟩ = r at *
    generalize isPre s ⟨#[]⟩ = p at *
    go_enter Try.func35, Try.ntmps35
    go_wp2
    go_region_with (go_at_call 40; refine (HC.out _).mono ?_; rintro e w' ⟨rfl, rfl⟩)
    all_goals go_wp2
    all_goals go_ret
    all_goals exact ⟨rfl, ((H.out.alloc _).alloc _).drew, (((Kept.refl _ _).alloc _).alloc _).drew⟩
  · have hne := str_full body hz
    cases hp : isPre s body with
    | false =>
      have e : rdK s body n = 16 := by unfold rdK; rw [if_neg hz, if_pos (.inl hp)]
      rw [e, if_neg (by decide)]
      rw [hp] at HC
      clear e hp hcut
      generalize cutS s body = r at *
      go_enter Try.func35, Try.ntmps35
      go_wp2
      go_region_with (go_at_call 40; refine (HC.out _).mono ?_; rintro e w' ⟨rfl, rfl⟩)
      all_goals go_wp2
      all_goals go_ret
      all_goals exact ⟨rfl, ((H.out.alloc _).alloc _).drew, (((Kept.refl _ _).alloc _).alloc _).drew⟩
    | true =>
      have hc := hcut.out hp
      rw [hc, hp] at HC
      by_cases hn : n < (body.size : Int)
      · have e : rdK s body n = 16 := by unfold rdK; rw [if_neg hz, if_pos (.inr hn)]
        rw [e, if_neg (by decide)]
        clear e hp hcut hc
        generalize s.extract body.size s.size = r at *
        have d1 : decide (n < (body.size : Int)) = true := by rw [decide_eq_true_iff]; exact hn
        go_enter Try.func35, Try.ntmps35
        go_wp2
        go_region_with (go_at_call 40; refine (HC.out _).mono ?_; rintro e w' ⟨rfl, rfl⟩)
        all_goals go_wp2
        all_goals go_ret
        all_goals exact ⟨rfl, ((H.out.alloc _).alloc _).drew, (((Kept.refl _ _).alloc _).alloc _).drew⟩
      · have e : rdK s body n = 0 := by unfold rdK; rw [if_neg hz, if_neg (by rw [hp]; simp; omega)]
        rw [e, if_pos rfl]
        clear e hp hcut hc
        generalize s.extract body.size s.size = r at *
        have d1 : decide (n < (body.size : Int)) = false := by rw [decide_eq_false_iff_not]; exact hn
        go_enter Try.func35, Try.ntmps35
        go_wp2
        go_region_with (go_at_call 40; refine (HC.out _).mono ?_; rintro e w' ⟨rfl, rfl⟩)
        all_goals go_wp2
        all_goals go_ret
        all_goals exact ⟨rfl, by first | exact (((H.out.set 0 (.string r)).alloc _).alloc _).drew | exact (((H.out.alloc _).alloc _).drew).set 0 _, by first | exact ((((Kept.refl _ _).set _ (.inl (by simp)) _).alloc _).alloc _).drew | exact ((((Kept.refl _ _).alloc _).alloc _).drew).set _ (.inl (by simp)) _⟩
def eofK (s : ByteArray) (c : Bool) : Int := if s.size = 0 ∧ c = true then 0 else 10
set_option maxRecDepth 100000 in
set_option maxHeartbeats 2000000 in
theorem qread_eof (q : Nat) (s : ByteArray) (c : Bool) (K S n : Int) (cb body : ByteArray) (N : Int) (w : World) (h : Blk w q #[.string s, .bool c] 73) :
    Calls Try.prog 35 #[.pointer (some ⟨q, 0, none⟩), .agg #[.int .i64 K, .int .i64 S, .int .i64 n, .string cb], .agg #[.int .i64 N, .string body, .int .i64 13], .bool false] w (QPost w q s c (eofK s c)) := by
  have hlt := h.lt
  have x0 := h.cell 0
  have x1 := h.cell 1
  simp at x0 x1
  have H := Lib.hid h
  clear h
  by_cases hz : s.size = 0
  · obtain rfl := str_empty s hz
    cases c with
    | true =>
      go_enter Try.func35, Try.ntmps35
      go_wp2
      go_ret
      exact ⟨rfl, (H.out.alloc _).alloc _, ((Kept.refl _ _).alloc _).alloc _⟩
    | false =>
      go_enter Try.func35, Try.ntmps35
      go_wp2
      go_ret
      exact ⟨rfl, (H.out.alloc _).alloc _, ((Kept.refl _ _).alloc _).alloc _⟩
  · have hne := str_full s hz
    have e : eofK s c = 10 := by unfold eofK; rw [if_neg (fun h => hz h.1)]
    rw [e]
    go_enter Try.func35, Try.ntmps35
    go_wp2
    go_ret
    exact ⟨rfl, (H.out.alloc _).alloc _, ((Kept.refl _ _).alloc _).alloc _⟩
end Go.Proofs.Ytpojophpbggkcaa
