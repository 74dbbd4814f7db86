/- lightshipref28: Ended, Ack, Held, New -/
import Derived.Test.YtdggnhgflfaffaaInbRef
namespace Go.Proofs.Ytdggnhgflfaffaa
set_option maxRecDepth 20000
open Go.ChangeShapes Go.WideShapes Go.ChangeAt Go.RowKit
set_option linter.unusedVariables false
set_option linter.unusedSimpArgs false

theorem rended (C : Nat → Int) (win : Nat) (x : Ist) (p : Option Addr) (cap : Nat) (q : Option Addr) (cap2 : Nat) (w : World) :
    Calls Try.prog 14 #[.agg (rC C win x p cap q cap2)] w fun e w' => e = .returned (.bool (endB x)) ∧ w' = w.alloc (.cells (rC C win x p cap q cap2) 38) := by
  obtain ⟨c0, c1, c2, c3, c4, c5, c6, c7, c8, c9, c10, c11, c12, c13, c14, c15, c16, c17⟩ := rGet C win x p cap q cap2
  clear c0 c1 c2 c3 c4 c5 c6 c7 c8 c9 c10 c12 c13 c14 c15
  unfold endB
  generalize rC C win x p cap q cap2 = cv at *
  generalize x.fin = fin at *
  generalize x.base = base at *
  cases hk : x.known with
  | false =>
    rw [hk] at c17
    go_enter Try.func14, Try.ntmps14
    go_wp2_with fail
    go_ret
    exact ⟨rfl, rfl⟩
  | true =>
    rw [hk] at c17
    by_cases he : fin = base
    · subst he
      have b0 : ((fin : Int) == (fin : Int)) = true := by simp
      go_enter Try.func14, Try.ntmps14
      go_wp2_with fail
      go_ret
      exact ⟨ret_bool (by simp), rfl⟩
    · have b0 : ((fin : Int) == (base : Int)) = false := by rw [beq_eq_false_iff_ne]; omega
      go_enter Try.func14, Try.ntmps14
      go_wp2_with fail
      go_ret
      exact ⟨ret_bool (by simp [he]), rfl⟩
theorem rack (C : Nat → Int) (win : Nat) (x : Ist) (p : Option Addr) (cap : Nat) (q : Option Addr) (cap2 : Nat) (hb : x.base < 2147483648) (w : World) :
    Calls Try.prog 12 #[.agg (rC C win x p cap q cap2)] w fun e w' => e = .returned (.int .u32 (ackN x : Int)) ∧ Below w.heap.size w w' := by
  obtain ⟨c0, c1, c2, c3, c4, c5, c6, c7, c8, c9, c10, c11, c12, c13, c14, c15, c16, c17⟩ := rGet C win x p cap q cap2
  clear c0 c1 c2 c3 c4 c5 c6 c7 c8 c9 c10 c12 c13 c14 c15 c16 c17
  have HSZ : Hid ((rC C win x p cap q cap2).size = 18) := Lib.hid rfl
  have HE := Lib.hid (fun w => rended C win x p cap q cap2 w)
  unfold ackN
  generalize rC C win x p cap q cap2 = cv at *
  generalize x.base = base at *
  generalize endB x = eb at *
  cases eb with
  | false =>
    go_enter Try.func12, Try.ntmps12
    go_wp2_with (first | (refine wpList_load_row rfl 38 _ rfl w.heap.size rfl 38 cv (0, 0) _ (by exact Blk.new _ _ _) Try.underlying38 rfl (by rw [HSZ.out]; kernel_rfl) ?_) | (go_at_call 14; refine (HE.out _).mono ?_; rintro e w' ⟨rfl, rfl⟩))
    go_ret
    exact ⟨rfl, below2 _ _ _⟩
  | true =>
    have q1 : IntKind.u32.wrap ((base : Int) + 1) = (base : Int) + 1 := by simp [IntKind.wrap, IntKind.signed, IntKind.bits]; omega
    go_enter Try.func12, Try.ntmps12
    go_wp2_with (first | (refine wpList_load_row rfl 38 _ rfl w.heap.size rfl 38 cv (0, 0) _ (by exact Blk.new _ _ _) Try.underlying38 rfl (by rw [HSZ.out]; kernel_rfl) ?_) | (go_at_call 14; refine (HE.out _).mono ?_; rintro e w' ⟨rfl, rfl⟩))
    go_ret
    exact ⟨rfl, below2 _ _ _⟩
theorem rnew (C : Nat → Int) (win : Nat) (hwin : C 3 = (win : Int)) (w : World) :
    Calls Try.prog 9 #[.agg (cfgV C)] w fun e w' => e = .returned (.agg (rC C win x0 none 0 none 0)) ∧ Below w.heap.size w w' := by
  obtain ⟨c0, c1, c2, c3, c4, c5, c6, c7, c8, c9, c10⟩ := cfgGet C
  have HW := Lib.hid hwin
  clear hwin
  generalize cfgV C = cv at *
  go_enter Try.func9, Try.ntmps9
  go_wp2_with fail
  have e : rC C win x0 none 0 none 0 = #[.int .i64 (C 0), .int .i64 (C 1), .int .i64 (C 2), .int .i64 (C 3), .int .i64 (C 4), .int .i64 (C 5), .int .i64 (C 6), .int .i64 (C 7), .int .i64 (C 8), .int .i64 (C 9), .int .i64 (C 10), .int .u32 0, .int .i64 (C 3), .slice none 0 0, .slice none 0 0, .string ⟨#[]⟩, .int .u32 0, .bool false] := by unfold rC; rw [← HW.out]; rfl
  rw [e]
  exact bodyPost_ret (results_I rfl _ rfl (Blk.new' (by simp)) rfl) rfl ⟨rfl, below2 _ _ _⟩
theorem bodyLen_take {L : BL} {k : Nat} (hk : k < L.length) : bodyLen (L.take (k + 1)) = bodyLen (L.take k) + (L[k]'hk).2.size := by
  rw [List.take_succ_eq_append_getElem hk, bodyLen_app]
theorem bodyLen_mono (L : BL) (k : Nat) : bodyLen (L.take k) ≤ bodyLen L := by
  have h : bodyLen L = bodyLen (L.take k) + bodyLen (L.drop k) := by
    unfold bodyLen
    rw [← List.sum_append, ← List.map_append, List.take_append_drop]
  omega
theorem rheld (C : Nat → Int) (win que k : Nat) (x : Ist) (p : Option Addr) (cap : Nat) (q : Option Addr) (cap2 : Nat) (hf : Fine x win que k) (hs : x.s.size ≤ 1048576) (w : World) (h : RefAt w x p cap q cap2) :
    Calls Try.prog 19 #[.agg (rC C win x p cap q cap2)] w fun e w' => e = .returned (.int .i64 (heldN x : Int)) ∧ Below w.heap.size w w' := by
  obtain ⟨c0, c1, c2, c3, c4, c5, c6, c7, c8, c9, c10, c11, c12, c13, c14, c15, c16, c17⟩ := rGet C win x p cap q cap2
  clear c0 c1 c2 c3 c4 c5 c6 c7 c8 c9 c10 c11 c12 c14 c16 c17
  have hbl := hf.bl
  obtain ⟨n, hn⟩ : ∃ n, n = x.L.length := ⟨_, rfl⟩
  have hS := h.ro.src
  rw [← hn] at hS c13
  have hn2 : n ≤ 64 := by rw [hn]; exact hf.len
  have HN := Lib.hid hn
  have HBT := Lib.hid (fun i (hi : i < x.L.length) => bodyLen_take hi)
  have HBM := Lib.hid (bodyLen_mono x.L)
  have HF : Hid (∀ i, (hi : i < x.L.length) → (x.L[i]'hi).2.size ≤ 1000) := Lib.hid (fun i hi => hf.bods _ (List.getElem_mem hi))
  unfold heldN
  generalize x.s = s at *
  generalize hL : x.L = L at *
  generalize rC C win x p cap q cap2 = cv at *
  clear hL hn hf h
  go_enter Try.func19, Try.ntmps19
  go_wp2_with fail
  generalize hwb : w.alloc _ = wb
  have hB : Blk wb w.heap.size cv 38 := by rw [← hwb]; exact Blk.new _ _ _
  have HBW : Hid (Below w.heap.size w wb) := Lib.hid (by rw [← hwb]; exact below1 _ _)
  have HS : Hid (Src wb p n cap 2 (xl L)) := Lib.hid (hS.kept (by rw [← hwb]; exact (Kept.refl [] _).alloc _) (by simp))
  have d13 := (hB.cell 13).trans c13
  clear hwb hB hS c13
  go_loopw [3, 4] (fun nv iv wr => ∃ i : Nat, iv = .int .i64 (i : Int) ∧ i ≤ n ∧ nv = .int .i64 ((s.size : Int) + (bodyLen (L.take i) : Int)) ∧ wr = wb) (fun _ iv _ => n - (intOf iv).toNat)
  case atStart => exact ⟨0, rfl, Nat.zero_le _, by simp [bodyLen], rfl⟩
  case round =>
    obtain ⟨i, rfl, hin, rfl, rfl⟩ := hrel
    by_cases hlt : i < n
    · obtain ⟨lb, off, rfl⟩ := HS.out.of_pos (by have := HS.out.fits; omega)
      have hiL : i < L.length := by rw [← HN.out]; exact hlt
      have y1 : wr.cell? ⟨lb, off + i * 2 + 1, none⟩ = some (.string (L[i]'hiL).2) := by
        have y := HS.out.at_ (i * 2 + 1) _ (by have := xl_get L i 1 hiL (by omega); simpa [xc] using this)
        exact y
      have hb1 := HBT.out i hiL
      have hb2 := HBM.out (i + 1)
      have hb3 := HF.out i hiL
      generalize (L[i]'hiL).2 = body at *
      obtain ⟨t1, ht1⟩ : ∃ t, t = bodyLen (L.take (i + 1)) := ⟨_, rfl⟩
      rw [← ht1] at hb1 hb2
      have HT1 := Lib.hid ht1
      clear ht1
      generalize bodyLen (L.take i) = t0 at *
      generalize bodyLen L = tl at *
      have q1 : IntKind.i64.wrap ((s.size : Int) + (t0 : Int) + (body.size : Int)) = (s.size : Int) + (t0 : Int) + (body.size : Int) := IntWalk.i64_in _ (by omega)
      go_wp2
      go_roundw
      case rel => exact ⟨i + 1, by go_num, by omega, by refine congrArg (Value.int .i64) ?_; rw [← HT1.out]; first | omega | (rw [q1]; omega), by first | rfl | trivial⟩
      case measure => simp [intOf]; omega
    · obtain rfl : i = n := by omega
      have e1 : L.take i = L := List.take_of_length_le (by have := HN.out; omega)
      rw [e1]
      go_wp2
      go_ret
      exact ⟨ret_int (by push_cast; omega), HBW.out⟩
end Go.Proofs.Ytdggnhgflfaffaa
