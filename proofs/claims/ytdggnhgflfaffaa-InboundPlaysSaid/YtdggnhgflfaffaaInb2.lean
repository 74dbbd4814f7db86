/- inbound: Ended, Ack, Held, Saw, Put. -/
import Derived.Test.YtdggnhgflfaffaaInb
namespace Go.Proofs.Ytdggnhgflfaffaa
set_option maxRecDepth 20000
open Go.ChangeShapes Go.WideShapes Go.ChangeAt Go.RowKit
set_option linter.unusedVariables false

def endB (x : Ist) : Bool := x.known && decide (x.fin = x.base)
set_option maxHeartbeats 1000000 in
theorem iended (b : Nat) (R : List Nat) (win que : Nat) (C : Nat → Int) (x : Ist) (w : World) (h : In w b R win que C x) :
    Calls Try.prog 13 #[.pointer (some ⟨b, 0, none⟩)] w (SameD w (.bool (endB x))) := by
  obtain ⟨ob, g1, g2, rb, rg, rfl, h⟩ := h
  obtain ⟨c3, c11, c12, c13, c14, c15, c16, c17⟩ := h.cells
  have HB := Lib.hid (fun w' (hk : Kept [] w w') => obase_is ob g1 g2 x.base win x.L w' (h.ord.kept hk (by simp) (by simp) (by simp)))
  unfold endB
  generalize x.base = base at *
  generalize x.fin = fin at *
  clear h c3 c12 c15 c16 c17
  cases hk : x.known with
  | false =>
    rw [hk] at c14
    go_enter Try.func13, Try.ntmps13
    go_wp2_with fail
    go_quiet (fail)
    go_wp2_with fail
    go_ret
    exact ⟨rfl, nq, rfl⟩
  | true =>
    rw [hk] at c14
    by_cases he : fin = base
    · subst he
      have b0 : ((fin : Int) == (fin : Int)) = true := by simp
      go_enter Try.func13, Try.ntmps13
      go_wp2_with fail
      go_region_held3 (fun w' => w'.cell? ⟨b, 14, none⟩ = some (.bool true) ∧ w'.cell? ⟨b, 13, none⟩ = some (.int .u32 (fin : Int)) ∧ w'.cell? ⟨b, 11, none⟩ = some (.pointer (some ⟨ob, 0, none⟩))) (first | exact ⟨c14, c13, c11⟩ | exact ⟨kdrew c14, kdrew c13, kdrew c11⟩) ((go_at_call 36; refine (HB.out _ (by exact (Kept.refl [] _).drew)).mono ?_; rintro e w' ⟨rfl, rfl⟩))
      go_wp2_with fail
      go_ret
      exact ⟨ret_bool (by simp), 1, rfl⟩
    · have b0 : ((fin : Int) == (base : Int)) = false := by rw [beq_eq_false_iff_ne]; omega
      go_enter Try.func13, Try.ntmps13
      go_wp2_with fail
      go_region_held3 (fun w' => w'.cell? ⟨b, 14, none⟩ = some (.bool true) ∧ w'.cell? ⟨b, 13, none⟩ = some (.int .u32 (fin : Int)) ∧ w'.cell? ⟨b, 11, none⟩ = some (.pointer (some ⟨ob, 0, none⟩))) (first | exact ⟨c14, c13, c11⟩ | exact ⟨kdrew c14, kdrew c13, kdrew c11⟩) ((go_at_call 36; refine (HB.out _ (by exact (Kept.refl [] _).drew)).mono ?_; rintro e w' ⟨rfl, rfl⟩))
      go_wp2_with fail
      go_ret
      exact ⟨ret_bool (by simp [he]), 1, rfl⟩
def ackN (x : Ist) : Nat := if endB x then x.base + 1 else x.base
set_option maxHeartbeats 1000000 in
theorem iack (b : Nat) (R : List Nat) (win que : Nat) (C : Nat → Int) (x : Ist) (hb : x.base < 2147483648) (w : World) (h : In w b R win que C x) :
    Calls Try.prog 11 #[.pointer (some ⟨b, 0, none⟩)] w (SameD w (.tuple #[.int .u32 (ackN x : Int), .int .i64 (win : Int)])) := by
  have HE := Lib.hid (fun w' (hk : Kept [] w w') => iended b R win que C x w' (h.kept hk (by simp)))
  obtain ⟨ob, g1, g2, rb, rg, rfl, h⟩ := h
  obtain ⟨c3, c11, c12, c13, c14, c15, c16, c17⟩ := h.cells
  have HB := Lib.hid (fun w' (hk : Kept [] w w') => obase_is ob g1 g2 x.base win x.L w' (h.ord.kept hk (by simp) (by simp) (by simp)))
  unfold ackN
  generalize x.base = base at *
  generalize endB x = eb at *
  clear h c12 c13 c14 c15 c16 c17
  cases eb with
  | false =>
    go_enter Try.func11, Try.ntmps11
    go_wp2_with fail
    refine (HB.out _ (Kept.refl _ _)).mono ?_
    rintro e w1 ⟨rfl, rfl⟩
    go_wp2_with fail
    refine (HE.out _ (Kept.refl _ _)).mono ?_
    rintro e w1 ⟨rfl, q, rfl⟩
    have c3 := kdrewN c3 q
    go_wp2_with fail
    go_quiet (fail)
    go_wp2_with fail
    try rw [Exit.noGoto_ret]
    go_returns
    exact ⟨rfl, q + nq, by first | rfl | exact World.drewN_drewN ..⟩
  | true =>
    have q1 : IntKind.u32.wrap ((base : Int) + 1) = (base : Int) + 1 := by simp [IntKind.wrap, IntKind.signed, IntKind.bits]; omega
    go_enter Try.func11, Try.ntmps11
    go_wp2_with fail
    refine (HB.out _ (Kept.refl _ _)).mono ?_
    rintro e w1 ⟨rfl, rfl⟩
    go_wp2_with fail
    refine (HE.out _ (Kept.refl _ _)).mono ?_
    rintro e w1 ⟨rfl, q, rfl⟩
    have c3 := kdrewN c3 q
    go_wp2_with fail
    go_quiet (fail)
    go_wp2_with fail
    try rw [Exit.noGoto_ret]
    go_returns
    exact ⟨rfl, q + nq, by first | rfl | exact World.drewN_drewN ..⟩
def heldN (x : Ist) : Nat := x.s.size + bodyLen x.L
set_option maxHeartbeats 1000000 in
theorem iheld (b : Nat) (R : List Nat) (win que : Nat) (C : Nat → Int) (x : Ist) (hb : bodyLen x.L ≤ 1048576) (w : World) (h : In w b R win que C x) :
    Calls Try.prog 18 #[.pointer (some ⟨b, 0, none⟩)] w (SameD w (.int .i64 (heldN x : Int))) := by
  obtain ⟨ob, g1, g2, rb, rg, rfl, h⟩ := h
  obtain ⟨c3, c11, c12, c13, c14, c15, c16, c17⟩ := h.cells
  have hsz := h.ring.lt.2.2.2
  have HR := Lib.hid (fun w' (hk : Kept [] w w') => len_any rb rg que x.s w' (h.ring.kept hk (by simp) (by simp)))
  unfold heldN
  generalize bodyLen x.L = bl at *
  generalize x.s.size = sz at *
  clear h c3 c11 c13 c14 c15 c16
  have hw : IntKind.i64.wrap ((sz : Int) + (bl : Int)) = (sz : Int) + (bl : Int) := IntWalk.i64_in _ (by omega)
  go_enter Try.func18, Try.ntmps18
  go_wp2_with fail
  go_region_held3 (fun w' => w'.cell? ⟨b, 12, none⟩ = some (.pointer (some ⟨rb, 0, none⟩)) ∧ w'.cell? ⟨b, 17, none⟩ = some (.int .i64 (bl : Int))) (first | exact ⟨c12, c17⟩ | exact ⟨kdrew c12, kdrew c17⟩) ((go_at_call 42; refine (HR.out _ (by exact (Kept.refl [] _).drew)).mono ?_; rintro e w' ⟨rfl, rfl⟩))
  go_wp2_with fail
  go_ret
  exact ⟨ret_int (by push_cast; omega), 1, rfl⟩
def sawK (x : Ist) (win block : Nat) : Int := if lessB (block : Int) (x.base : Int) then 0 else if keyIn x.base win block = false then 1 else if behB x block then 1 else if hasR x.L block then 2 else 3
def sawX (x : Ist) (win block : Nat) : Ist := if sawK x win block = 3 then noteX x block else x
theorem key_small {base win block : Nat} (hb : base ≤ 1000) (hw : win ≤ 64) (hx : block < 4294967296) (h : keyIn base win block = true) : base ≤ block ∧ block < base + win := by
  rw [key_iff] at h
  unfold ahead at h
  omega
set_option maxHeartbeats 4000000 in
theorem isaw (b : Nat) (R : List Nat) (win que k : Nat) (C : Nat → Int) (x : Ist) (block : Nat) (hx : block < 4294967296) (hf : Fine x win que k) (w : World) (h : In w b R win que C x) :
    Calls Try.prog 22 #[.pointer (some ⟨b, 0, none⟩), .int .u32 (block : Int)] w (IAct w b R win que C (sawX x win block) (.int .i64 (sawK x win block))) := by
  have HI := Lib.hid h
  have HBH := Lib.hid (fun w' (hk : Kept [] w w') => ibehind b R win que C x _ block hx hf.fin w' (h.kept hk (by simp)))
  have hmx : mx x.S < 2147483648 := by have := hf.small; have := hf.w2; exact mx_le (fun y hy => by have := hf.seen y hy; omega) (by omega)
  have HN := Lib.hid (fun (hb : block < 2147483648) w' (hk : Kept [] w w') => inote b R win que C x _ block hb hmx w' (h.kept hk (by simp)))
  obtain ⟨ob, g1, g2, rb, rg, rfl, h⟩ := h
  obtain ⟨c3, c11, c12, c13, c14, c15, c16, c17⟩ := h.cells
  have HB := Lib.hid (fun w' (hk : Kept [] w w') => obase_is ob g1 g2 x.base win x.L w' (h.ord.kept hk (by simp) (by simp) (by simp)))
  have HH := Lib.hid (fun w' (hk : Kept [] w w') => ohas_is ob g1 g2 x.base win x.L block hx w' (h.ord.kept hk (by simp) (by simp) (by simp)))
  have hbase : x.base < 1000 ∨ x.base = 1000 := by have := hf.base; have := hf.small; omega
  have HLS := Lib.hid (fun w => serialLess (block : Int) (x.base : Int) (by omega) (by omega) (by omega) (by omega) w)
  have HW := Lib.hid (fun w => serialWithin (block : Int) (x.base : Int) (win : Int) (by omega) (by omega) (by omega) (by omega) w)
  have HF := Lib.hid hf
  unfold sawX
  clear h c12 c13 c14 c15 c16 c17 hf
  cases h1 : lessB (block : Int) (x.base : Int) with
  | true =>
    have e : sawK x win block = 0 := by unfold sawK; rw [if_pos h1]
    rw [e, if_neg (by decide)]
    rw [h1] at HLS
    have HS := Lib.hid (IAct.same (e := .returned (.int .i64 0)) HI.out ⟨rfl, 0, rfl⟩)
    clear h1 e hbase
    generalize x.base = base at *
    go_enter Try.func22, Try.ntmps22
    go_wp2_with fail
    refine (HB.out _ (Kept.refl _ _)).mono ?_
    rintro e w1 ⟨rfl, rfl⟩
    go_wp2_with fail
    refine (HLS.out _).mono ?_
    rintro e w1 ⟨rfl, rfl⟩
    go_wp2_with fail
    go_ret
    exact HS.out
  | false =>
    rw [h1] at HLS
    cases h2 : keyIn x.base win block with
    | false =>
      have e : sawK x win block = 1 := by unfold sawK; rw [if_neg (by simp [h1]), if_pos h2]
      rw [e, if_neg (by decide)]
      unfold keyIn at h2
      rw [h2] at HW
      have HS := Lib.hid (fun q => IAct.same (e := .returned (.int .i64 1)) (w' := w.drewN q) HI.out ⟨rfl, q, rfl⟩)
      clear h1 h2 e hbase
      generalize x.base = base at *
      go_enter Try.func22, Try.ntmps22
      go_wp2_with fail
      refine (HB.out _ (Kept.refl _ _)).mono ?_
      rintro e w1 ⟨rfl, rfl⟩
      go_wp2_with fail
      refine (HLS.out _).mono ?_
      rintro e w1 ⟨rfl, rfl⟩
      go_wp2_with fail
      go_region_held3 (fun w' => w'.cell? ⟨b, 3, none⟩ = some (.int .i64 (win : Int)) ∧ w'.cell? ⟨b, 11, none⟩ = some (.pointer (some ⟨ob, 0, none⟩))) (first | exact ⟨c3, c11⟩ | exact ⟨kdrew c3, kdrew c11⟩) (first | (go_at_call 36; refine (HB.out _ (by exact (Kept.refl [] _).drew)).mono ?_; rintro e w' ⟨rfl, rfl⟩) | (go_at_call 44; refine (HW.out _).mono ?_; rintro e w' ⟨rfl, rfl⟩))
      go_wp2_with fail
      go_ret
      exact HS.out 1
    | true =>
      have hk2 := h2
      unfold keyIn at h2
      rw [h2] at HW
      cases h3 : behB x block with
      | true =>
        have e : sawK x win block = 1 := by unfold sawK; rw [if_neg (by simp [h1]), if_neg (by simp [hk2]), if_pos h3]
        rw [e, if_neg (by decide)]
        rw [h3] at HBH
        have HS := Lib.hid (fun q => IAct.same (e := .returned (.int .i64 1)) (w' := w.drewN q) HI.out ⟨rfl, q, rfl⟩)
        clear h1 h2 hk2 h3 e hbase
        generalize x.base = base at *
        go_enter Try.func22, Try.ntmps22
        go_wp2_with fail
        refine (HB.out _ (Kept.refl _ _)).mono ?_
        rintro e w1 ⟨rfl, rfl⟩
        go_wp2_with fail
        refine (HLS.out _).mono ?_
        rintro e w1 ⟨rfl, rfl⟩
        go_wp2_with fail
        go_region_held3 (fun w' => w'.cell? ⟨b, 3, none⟩ = some (.int .i64 (win : Int)) ∧ w'.cell? ⟨b, 11, none⟩ = some (.pointer (some ⟨ob, 0, none⟩))) (first | exact ⟨c3, c11⟩ | exact ⟨kdrew c3, kdrew c11⟩) (first | (go_at_call 36; refine (HB.out _ (by exact (Kept.refl [] _).drew)).mono ?_; rintro e w' ⟨rfl, rfl⟩) | (go_at_call 44; refine (HW.out _).mono ?_; rintro e w' ⟨rfl, rfl⟩))
        go_wp2_with fail
        refine (HBH.out _ (by exact (Kept.refl [] _).drew)).mono ?_
        rintro e w1 ⟨rfl, rfl⟩
        go_wp2_with fail
        go_ret
        exact HS.out 1
      | false =>
        rw [h3] at HBH
        cases h4 : hasR x.L block with
        | true =>
          have e : sawK x win block = 2 := by unfold sawK; rw [if_neg (by simp [h1]), if_neg (by simp [hk2]), if_neg (by simp [h3]), if_pos h4]
          rw [e, if_neg (by decide)]
          rw [h4] at HH
          have HS := Lib.hid (fun q => IAct.same (e := .returned (.int .i64 2)) (w' := w.drewN q) HI.out ⟨rfl, q, rfl⟩)
          clear h1 h2 hk2 h3 h4 e hbase
          generalize x.base = base at *
          have c11' := kdrew c11
          go_enter Try.func22, Try.ntmps22
          go_wp2_with fail
          refine (HB.out _ (Kept.refl _ _)).mono ?_
          rintro e w1 ⟨rfl, rfl⟩
          go_wp2_with fail
          refine (HLS.out _).mono ?_
          rintro e w1 ⟨rfl, rfl⟩
          go_wp2_with fail
          go_region_held3 (fun w' => w'.cell? ⟨b, 3, none⟩ = some (.int .i64 (win : Int)) ∧ w'.cell? ⟨b, 11, none⟩ = some (.pointer (some ⟨ob, 0, none⟩))) (first | exact ⟨c3, c11⟩ | exact ⟨kdrew c3, kdrew c11⟩) (first | (go_at_call 36; refine (HB.out _ (by exact (Kept.refl [] _).drew)).mono ?_; rintro e w' ⟨rfl, rfl⟩) | (go_at_call 44; refine (HW.out _).mono ?_; rintro e w' ⟨rfl, rfl⟩))
          go_wp2_with fail
          refine (HBH.out _ (by exact (Kept.refl [] _).drew)).mono ?_
          rintro e w1 ⟨rfl, rfl⟩
          go_wp2_with fail
          refine (HH.out _ (by exact (Kept.refl [] _).drew)).mono ?_
          rintro e w2 ⟨rfl, q, rfl⟩
          go_wp2_with fail
          go_ret
          exact HS.out (1 + q)
        | false =>
          have e : sawK x win block = 3 := by unfold sawK; rw [if_neg (by simp [h1]), if_neg (by simp [hk2]), if_neg (by simp [h3]), if_neg (by simp [h4])]
          rw [e, if_pos rfl]
          rw [h4] at HH
          have hbs : block < 2147483648 := by
            have hb9 := HF.out.base
            have hb8 := HF.out.small
            have hw8 := HF.out.w2
            unfold withinB at h2
            rw [Bool.and_eq_true, decide_eq_true_iff, decide_eq_true_iff] at h2
            unfold ahead at h2
            omega
          have HNN := Lib.hid (HN.out hbs)
          clear h1 h2 hk2 h3 h4 e hbase HN
          generalize x.base = base at *
          have c11' := kdrew c11
          go_enter Try.func22, Try.ntmps22
          go_wp2_with fail
          refine (HB.out _ (Kept.refl _ _)).mono ?_
          rintro e w1 ⟨rfl, rfl⟩
          go_wp2_with fail
          refine (HLS.out _).mono ?_
          rintro e w1 ⟨rfl, rfl⟩
          go_wp2_with fail
          go_region_held3 (fun w' => w'.cell? ⟨b, 3, none⟩ = some (.int .i64 (win : Int)) ∧ w'.cell? ⟨b, 11, none⟩ = some (.pointer (some ⟨ob, 0, none⟩))) (first | exact ⟨c3, c11⟩ | exact ⟨kdrew c3, kdrew c11⟩) (first | (go_at_call 36; refine (HB.out _ (by exact (Kept.refl [] _).drew)).mono ?_; rintro e w' ⟨rfl, rfl⟩) | (go_at_call 44; refine (HW.out _).mono ?_; rintro e w' ⟨rfl, rfl⟩))
          go_wp2_with fail
          refine (HBH.out _ (by exact (Kept.refl [] _).drew)).mono ?_
          rintro e w1 ⟨rfl, rfl⟩
          go_wp2_with fail
          refine (HH.out _ (by exact (Kept.refl [] _).drew)).mono ?_
          rintro e w2 ⟨rfl, q, rfl⟩
          go_wp2_with fail
          refine (HNN.out _ (by exact (Kept.refl [] _).drewN (1 + q))).mono ?_
          rintro e w3 ⟨rfl, R', hI', hk', hr'⟩
          have HS : Hid (IAct w b [b, ob, g1, g2, rb, rg] win que C (noteX x block) (.int .i64 3) (.returned (.int .i64 3)) w3) := Lib.hid ⟨rfl, R', hI', (((Kept.refl [] w).drewN (1 + q)).mono (fun y hy => by simp at hy)).trans hk' (fun y hy => .inl hy), hr'⟩
          clear hI' hk' hr'
          go_wp2_with fail
          go_ret
          exact HS.out
end Go.Proofs.Ytdggnhgflfaffaa
