/- inbound: ahead, Fin, Read. -/
import Derived.Test.YtdggnhgflfaffaaInb3
namespace Go.Proofs.Ytdggnhgflfaffaa
set_option maxRecDepth 20000
open Go.ChangeShapes Go.WideShapes Go.ChangeAt Go.RowKit
set_option linter.unusedVariables false

def aheadB (x : Ist) (block : Nat) : Bool := decide (∀ p ∈ x.L, lessB (p.1 : Int) (block : Int) = true)
theorem Ord.inw {w : World} {b g1 g2 base win : Nat} {L : BL} (o : Ord w b g1 g2 base win L) : ∀ p ∈ L, keyIn base win p.1 = true ∧ p.1 < 4294967296 := by
  obtain ⟨f, h, s, a⟩ := o.ex
  exact fun p hp => ⟨s.inw p hp, s.u32 p hp⟩
theorem hasR_iff {L : BL} {x : Nat} : hasR L x = true ↔ ∃ p ∈ L, p.1 = x := by
  unfold hasR
  rw [decide_eq_true_iff, ix_lt, List.mem_map]
set_option maxHeartbeats 2000000 in
theorem iahead (b : Nat) (R : List Nat) (win que k : Nat) (C : Nat → Int) (x : Ist) (block : Nat) (hx : block < 4294967296) (hf : Fine x win que k) (w : World) (h : In w b R win que C x) :
    Calls Try.prog 49 #[.pointer (some ⟨b, 0, none⟩), .int .u32 (block : Int)] w (SameD w (.bool (aheadB x block))) := by
  obtain ⟨ob, g1, g2, rb, rg, rfl, h⟩ := h
  obtain ⟨c3, c11, c12, c13, c14, c15, c16, c17⟩ := h.cells
  have hbase : x.base ≤ 1000 := by have := hf.base; have := hf.small; omega
  have hwin := hf.w2
  have HB := Lib.hid (fun w' (hk : Kept [] w w') => obase_is ob g1 g2 x.base win x.L w' (h.ord.kept hk (by simp) (by simp) (by simp)))
  have HH := Lib.hid (fun n (hn : n < 4294967296) w' (hk : Kept [] w w') => ohas_is ob g1 g2 x.base win x.L n hn w' (h.ord.kept hk (by simp) (by simp) (by simp)))
  have HW := Lib.hid h.ord.inw
  obtain ⟨base, hbe⟩ : ∃ n, n = x.base := ⟨_, rfl⟩
  rw [← hbe] at HB hbase HW
  clear h c12 c13 c14 c15 c16 c17 hf hbe
  go_enter Try.func49, Try.ntmps49
  go_wp2_with fail
  go_loopw [12] (fun iv wr => ∃ n q : Nat, iv = .int .i64 (n : Int) ∧ n ≤ win ∧ (∀ m, m < n → hasR x.L (base + m) = true → lessB ((base + m : Nat) : Int) (block : Int) = true) ∧ wr = w.drewN q) (fun iv _ => win - (intOf iv).toNat)
  case atStart => exact ⟨0, 0, rfl, Nat.zero_le _, fun m hm => absurd hm (Nat.not_lt_zero _), rfl⟩
  case round =>
    obtain ⟨n, q, rfl, hn, hj, rfl⟩ := hrel
    have HJ := Lib.hid hj
    clear hj
    by_cases hnw : n < win
    · have cc11 := kdrewN c11 q
      have HHN := Lib.hid (HH.out (base + n) (by omega))
      have HLS := Lib.hid (fun w => serialLess ((base + n : Nat) : Int) (block : Int) (by omega) (by omega) (by omega) (by omega) w)
      have q1 : IntKind.u32.wrap (n : Int) = (n : Int) := by simp [IntKind.wrap, IntKind.signed, IntKind.bits]; omega
      have q2 : IntKind.u32.wrap ((base : Int) + (n : Int)) = (base : Int) + (n : Int) := by simp [IntKind.wrap, IntKind.signed, IntKind.bits]; omega
      have HHN : Hid (∀ w', Kept [] w w' → Calls Try.prog 39 #[.pointer (some ⟨ob, 0, none⟩), .int .u32 ((base : Int) + (n : Int))] w' (SameD w' (.bool (hasR x.L (base + n))))) := HHN
      have HLS : Hid (∀ w', Calls Try.prog 38 #[.int .u32 ((base : Int) + (n : Int)), .int .u32 (block : Int)] w' fun e w'' => e = .returned (.bool (lessB ((base + n : Nat) : Int) (block : Int))) ∧ w' = w'') := HLS
      cases h1 : hasR x.L (base + n) with
      | false =>
        rw [h1] at HHN
        have H1 := Lib.hid h1
        clear h1
        go_wp2_with fail
        refine (HB.out _ ((Kept.refl [] _).drewN q)).mono ?_
        rintro e w1 ⟨rfl, rfl⟩
        go_wp2_with fail
        refine (HHN.out _ ((Kept.refl [] _).drewN q)).mono ?_
        rintro e w1 ⟨rfl, q9, rfl⟩
        go_wp2_with fail
        go_roundw
        case rel => exact ⟨n + 1, q + q9, by go_num, by omega, fun m hm hh => by (rcases Nat.lt_or_ge m n with h | h); exact HJ.out m h hh; (obtain rfl : m = n := by omega); exact absurd hh (by rw [H1.out]; decide), by first | rfl | exact World.drewN_drewN ..⟩
        case measure => simp [intOf]; omega
      | true =>
        rw [h1] at HHN
        cases h2 : lessB ((base + n : Nat) : Int) (block : Int) with
        | true =>
          rw [h2] at HLS
          have H2 := Lib.hid h2
          clear h1 h2
          go_wp2_with fail
          refine (HB.out _ ((Kept.refl [] _).drewN q)).mono ?_
          rintro e w1 ⟨rfl, rfl⟩
          go_wp2_with fail
          refine (HHN.out _ ((Kept.refl [] _).drewN q)).mono ?_
          rintro e w1 ⟨rfl, q9, rfl⟩
          go_wp2_with fail
          refine (HLS.out _).mono ?_
          rintro e w1 ⟨rfl, rfl⟩
          go_wp2_with fail
          go_roundw
          case rel => exact ⟨n + 1, q + q9, by go_num, by omega, fun m hm hh => by (rcases Nat.lt_or_ge m n with h | h); exact HJ.out m h hh; (obtain rfl : m = n := by omega); exact H2.out, by first | rfl | exact World.drewN_drewN ..⟩
          case measure => simp [intOf]; omega
        | false =>
          rw [h2] at HLS
          have hr : Hid (aheadB x block = false) := Lib.hid (by
            unfold aheadB
            rw [decide_eq_false_iff_not]
            intro hall
            obtain ⟨p, hp, e⟩ := hasR_iff.1 h1
            have := hall p hp
            rw [e, h2] at this; cases this)
          clear h1 h2
          go_wp2_with fail
          refine (HB.out _ ((Kept.refl [] _).drewN q)).mono ?_
          rintro e w1 ⟨rfl, rfl⟩
          go_wp2_with fail
          refine (HHN.out _ ((Kept.refl [] _).drewN q)).mono ?_
          rintro e w1 ⟨rfl, q9, rfl⟩
          go_wp2_with fail
          refine (HLS.out _).mono ?_
          rintro e w1 ⟨rfl, rfl⟩
          go_wp2_with fail
          go_ret
          exact ⟨ret_bool hr.out.symm, q + q9, by first | rfl | exact World.drewN_drewN ..⟩
    · have hr : Hid (aheadB x block = true) := Lib.hid (by
        unfold aheadB
        rw [decide_eq_true_iff]
        intro p hp
        obtain ⟨h1, h2⟩ := HW.out p hp
        have h3 := key_small hbase hwin h2 h1
        have h4 := HJ.out (p.1 - base) (by omega)
        rw [show base + (p.1 - base) = p.1 by omega] at h4
        exact h4 (hasR_iff.2 ⟨p, hp, rfl⟩))
      go_wp2_with fail
      go_ret
      exact ⟨ret_bool hr.out.symm, q, rfl⟩
def finK (x : Ist) (win block : Nat) : Int := if ahead (x.base : Int) (block : Int) < 0 then 2 else if (win : Int) < ahead (x.base : Int) (block : Int) then 2 else if aheadB x block = false then 2 else if x.known = true ∧ x.fin ≠ block then 16 else 0
def finX (x : Ist) (win block : Nat) : Ist := if finK x win block = 0 then { x with fin := block, known := true } else x
theorem fin_done {w w1 : World} {b ob g1 g2 rb rg win que : Nat} {C : Nat → Int} {x : Ist} {block : Nat} (H : InAt w1 b ob g1 g2 rb rg win que C x (bodyLen x.L)) (hk1 : Kept [b, ob, g1, g2, rb, rg] w w1) :
    IAct w b [b, ob, g1, g2, rb, rg] win que C { x with fin := block, known := true } (.int .i64 0) (.returned (.int .i64 0)) ((w1.setCell ⟨b, 13, none⟩ (.int .u32 (block : Int))).setCell ⟨b, 14, none⟩ (.bool true)) := by
  have hk : Kept [b] w1 ((w1.setCell ⟨b, 13, none⟩ (.int .u32 (block : Int))).setCell ⟨b, 14, none⟩ (.bool true)) := ((Kept.refl _ _).set _ (.inl (by simp)) _).set _ (.inl (by simp)) _
  have n := H.ne
  refine ⟨rfl, _, ⟨ob, g1, g2, rb, rg, rfl, ?_, H.ord.kept hk (by simp; omega) (by simp; omega) (by simp; omega), H.ring.kept hk (by simp; omega) (by simp; omega), H.hwin, H.hque, H.ne⟩, hk1.trans (hk.mono (r' := [b, ob, g1, g2, rb, rg]) (fun y hy => .inl (by simp at hy; simp [hy]))) (fun y hy => .inl hy), fun y hy => .inl hy⟩
  have h2 := (H.blk.set 13 (.int .u32 (block : Int))).set 14 (.bool true)
  have e : ((inC C ob rb x (bodyLen x.L)).setIfInBounds 13 (.int .u32 (block : Int))).setIfInBounds 14 (.bool true) = inC C ob rb { x with fin := block, known := true } (bodyLen x.L) := by
    unfold inC
    simp
  rw [e] at h2
  exact h2
set_option maxHeartbeats 4000000 in
theorem ifin (b : Nat) (R : List Nat) (win que k : Nat) (C : Nat → Int) (x : Ist) (block : Nat) (hx : block < 4294967296) (hf : Fine x win que k) (w : World) (h : In w b R win que C x) :
    Calls Try.prog 24 #[.pointer (some ⟨b, 0, none⟩), .int .u32 (block : Int)] w (IAct w b R win que C (finX x win block) (.int .i64 (finK x win block))) := by
  have HI := Lib.hid h
  have HAH := Lib.hid (iahead b R win que k C x block hx hf w h)
  obtain ⟨ob, g1, g2, rb, rg, rfl, h⟩ := h
  obtain ⟨c3, c11, c12, c13, c14, c15, c16, c17⟩ := h.cells
  have HA := Lib.hid h
  have f13 := h.blk.free 13
  have f14 := h.blk.free 14
  have hbl := h.blk.lt
  have hbase : x.base ≤ 1000 := by have := hf.base; have := hf.small; omega
  have HB := Lib.hid (fun w' (hk : Kept [] w w') => obase_is ob g1 g2 x.base win x.L w' (h.ord.kept hk (by simp) (by simp) (by simp)))
  have HD := Lib.hid (fun w => serialAhead (x.base : Int) (block : Int) (by omega) (by omega) (by omega) (by omega) w)
  have hw2 := hf.w2
  have hab := ahead_bd (x.base : Int) (block : Int)
  have HS0 := Lib.hid (fun q v => IAct.same (e := .returned (.int .i64 v)) (v := .int .i64 v) (w' := w.drewN q) HI.out ⟨rfl, q, rfl⟩)
  unfold finX
  clear h c12 c15 c16 c17 hf
  by_cases h1 : ahead (x.base : Int) (block : Int) < 0
  · have e : finK x win block = 2 := by unfold finK; rw [if_pos h1]
    rw [e, if_neg (by decide)]
    clear e HAH f13 f14
    generalize ahead (x.base : Int) (block : Int) = d at *
    generalize x.base = base at *
    go_enter Try.func24, Try.ntmps24
    go_wp2_with fail
    refine (HB.out _ (Kept.refl _ _)).mono ?_
    rintro e w1 ⟨rfl, rfl⟩
    go_wp2_with fail
    refine (HD.out _).mono ?_
    rintro e w1 ⟨rfl, rfl⟩
    go_wp2_with fail
    go_ret
    exact HS0.out 0 2
  · by_cases h2 : (win : Int) < ahead (x.base : Int) (block : Int)
    · have e : finK x win block = 2 := by unfold finK; rw [if_neg h1, if_pos h2]
      rw [e, if_neg (by decide)]
      clear e HAH f13 f14
      generalize ahead (x.base : Int) (block : Int) = d at *
      generalize x.base = base at *
      go_enter Try.func24, Try.ntmps24
      go_wp2_with fail
      refine (HB.out _ (Kept.refl _ _)).mono ?_
      rintro e w1 ⟨rfl, rfl⟩
      go_wp2_with fail
      refine (HD.out _).mono ?_
      rintro e w1 ⟨rfl, rfl⟩
      go_wp2_with fail
      go_ret
      exact HS0.out 0 2
    · cases h3 : aheadB x block with
      | false =>
        have e : finK x win block = 2 := by unfold finK; rw [if_neg h1, if_neg h2, if_pos h3]
        rw [e, if_neg (by decide)]
        rw [h3] at HAH
        clear e f13 f14 h3
        generalize ahead (x.base : Int) (block : Int) = d at *
        generalize x.base = base at *
        go_enter Try.func24, Try.ntmps24
        go_wp2_with fail
        refine (HB.out _ (Kept.refl _ _)).mono ?_
        rintro e w1 ⟨rfl, rfl⟩
        go_wp2_with fail
        refine (HD.out _).mono ?_
        rintro e w1 ⟨rfl, rfl⟩
        go_wp2_with fail
        refine HAH.out.mono ?_
        rintro e w1 ⟨rfl, q, rfl⟩
        go_wp2_with fail
        go_ret
        exact HS0.out q 2
      | true =>
        rw [h3] at HAH
        cases hk : x.known with
        | false =>
          have e : finK x win block = 0 := by unfold finK; rw [if_neg h1, if_neg h2, if_neg (by simp [h3]), if_neg (by simp [hk])]
          rw [e, if_pos rfl]
          rw [hk] at c14
          clear e h3
          generalize ahead (x.base : Int) (block : Int) = d at *
          obtain ⟨base, hbe⟩ : ∃ n, n = x.base := ⟨_, rfl⟩
          rw [← hbe] at HB HD
          clear hbe
          go_enter Try.func24, Try.ntmps24
          go_wp2_with fail
          refine (HB.out _ (Kept.refl _ _)).mono ?_
          rintro e w1 ⟨rfl, rfl⟩
          go_wp2_with fail
          refine (HD.out _).mono ?_
          rintro e w1 ⟨rfl, rfl⟩
          go_wp2_with fail
          refine HAH.out.mono ?_
          rintro e w1 ⟨rfl, q, rfl⟩
          have c13 := kdrewN c13 q
          have c14 := kdrewN c14 q
          have HA2 := Lib.hid (HA.out.kept ((Kept.refl [] w).drewN q) (by simp))
          have f13 := HA2.out.blk.free 13
          have f14 := HA2.out.blk.free 14
          have hbl : b < (w.drewN q).heap.size := hbl
          go_wp2_with fail
          go_ret
          exact fin_done HA2.out ((Kept.refl _ _).drewN q)
        | true =>
          rw [hk] at c14
          by_cases h4 : x.fin = block
          · have e : finK x win block = 0 := by unfold finK; rw [if_neg h1, if_neg h2, if_neg (by simp [h3]), if_neg (by simp [h4])]
            rw [e, if_pos rfl]
            clear e h3
            rw [h4] at c13
            have b0 : ((block : Int) != (block : Int)) = false := by simp
            generalize ahead (x.base : Int) (block : Int) = d at *
            obtain ⟨base, hbe⟩ : ∃ n, n = x.base := ⟨_, rfl⟩
            rw [← hbe] at HB HD
            clear hbe h4
            go_enter Try.func24, Try.ntmps24
            go_wp2_with fail
            refine (HB.out _ (Kept.refl _ _)).mono ?_
            rintro e w1 ⟨rfl, rfl⟩
            go_wp2_with fail
            refine (HD.out _).mono ?_
            rintro e w1 ⟨rfl, rfl⟩
            go_wp2_with fail
            refine HAH.out.mono ?_
            rintro e w1 ⟨rfl, q, rfl⟩
            have c13 := kdrewN c13 q
            have c14 := kdrewN c14 q
            have HA2 := Lib.hid (HA.out.kept ((Kept.refl [] w).drewN q) (by simp))
            have f13 := HA2.out.blk.free 13
            have f14 := HA2.out.blk.free 14
            have hbl : b < (w.drewN q).heap.size := hbl
            go_wp2_with fail
            go_ret
            exact fin_done HA2.out ((Kept.refl _ _).drewN q)
          · have e : finK x win block = 16 := by unfold finK; rw [if_neg h1, if_neg h2, if_neg (by simp [h3]), if_pos ⟨hk, h4⟩]
            rw [e, if_neg (by decide)]
            have b0 : ((x.fin : Int) != (block : Int)) = true := by rw [bne_iff_ne]; omega
            clear e f13 f14 h3
            generalize x.fin = fin at *
            generalize ahead (x.base : Int) (block : Int) = d at *
            obtain ⟨base, hbe⟩ : ∃ n, n = x.base := ⟨_, rfl⟩
            rw [← hbe] at HB HD
            clear hbe
            go_enter Try.func24, Try.ntmps24
            go_wp2_with fail
            refine (HB.out _ (Kept.refl _ _)).mono ?_
            rintro e w1 ⟨rfl, rfl⟩
            go_wp2_with fail
            refine (HD.out _).mono ?_
            rintro e w1 ⟨rfl, rfl⟩
            go_wp2_with fail
            refine HAH.out.mono ?_
            rintro e w1 ⟨rfl, q, rfl⟩
            have c13 := kdrewN c13 q
            have c14 := kdrewN c14 q
            go_wp2_with fail
            go_ret
            exact HS0.out q 16
end Go.Proofs.Ytdggnhgflfaffaa
