/- inbound.Lacks; one that is none. -/
import Derived.Test.YtdggnhgflfaffaaInb6
namespace Go.Proofs.Ytdggnhgflfaffaa
set_option maxRecDepth 20000
open Go.ChangeShapes Go.WideShapes Go.ChangeAt Go.RowKit
set_option linter.unusedVariables false

def lackTo (x : Ist) : Nat → List Nat
  | 0 => []
  | j + 1 => if hasR x.L (x.base + j) then lackTo x j else lackTo x j ++ [x.base + j]
def lackN (x : Ist) : Nat := if x.S.isEmpty then 0 else mx x.S + 1 - x.base
def lacksL (x : Ist) : List Nat := lackTo x (lackN x)
theorem lackTo_le (x : Ist) (j : Nat) : (lackTo x j).length ≤ j := by
  induction j with
  | zero => exact Nat.le_refl _
  | succ j ih =>
    show (if hasR x.L (x.base + j) then lackTo x j else lackTo x j ++ [x.base + j]).length ≤ _
    split
    · omega
    · simp; omega
def LackPost (W : World) (L : List Nat) (e : Ending) (w' : World) : Prop :=
  ∃ p cap, e = .returned (.slice p L.length cap) ∧ RU w' p cap L ∧ (∀ a, p = some a → W.heap.size ≤ a.block) ∧ Below W.heap.size W w'
theorem RU.nil (w : World) : RU w none 0 [] := ⟨Src.empty w 1, fun a h => nomatch h⟩
set_option maxHeartbeats 4000000 in
theorem ilacks (b : Nat) (R : List Nat) (win que k : Nat) (C : Nat → Int) (x : Ist) (hf : Fine x win que k) (w : World) (h : In w b R win que C x) :
    Calls Try.prog 16 #[.pointer (some ⟨b, 0, none⟩)] w (LackPost w (lacksL x)) := by
  obtain ⟨i0, hi0, hz0, hz1, hz2⟩ := info_parts u_info
  have hlt := h.lt
  obtain ⟨ob, g1, g2, rb, rg, rfl, h⟩ := h
  obtain ⟨c3, c11, c12, c13, c14, c15, c16, c17⟩ := h.cells
  have hbl : b < w.heap.size := hlt b (by simp)
  have hbase : x.base ≤ 1000 := by have := hf.base; have := hf.small; omega
  have hmx : mx x.S < 1064 + 1 := by have := hf.small; have := hf.w2; exact mx_le (fun y hy => by have := hf.seen y hy; omega) (by omega)
  have HB := Lib.hid (fun w' (hk : Kept [] w w') => obase_is ob g1 g2 x.base win x.L w' (h.ord.kept hk (by simp) (by simp) (by simp)))
  have HH := Lib.hid (fun n (hn : n < 4294967296) w' (hk : Kept [] w w') => ohas_is ob g1 g2 x.base win x.L n hn w' (h.ord.kept hk (by simp) (by simp) (by simp)))
  clear hlt h c3 c12 c13 c14 c17 hf
  cases he : x.S.isEmpty with
  | true =>
    rw [he] at c16
    have hl : Hid (lacksL x = []) := Lib.hid (by unfold lacksL lackN; rw [if_pos he]; rfl)
    go_enter Try.func16, Try.ntmps16
    go_wp2_with fail
    go_ret
    rw [hl.out]
    exact ⟨none, 0, rfl, RU.nil w, (fun a h => nomatch h), Below.refl _ _⟩
  | false =>
    rw [he] at c16
    have HL : Hid (lacksL x = lackTo x (mx x.S + 1 - x.base)) := Lib.hid (by unfold lacksL lackN; rw [if_neg (by simp [he])])
    have HT : Hid (∀ j, lackTo x (j + 1) = if hasR x.L (x.base + j) then lackTo x j else lackTo x j ++ [x.base + j]) := Lib.hid (fun j => rfl)
    have HTL := Lib.hid (lackTo_le x)
    generalize lackTo x = F at *
    generalize mx x.S = m at *
    generalize x.base = base at *
    generalize hcn : m + 1 - base = cnt at *
    have HF0 : Hid (F 0 = []) := Lib.hid (by have := HTL.out 0; exact List.eq_nil_of_length_eq_zero (by omega))
    go_enter Try.func16, Try.ntmps16
    go_wp2_with fail
    refine (HB.out _ (Kept.refl _ _)).mono ?_
    rintro e w1 ⟨rfl, rfl⟩
    go_wp2_with fail
    go_loopg [3, 4] cnt (fun g ov xv wr => ∃ (j : Nat) (v : Value), g + j = cnt ∧ ov = v ∧ xv = .int .u32 ((base : Int) + (j : Int)) ∧ wr.ownsRow w.heap.size 32 1 v (F j).length (ul (F j)) ∧ Below w.heap.size w wr)
    case atStart => exact ⟨0, _, by omega, rfl, by simp, by rw [HF0.out]; exact World.ownsRow_nil _ _ _ _, Below.refl _ _⟩
    case round =>
      obtain ⟨j, v, hj, rfl, rfl, ho, hb⟩ := hrel
      have HO := Lib.hid ho
      have HBW := Lib.hid hb
      have hkk : Kept [] w wr := Kept.of_below hb []
      have cc15 := hkk.cell c15 (by simp)
      have cc11 := hkk.cell c11 (by simp)
      have HKK := Lib.hid hkk
      have hsw := hb.size
      clear ho hb hkk
      have HLS := Lib.hid (fun w => serialLess (m : Int) ((base : Int) + (j : Int)) (by omega) (by omega) (by omega) (by omega) w)
      by_cases hjc : j < cnt
      · have hl : lessB (m : Int) ((base : Int) + (j : Int)) = false := by
          have := less_small (a := m) (b := base + j) (by omega) (by omega)
          push_cast at this
          rw [this, decide_eq_false_iff_not]; omega
        rw [hl] at HLS
        have q1 : IntKind.u32.wrap ((base : Int) + (j : Int) + 1) = (base : Int) + (j : Int) + 1 := by simp [IntKind.wrap, IntKind.signed, IntKind.bits]; omega
        have q2 : (base : Int) + (j : Int) + 1 = (base : Int) + ((j : Int) + 1) := by omega
        have HH2 : Hid (∀ w', Kept [] w w' → Calls Try.prog 39 #[.pointer (some ⟨ob, 0, none⟩), .int .u32 ((base : Int) + (j : Int))] w' (SameD w' (.bool (hasR x.L (base + j))))) := Lib.hid (fun w' hk => HH.out (base + j) (by omega) w' hk)
        have HTJ := Lib.hid (HT.out j)
        have hfl := HTL.out j
        cases h1 : hasR x.L (base + j) with
        | true =>
          rw [h1] at HH2 HTJ
          clear h1 q2
          go_wp2_with fail
          refine (HLS.out _).mono ?_
          rintro e w1 ⟨rfl, rfl⟩
          go_wp2_with fail
          refine (HH2.out _ HKK.out).mono ?_
          rintro e w1 ⟨rfl, q, rfl⟩
          go_wp2_with fail
          go_roundg (gk - 1)
          case measure => omega
          case rel => exact ⟨j + 1, u3, by omega, rfl, by refine congrArg (Value.int .u32) ?_; push_cast; omega, by have := HTJ.out; rw [if_pos trivial] at this; rw [this]; exact own_kept HO.out ((Kept.refl [] _).drewN q) (by simp), bdrewN HBW.out q⟩
        | false =>
          rw [h1] at HH2 HTJ
          clear h1 q2
          go_wp2_with fail
          refine (HLS.out _).mono ?_
          rintro e w1 ⟨rfl, rfl⟩
          go_wp2_with fail
          refine (HH2.out _ HKK.out).mono ?_
          rintro e w1 ⟨rfl, q, rfl⟩
          have HO2 := Lib.hid (own_kept HO.out ((Kept.refl [] _).drewN q) (by simp))
          have hws : w.heap.size ≤ (wr.drewN q).heap.size := hsw
          have HB2 := Lib.hid (bdrewN HBW.out q)
          generalize hw2 : wr.drewN q = w2 at *
          clear hw2 cc15 cc11
          go_wp2_with (at_builtin; refine wpList_append_src _ rfl (.tmp 35) (.tmp 37) 36 rfl w.heap.size 32 i0 (.int .u32 0) 1 4 Try.underlying36 hi0 hz0 hz1 hz2 rfl (by decide) _ _ _ rfl (HO2.out.alloc _) _ 1 1 rfl _ (src_u w2 ((base : Int) + (j : Int)) 32) (fun u hu => by simp at hu; subst hu; rfl) (by unfold maxLen; omega) (by omega) (by simp; omega) ?_)
          intro v1 w3 hown1 hg1 hat1
          have hk1 : Kept (rowOf u3) w2 w3 := ((Kept.refl _ _).alloc _).grown hg1 (fun y hy => .inl (mem_rowOf hy))
          have hlo := own_lt HO2.out
          have HO3 := Lib.hid hown1
          have HB3 := Lib.hid (HB2.out.trans (hk1.below hws (fun y hy => (hlo y hy).1)))
          clear hown1 hg1 hat1 hk1 hlo
          go_wp2_with fail
          go_roundg (gk - 1)
          case measure => omega
          case rel =>
            refine ⟨j + 1, v1, by omega, rfl, by refine congrArg (Value.int .u32) ?_; push_cast; omega, ?_, HB3.out⟩
            have := HTJ.out
            rw [if_neg (by simp)] at this
            rw [this, ul_app, List.length_append]
            simpa [ul] using HO3.out
      · have hjc2 : j = cnt := by omega
        have hl : lessB (m : Int) ((base : Int) + (j : Int)) = true := by
          have := less_small (a := m) (b := base + j) (by omega) (by omega)
          push_cast at this
          rw [this, decide_eq_true_iff]; omega
        rw [hl] at HLS
        have HJC := Lib.hid hjc2
        clear hl hjc2 hjc
        go_wp2_with fail
        refine (HLS.out _).mono ?_
        rintro e w1 ⟨rfl, rfl⟩
        go_wp2_with fail
        go_ret
        obtain ⟨p, cap, rfl, hru⟩ := RU.of_own HO.out
        rw [HL.out, ← HJC.out]
        exact ⟨p, cap, rfl, hru, (fun a ha => (own_lt HO.out a.block (by simp [rowOf, Value.ownBlock, ha])).1), HBW.out⟩
theorem isaw_nil (x : Int) (w : World) : Calls Try.prog 22 #[.pointer none, .int .u32 x] w fun e w' => e = .returned (.int .i64 0) ∧ w = w' := by
  go_enter Try.func22, Try.ntmps22
  go_wp2_with fail
  try rw [Exit.noGoto_ret]
  go_returns
  exact ⟨rfl, rfl⟩
theorem iput_nil (x : Int) (t : ByteArray) (w : World) : Calls Try.prog 23 #[.pointer none, .int .u32 x, .string t] w fun e w' => e = .returned (.int .i64 0) ∧ w = w' := by
  go_enter Try.func23, Try.ntmps23
  go_wp2_with fail
  try rw [Exit.noGoto_ret]
  go_returns
  exact ⟨rfl, rfl⟩
theorem ifin_nil (x : Int) (w : World) : Calls Try.prog 24 #[.pointer none, .int .u32 x] w fun e w' => e = .returned (.int .i64 17) ∧ w = w' := by
  go_enter Try.func24, Try.ntmps24
  go_wp2_with fail
  try rw [Exit.noGoto_ret]
  go_returns
  exact ⟨rfl, rfl⟩
theorem ideliver_nil (w : World) : Calls Try.prog 25 #[.pointer none] w fun e w' => e = .returned (.int .i64 0) ∧ w = w' := by
  go_enter Try.func25, Try.ntmps25
  go_wp2_with fail
  try rw [Exit.noGoto_ret]
  go_returns
  exact ⟨rfl, rfl⟩
theorem iread_nil (n : Int) (w : World) : Calls Try.prog 20 #[.pointer none, .int .i64 n] w fun e w' => e = .returned (.tuple #[.string ⟨#[]⟩, .int .i64 17]) ∧ w = w' := by
  go_enter Try.func20, Try.ntmps20
  go_wp2_with fail
  try rw [Exit.noGoto_ret]
  go_returns
  exact ⟨rfl, rfl⟩
theorem iack_nil (w : World) : Calls Try.prog 11 #[.pointer none] w fun e w' => e = .returned (.tuple #[.int .u32 0, .int .i64 0]) ∧ w = w' := by
  go_enter Try.func11, Try.ntmps11
  go_wp2_with fail
  try rw [Exit.noGoto_ret]
  go_returns
  exact ⟨rfl, rfl⟩
theorem ilacks_nil (w : World) : Calls Try.prog 16 #[.pointer none] w fun e w' => e = .returned (.slice none 0 0) ∧ w = w' := by
  go_enter Try.func16, Try.ntmps16
  go_wp2_with fail
  try rw [Exit.noGoto_ret]
  go_returns
  exact ⟨rfl, rfl⟩
theorem iheld_nil (w : World) : Calls Try.prog 18 #[.pointer none] w fun e w' => e = .returned (.int .i64 0) ∧ w = w' := by
  go_enter Try.func18, Try.ntmps18
  go_wp2_with fail
  try rw [Exit.noGoto_ret]
  go_returns
  exact ⟨rfl, rfl⟩
theorem iended_nil (w : World) : Calls Try.prog 13 #[.pointer none] w (SameD w (.bool false)) := by
  go_enter Try.func13, Try.ntmps13
  go_wp2_with fail
  go_quiet (fail)
  go_wp2_with fail
  go_ret
  exact ⟨rfl, nq, rfl⟩
end Go.Proofs.Ytdggnhgflfaffaa
