/- lightshiplaw48: HeapPlays. -/
import Derived.Test.YtijefclhcfdpgaaHeapPlays
namespace Go.Proofs.Ytijefclhcfdpgaa
open Go.ChangeShapes Go.WideShapes Go.ChangeAt Go.RowKit
set_option linter.unusedVariables false

theorem plays_many (a : Option Addr) (len cap : Nat) (hc : cap ≤ maxLen) (hlc : len ≤ cap) (c1 : 80 < len) (W : World) : Calls Try.prog 3 #[.slice a len cap] W (TruePost W) := by
  unfold maxLen at hc
  go_enter Try.func3, Try.ntmps3
  go_wp2_with (go_at_call 5; refine (awake_true _).mono ?_; rintro e w6 ⟨rfl, hb6⟩)
  go_ret
  exact ⟨rfl, hb6⟩
/-- the list beside the heap -/
structure Beside (w : World) (B b : Nat) (v : Value) (p : Option Addr) (cap : Nat) (X : List Du) : Prop where
  heap : HS w b v X
  src : Src w p X.length cap 3 (dl X)
  blk : ∀ a, p = some a → B ≤ a.block ∧ a.block ≠ b ∧ a.block ∉ rowOf v ∧ a.block < w.heap.size
theorem Beside.below {w w' : World} {B b : Nat} {v : Value} {p : Option Addr} {cap : Nat} {X : List Du} (h : Beside w B b v p cap X) (hb : Below w.heap.size w w') : Beside w' B b v p cap X :=
  ⟨h.heap.kept (Kept.of_below hb []) (by simp) (by simp), h.src.kept (Kept.of_below hb []) (by simp), fun a ha => by
    obtain ⟨h1, h2, h3, h4⟩ := h.blk a ha
    exact ⟨h1, h2, h3, Nat.lt_of_lt_of_le h4 hb.size⟩⟩
set_option maxRecDepth 100000 in
set_option maxHeartbeats 8000000 in
theorem plays_few (a : Option Addr) (len cap bl off : Nat) (P : Nat → Bool) (A B C : Nat → Int) (hl : len ≤ 80) (W : World) (ha : 0 < len → a = some ⟨bl, off, none⟩) (hlt : len = 0 ∨ bl < W.heap.size)
    (hP : ∀ i, i < len → W.cell? ⟨bl, off + i * 4, none⟩ = some (.bool (P i))) (hA : ∀ i, i < len → W.cell? ⟨bl, off + i * 4 + 1, none⟩ = some (.int .i64 (A i)))
    (hB : ∀ i, i < len → W.cell? ⟨bl, off + i * 4 + 2, none⟩ = some (.int .u32 (B i))) (hC : ∀ i, i < len → W.cell? ⟨bl, off + i * 4 + 3, none⟩ = some (.int .i64 (C i))) :
    Calls Try.prog 3 #[.slice a len cap] W (TruePost W) := by
  go_enter Try.func3, Try.ntmps3
  go_wp2_with fail
  refine (hnew _).mono ?_
  rintro e w1 ⟨rfl, hH0, hB0⟩
  have hS0 : HS w1 W.heap.size (.slice none 0 0) [] := ⟨[], hH0, fun j h1 h2 => by simp at h2, List.Perm.refl _, List.Pairwise.nil⟩
  obtain ⟨b, hbW⟩ : ∃ b, b = W.heap.size := ⟨_, rfl⟩
  rw [← hbW] at hS0 ⊢
  have hbW1 : W.heap.size ≤ b := by omega
  clear hbW
  clear hH0
  go_wp2_with fail
  go_loopw [4, 5] (fun xv iv wr => ∃ (k : Nat) (v : Value) (X : List Du) (p : Option Addr) (xcap : Nat), k ≤ len ∧ iv = .int .i64 k ∧ X.length ≤ k ∧ xv = .slice p X.length xcap ∧ Beside wr W.heap.size b v p xcap X ∧ Below W.heap.size W wr) (fun _ iv _ => len - (intOf iv).toNat)
  case atStart => exact ⟨0, _, [], none, 0, Nat.zero_le _, rfl, by simp, rfl, ⟨hS0, Src.empty _ _, fun a ha => by cases ha⟩, hB0⟩
  case round =>
    clear hS0 hB0
    obtain ⟨k, v, X, p, xcap, hk, rfl, hXl, rfl, hT, hb⟩ := hrel
    by_cases hlk : k < len
    · have hbl : bl < W.heap.size := by omega
      have ha' := ha (by omega)
      subst ha'
      have cP : wr.cell? ⟨bl, off + k * 4, none⟩ = some (.bool (P k)) := kbelow hb hbl (hP k hlk)
      have cA : wr.cell? ⟨bl, off + k * 4 + 1, none⟩ = some (.int .i64 (A k)) := kbelow hb hbl (hA k hlk)
      have cB : wr.cell? ⟨bl, off + k * 4 + 2, none⟩ = some (.int .u32 (B k)) := kbelow hb hbl (hB k hlk)
      have cC : wr.cell? ⟨bl, off + k * 4 + 3, none⟩ = some (.int .i64 (C k)) := kbelow hb hbl (hC k hlk)
      have hbw : b < wr.heap.size := by obtain ⟨M, h1, _⟩ := hT.heap; exact h1.blk.lt
      cases hPk : P k with
      | true =>
        rw [hPk] at cP
        clear hPk
        cases X with
        | nil =>
          have HS0 := Lib.hid hT.heap
          have HT := Lib.hid hT
          clear hT hXl
          go_wp2_with fail
          refine (spop_none b v _ HS0.out).mono ?_
          rintro e w3 ⟨rfl, hb3⟩
          have hT3 := HT.out.below hb3
          have hb3' := hb.trans (hb3.mono hb.size)
          clear hb3 hb HT HS0
          unfold z3 dv
          go_wp2_with fail
          generalize hw4 : w3.alloc _ = w3a
          have hT3a : Beside w3a W.heap.size b v p xcap [] := by rw [← hw4]; exact hT3.below ((Below.refl _ _).alloc (Nat.le_refl _) _)
          have hb3a : Below W.heap.size W w3a := by rw [← hw4]; exact hb3'.alloc hb3'.size _
          clear hw4 hT3 hb3' cP cA cB cC
          have HT3a := Lib.hid hT3a
          clear hT3a
          go_quiet (fail)
          have hT4 := HT3a.out.below (bdrewN (Below.refl _ _) nq)
          have hb4 := bdrewN hb3a nq
          clear HT3a hb3a
          go_wp2_with fail
          generalize w3a.drewN nq = w4 at *
          obtain ⟨v4, hv4⟩ : ∃ v4, v4 = v := ⟨_, rfl⟩
          obtain ⟨p4, hp4⟩ : ∃ p4, p4 = p := ⟨_, rfl⟩
          obtain ⟨cap4, hcap4⟩ : ∃ c4, c4 = xcap := ⟨_, rfl⟩
          rw [← hv4, ← hp4, ← hcap4] at hT4
          rw [← hp4, ← hcap4]
          clear hv4 hp4 hcap4
          have hPK := Lib.hid (fun w h => speek_none b v4 w h)
          have HS4 := Lib.hid hT4.heap
          have HT4 := Lib.hid hT4
          clear hT4
          refine (hPK.out _ HS4.out).mono ?_
          rintro e w5 ⟨rfl, hb5⟩
          have hT5 := HT4.out.below hb5
          have hb5' := hb4.trans (hb5.mono hb4.size)
          clear hb5
          unfold z3 dv
          go_wp2_with fail
          generalize hw6 : w5.alloc _ = w6
          have hT6 : Beside w6 W.heap.size b v4 p4 cap4 [] := by rw [← hw6]; exact hT5.below ((Below.refl _ _).alloc (Nat.le_refl _) _)
          have hb6 : Below W.heap.size W w6 := by rw [← hw6]; exact hb5'.alloc hb5'.size _
          clear hw6 hT5 hb5'
          have HL := Lib.hid (fun N => slen b v4 [] 0 rfl (w6.drewN N) (hT6.heap.kept ((Kept.refl [] _).drewN N) (by simp) (by simp)))
          have HT6 := Lib.hid hT6
          clear hT6
          go_quiet ((go_at_call 11; refine Calls.quiet_of_same ((HL.out _).mono fun e w1 h => ⟨h.1, h.2.symm⟩)))
          go_wp2_with fail
          go_roundw
          case rel => exact ⟨k + 1, v4, [], p4, cap4, by omega, by go_num, by simp, rfl, HT6.out.below (bdrewN (Below.refl _ _) _), bdrewN hb6 _⟩
          case measure => simp [intOf]; omega
        | cons x X =>
          obtain ⟨n, hn⟩ : ∃ n, n = (x :: X).length := ⟨_, rfl⟩
          obtain ⟨n4, hn4⟩ : ∃ n4, n4 = X.length := ⟨_, rfl⟩
          have hnn : n = n4 + 1 := by rw [hn, hn4]; simp
          have hn0 : 0 < n := by omega
          have HS0 := Lib.hid hT.heap
          have HT := Lib.hid hT
          obtain ⟨xb, xo, hp4⟩ := hT.src.of_pos (by have := hT.src.fits; omega)
          subst hp4
          obtain ⟨_, ao, hcut, hsc, hsb⟩ := hT.src.cuts 26 (by kernel_rfl) (by intro w; kernel_rfl) 1 (by omega)
          have hcut1 : ∀ w2, (Instr.slice 26 (.slice (some ⟨xb, xo, none⟩) n xcap) (some (.int .i64 1)) none none).run Try.prog w2 = .ok (.slice ao n4 (xcap - 1)) w2 := fun w2 => by
            have := hcut w2
            rw [← hn, hnn, Nat.add_sub_cancel] at this
            rw [hnn]; exact this
          have HSC := Lib.hid hsc
          have HSB := Lib.hid hsb
          rw [← hn] at hXl ⊢
          have HN := Lib.hid hn
          have HNN := Lib.hid hnn
          have HN4 := Lib.hid hn4
          clear hT hcut hsc hsb hn hn4 hnn
          go_wp2_with fail
          refine (spop b v x X _ HS0.out).mono ?_
          rintro e w3 ⟨rfl, v3, hS3, hK3, hr3⟩
          have hb3 := hb.trans (s_below HS0.out hK3 hbW1 hb.size)
          have hnm : xb ∉ b :: rowOf v := by
            obtain ⟨_, h2, h3, _⟩ := HT.out.blk _ rfl
            simp at h2 h3
            simp; exact ⟨h2, h3⟩
          have hS3x := HT.out.src.kept hK3 (fun a ha => by injection ha with ha; subst ha; exact hnm)
          have hsc3 := HSC.out.kept hK3 (fun a ha => by
            obtain ⟨a', h1, h2⟩ := HSB.out a ha
            injection h1 with h1; subst h1
            rw [h2]; exact hnm)
          have hblk3 : ∀ a, ao = some a → W.heap.size ≤ a.block ∧ a.block ≠ b ∧ a.block ∉ rowOf v3 ∧ a.block < w3.heap.size := fun a ha => by
            obtain ⟨a', h1, h2⟩ := HSB.out a ha
            obtain ⟨g1, g2, g3, g4⟩ := HT.out.blk _ h1
            rw [h2]
            refine ⟨g1, g2, fun hm => ?_, Nat.lt_of_lt_of_le g4 hK3.size⟩
            rcases hr3 _ hm with h | h
            · exact g3 h
            · omega
          have hT3 : Beside w3 W.heap.size b v3 ao (xcap - 1) X := ⟨hS3, by
            have e1 : (x :: X).length - 1 = X.length := by simp
            have e2 : (dl (x :: X)).drop (1 * 3) = dl X := by rw [dl_drop]; rfl
            rw [e1, e2] at hsc3
            exact hsc3, hblk3⟩
          have hsx : Src w3 (some ⟨xb, xo, none⟩) (x :: X).length xcap 3 (dl (x :: X)) := hS3x
          clear hS3 hK3 hr3 hb HS0 hS3x hsc3 hblk3 HSC HSB HT hnm
          unfold dv
          go_wp2_with fail
          generalize hw4 : w3.alloc _ = w3a
          have hT3a : Beside w3a W.heap.size b v3 ao (xcap - 1) X := by rw [← hw4]; exact hT3.below ((Below.refl _ _).alloc (Nat.le_refl _) _)
          have hb3a : Below W.heap.size W w3a := by rw [← hw4]; exact hb3.alloc hb3.size _
          have hD6 : Blk w3a w3.heap.size #[.int .i64 x.st, .int .u32 x.bl, .int .i64 x.at_] 31 := by rw [← hw4]; exact Blk.new _ _ _
          have hsxa := hsx.kept (r := []) (w' := w3a) (by rw [← hw4]; exact (Kept.refl _ _).alloc _) (by simp)
          have x0 := hD6.cell 0
          have x1 := hD6.cell 1
          have x2 := hD6.cell 2
          simp at x0 x1 x2
          have y0 := hsxa.at_ 0 (.int .i64 x.st) rfl
          have y1 := hsxa.at_ 1 (.int .u32 x.bl) rfl
          have y2 := hsxa.at_ 2 (.int .i64 x.at_) rfl
          simp at y0
          have d0 : decide ((0 : Int) < (n : Int)) = true := by rw [decide_eq_true_iff]; omega
          have d1 : decide (0 < n) = true := by rw [decide_eq_true_iff]; omega
          have q1 := due_neq_same x
          have q2 := due_guard .neq (.inl rfl) x.st x.bl x.at_ x.st x.bl x.at_
          have HT3a := Lib.hid hT3a
          clear hw4 hT3 hb3 hD6 hsxa hsx hT3a cP cA cB cC
          go_quiet (fail)
          have hT4 := HT3a.out.below (bdrewN (Below.refl _ _) nq)
          have hb4 := bdrewN hb3a nq
          clear q1 q2 d0 d1 x0 x1 x2 y0 y1 y2 HT3a hb3a
          go_wp2_with fail
          generalize w3a.drewN nq = w4 at *
          obtain ⟨v4, hv4⟩ : ∃ v4, v4 = v3 := ⟨_, rfl⟩
          obtain ⟨cap4, hcap4⟩ : ∃ c4, c4 = xcap - 1 := ⟨_, rfl⟩
          rw [← hv4, ← hcap4] at hT4
          rw [← hcap4]
          clear hv4 hcap4 hcut1
          obtain ⟨p4, hp4⟩ : ∃ p4, p4 = ao := ⟨_, rfl⟩
          rw [← hp4] at hT4 ⊢
          clear hp4
          have hk4 : n4 ≤ k := by have := HNN.out; omega
          cases X with
          | nil =>
            have hn40 : n4 = 0 := HN4.out
            clear HN4
            subst hn40
            have hPK := Lib.hid (fun w h => speek_none b v4 w h)
            have HS4 := Lib.hid hT4.heap
            have HT4 := Lib.hid hT4
            clear hT4
            refine (hPK.out _ HS4.out).mono ?_
            rintro e w5 ⟨rfl, hb5⟩
            have hT5 := HT4.out.below hb5
            have hb5' := hb4.trans (hb5.mono hb4.size)
            clear hb5
            unfold z3 dv
            go_wp2_with fail
            generalize hw6 : w5.alloc _ = w6
            have hT6 : Beside w6 W.heap.size b v4 p4 cap4 [] := by rw [← hw6]; exact hT5.below ((Below.refl _ _).alloc (Nat.le_refl _) _)
            have hb6 : Below W.heap.size W w6 := by rw [← hw6]; exact hb5'.alloc hb5'.size _
            clear hw6 hT5 hb5'
            have HL := Lib.hid (fun N => slen b v4 [] 0 rfl (w6.drewN N) (hT6.heap.kept ((Kept.refl [] _).drewN N) (by simp) (by simp)))
            have HT6 := Lib.hid hT6
            clear hT6
            go_quiet ((go_at_call 11; refine Calls.quiet_of_same ((HL.out _).mono fun e w1 h => ⟨h.1, h.2.symm⟩)))
            go_wp2_with fail
            go_roundw
            case rel => exact ⟨k + 1, v4, [], p4, cap4, by omega, by go_num, by simp, rfl, HT6.out.below (bdrewN (Below.refl _ _) _), bdrewN hb6 _⟩
            case measure => simp [intOf]; omega
          | cons y Y =>
            have hPK := Lib.hid (fun w h => speek b v4 y Y w h)
            have HS4 := Lib.hid hT4.heap
            have HT4 := Lib.hid hT4
            clear hT4
            have hn0 : 0 < n4 := by have := HN4.out; simp at this; omega
            refine (hPK.out _ HS4.out).mono ?_
            rintro e w5 ⟨rfl, hb5⟩
            have hT5 := HT4.out.below hb5
            have hb5' := hb4.trans (hb5.mono hb4.size)
            clear hb5
            unfold dv
            go_wp2_with fail
            generalize hw6 : w5.alloc _ = w6
            have hT6 : Beside w6 W.heap.size b v4 p4 cap4 (y :: Y) := by rw [← hw6]; exact hT5.below ((Below.refl _ _).alloc (Nat.le_refl _) _)
            have hD6 : Blk w6 w5.heap.size #[.int .i64 y.st, .int .u32 y.bl, .int .i64 y.at_] 31 := by rw [← hw6]; exact Blk.new _ _ _
            have hb6 : Below W.heap.size W w6 := by rw [← hw6]; exact hb5'.alloc hb5'.size _
            have x0 := hD6.cell 0
            have x1 := hD6.cell 1
            have x2 := hD6.cell 2
            simp at x0 x1 x2
            clear hw6 hT5 hb5' hD6
            have HL := Lib.hid (fun N => slen b v4 (y :: Y) n4 HN4.out (w6.drewN N) (hT6.heap.kept ((Kept.refl [] _).drewN N) (by simp) (by simp)))
            obtain ⟨xb, xo, hp4⟩ := hT6.src.of_pos (by have := hT6.src.fits; have := HN4.out; omega)
            subst hp4
            have y0 := hT6.src.at_ 0 (.int .i64 y.st) rfl
            have y1 := hT6.src.at_ 1 (.int .u32 y.bl) rfl
            have y2 := hT6.src.at_ 2 (.int .i64 y.at_) rfl
            simp at y0
            have HT6 := Lib.hid hT6
            have d0 : decide ((0 : Int) < (n4 : Int)) = true := by rw [decide_eq_true_iff]; omega
            have d1 : decide (0 < n4) = true := by rw [decide_eq_true_iff]; omega
            have q1 := due_neq_same y
            have q2 := due_guard .neq (.inl rfl) y.st y.bl y.at_ y.st y.bl y.at_
            clear hT6
            go_quiet ((go_at_call 11; refine Calls.quiet_of_same ((HL.out _).mono fun e w1 h => ⟨h.1, h.2.symm⟩)))
            clear q1 q2 d0 d1 x0 x1 x2 y0 y1 y2
            go_wp2_with fail
            go_roundw
            case rel => exact ⟨k + 1, v4, y :: Y, some ⟨xb, xo, none⟩, cap4, by omega, by go_num, by have := HN4.out; omega, by rw [← HN4.out], HT6.out.below (bdrewN (Below.refl _ _) _), bdrewN hb6 _⟩
            case measure => simp [intOf]; omega
      | false =>
        rw [hPk] at cP
        clear hPk
        obtain ⟨n, hn⟩ : ∃ n, n = X.length := ⟨_, rfl⟩
        obtain ⟨M, h1, h2, h3, h4⟩ := hT.heap
        have hlM : M.length < 5000 := by rw [← h3.length_eq]; omega
        have HPU := Lib.hid (hpush b v M ⟨A k, B k, C k⟩ wr h1 h2 hlM)
        have HS0 := Lib.hid hT.heap
        have HT := Lib.hid hT
        have HA := Lib.hid (hA k hlk)
        have HB := Lib.hid (hB k hlk)
        have HC := Lib.hid (hC k hlk)
        have HM := Lib.hid (And.intro h3 h4)
        have HN := Lib.hid hn
        rw [← hn] at hXl ⊢
        clear hT h1 h2 h3 h4 hlM hn
        go_wp2_with fail
        refine HPU.out.mono ?_
        rintro e w3 ⟨rfl, v3, M3, h5, h6, h7, hK3, hr3⟩
        have hb3 := hb.trans (s_below HS0.out hK3 hbW1 hb.size)
        have hnm : ∀ a, p = some a → a.block ∉ b :: rowOf v := fun a ha => by
          obtain ⟨_, g2, g3, _⟩ := HT.out.blk _ ha
          simp; exact ⟨g2, g3⟩
        have hsx := HT.out.src.kept hK3 hnm
        have hpb : ∀ a, p = some a → a.block < w3.heap.size := fun a ha => Nat.lt_of_lt_of_le (HT.out.blk _ ha).2.2.2 hK3.size
        have e1 : w3.cell? ⟨bl, off + k * 4 + 1, none⟩ = some (.int .i64 (A k)) := kbelow hb3 hbl HA.out
        have e2 : w3.cell? ⟨bl, off + k * 4 + 2, none⟩ = some (.int .u32 (B k)) := kbelow hb3 hbl HB.out
        have e3 : w3.cell? ⟨bl, off + k * 4 + 3, none⟩ = some (.int .i64 (C k)) := kbelow hb3 hbl HC.out
        have hb3l : b < w3.heap.size := Nat.lt_of_lt_of_le hbw hK3.size
        have HLP := Lib.hid (lput p xcap X ⟨A k, B k, C k⟩ (by have := HN.out; omega) w3 hsx hpb)
        rw [← HN.out] at HLP
        have HX := Lib.hid (And.intro h5 (And.intro h6 h7))
        clear h5 h6 h7 hK3 hr3 hb HS0 HT hnm hsx hpb cP cA cB cC HPU HA HB HC
        go_wp2_with fail
        refine HLP.out.mono ?_
        rintro e w4 ⟨xv, M4, rfl, hown4, hP4, hSr4, hb34⟩
        obtain ⟨p4, cap4, hxv, hsrc4⟩ := Src.of_own hown4
        subst hxv
        have hb4 := hb3.trans (hb34.mono hb3.size)
        obtain ⟨h5, h6, h7⟩ := HX.out
        obtain ⟨v4, hv4⟩ : ∃ v4, v4 = v3 := ⟨_, rfl⟩
        have hT4 : Beside w4 W.heap.size b v4 p4 cap4 M4 := by
          rw [hv4]
          refine ⟨⟨M3, h5.kept (Kept.of_below hb34 []) (by simp) (by simp), h6, hP4.trans ((HM.out.1.cons _).trans h7.symm), hSr4 HM.out.2⟩, hsrc4, fun a ha => ?_⟩
          have g1 := own_lt hown4 a.block (by rw [ha]; simp [rowOf, Value.ownBlock])
          have g2 := hb3.size
          exact ⟨by omega, by omega, fun hm => by have := (own_lt h5.own _ hm).2; omega, g1.2⟩
        have hlen4 : M4.length = n + 1 := by rw [hP4.length_eq, HN.out]; simp
        obtain ⟨n4, hn4⟩ : ∃ n4, n4 = M4.length := ⟨_, rfl⟩
        rw [← hn4] at hlen4 ⊢
        have HN4 := Lib.hid hn4
        have hk4 : n4 ≤ k + 1 := by omega
        clear hv4 hown4 hP4 hSr4 hb34 hsrc4 h5 h6 h7 HX HM e1 e2 e3 hn4 HLP hb3
        cases M4 with
        | nil => exact absurd HN4.out (by simp; omega)
        | cons y Y =>
          clear hlen4
          go_wp2_with fail
          have hPK := Lib.hid (fun w h => speek b v4 y Y w h)
          have HS4 := Lib.hid hT4.heap
          have HT4 := Lib.hid hT4
          clear hT4
          have hn0 : 0 < n4 := by have := HN4.out; simp at this; omega
          refine (hPK.out _ HS4.out).mono ?_
          rintro e w5 ⟨rfl, hb5⟩
          have hT5 := HT4.out.below hb5
          have hb5' := hb4.trans (hb5.mono hb4.size)
          clear hb5
          unfold dv
          go_wp2_with fail
          generalize hw6 : w5.alloc _ = w6
          have hT6 : Beside w6 W.heap.size b v4 p4 cap4 (y :: Y) := by rw [← hw6]; exact hT5.below ((Below.refl _ _).alloc (Nat.le_refl _) _)
          have hD6 : Blk w6 w5.heap.size #[.int .i64 y.st, .int .u32 y.bl, .int .i64 y.at_] 31 := by rw [← hw6]; exact Blk.new _ _ _
          have hb6 : Below W.heap.size W w6 := by rw [← hw6]; exact hb5'.alloc hb5'.size _
          have x0 := hD6.cell 0
          have x1 := hD6.cell 1
          have x2 := hD6.cell 2
          simp at x0 x1 x2
          clear hw6 hT5 hb5' hD6
          have HL := Lib.hid (fun N => slen b v4 (y :: Y) n4 HN4.out (w6.drewN N) (hT6.heap.kept ((Kept.refl [] _).drewN N) (by simp) (by simp)))
          obtain ⟨xb, xo, hp4⟩ := hT6.src.of_pos (by have := hT6.src.fits; have := HN4.out; omega)
          subst hp4
          have y0 := hT6.src.at_ 0 (.int .i64 y.st) rfl
          have y1 := hT6.src.at_ 1 (.int .u32 y.bl) rfl
          have y2 := hT6.src.at_ 2 (.int .i64 y.at_) rfl
          simp at y0
          have HT6 := Lib.hid hT6
          have d0 : decide ((0 : Int) < (n4 : Int)) = true := by rw [decide_eq_true_iff]; omega
          have d1 : decide (0 < n4) = true := by rw [decide_eq_true_iff]; omega
          have q1 := due_neq_same y
          have q2 := due_guard .neq (.inl rfl) y.st y.bl y.at_ y.st y.bl y.at_
          clear hT6
          go_quiet ((go_at_call 11; refine Calls.quiet_of_same ((HL.out _).mono fun e w1 h => ⟨h.1, h.2.symm⟩)))
          clear q1 q2 d0 d1 x0 x1 x2 y0 y1 y2
          go_wp2_with fail
          go_roundw
          case rel => exact ⟨k + 1, v4, y :: Y, some ⟨xb, xo, none⟩, cap4, by omega, by go_num, by have := HN4.out; omega, by rw [← HN4.out], HT6.out.below (bdrewN (Below.refl _ _) _), bdrewN hb6 _⟩
          case measure => simp [intOf]; omega
    · have hkl : k = len := by omega
      clear hT
      go_wp2_with (go_at_call 5; refine (awake_true _).mono ?_; rintro e w6 ⟨rfl, hb6⟩)
      go_ret
      exact ⟨rfl, hb.trans (hb6.mono hb.size)⟩
end Go.Proofs.Ytijefclhcfdpgaa
