/- lightshiplaw48: HeapSorts. -/
import Derived.Test.YtijefclhcfdpgaaHeapPlays2
namespace Go.Proofs.Ytijefclhcfdpgaa
open Go.ChangeShapes Go.WideShapes Go.ChangeAt Go.RowKit
set_option linter.unusedVariables false

set_option maxRecDepth 100000 in
set_option maxHeartbeats 4000000 in
theorem same_true (p1 p2 : Option Addr) (c1 c2 n : Nat) (X : List Du) (hn : n = X.length) (hX : X.length ≤ 1000) (w : World) (h1 : Src w p1 X.length c1 3 (dl X)) (h2 : Src w p2 X.length c2 3 (dl X)) :
    Calls Try.prog 12 #[.slice p1 n c1, .slice p2 n c2] w fun e w' => e = .returned (.bool true) ∧ ∃ q, w' = w.drewN q := by
  have HN := Lib.hid hn
  have H1 := Lib.hid h1
  have H2 := Lib.hid h2
  have hn1 : n ≤ 1000 := by omega
  clear hn h1 h2 hX
  go_enter Try.func12, Try.ntmps12
  go_wp2_with fail
  go_loopw [5] (fun iv wr => ∃ i q : Nat, iv = .int .i64 (i : Int) ∧ i ≤ n ∧ wr = w.drewN q) (fun iv _ => n - (intOf iv).toNat)
  case atStart => exact ⟨0, 0, rfl, Nat.zero_le _, rfl⟩
  case round =>
    obtain ⟨i, q, rfl, hin, rfl⟩ := hrel
    by_cases hi : i < n
    · have hiX : i < X.length := by have := HN.out; omega
      obtain ⟨b1, o1, rfl⟩ := H1.out.of_pos (by have := H1.out.fits; omega)
      obtain ⟨b2, o2, rfl⟩ := H2.out.of_pos (by have := H2.out.fits; omega)
      have x0 := H1.out.at_ (i * 3) _ (by have := dl_get X i 0 hiX (by omega); simpa [dc] using this)
      have x1 := H1.out.at_ (i * 3 + 1) _ (by have := dl_get X i 1 hiX (by omega); simpa [dc] using this)
      have x2 := H1.out.at_ (i * 3 + 2) _ (by have := dl_get X i 2 hiX (by omega); simpa [dc] using this)
      have y0 := H2.out.at_ (i * 3) _ (by have := dl_get X i 0 hiX (by omega); simpa [dc] using this)
      have y1 := H2.out.at_ (i * 3 + 1) _ (by have := dl_get X i 1 hiX (by omega); simpa [dc] using this)
      have y2 := H2.out.at_ (i * 3 + 2) _ (by have := dl_get X i 2 hiX (by omega); simpa [dc] using this)
      rw [← Nat.add_assoc] at x1 x2 y1 y2
      have q1 := due_neq_same (ga X i)
      have q2 := due_guard .neq (.inl rfl) (ga X i).st (ga X i).bl (ga X i).at_ (ga X i).st (ga X i).bl (ga X i).at_
      have q4 : (0 : Int) ≤ (i : Int) := by omega
      have q5 : (i : Int) < (n : Int) := by omega
      go_wp2_with fail
      go_quiet (fail)
      go_wp2_with fail
      go_roundw
      case rel => exact ⟨i + 1, q + nq, by go_num, by omega, by first | rfl | exact World.drewN_drewN _ _ _⟩
      case measure => simp [intOf]; omega
    · have hin2 : i = n := by omega
      subst hin2
      go_wp2_with fail
      go_ret
      exact ⟨rfl, q, rfl⟩
theorem src_one (w : World) (n : Nat) (hn : n = w.heap.size) (d : Du) : Src (w.alloc (.cells #[.int .i64 d.st, .int .u32 d.bl, .int .i64 d.at_] 31)) (some ⟨n, 0, none⟩) 1 1 3 (dc d) := by
  rw [hn]; exact Src.one w d
theorem sorts_many (a : Option Addr) (len cap : Nat) (hc : cap ≤ maxLen) (hlc : len ≤ cap) (c1 : 80 < len) (W : World) : Calls Try.prog 4 #[.slice a len cap] W (TruePost W) := by
  unfold maxLen at hc
  go_enter Try.func4, Try.ntmps4
  go_wp2_with (go_at_call 5; refine (awake_true _).mono ?_; rintro e w6 ⟨rfl, hb6⟩)
  go_ret
  exact ⟨rfl, hb6⟩
/-- heap, list beside it, and what was taken -/
structure Trip (w : World) (B b : Nat) (v : Value) (p : Option Addr) (cap : Nat) (X : List Du) (j : Nat) (gv : Value) : Prop where
  heap : HS w b v (X.drop j)
  src : Src w p X.length cap 3 (dl X)
  own : w.ownsRow B 31 3 gv j (dl (X.take j))
  blk : ∀ a, p = some a → B ≤ a.block ∧ a.block ≠ b ∧ a.block ∉ rowOf v ∧ a.block ∉ rowOf gv ∧ a.block < w.heap.size
  apart : ∀ x ∈ rowOf gv, x ≠ b ∧ x ∉ rowOf v
set_option maxRecDepth 100000 in
set_option maxHeartbeats 8000000 in
theorem sorts_few (a : Option Addr) (len cap bl off : Nat) (A B C : Nat → Int) (hl : len ≤ 80) (W : World) (ha : 0 < len → a = some ⟨bl, off, none⟩) (hlt : len = 0 ∨ bl < W.heap.size)
    (hA : ∀ i, i < len → W.cell? ⟨bl, off + i * 3, none⟩ = some (.int .i64 (A i)))
    (hB : ∀ i, i < len → W.cell? ⟨bl, off + i * 3 + 1, none⟩ = some (.int .u32 (B i))) (hC : ∀ i, i < len → W.cell? ⟨bl, off + i * 3 + 2, none⟩ = some (.int .i64 (C i))) :
    Calls Try.prog 4 #[.slice a len cap] W (TruePost W) := by
  obtain ⟨i0, hi, hz0, hz1, hz2⟩ := info_parts d_info
  go_enter Try.func4, Try.ntmps4
  go_wp2_with fail
  refine (hnew _).mono ?_
  rintro e w1 ⟨rfl, hH0, hB0⟩
  have hS0 : HS w1 W.heap.size (.slice none 0 0) [] := ⟨[], hH0, fun j h1 h2 => by simp at h2, List.Perm.refl _, List.Pairwise.nil⟩
  obtain ⟨b, hbW⟩ : ∃ b, b = W.heap.size := ⟨_, rfl⟩
  rw [← hbW] at hS0 ⊢
  have hbW1 : W.heap.size ≤ b := by omega
  clear hbW hH0
  go_wp2_with fail
  go_loopw [4, 6] (fun xv iv wr => ∃ (k : Nat) (v : Value) (X : List Du) (p : Option Addr) (xcap : Nat), k ≤ len ∧ iv = .int .i64 k ∧ X.length = k ∧ xv = .slice p k xcap ∧ Beside wr W.heap.size b v p xcap X ∧ Below W.heap.size W wr) (fun _ iv _ => len - (intOf iv).toNat)
  case atStart => exact ⟨0, _, [], none, 0, Nat.zero_le _, rfl, by simp, rfl, ⟨hS0, Src.empty _ _, fun a ha => by cases ha⟩, hB0⟩
  case round =>
    clear hS0 hB0
    obtain ⟨k, v, X, p, xcap, hk, rfl, hXl, rfl, hT, hb⟩ := hrel
    have HXL := Lib.hid hXl
    clear hXl
    by_cases hlk : k < len
    · have hbl : bl < W.heap.size := by omega
      have ha' := ha (by omega)
      subst ha'
      have cA : wr.cell? ⟨bl, off + k * 3, none⟩ = some (.int .i64 (A k)) := kbelow hb hbl (hA k hlk)
      have cB : wr.cell? ⟨bl, off + k * 3 + 1, none⟩ = some (.int .u32 (B k)) := kbelow hb hbl (hB k hlk)
      have cC : wr.cell? ⟨bl, off + k * 3 + 2, none⟩ = some (.int .i64 (C k)) := kbelow hb hbl (hC k hlk)
      have hbw : b < wr.heap.size := by obtain ⟨M, h1, _⟩ := hT.heap; exact h1.blk.lt
      obtain ⟨M, h1, h2, h3, h4⟩ := hT.heap
      have hlM : M.length < 5000 := by rw [← h3.length_eq, HXL.out]; omega
      have HPU := Lib.hid (hpush b v M ⟨A k, B k, C k⟩ wr h1 h2 hlM)
      have HS0 := Lib.hid hT.heap
      have HT := Lib.hid hT
      have HA := Lib.hid (hA k hlk)
      have HB := Lib.hid (hB k hlk)
      have HC := Lib.hid (hC k hlk)
      have HM := Lib.hid (And.intro h3 h4)
      clear hT h1 h2 h3 h4 hlM
      go_wp2_with fail
      refine HPU.out.mono ?_
      rintro e w3 ⟨rfl, v3, M3, h5, h6, h7, hK3, hr3⟩
      have hb3 := hb.trans (s_below HS0.out hK3 hbW1 hb.size)
      have hnm : ∀ a, p = some a → a.block ∉ b :: rowOf v := fun a ha => by
        obtain ⟨_, g2, g3, _⟩ := HT.out.blk _ ha
        simp; exact ⟨g2, g3⟩
      have hsx := HT.out.src.kept hK3 hnm
      have hpb : ∀ a, p = some a → a.block < w3.heap.size := fun a ha => Nat.lt_of_lt_of_le (HT.out.blk _ ha).2.2.2 hK3.size
      have e1 : w3.cell? ⟨bl, off + k * 3, none⟩ = some (.int .i64 (A k)) := kbelow hb3 hbl HA.out
      have e2 : w3.cell? ⟨bl, off + k * 3 + 1, none⟩ = some (.int .u32 (B k)) := kbelow hb3 hbl HB.out
      have e3 : w3.cell? ⟨bl, off + k * 3 + 2, none⟩ = some (.int .i64 (C k)) := kbelow hb3 hbl HC.out
      have hb3l : b < w3.heap.size := Nat.lt_of_lt_of_le hbw hK3.size
      have HLP := Lib.hid (lput p xcap X ⟨A k, B k, C k⟩ (by have := HXL.out; omega) w3 hsx hpb)
      rw [HXL.out] at HLP
      have HX := Lib.hid (And.intro h5 (And.intro h6 h7))
      clear h5 h6 h7 hK3 hr3 hb HS0 HT hnm hsx hpb cA cB cC HPU HA HB HC
      go_wp2_with fail
      refine HLP.out.mono ?_
      rintro e w4 ⟨xv, M4, rfl, hown4, hP4, hSr4, hb34⟩
      obtain ⟨p4, cap4, hxv, hsrc4⟩ := Src.of_own hown4
      subst hxv
      have hb4 := hb3.trans (hb34.mono hb3.size)
      obtain ⟨h5, h6, h7⟩ := HX.out
      have hlen4 : M4.length = k + 1 := by rw [hP4.length_eq]; simp [HXL.out]
      have hT4 : Beside w4 W.heap.size b v3 p4 cap4 M4 := by
        refine ⟨⟨M3, h5.kept (Kept.of_below hb34 []) (by simp) (by simp), h6, hP4.trans ((HM.out.1.cons _).trans h7.symm), hSr4 HM.out.2⟩, hsrc4, fun a ha => ?_⟩
        have g1 := own_lt hown4 a.block (by rw [ha]; simp [rowOf, Value.ownBlock])
        have g2 := hb3.size
        exact ⟨by omega, by omega, fun hm => by have := (own_lt h5.own _ hm).2; omega, g1.2⟩
      have HT4 := Lib.hid hT4
      have HL4 := Lib.hid hlen4
      rw [hlen4]
      clear hown4 hP4 hSr4 hb34 hsrc4 h5 h6 h7 HX HM e1 e2 e3 hT4 hlen4 HLP hb3
      go_wp2_with fail
      go_roundw
      case rel => exact ⟨k + 1, v3, M4, p4, cap4, by omega, by go_num, HL4.out, rfl, HT4.out, hb4⟩
      case measure => simp [intOf]; omega
    · have hkl : k = len := by omega
      subst hkl
      have q9 : decide ((k : Int) < (k : Int)) = false := by rw [decide_eq_false_iff_not]; omega
      have HT := Lib.hid hT
      clear hA hB hC hT
      go_wp2_with fail
      clear q9
      obtain ⟨wo, hwo⟩ : ∃ wo : World, wo = wr := ⟨_, rfl⟩
      subst hwo
      go_loopw [5, 7] (fun gx jv wr => ∃ (j : Nat) (v gv : Value), j ≤ k ∧ jv = .int .i64 j ∧ gv = gx ∧ Trip wr W.heap.size b v p xcap X j gv ∧ Below W.heap.size W wr) (fun _ jv _ => k - (intOf jv).toNat)
      case atStart => exact ⟨0, v, .slice none 0 0, Nat.zero_le _, rfl, rfl, ⟨HT.out.heap, HT.out.src, World.ownsRow_nil _ _ _ _, fun a ha => by
        obtain ⟨g1, g2, g3, g4⟩ := HT.out.blk a ha
        exact ⟨g1, g2, g3, by simp [rowOf, Value.ownBlock], g4⟩, fun x hx => by simp [rowOf, Value.ownBlock] at hx⟩, hb⟩
      case round =>
        clear HT hb
        obtain ⟨j, v, gv, hj, rfl, rfl, hT, hb⟩ := hrel
        by_cases hjk : j < k
        · have hjX : j < X.length := by have := HXL.out; omega
          have hcons : X.drop j = ga X j :: X.drop (j + 1) := by rw [List.drop_eq_getElem_cons hjX, ga_at X j hjX]
          have hHS : HS wr b v (ga X j :: X.drop (j + 1)) := by rw [← hcons]; exact hT.heap
          have HP := Lib.hid (spop b v (ga X j) (X.drop (j + 1)) wr hHS)
          have hbw : b < wr.heap.size := by obtain ⟨M, h1, _⟩ := hT.heap; exact h1.blk.lt
          have HS0 := Lib.hid hHS
          have HT := Lib.hid hT
          clear hT hHS hcons
          go_wp2_with fail
          refine HP.out.mono ?_
          rintro e w3 ⟨rfl, v3, hS3, hK3, hr3⟩
          have hb3 := hb.trans (s_below HS0.out hK3 hbW1 hb.size)
          have hsz3 := hK3.size
          have hown3 := own_kept HT.out.own hK3 (fun x hx hm => by
            rcases List.mem_cons.1 hm with h | h
            · exact (HT.out.apart x hx).1 h
            · exact (HT.out.apart x hx).2 h)
          have hsrc3 := HT.out.src.kept hK3 (fun a ha => by
            obtain ⟨_, g2, g3, _⟩ := HT.out.blk a ha
            simp; exact ⟨g2, g3⟩)
          have hr4 : ∀ x ∈ rowOf gv, x ∉ rowOf v3 := fun x hx hm => by
            rcases hr3 x hm with h | h
            · exact (HT.out.apart x hx).2 h
            · have := (own_lt HT.out.own x hx).2; omega
          have hr5 : ∀ a, p = some a → a.block ∉ rowOf v3 := fun a ha hm => by
            obtain ⟨_, g2, g3, _, g5⟩ := HT.out.blk a ha
            rcases hr3 _ hm with h | h
            · exact g3 h
            · omega
          have HO3 := Lib.hid hown3
          have HX := Lib.hid (And.intro hS3 (And.intro hsrc3 (And.intro hr4 hr5)))
          clear hS3 hsrc3 hr4 hr5 hown3 hK3 hr3 HS0 HP hb
          unfold dv
          go_wp2_with (at_builtin; refine wpList_append_src _ rfl (.tmp 51) (.tmp 53) 26 rfl W.heap.size 31 i0 (.agg #[.int .i64 0, .int .u32 0, .int .i64 0]) 3 24 Try.underlying26 hi hz0 hz1 hz2 rfl (by decide) _ j _ rfl ((HO3.out.alloc _).alloc _) _ 1 1 rfl _ (src_one _ _ (by simp) (ga X j)) (dc_one (ga X j)) (by unfold maxLen; omega) (by omega) (by have := hb3.size; simp; omega) ?_)
          intro gv2 w4 hown4 hg4 hat4
          have hk4 : Kept (rowOf gv) w3 w4 := (((Kept.refl _ _).alloc _).alloc _).grown hg4 (fun x hx => .inl (mem_rowOf hx))
          have hrw := rowOf_new hat4
          obtain ⟨hS3, hsrc3, hr4, hr5⟩ := HX.out
          have hT4 : Trip w4 W.heap.size b v3 p xcap X (j + 1) gv2 := by
            refine ⟨hS3.kept hk4 (fun h => (HT.out.apart b h).1 rfl) (fun x hx h => hr4 x h hx), hsrc3.kept hk4 (fun a ha => (HT.out.blk a ha).2.2.2.1), ?_, fun a ha => ?_, fun x hx => ?_⟩
            · have e : dl (X.take (j + 1)) = dl (X.take j) ++ dc (ga X j) := by
                rw [List.take_succ_eq_append_getElem hjX, dl_app, ga_at X j hjX]; simp [dl]
              rw [e]
              exact hown4
            · obtain ⟨g1, g2, g3, g4, g5⟩ := HT.out.blk a ha
              refine ⟨g1, g2, hr5 a ha, fun hm => ?_, Nat.lt_of_lt_of_le g5 (Nat.le_trans hsz3 hk4.size)⟩
              rcases hrw _ hm with h | h
              · exact g4 h
              · first | omega | (simp at h; omega)
            · rcases hrw x hx with h | h
              · exact ⟨(HT.out.apart x h).1, hr4 x h⟩
              · refine ⟨by first | omega | (simp at h; omega), fun hm => ?_⟩
                have := (hS3.rows x hm).2
                first | omega | (simp at h; omega)
          have hb4 : Below W.heap.size W w4 := hb3.trans (hk4.below hb3.size (fun x hx => (own_lt HT.out.own x hx).1))
          have HT4 := Lib.hid hT4
          clear hT4 hown4 hg4 hat4 hk4 hrw hS3 hsrc3 hr4 hr5 HT HX HO3 hb3
          go_wp2_with fail
          go_roundw
          case rel => exact ⟨j + 1, v3, gv2, by omega, by go_num, rfl, HT4.out, hb4⟩
          case measure => simp [intOf]; omega
        · have hjk2 : j = k := by omega
          subst hjk2
          have hown := hT.own
          rw [List.take_of_length_le (by rw [HXL.out]; exact Nat.le_refl _)] at hown
          obtain ⟨gp, gcap, hgv, hgs⟩ := Src.of_own hown
          subst hgv
          have hX8 : X.length ≤ 1000 := by rw [HXL.out]; omega
          have HG := Lib.hid hgs
          have HS := Lib.hid hT.src
          have HBK := Lib.hid hT.blk
          have HOW := Lib.hid hown
          have HPN := Lib.hid (hpush_nil z3 wr)
          have q9 : decide ((j : Int) < (j : Int)) = false := by rw [decide_eq_false_iff_not]; omega
          clear hT hown hgs
          go_wp2_with fail
          refine HPN.out.mono ?_
          rintro e w3 ⟨rfl, hb3⟩
          go_wp2_with fail
          refine (hpop_nil _).mono ?_
          rintro e w4 ⟨rfl, hb4⟩
          unfold z3 dv
          go_wp2_with fail
          refine (hpeek_nil _).mono ?_
          rintro e w5 ⟨rfl, hb5⟩
          unfold z3 dv
          go_wp2_with fail
          generalize hw6 : w5.alloc _ = w6
          have hk6 : Kept [] wr w6 := by
            rw [← hw6]
            exact ((((Kept.of_below hb3 []).trans (Kept.of_below hb4 []) (fun x hx => .inl hx)).alloc _).trans (Kept.of_below hb5 []) (fun x hx => .inl hx)).alloc _
          have hs1 : Src w6 gp X.length gcap 3 (dl X) := by rw [HXL.out]; exact HG.out.kept hk6 (by simp)
          have hs2 : Src w6 p X.length xcap 3 (dl X) := HS.out.kept hk6 (by simp)
          have hb6 := hb.trans (hk6.below hb.size (by simp))
          have HSA := Lib.hid (same_true gp p gcap xcap j X HXL.out.symm hX8 w6 hs1 hs2)
          clear hw6 hk6 hs1 hs2 hb3 hb4 hb5
          go_wp2_with (first | (go_at_call 12; refine (HSA.out).mono ?_; rintro e w7 ⟨rfl, q7, rfl⟩) | (go_at_call 11; refine (hlen_nil _).mono ?_; rintro e w' ⟨rfl, rfl⟩) | (go_at_call 5; refine (awake_true _).mono ?_; rintro e w8 ⟨rfl, hb8⟩))
          go_ret
          exact ⟨rfl, Below.trans (b := _) (bdrewN hb6 q7) (hb8.mono (by exact hb6.size))⟩
end Go.Proofs.Ytijefclhcfdpgaa
