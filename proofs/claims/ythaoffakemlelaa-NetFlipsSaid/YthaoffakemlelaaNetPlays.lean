/- lightshiplaw31: awake, NetPlays, NetNone. -/
import Derived.Test.YthaoffakemlelaaNetLaw
import Derived.Test.YthaoffakemlelaaOpen
namespace Go.Proofs.Ythaoffakemlelaa
open Go.ChangeShapes Go.WideShapes Go.ChangeAt Go.RowKit
set_option linter.unusedVariables false

def TruePost (W : World) (e : Ending) (w' : World) : Prop := e = .returned (.bool true) ∧ Below W.heap.size W w'
theorem nput_lit (b : Nat) (v : Value) (L L' : List ByteArray) (room : Nat) (s : ByteArray) (h0 : L.length < room) (hL : L ++ [s] = L') (w : World) (h : NetAt w b v L room) : Calls Try.prog 8 #[.pointer (some ⟨b, 0, none⟩), .string s] w (NActPost w b v L' room (.bool true)) := by
  subst hL; exact nput_some b v L room s h0 w h
theorem nflip_lit (b : Nat) (v : Value) (L L' : List ByteArray) (room : Nat) (i bit : Int) (h0 : 0 < L.length) (hz : (bg L (atN i L.length)).size ≠ 0) (hs : (bg L (atN i L.length)).size ≤ 1000) (hL : L.set (atN i L.length) (flipS (bg L (atN i L.length)) bit) = L') (w : World) (h : NetAt w b v L room) :
    Calls Try.prog 13 #[.pointer (some ⟨b, 0, none⟩), .int .i64 i, .int .i64 bit] w (NActPost w b v L' room (.bool true)) := by
  subst hL; exact nflip_some b v L room i bit h0 hz hs w h
theorem ntake_lit (b : Nat) (v : Value) (L L' : List ByteArray) (room : Nat) (i : Int) (s : ByteArray) (h0 : 0 < L.length) (hs : bg L (atN i L.length) = s) (hL : L.eraseIdx (atN i L.length) = L') (w : World) (h : NetAt w b v L room) :
    Calls Try.prog 11 #[.pointer (some ⟨b, 0, none⟩), .int .i64 i] w (NActPost w b v L' room (.tuple #[.string s, .bool true])) := by
  subst hL hs; exact ntake_some b v L room i h0 w h
theorem npeek_lit (b : Nat) (v : Value) (L : List ByteArray) (room : Nat) (i : Int) (s : ByteArray) (h0 : 0 < L.length) (hs : bg L (atN i L.length) = s) (w : World) (h : NetAt w b v L room) :
    Calls Try.prog 12 #[.pointer (some ⟨b, 0, none⟩), .int .i64 i] w (SomePost w s) := by
  subst hs; exact npeek_some b v L room i h0 w h
theorem nact_below {w1 w2 : World} {B b : Nat} {v : Value} {L : List ByteArray} {room : Nat} (hn : NetAt w1 b v L room) (hk : Kept (b :: rowOf v) w1 w2) (hB : B ≤ b) : Below B w1 w2 :=
  hk.below (by have := hn.blk.lt; omega) (fun x hx => by
    rcases List.mem_cons.1 hx with h | h
    · omega
    · have := (own_lt hn.own x h).1; omega)
theorem fl_a : ([⟨#[97]⟩, ⟨#[98]⟩] : List ByteArray).set (atN 0 ([⟨#[97]⟩, ⟨#[98]⟩] : List ByteArray).length) (flipS (bg [⟨#[97]⟩, ⟨#[98]⟩] (atN 0 ([⟨#[97]⟩, ⟨#[98]⟩] : List ByteArray).length)) 1) = [⟨#[99]⟩, ⟨#[98]⟩] := by decide
set_option maxRecDepth 100000 in
set_option maxHeartbeats 2000000 in
theorem awake_true (w : World) : Calls Try.prog 6 #[] w (TruePost w) := by
  go_enter Try.func6, Try.ntmps6
  go_wp2_with fail
  refine (nnew_good 2 (by omega) (by omega) _).mono ?_
  rintro e w0 ⟨rfl, hN0, hB0⟩
  go_wp2_with fail
  refine (nnew_bad 0 (by omega) _).mono ?_
  rintro e w' ⟨rfl, rfl⟩
  go_wp2_with fail
  refine (nput_lit w.heap.size _ [] [⟨#[97]⟩] 2 _ (by decide) rfl _ hN0).mono ?_
  rintro e w1 ⟨rfl, v1, hN1, hK1, hr1⟩
  have hB1 := hB0.trans (nact_below hN0 hK1 (Nat.le_refl _))
  clear hK1 hr1
  go_wp2_with fail
  refine (nput_lit w.heap.size _ [⟨#[97]⟩] [⟨#[97]⟩, ⟨#[98]⟩] 2 _ (by decide) rfl _ hN1).mono ?_
  rintro e w2 ⟨rfl, v2, hN2, hK2, hr2⟩
  have hB2 := hB1.trans (nact_below hN1 hK2 (Nat.le_refl _))
  clear hK2 hr2
  go_wp2_with fail
  refine (nput_full w.heap.size _ [⟨#[97]⟩, ⟨#[98]⟩] 2 _ (by decide) _ hN2).mono ?_
  rintro e w' ⟨rfl, n1, rfl⟩
  go_wp2_with fail
  have hN2' := hN2.drewN n1
  have hB2' := bdrewN hB2 n1
  generalize w2.drewN n1 = w2' at *
  refine (nflip_lit w.heap.size _ [⟨#[97]⟩, ⟨#[98]⟩] [⟨#[99]⟩, ⟨#[98]⟩] 2 0 1 (by decide) (by decide) (by decide) fl_a _ hN2').mono ?_
  rintro e w3 ⟨rfl, v3, hN3, hK3, hr3⟩
  have hB3 := hB2'.trans (nact_below hN2' hK3 (Nat.le_refl _))
  clear hK3 hr3
  go_wp2_with fail
  refine (npeek_lit w.heap.size _ [⟨#[99]⟩, ⟨#[98]⟩] 2 2 ⟨#[99]⟩ (by decide) (by decide) _ hN3).mono ?_
  rintro e w' ⟨rfl, n2, rfl⟩
  go_wp2_with fail
  have hN3' := hN3.drewN n2
  have hB3' := bdrewN hB3 n2
  generalize w3.drewN n2 = w3' at *
  refine (ntake_lit w.heap.size _ [⟨#[99]⟩, ⟨#[98]⟩] [⟨#[99]⟩] 2 1 ⟨#[98]⟩ (by decide) (by decide) (by decide) _ hN3').mono ?_
  rintro e w4 ⟨rfl, v4, hN4, hK4, hr4⟩
  have hB4 := hB3'.trans (nact_below hN3' hK4 (Nat.le_refl _))
  clear hK4 hr4
  go_wp2_with fail
  refine (nlen_any w.heap.size _ _ 2 _ hN4).mono ?_
  rintro e w' ⟨rfl, rfl⟩
  go_wp2_with fail
  go_ret
  exact ⟨rfl, hB4⟩
set_option maxRecDepth 100000 in
set_option maxHeartbeats 2000000 in
theorem none_all (K I Bit : Int) (S : ByteArray) (W : World) : Calls Try.prog 4 #[.agg #[.int .i64 K, .int .i64 I, .int .i64 Bit, .string S]] W (TruePost W) := by
  have hE : ((⟨#[]⟩ : ByteArray) ++ (⟨#[]⟩ : ByteArray)) = ⟨#[]⟩ := by rfl
  go_enter Try.func4, Try.ntmps4
  go_wp2_with (first | (go_at_call 8; refine (nput_nil _ _).mono ?_; rintro e w3 ⟨rfl, n3, rfl⟩) | (go_at_call 11; refine (ntake_nil _ _).mono ?_; rintro e w' ⟨rfl, rfl⟩) | (go_at_call 12; refine (npeek_nil _ _).mono ?_; rintro e w' ⟨rfl, rfl⟩) | (go_at_call 10; refine (nlen_nil _).mono ?_; rintro e w' ⟨rfl, rfl⟩) | (go_at_call 13; refine (nflip_nil _ _ _).mono ?_; rintro e w' ⟨rfl, rfl⟩) | (go_at_call 6; refine (awake_true _).mono ?_; rintro e w6 ⟨rfl, hb6⟩))
  go_ret
  exact ⟨rfl, Below.trans (b := _) (by first | exact bdrewN ((Below.refl _ _).alloc (Nat.le_refl _) _) _ | exact (Below.refl _ _).alloc (Nat.le_refl _) _) (hb6.mono (by simp))⟩
theorem plays_bad (room : Int) (hr : room < 1 ∨ 4096 < room) (a : Option Addr) (len cap : Nat) (hl : len ≤ 60) (W : World) : Calls Try.prog 3 #[.int .i64 room, .slice a len cap] W (TruePost W) := by
  by_cases h1 : room < 1
  all_goals
    go_enter Try.func3, Try.ntmps3
    go_wp2_with (first | (go_at_call 7; refine (nnew_bad _ hr _).mono ?_; rintro e w' ⟨rfl, rfl⟩) | (go_at_call 6; refine (awake_true _).mono ?_; rintro e w6 ⟨rfl, hb6⟩))
    go_ret
    exact ⟨rfl, hb6⟩
theorem plays_many (room : Int) (a : Option Addr) (len cap : Nat) (hc : cap ≤ maxLen) (hlc : len ≤ cap) (c1 : 60 < len) (W : World) : Calls Try.prog 3 #[.int .i64 room, .slice a len cap] W (TruePost W) := by
  unfold maxLen at hc
  go_enter Try.func3, Try.ntmps3
  go_wp2_with (go_at_call 6; refine (awake_true _).mono ?_; rintro e w6 ⟨rfl, hb6⟩)
  go_ret
  exact ⟨rfl, hb6⟩
set_option maxRecDepth 100000 in
set_option maxHeartbeats 4000000 in
theorem plays_few (room : Nat) (m1 : 1 ≤ room) (m2 : room ≤ 4096) (a : Option Addr) (len cap bl off : Nat) (K I Bit : Nat → Int) (S : Nat → ByteArray) (hl : len ≤ 60) (W : World)
    (ha : 0 < len → a = some ⟨bl, off, none⟩) (hlt : len = 0 ∨ bl < W.heap.size) (hK : ∀ i, i < len → W.cell? ⟨bl, off + i * 4, none⟩ = some (.int .i64 (K i))) (hI : ∀ i, i < len → W.cell? ⟨bl, off + i * 4 + 1, none⟩ = some (.int .i64 (I i)))
    (hBit : ∀ i, i < len → W.cell? ⟨bl, off + i * 4 + 2, none⟩ = some (.int .i64 (Bit i))) (hS : ∀ i, i < len → W.cell? ⟨bl, off + i * 4 + 3, none⟩ = some (.string (S i))) (hSm : ∀ i, i < len → (S i).size ≤ maxLen) :
    Calls Try.prog 3 #[.int .i64 (room : Int), .slice a len cap] W (TruePost W) := by
  obtain ⟨i0, hi, hz0, hz1, hz2⟩ := info_parts s_info
  have q1 : decide ((room : Int) < 1) = false := by rw [decide_eq_false_iff_not]; omega
  have q4 : decide ((4096 : Int) < (room : Int)) = false := by rw [decide_eq_false_iff_not]; omega
  go_enter Try.func3, Try.ntmps3
  go_wp2_with fail
  refine (nnew_good room m1 m2 _).mono ?_
  rintro e w1 ⟨rfl, hN0, hB0⟩
  go_wp2_with fail
  clear q1 q4
  go_loopw [7, 8] (fun xv iv wr => ∃ (k : Nat) (v : Value) (L : List ByteArray), k ≤ len ∧ iv = .int .i64 k ∧ Two wr W.heap.size W.heap.size v xv L room ∧ Below W.heap.size W wr) (fun _ iv _ => len - (intOf iv).toNat)
  case atStart => exact ⟨0, _, [], Nat.zero_le _, rfl, ⟨hN0, World.ownsRow_nil _ _ _ _, fun x hx => by simp [rowOf, Value.ownBlock] at hx, fun s hs => by simp at hs⟩, hB0⟩
  case round =>
    obtain ⟨k, v, L, hk, rfl, hT, hb⟩ := hrel
    obtain ⟨p, xcap, hxv, hsrc⟩ := Src.of_own hT.own
    subst hxv
    have hL := hT.net.len
    have hW := hb.size
    have HT := Lib.hid hT
    have HSRC := Lib.hid hsrc
    clear hT hsrc
    by_cases hlk : k < len
    · have hbl : bl < W.heap.size := by omega
      have ha' := ha (by omega)
      subst ha'
      have cK : wr.cell? ⟨bl, off + k * 4, none⟩ = some (.int .i64 (K k)) := kbelow hb hbl (hK k hlk)
      have cI : wr.cell? ⟨bl, off + k * 4 + 1, none⟩ = some (.int .i64 (I k)) := kbelow hb hbl (hI k hlk)
      have cB : wr.cell? ⟨bl, off + k * 4 + 2, none⟩ = some (.int .i64 (Bit k)) := kbelow hb hbl (hBit k hlk)
      have cS : wr.cell? ⟨bl, off + k * 4 + 3, none⟩ = some (.string (S k)) := kbelow hb hbl (hS k hlk)
      have HCS := Lib.hid (hS k hlk)
      have hSk := hSm k hlk
      unfold maxLen at hSk
      by_cases h5 : 200 < (S k).size
      · go_wp2_with fail
        go_roundw
        case rel => exact ⟨k + 1, v, L, by omega, by go_num, HT.out, hb⟩
        case measure => simp [intOf]; omega
      · by_cases k0 : K k = 0
        · rw [k0] at cK
          clear k0
          by_cases hfull : L.length < room
          · go_wp2_with (at_builtin; refine wpList_append_own_at _ rfl _ _ 28 rfl W.heap.size 9 i0 (.string ⟨#[]⟩) 1 16 Try.underlying28 hi hz0 hz1 hz2 rfl (by decide) _ _ _ rfl (HT.out.own.alloc _) ⟨wr.heap.size, 0, none⟩ 1 1 [.string (S k)] rfl rfl (cell_one_new _ _ _) (fun u hu => by simp at hu; subst hu; rfl) (by unfold maxLen; omega) (by omega) (by simp; omega) ?_)
            intro xv' w2 hown' hg _ hat
            have hk2 : Kept (rowOf (.slice p L.length xcap)) wr w2 := ((Kept.refl _ _).alloc _).grown hg (fun x hx => .inl (mem_rowOf hx))
            have hN2 := HT.out.net.kept hk2 (fun h => (HT.out.apart _ h).1 rfl) (fun x hx h => (HT.out.apart _ h).2 hx)
            have hxw := rowOf_new hat
            have hbb : Below W.heap.size W w2 := hb.trans (hk2.below (by omega) (fun x hx => (own_lt HT.out.own x hx).1))
            have cS2 : w2.cell? ⟨bl, off + k * 4 + 3, none⟩ = some (.string (S k)) := kbelow hbb hbl HCS.out
            have HN2 := Lib.hid hN2
            have HO2 := Lib.hid hown'
            have HX := Lib.hid hxw
            clear hown' hg hat hk2 hN2 hxw cK cI cB cS
            go_wp2_with fail
            refine (nput_some W.heap.size v L room (S k) hfull _ HN2.out).mono ?_
            rintro e w3 ⟨rfl, v3, hN3, hK3, hr3⟩
            have hb2 : Below W.heap.size W w3 := hbb.trans (nact_below HN2.out hK3 (Nat.le_refl _))
            have hap : ∀ x ∈ rowOf xv', x ≠ W.heap.size ∧ x ∉ rowOf v ∧ x < w2.heap.size := fun x hx => by
              have h3 := (own_lt HO2.out x hx).2
              rcases HX.out x hx with h | h
              · exact ⟨(HT.out.apart x h).1, (HT.out.apart x h).2, h3⟩
              · have h1 := HT.out.net.blk.lt
                refine ⟨by first | omega | (simp at h; omega), fun hv => ?_, h3⟩
                have h2 := (own_lt HT.out.net.own x hv).2
                first | omega | (simp at h; omega)
            have HT2 : Hid (Two w3 W.heap.size W.heap.size v3 xv' (L ++ [S k]) room) := Lib.hid ⟨hN3, by
              have h := own_kept HO2.out hK3 (fun x hx hm => by
                rcases List.mem_cons.1 hm with h2 | h2
                · exact (hap x hx).1 h2
                · exact (hap x hx).2.1 h2)
              rw [List.length_append, sv_app]
              exact h, fun x hx => ⟨(hap x hx).1, fun hv => by
                rcases hr3 x hv with h2 | h2
                · exact (hap x hx).2.1 h2
                · have := (hap x hx).2.2; omega⟩, fun s hs => by
                  rcases List.mem_append.1 hs with h2 | h2
                  · exact HT.out.small s h2
                  · simp at h2; rw [h2]; omega⟩
            obtain ⟨xp, xc, hxv2, hsrc2⟩ := Src.of_own HT2.out.own
            have hl1 : (L ++ [S k]).length = L.length + 1 := by simp
            rw [hl1] at hxv2
            subst hxv2
            clear hN3 hK3 hr3 hsrc2 hap cS2 hl1
            go_wp2_with (go_at_call 10; refine (nlen_any W.heap.size _ _ room _ HT2.out.net).mono ?_; rintro e w' ⟨rfl, rfl⟩)
            go_roundw
            case rel => exact ⟨k + 1, _, _, by omega, by go_num, HT2.out, hb2⟩
            case measure => simp [intOf]; omega
          · have hfull2 : room ≤ L.length := by omega
            go_wp2_with (go_at_call 8; refine (nput_full W.heap.size v L room (S k) hfull2 _ HT.out.net).mono ?_; rintro e w3 ⟨rfl, n3, rfl⟩)
            have HT2 := Lib.hid (HT.out.drewN n3)
            have hb2 := bdrewN hb n3
            go_wp2_with (go_at_call 10; refine (nlen_any W.heap.size _ _ room _ HT2.out.net).mono ?_; rintro e w' ⟨rfl, rfl⟩)
            go_roundw
            case rel => exact ⟨k + 1, _, _, by omega, by go_num, HT2.out, hb2⟩
            case measure => simp [intOf]; omega
        · have b0 : (K k == 0) = false := by rw [beq_eq_false_iff_ne]; exact k0
          have HD := Lib.hid (do_any W.heap.size W.heap.size v p xcap L room (K k) (I k) (Bit k) (S k) wr hW HT.out HSRC.out)
          generalize doL L (K k) (I k) (Bit k) = L2 at *
          go_wp2_with fail
          refine HD.out.mono ?_
          rintro e w3 ⟨xv', v3, rfl, hT3, hK3, hr3⟩
          have hb2 : Below W.heap.size W w3 := hb.trans (nact_below HT.out.net hK3 (Nat.le_refl _))
          obtain ⟨xp, xc, hxv2, hsrc2⟩ := Src.of_own hT3.own
          subst hxv2
          have HT2 := Lib.hid hT3
          clear hT3 hK3 hr3 hsrc2 cK cI cB cS HD
          go_wp2_with (go_at_call 10; refine (nlen_any W.heap.size _ _ room _ HT2.out.net).mono ?_; rintro e w' ⟨rfl, rfl⟩)
          go_roundw
          case rel => exact ⟨k + 1, _, _, by omega, by go_num, HT2.out, hb2⟩
          case measure => simp [intOf]; omega
    · have hkl : k = len := by omega
      go_wp2_with (go_at_call 6; refine (awake_true _).mono ?_; rintro e w6 ⟨rfl, hb6⟩)
      go_ret
      exact ⟨rfl, hb.trans (hb6.mono hb.size)⟩
end Go.Proofs.Ythaoffakemlelaa
