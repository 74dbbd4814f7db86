/- lightshiplaw58.MergeAll. -/
import Derived.Test.YtplgcnlnhboneaaMergeAwake
import Derived.Deep.CutRange
namespace Go.Proofs.Ytplgcnlnhboneaa
open Go.ChangeShapes Go.WideShapes Go.ChangeAt Go.RowKit
set_option linter.unusedVariables false

def flatL (Ls : Nat → List Du) (i : Nat) : List Du := (List.range i).flatMap Ls
theorem flatL_succ (Ls : Nat → List Du) (i : Nat) : flatL Ls (i + 1) = flatL Ls i ++ Ls i := by
  unfold flatL; rw [List.range_succ, List.flatMap_append]; simp
def RisA (Ls : Nat → List Du) (i : Nat) (r : Bool) : Prop := r = true ↔ ∀ j, j < i → risB (Ls j) (Ls j).length
def RisK (Ls : Nat → List Du) (i k : Nat) (r : Bool) : Prop := r = true ↔ ((∀ j, j < i → risB (Ls j) (Ls j).length) ∧ risB (Ls i) (k - 1))
theorem RisA.zero (Ls : Nat → List Du) : RisA Ls 0 true := ⟨fun _ j hj => absurd hj (Nat.not_lt_zero _), fun _ => rfl⟩
theorem RisA.start {Ls : Nat → List Du} {i : Nat} {r : Bool} (h : RisA Ls i r) : RisK Ls i 0 r := ⟨fun hr => ⟨h.1 hr, fun j _ hj => absurd hj (Nat.not_lt_zero _)⟩, fun hr => h.2 hr.1⟩
theorem RisK.done {Ls : Nat → List Du} {i k : Nat} {r : Bool} (h : RisK Ls i k r) (hk : k = (Ls i).length) : RisA Ls (i + 1) r := by
  subst hk
  refine ⟨fun hr j hj => ?_, fun hr => h.2 ⟨fun j hj => hr j (by omega), fun j h1 h2 => hr i (by omega) j h1 (by omega)⟩⟩
  obtain ⟨h1, h2⟩ := h.1 hr
  rcases Nat.lt_or_ge j i with h3 | h3
  · exact h1 j h3
  · obtain rfl : j = i := by omega
    exact fun q g1 g2 => h2 q g1 (by omega)
theorem RisK.first {Ls : Nat → List Du} {i : Nat} {r : Bool} (h : RisK Ls i 0 r) : RisK Ls i 1 r := h
theorem RisK.no {Ls : Nat → List Du} {i k : Nat} (h : RisK Ls i k false) : RisK Ls i (k + 1) false :=
  ⟨fun hr => (nomatch hr), fun hr => h.2 ⟨hr.1, fun j g1 g2 => hr.2 j g1 (by omega)⟩⟩
theorem RisK.next {Ls : Nat → List Du} {i k : Nat} (h : RisK Ls i (k + 1) true) (hk : k + 1 < (Ls i).length) : RisK Ls i (k + 1 + 1) (!(ga (Ls i) (k + 1)).lt (ga (Ls i) k)) := by
  obtain ⟨h1, h2⟩ := h.1 rfl
  refine ⟨fun hr => ⟨h1, fun j g1 g2 => ?_⟩, fun hr => ?_⟩
  · rcases Nat.lt_or_ge j k with h3 | h3
    · exact h2 j g1 (by omega)
    · obtain rfl : j = k := by omega
      simpa using hr
  · have := hr.2 k hk (by omega)
    rw [this]; rfl
def Want (W w : World) (v : Value) (X : List Du) : Prop := w.ownsRow W.heap.size 30 3 v X.length (dl X)
set_option maxRecDepth 100000 in
theorem merge_many (a : Option Addr) (m cap : Nat) (hc : cap ≤ maxLen) (hlc : m ≤ cap) (hm : 300 < m) (W : World) : Calls Try.prog 3 #[.slice a m cap] W (TruePost W) := by
  unfold maxLen at hc
  go_enter Try.func3, Try.ntmps3
  go_wp2_with (go_at_call 4; refine (awake_true _).mono ?_; rintro e w6 ⟨rfl, hb6⟩)
  go_ret
  exact ⟨rfl, hb6⟩
theorem Want.kept_want {W w w' : World} {v : Value} {X : List Du} (h : Want W w v X) (hk : Kept [] w w') : w'.ownsRow W.heap.size 30 3 v X.length (dl X) := own_kept h hk (by simp)
set_option maxRecDepth 100000 in
set_option maxHeartbeats 16000000 in
theorem merge_few (a : Option Addr) (m cap bl off : Nat) (R : Nat → Option Addr × Nat) (Ls : Nat → List Du) (hc : cap ≤ maxLen) (hlc : m ≤ cap) (hm : m ≤ 300) (W : World) (hL : Lists W W.heap.size a m bl off R Ls) (hfit : ∀ i, i < m → (Ls i).length ≤ (R i).2 ∧ (R i).2 ≤ maxLen) :
    Calls Try.prog 3 #[.slice a m cap] W (TruePost W) := by
  have hc' := hc
  unfold maxLen at hc'
  obtain ⟨i0, hi0, hz0, hz1, hz2⟩ := info_parts d_info
  have HC := Lib.hid hc
  have HL := Lib.hid hL
  have HFIT := Lib.hid hfit
  clear hc hL hfit
  go_enter Try.func3, Try.ntmps3
  go_wp2_with fail
  go_loopw [3, 4, 5] (fun rv wv iv wr => ∃ (i : Nat) (r : Bool) (X : List Du), iv = .int .i64 (i : Int) ∧ i ≤ m ∧ rv = .bool r ∧ RisA Ls i r ∧ Want W wr wv X ∧ X.Perm (flatL Ls i) ∧ Srt X ∧ X.length ≤ 220 ∧ Below W.heap.size W wr) (fun _ _ iv _ => m - (intOf iv).toNat)
  case atStart => exact ⟨0, true, [], rfl, Nat.zero_le _, rfl, RisA.zero _, World.ownsRow_nil _ _ _ _, List.Perm.refl _, List.Pairwise.nil, by simp, Below.refl _ _⟩
  case round =>
    obtain ⟨i, r, X, rfl, him, rfl, hra, hwt, hxp, hso, hXl, hb⟩ := hrel
    have HRA := Lib.hid hra
    have HXP := Lib.hid hxp
    have HSO := Lib.hid hso
    have HWT := Lib.hid hwt
    have HB := Lib.hid hb
    have hL2 := HL.out.below hb
    by_cases him2 : i < m
    · have c2 := hL2.cell i him2
      have C2 := Lib.hid c2
      have ha := hL2.at_ (by omega)
      have hbl : bl < W.heap.size := by rcases HL.out.lt with h | h; omega; exact h
      subst ha
      obtain ⟨wp, wc, hwv, hws⟩ := Src.of_own hwt
      obtain ⟨wn, hwn⟩ : ∃ n, n = X.length := ⟨_, rfl⟩
      rw [← hwn] at hwv hXl
      have HWN := Lib.hid hwn
      subst hwv
      clear hra hxp hso hwt hb hL2 hws hwn
      obtain ⟨n, hn⟩ : ∃ n, n = (Ls i).length := ⟨_, rfl⟩
      obtain ⟨rp, hrp⟩ : ∃ n, n = (R i).1 := ⟨_, rfl⟩
      obtain ⟨rc, hrc⟩ : ∃ n, n = (R i).2 := ⟨_, rfl⟩
      rw [← hn, ← hrp, ← hrc] at c2
      have hnc := HFIT.out i him2
      rw [← hn, ← hrc] at hnc
      unfold maxLen at hnc
      have HN := Lib.hid hn
      have HRP := Lib.hid hrp
      have HRC := Lib.hid hrc
      clear hn hrp hrc
      by_cases hbig : 20 < n ∨ 200 < wn
      · clear C2
        rcases Nat.lt_or_ge 20 n with h20 | h20
        · clear hbig
          go_wp2_with (go_at_call 4; refine (awake_true _).mono ?_; rintro e w6 ⟨rfl, hb6⟩)
          go_ret
          exact ⟨rfl, HB.out.trans (hb6.mono HB.out.size)⟩
        · have h200 : 200 < wn := by omega
          clear hbig
          go_wp2_with (go_at_call 4; refine (awake_true _).mono ?_; rintro e w6 ⟨rfl, hb6⟩)
          go_ret
          exact ⟨rfl, HB.out.trans (hb6.mono HB.out.size)⟩
      · have h20 : n ≤ 20 := by omega
        have h200 : wn ≤ 200 := by omega
        clear hbig
        go_wp2_with fail
        go_loopg [3, 4, 6] n (fun g rv wv kv wr2 => ∃ (k : Nat) (r2 : Bool) (X2 : List Du), kv = .int .i64 (k : Int) ∧ g + k = n ∧ rv = .bool r2 ∧ RisK Ls i k r2 ∧ Want W wr2 wv X2 ∧ X2.Perm (flatL Ls i ++ (Ls i).take k) ∧ Srt X2 ∧ X2.length ≤ 200 + k ∧ Below W.heap.size W wr2)
        case atStart => exact ⟨0, r, X, rfl, by omega, rfl, HRA.out.start, HWT.out, by simpa using HXP.out, HSO.out, by have := HWN.out; omega, HB.out⟩
        case round =>
          clear HRA HXP HSO HWT HB HWN hXl h200 c2
          obtain ⟨k, r, X, rfl, hk, rfl, hra, hwt, hxp, hso, hXl, hb⟩ := hrel
          have HRA := Lib.hid hra
          have HXP := Lib.hid hxp
          have HSO := Lib.hid hso
          have HWT := Lib.hid hwt
          have HB := Lib.hid hb
          clear hra hxp hso hwt hb
          have c2 := kbelow HB.out hbl (by have := HL.out.cell i him2; rw [← HN.out, ← HRP.out, ← HRC.out] at this; exact this)
          have C0 := Lib.hid (show W.cell? ⟨bl, off + i, none⟩ = some (.slice rp n rc) by have := HL.out.cell i him2; rw [← HN.out, ← HRP.out, ← HRC.out] at this; exact this)
          by_cases hkn : k < n
          · have hpos : 0 < (Ls i).length := by rw [← HN.out]; omega
            have hsrc := HL.out.src i him2 hpos
            rw [← HN.out, ← HRP.out, ← HRC.out] at hsrc
            obtain ⟨lb, lo, hp⟩ := hsrc.of_pos (by omega)
            have hlb : lb < W.heap.size := HL.out.blk i him2 hpos _ (by rw [← HRP.out]; exact hp)
            subst hp
            have dk := fun k' (hk' : k' < n) => hsrc.at_ (k' * 3) _ (by have := dl_get (Ls i) k' 0 (by rw [← HN.out]; exact hk') (by omega); simpa [dc] using this)
            have dk1 := fun k' (hk' : k' < n) => hsrc.at_ (k' * 3 + 1) _ (by have := dl_get (Ls i) k' 1 (by rw [← HN.out]; exact hk') (by omega); simpa [dc] using this)
            have dk2 := fun k' (hk' : k' < n) => hsrc.at_ (k' * 3 + 2) _ (by have := dl_get (Ls i) k' 2 (by rw [← HN.out]; exact hk') (by omega); simpa [dc] using this)
            have DK := Lib.hid dk
            have DK1 := Lib.hid dk1
            have DK2 := Lib.hid dk2
            have D0 : Hid (W.cell? ⟨lb, lo + k * 3, none⟩ = some (.int .i64 (ga (Ls i) k).st)) := Lib.hid (dk k hkn)
            have D1 : Hid (W.cell? ⟨lb, lo + k * 3 + 1, none⟩ = some (.int .u32 (ga (Ls i) k).bl)) := Lib.hid (by have := dk1 k hkn; rwa [← Nat.add_assoc] at this)
            have D2 : Hid (W.cell? ⟨lb, lo + k * 3 + 2, none⟩ = some (.int .i64 (ga (Ls i) k).at_)) := Lib.hid (by have := dk2 k hkn; rwa [← Nat.add_assoc] at this)
            clear dk dk1 dk2 hsrc hpos
            have q1 : (0 : Int) ≤ (k : Int) := by omega
            have q2 : (k : Int) < (n : Int) := by omega
            go_upto_region 13 with fail
            go_cut [3] from 35 to 109 (fun s3 wc => ∃ r3 : Bool, s3 = .bool r3 ∧ RisK Ls i (k + 1) r3 ∧ Kept [] wr wc)
            case first =>
              cases r with
              | false =>
                clear DK DK1 DK2
                go_quiet (fail)
                go_wp2_with fail
                go_meet
                case rel => exact ⟨false, rfl, HRA.out.no, (Kept.refl _ _).drewN _⟩
              | true =>
                by_cases hk0 : k = 0
                · clear DK DK1 DK2
                  have HR1 : Hid (RisK Ls i (k + 1) true) := Lib.hid (by have := HRA.out; rw [hk0] at this ⊢; exact this.first)
                  go_quiet (fail)
                  go_wp2_with fail
                  go_meet
                  case rel => exact ⟨true, rfl, HR1.out, (Kept.refl _ _).drewN _⟩
                · obtain ⟨kp, hkp⟩ : ∃ kp, k = kp + 1 := ⟨k - 1, by omega⟩
                  have HKP := Lib.hid hkp
                  have y0 := kbelow HB.out hlb D0.out
                  have y1 := kbelow HB.out hlb D1.out
                  have y2 := kbelow HB.out hlb D2.out
                  have z0 := kbelow HB.out hlb (DK.out kp (by omega))
                  have z1 := kbelow HB.out hlb (DK1.out kp (by omega))
                  have z2 := kbelow HB.out hlb (DK2.out kp (by omega))
                  rw [← Nat.add_assoc] at z1 z2
                  have r1 : (k : Int) - 1 = (kp : Int) := by omega
                  have r2 : IntKind.i64.wrap (kp : Int) = (kp : Int) := IntWalk.i64_in _ (by omega)
                  have r4 : (0 : Int) ≤ (kp : Int) := by omega
                  have r5 : (kp : Int) < (n : Int) := by omega
                  have r6 : decide ((k : Int) = 0) = false := by rw [decide_eq_false_iff_not]; omega
                  have r7 : decide (k = 0) = false := by rw [decide_eq_false_iff_not]; omega
                  have r8 : ((k : Int) == 0) = false := by rw [beq_eq_false_iff_ne]; omega
                  have r9 : ¬ k = 0 := by omega
                  have hsw := HB.out.size
                  have hlb2 : lb < wr.heap.size := by omega
                  have HLS := Lib.hid (fun w => lless58 (ga (Ls i) k) (ga (Ls i) kp) w)
                  have hbl2 : bl < wr.heap.size := by omega
                  have HR1 : Hid (RisK Ls i (k + 1) (!(ga (Ls i) k).lt (ga (Ls i) kp))) := Lib.hid (by
                    have h1 := HRA.out
                    rw [HKP.out] at h1 ⊢
                    exact h1.next (by rw [← HKP.out, ← HN.out]; exact hkn))
                  clear DK DK1 DK2 hkp
                  go_region_held3 (fun w' => w'.cell? ⟨bl, off + i, none⟩ = some (.slice (some ⟨lb, lo, none⟩) n rc) ∧ w'.cell? ⟨lb, lo + kp * 3, none⟩ = some (.int .i64 (ga (Ls i) kp).st) ∧ w'.cell? ⟨lb, lo + kp * 3 + 1, none⟩ = some (.int .u32 (ga (Ls i) kp).bl) ∧ w'.cell? ⟨lb, lo + kp * 3 + 2, none⟩ = some (.int .i64 (ga (Ls i) kp).at_) ∧ w'.cell? ⟨lb, lo + k * 3, none⟩ = some (.int .i64 (ga (Ls i) k).st) ∧ w'.cell? ⟨lb, lo + k * 3 + 1, none⟩ = some (.int .u32 (ga (Ls i) k).bl) ∧ w'.cell? ⟨lb, lo + k * 3 + 2, none⟩ = some (.int .i64 (ga (Ls i) k).at_)) (first | exact ⟨c2, z0, z1, z2, y0, y1, y2⟩ | exact ⟨kbelow hb4 (by exact hbl2) c2, kbelow hb4 (by exact hlb2) z0, kbelow hb4 (by exact hlb2) z1, kbelow hb4 (by exact hlb2) z2, kbelow hb4 (by exact hlb2) y0, kbelow hb4 (by exact hlb2) y1, kbelow hb4 (by exact hlb2) y2⟩) ((go_at_call 5; refine (HLS.out _).mono ?_; rintro e wc ⟨rfl, hb4⟩))
                  have HB4 := Lib.hid (((Kept.refl [] wr).drew).trans (Kept.of_below hb4 []) (fun x hx => .inl hx))
                  go_wp2_with fail
                  go_meet
                  case rel => exact ⟨_, rfl, HR1.out, HB4.out⟩
            case rest =>
              obtain ⟨r3, rfl, hr3, hkq⟩ := hcut
              have HR3 := Lib.hid hr3
              have HKQ := Lib.hid hkq
              clear hr3 hkq HRA c2 DK DK1 DK2
              have hbq : Below W.heap.size W wc := HB.out.trans (HKQ.out.below HB.out.size (by simp))
              have HBQ := Lib.hid hbq
              have hWQ := HWT.out.kept_want HKQ.out
              obtain ⟨wp, wk, hwv, hws⟩ := Src.of_own hWQ
              subst hwv
              obtain ⟨wn, hwn⟩ : ∃ n, n = X.length := ⟨_, rfl⟩
              rw [← hwn] at hws hXl ⊢
              have HWN := Lib.hid hwn
              have HWS := Lib.hid hws
              have HWB := Lib.hid (own_lt hWQ)
              have hwcap := hws.fits
              clear hbq hWQ hws hwn
              go_wp2_with fail
              go_loopw [7] (fun xv wr3 => ∃ x : Nat, xv = .int .i64 (x : Int) ∧ x ≤ wn ∧ (∀ j, j < x → (ga (Ls i) k).lt (ga X j) = false) ∧ Kept [] wc wr3) (fun xv _ => wn - (intOf xv).toNat)
              case atStart => exact ⟨0, rfl, Nat.zero_le _, fun j hj => absurd hj (Nat.not_lt_zero _), Kept.refl _ _⟩
              case round =>
                obtain ⟨x, rfl, hxn, hj, hkw⟩ := hrel
                have HJ := Lib.hid hj
                have hb3 : Below W.heap.size W wr := HBQ.out.trans (hkw.below HBQ.out.size (by simp))
                have hszw := hb3.size
                have hszq := hkw.size
                clear hj
                by_cases hxl : x < wn
                · have hs3 := HWS.out.kept hkw (by simp)
                  obtain ⟨wb, wo, hwp⟩ := hs3.of_pos (by omega)
                  subst hwp
                  have hwb := (HWB.out wb (by simp [rowOf, Value.ownBlock])).2
                  have hwb2 : wb < wr.heap.size := by omega
                  have hlb2 : lb < wr.heap.size := by omega
                  have hbl2 : bl < wr.heap.size := by omega
                  have e0 := kbelow hb3 hbl C0.out
                  have e1 := kbelow hb3 hlb D0.out
                  have e2 := kbelow hb3 hlb D1.out
                  have e3 := kbelow hb3 hlb D2.out
                  have y0 := hs3.at_ (x * 3) _ (by have := dl_get X x 0 (by rw [← HWN.out]; exact hxl) (by omega); simpa [dc] using this)
                  have y1 := hs3.at_ (x * 3 + 1) _ (by have := dl_get X x 1 (by rw [← HWN.out]; exact hxl) (by omega); simpa [dc] using this)
                  have y2 := hs3.at_ (x * 3 + 2) _ (by have := dl_get X x 2 (by rw [← HWN.out]; exact hxl) (by omega); simpa [dc] using this)
                  rw [← Nat.add_assoc] at y1 y2
                  have HLS := Lib.hid (fun w => lless58 (ga (Ls i) k) (ga X x) w)
                  have d0 : decide ((x : Int) < (wn : Int)) = true := by rw [decide_eq_true_iff]; omega
                  have d1 : decide (x < wn) = true := by rw [decide_eq_true_iff]; omega
                  have q4 : (0 : Int) ≤ (x : Int) := by omega
                  have q5 : (x : Int) < (wn : Int) := by omega
                  have HKW := Lib.hid hkw
                  clear hkw hb3 hs3 hwb
                  go_wp2_with fail
                  go_region_held3 (fun w' => w'.cell? ⟨bl, off + i, none⟩ = some (.slice (some ⟨lb, lo, none⟩) n rc) ∧ w'.cell? ⟨wb, wo + x * 3, none⟩ = some (.int .i64 (ga X x).st) ∧ w'.cell? ⟨wb, wo + x * 3 + 1, none⟩ = some (.int .u32 (ga X x).bl) ∧ w'.cell? ⟨wb, wo + x * 3 + 2, none⟩ = some (.int .i64 (ga X x).at_) ∧ w'.cell? ⟨lb, lo + k * 3, none⟩ = some (.int .i64 (ga (Ls i) k).st) ∧ w'.cell? ⟨lb, lo + k * 3 + 1, none⟩ = some (.int .u32 (ga (Ls i) k).bl) ∧ w'.cell? ⟨lb, lo + k * 3 + 2, none⟩ = some (.int .i64 (ga (Ls i) k).at_)) (first | exact ⟨e0, y0, y1, y2, e1, e2, e3⟩ | exact ⟨kbelow hb4 (by exact hbl2) e0, kbelow hb4 (by exact hwb2) y0, kbelow hb4 (by exact hwb2) y1, kbelow hb4 (by exact hwb2) y2, kbelow hb4 (by exact hlb2) e1, kbelow hb4 (by exact hlb2) e2, kbelow hb4 (by exact hlb2) e3⟩) ((go_at_call 5; refine (HLS.out _).mono ?_; rintro e we ⟨rfl, hb4⟩))
                  rename_i hHeld
                  have hke : Kept [] wc we := HKW.out.drew.trans (Kept.of_below hb4 []) (fun x hx => .inl hx)
                  clear hb4 e0 e1 e2 e3 y0 y1 y2 d0 d1 HLS hHeld hszw hszq hwb2 hlb2 hbl2
                  cases hlt2 : (ga (Ls i) k).lt (ga X x) with
                  | false =>
                    have HLT := Lib.hid hlt2
                    clear hlt2
                    go_wp2_with fail
                    go_roundw
                    case rel => exact ⟨x + 1, by go_num, by omega, fun j hj => by (rcases Nat.lt_or_ge j x with h | h); exact HJ.out j h; (obtain rfl : j = x := by omega); exact HLT.out, hke⟩
                    case measure => simp [intOf]; omega
                  | true =>
                    have HLT := Lib.hid hlt2
                    clear hlt2
                    have hSe := HWS.out.kept hke (by simp)
                    obtain ⟨hhead, ao, hcut, hsc, hsb⟩ := hSe.cuts 24 (by kernel_rfl) (by intro w; kernel_rfl) x hxn
                    have HSC := Lib.hid hsc
                    have HSH := Lib.hid (hSe.head x hxn)
                    have hbe : Below W.heap.size W we := HBQ.out.trans (hke.below HBQ.out.size (by simp))
                    have hWe : W.heap.size ≤ we.heap.size := hbe.size
                    have e0 := kbelow hbe hbl C0.out
                    have e1 := kbelow hbe hlb D0.out
                    have e2 := kbelow hbe hlb D1.out
                    have e3 := kbelow hbe hlb D2.out
                    have HBE := Lib.hid hbe
                    clear hsc hsb hke hSe hbe
                    go_wp2_with (at_builtin; refine wpList_append_src _ rfl (.tmp 89) (.tmp 92) 24 rfl W.heap.size 30 i0 (.agg #[.int .i64 0, .int .u32 0, .int .i64 0]) 3 24 Try.underlying24 hi0 hz0 hz1 hz2 rfl (by decide) _ 0 [] rfl (World.ownsRow_nil _ _ _ _) _ x wk rfl _ HSH.out (fun u hu => dl_one _ _ (List.mem_of_mem_take hu)) (by unfold maxLen; omega) (by omega) hWe ?_)
                    intro v1 w1 hown1 hg1 hat1
                    have hk1 : Kept [] we w1 := (Kept.refl [] _).grown hg1 (fun x hx => by simp [Value.ownBlock] at hx)
                    have hs1 : we.heap.size ≤ w1.heap.size := hk1.size
                    have hr1 : ∀ x ∈ rowOf v1, we.heap.size ≤ x := fun x hx => by
                      rcases rowOf_new hat1 x hx with h | h
                      · simp [rowOf, Value.ownBlock] at h
                      · exact h
                    replace e0 := hk1.cell e0 (by simp)
                    replace e1 := hk1.cell e1 (by simp)
                    replace e2 := hk1.cell e2 (by simp)
                    replace e3 := hk1.cell e3 (by simp)
                    have HO1 := Lib.hid hown1
                    have HR1 := Lib.hid hr1
                    have HK1 := Lib.hid hk1
                    clear hown1 hg1 hat1 hk1 hr1 hhead
                    go_wp2_with (at_builtin; refine wpList_append_src _ rfl (.tmp 94) (.tmp 102) 24 rfl W.heap.size 30 i0 (.agg #[.int .i64 0, .int .u32 0, .int .i64 0]) 3 24 Try.underlying24 hi0 hz0 hz1 hz2 rfl (by decide) _ _ _ rfl (HO1.out.alloc _) _ 1 1 rfl _ (src_d w1 _ rfl (ga (Ls i) k)) (d_one (ga (Ls i) k)) (by unfold maxLen; omega) (by omega) (by simp; omega) ?_)
                    intro v2 w2 hown2 hg2 hat2
                    have hk2 : Kept [] we w2 := (HK1.out.alloc _).grown hg2 (fun x hx => .inr (HR1.out x (mem_rowOf hx)))
                    have hr2 : ∀ x ∈ rowOf v2, we.heap.size ≤ x := fun x hx => by
                      rcases rowOf_new hat2 x hx with h | h
                      · exact HR1.out x h
                      · first | omega | (simp at h; omega)
                    have HSC2 := Lib.hid (HSC.out.kept hk2 (by simp))
                    have hs2 : we.heap.size ≤ w2.heap.size := hk2.size
                    have HO2 := Lib.hid hown2
                    have HR2 := Lib.hid hr2
                    have HK2 := Lib.hid hk2
                    clear hown2 hg2 hat2 hk2 hr2 e0 e1 e2 e3
                    go_wp2_with (at_builtin; refine wpList_append_src _ rfl (.tmp 104) (.tmp 107) 24 rfl W.heap.size 30 i0 (.agg #[.int .i64 0, .int .u32 0, .int .i64 0]) 3 24 Try.underlying24 hi0 hz0 hz1 hz2 rfl (by decide) _ _ _ rfl HO2.out _ (wn - x) (wk - x) rfl _ HSC2.out (fun u hu => dl_one _ _ (List.mem_of_mem_drop hu)) (by unfold maxLen; omega) (by omega) (by omega) ?_)
                    intro v3 w3 hown3 hg3 hat3
                    have hk3 : Kept [] we w3 := HK2.out.grown hg3 (fun x hx => .inr (HR2.out x (mem_rowOf hx)))
                    have hb3 : Below W.heap.size W w3 := HBE.out.trans (hk3.below hWe (by simp))
                    have HF := Lib.hid (And.intro hown3 hb3)
                    clear hown3 hg3 hat3 hcut hk3 hb3
                    go_wp2_with fail
                    go_roundg (gk - 1)
                    case measure => omega
                    case rel =>
                      have hx0 : x ≤ X.length := by rw [← HWN.out]; exact hxn
                      refine ⟨k + 1, r3, X.take x ++ ga (Ls i) k :: X.drop x, by go_num, by omega, rfl, HR3.out, ?_, ?_, srt_ins HSO.out hx0 HJ.out (.inr HLT.out), ?_, HF.out.2⟩
                      · have hl := (perm_ins X (ga (Ls i) k) x).length_eq
                        unfold Want
                        rw [hl]
                        have e : dl (X.take x ++ ga (Ls i) k :: X.drop x) = [] ++ (dl X).take (x * 3) ++ dc (ga (Ls i) k) ++ (dl X).drop (x * 3) := by
                          rw [dl_app, dl_cons, dl_take, dl_drop]; simp
                        rw [e]
                        have e2 : (ga (Ls i) k :: X).length = 0 + x + 1 + (wn - x) := by have := HWN.out; simp; omega
                        rw [e2]
                        first | exact HF.out.1 | simpa using HF.out.1
                      · refine (perm_ins X _ x).trans ?_
                        have hki : k < (Ls i).length := by rw [← HN.out]; exact hkn
                        have e3 : (Ls i).take (k + 1) = (Ls i).take k ++ [ga (Ls i) k] := by rw [List.take_succ_eq_append_getElem hki, ga_at _ _ hki]
                        rw [e3, ← List.append_assoc]
                        exact (HXP.out.cons _).trans (List.perm_append_singleton _ _).symm
                      · have h9 := HWN.out
                        rw [(perm_ins X (ga (Ls i) k) x).length_eq]; simp; omega
                · have hin2 : x = wn := by omega
                  have d0 : decide ((x : Int) < (wn : Int)) = false := by rw [decide_eq_false_iff_not]; omega
                  have d1 : decide (x < wn) = false := by rw [decide_eq_false_iff_not]; omega
                  have HIN := Lib.hid hin2
                  clear hin2 hb3
                  go_wp2_with fail
                  go_quiet (fail)
                  generalize hwe : wr.drewN nq = we
                  have hke : Kept [] wc we := by rw [← hwe]; exact hkw.drewN _
                  clear hwe hkw d0 d1 hszw hszq
                  have hSe := HWS.out.kept hke (by simp)
                  obtain ⟨hhead, ao, hcut, hsc, hsb⟩ := hSe.cuts 24 (by kernel_rfl) (by intro w; kernel_rfl) x hxn
                  have HSC := Lib.hid hsc
                  have HSH := Lib.hid (hSe.head x hxn)
                  have hbe : Below W.heap.size W we := HBQ.out.trans (hke.below HBQ.out.size (by simp))
                  have hWe : W.heap.size ≤ we.heap.size := hbe.size
                  have e0 := kbelow hbe hbl C0.out
                  have e1 := kbelow hbe hlb D0.out
                  have e2 := kbelow hbe hlb D1.out
                  have e3 := kbelow hbe hlb D2.out
                  have HBE := Lib.hid hbe
                  clear hsc hsb hke hSe hbe
                  go_wp2_with (at_builtin; refine wpList_append_src _ rfl (.tmp 89) (.tmp 92) 24 rfl W.heap.size 30 i0 (.agg #[.int .i64 0, .int .u32 0, .int .i64 0]) 3 24 Try.underlying24 hi0 hz0 hz1 hz2 rfl (by decide) _ 0 [] rfl (World.ownsRow_nil _ _ _ _) _ x wk rfl _ HSH.out (fun u hu => dl_one _ _ (List.mem_of_mem_take hu)) (by unfold maxLen; omega) (by omega) hWe ?_)
                  intro v1 w1 hown1 hg1 hat1
                  have hk1 : Kept [] we w1 := (Kept.refl [] _).grown hg1 (fun x hx => by simp [Value.ownBlock] at hx)
                  have hs1 : we.heap.size ≤ w1.heap.size := hk1.size
                  have hr1 : ∀ x ∈ rowOf v1, we.heap.size ≤ x := fun x hx => by
                    rcases rowOf_new hat1 x hx with h | h
                    · simp [rowOf, Value.ownBlock] at h
                    · exact h
                  replace e0 := hk1.cell e0 (by simp)
                  replace e1 := hk1.cell e1 (by simp)
                  replace e2 := hk1.cell e2 (by simp)
                  replace e3 := hk1.cell e3 (by simp)
                  have HO1 := Lib.hid hown1
                  have HR1 := Lib.hid hr1
                  have HK1 := Lib.hid hk1
                  clear hown1 hg1 hat1 hk1 hr1 hhead
                  go_wp2_with (at_builtin; refine wpList_append_src _ rfl (.tmp 94) (.tmp 102) 24 rfl W.heap.size 30 i0 (.agg #[.int .i64 0, .int .u32 0, .int .i64 0]) 3 24 Try.underlying24 hi0 hz0 hz1 hz2 rfl (by decide) _ _ _ rfl (HO1.out.alloc _) _ 1 1 rfl _ (src_d w1 _ rfl (ga (Ls i) k)) (d_one (ga (Ls i) k)) (by unfold maxLen; omega) (by omega) (by simp; omega) ?_)
                  intro v2 w2 hown2 hg2 hat2
                  have hk2 : Kept [] we w2 := (HK1.out.alloc _).grown hg2 (fun x hx => .inr (HR1.out x (mem_rowOf hx)))
                  have hr2 : ∀ x ∈ rowOf v2, we.heap.size ≤ x := fun x hx => by
                    rcases rowOf_new hat2 x hx with h | h
                    · exact HR1.out x h
                    · first | omega | (simp at h; omega)
                  have HSC2 := Lib.hid (HSC.out.kept hk2 (by simp))
                  have hs2 : we.heap.size ≤ w2.heap.size := hk2.size
                  have HO2 := Lib.hid hown2
                  have HR2 := Lib.hid hr2
                  have HK2 := Lib.hid hk2
                  clear hown2 hg2 hat2 hk2 hr2 e0 e1 e2 e3
                  go_wp2_with (at_builtin; refine wpList_append_src _ rfl (.tmp 104) (.tmp 107) 24 rfl W.heap.size 30 i0 (.agg #[.int .i64 0, .int .u32 0, .int .i64 0]) 3 24 Try.underlying24 hi0 hz0 hz1 hz2 rfl (by decide) _ _ _ rfl HO2.out _ (wn - x) (wk - x) rfl _ HSC2.out (fun u hu => dl_one _ _ (List.mem_of_mem_drop hu)) (by unfold maxLen; omega) (by omega) (by omega) ?_)
                  intro v3 w3 hown3 hg3 hat3
                  have hk3 : Kept [] we w3 := HK2.out.grown hg3 (fun x hx => .inr (HR2.out x (mem_rowOf hx)))
                  have hb3 : Below W.heap.size W w3 := HBE.out.trans (hk3.below hWe (by simp))
                  have HF := Lib.hid (And.intro hown3 hb3)
                  clear hown3 hg3 hat3 hcut hk3 hb3
                  go_wp2_with fail
                  go_roundg (gk - 1)
                  case measure => omega
                  case rel =>
                    have hx0 : x ≤ X.length := by rw [← HWN.out]; exact hxn
                    refine ⟨k + 1, r3, X.take x ++ ga (Ls i) k :: X.drop x, by go_num, by omega, rfl, HR3.out, ?_, ?_, srt_ins HSO.out hx0 HJ.out (.inl (by rw [← HWN.out]; exact HIN.out)), ?_, HF.out.2⟩
                    · have hl := (perm_ins X (ga (Ls i) k) x).length_eq
                      unfold Want
                      rw [hl]
                      have e : dl (X.take x ++ ga (Ls i) k :: X.drop x) = [] ++ (dl X).take (x * 3) ++ dc (ga (Ls i) k) ++ (dl X).drop (x * 3) := by
                        rw [dl_app, dl_cons, dl_take, dl_drop]; simp
                      rw [e]
                      have e2 : (ga (Ls i) k :: X).length = 0 + x + 1 + (wn - x) := by have := HWN.out; simp; omega
                      rw [e2]
                      first | exact HF.out.1 | simpa using HF.out.1
                    · refine (perm_ins X _ x).trans ?_
                      have hki : k < (Ls i).length := by rw [← HN.out]; exact hkn
                      have e3 : (Ls i).take (k + 1) = (Ls i).take k ++ [ga (Ls i) k] := by rw [List.take_succ_eq_append_getElem hki, ga_at _ _ hki]
                      rw [e3, ← List.append_assoc]
                      exact (HXP.out.cons _).trans (List.perm_append_singleton _ _).symm
                    · have h9 := HWN.out
                      rw [(perm_ins X (ga (Ls i) k) x).length_eq]; simp; omega
          · have hkn2 : n = k := by omega
            subst hkn2
            have HK : Hid (X.Perm (flatL Ls (i + 1))) := Lib.hid (by
              have h1 := HXP.out
              rw [HN.out, List.take_length, ← flatL_succ] at h1
              exact h1)
            go_wp2_with fail
            go_roundw
            case rel => exact ⟨i + 1, r, X, by go_num, by omega, rfl, HRA.out.done HN.out, HWT.out, HK.out, HSO.out, by omega, HB.out⟩
            case measure => simp [intOf]; omega
    · have him3 : m = i := by omega
      subst him3
      have ht : tot Ls m ≤ 220 := by
        have := hxp.length_eq
        unfold tot; unfold flatL at this; omega
      obtain ⟨wp, wc, hwv, hws⟩ := Src.of_own hwt
      subst hwv
      have HW := Lib.hid hws
      have hrow := own_lt hwt
      clear hra hxp hwt him
      by_cases h256 : 256 < m
      · clear hso hws hb hrow
        have HAL := Lib.hid (all_long a m cap HC.out hlc h256 wr)
        clear hL2
        go_wp2_with fail
        refine HAL.out.mono ?_
        rintro e w2 ⟨rfl, hb2⟩
        have HB2 := Lib.hid (HB.out.trans (hb2.mono HB.out.size))
        clear hb2
        go_wp2_with (go_at_call 4; refine (awake_true _).mono ?_; rintro e w6 ⟨rfl, hb6⟩)
        go_ret
        exact ⟨rfl, HB2.out.trans (hb6.mono HB2.out.size)⟩
      · have hL3 : Lists wr wr.heap.size a m bl off R Ls := ⟨hL2.at_, by have := hb.size; rcases hL2.lt with h | h; exact .inl h; exact .inr (by omega), hL2.cell, hL2.src, fun j h1 h2 x hx => by have := hL2.blk j h1 h2 x hx; have := hb.size; omega⟩
        have HL3 := Lib.hid hL3
        have HT := Lib.hid ht
        clear hL2 hL3 ht hso hws hb
        cases r with
        | false =>
          have HAF := Lib.hid (all_form a m cap bl off R Ls HC.out hlc (by omega) wr HL3.out (fun h => by have := HRA.out.2 h; cases this))
          clear hrow
          go_wp2_with fail
          refine HAF.out.mono ?_
          rintro e w2 ⟨rfl, hb2⟩
          have HB2 := Lib.hid (HB.out.trans (hb2.mono HB.out.size))
          clear hb2
          go_wp2_with (go_at_call 4; refine (awake_true _).mono ?_; rintro e w6 ⟨rfl, hb6⟩)
          go_ret
          exact ⟨rfl, HB2.out.trans (hb6.mono HB2.out.size)⟩
        | true =>
          have HAO := Lib.hid (all_ok a m cap bl off R Ls HC.out hlc (by omega) (by have := HT.out; omega) wr HL3.out (HRA.out.1 rfl))
          have HRW := Lib.hid hrow
          clear hrow
          go_wp2_with fail
          refine HAO.out.mono ?_
          rintro e w2 ⟨p, n0, gcap, out, rfl, rfl, hsrc, hperm, hsrt, hblk, hb2⟩
          obtain rfl : out = X := srt_unique hsrt HSO.out (hperm.trans HXP.out.symm)
          obtain ⟨L, hLX⟩ : ∃ L, L = out := ⟨_, rfl⟩
          subst hLX
          have hw2 := HW.out.kept (Kept.of_below hb2 []) (by simp)
          have hb2' : Below W.heap.size W w2 := HB.out.trans (hb2.mono HB.out.size)
          obtain ⟨n, hn⟩ : ∃ n, n = L.length := ⟨_, rfl⟩
          rw [← hn] at hXl ⊢
          have HG := Lib.hid hsrc
          have HSR := Lib.hid hw2
          have HN := Lib.hid hn
          have HB2 := Lib.hid hb2'
          clear hsrc hperm hsrt hblk hb2 hw2 hb2' hn HAO HW HB HL3 HT HRA HXP HSO HWT HRW
          go_wp2_with fail
          go_loopw [11, 12] (fun nv iv wr => ∃ k q : Nat, iv = .int .i64 ((k : Int) + 1) ∧ nv = .int .i64 (tw L k : Int) ∧ k ≤ n - 1 ∧ wr = w2.drewN q) (fun _ iv _ => n + 1 - (intOf iv).toNat)
          case atStart => exact ⟨0, 0, rfl, rfl, by omega, rfl⟩
          case round =>
            obtain ⟨k, q, rfl, rfl, hk, rfl⟩ := hrel
            by_cases hlt : k + 1 < n
            · obtain ⟨lb, off, rfl⟩ := HSR.out.of_pos (by have := HSR.out.fits; have := HN.out; omega)
              have hi0 : k < L.length := by have := HN.out; omega
              have hi1 : k + 1 < L.length := by have := HN.out; omega
              have y0 := HSR.out.at_ (k * 3) _ (by have := dl_get L k 0 hi0 (by omega); simpa [dc] using this)
              have y1 := HSR.out.at_ (k * 3 + 1) _ (by have := dl_get L k 1 hi0 (by omega); simpa [dc] using this)
              have y2 := HSR.out.at_ (k * 3 + 2) _ (by have := dl_get L k 2 hi0 (by omega); simpa [dc] using this)
              have z0 := HSR.out.at_ ((k + 1) * 3) _ (by have := dl_get L (k + 1) 0 hi1 (by omega); simpa [dc] using this)
              have z1 := HSR.out.at_ ((k + 1) * 3 + 1) _ (by have := dl_get L (k + 1) 1 hi1 (by omega); simpa [dc] using this)
              have z2 := HSR.out.at_ ((k + 1) * 3 + 2) _ (by have := dl_get L (k + 1) 2 hi1 (by omega); simpa [dc] using this)
              rw [← Nat.add_assoc] at y1 y2 z1 z2
              have q2 : (0 : Int) ≤ (k : Int) := by omega
              have q3 : (k : Int) < (n : Int) := by omega
              have q4 : (0 : Int) ≤ (k : Int) + 1 := by omega
              have q5 : (k : Int) + 1 < (n : Int) := by omega
              have q6 : ((k : Int) + 1).toNat = k + 1 := by omega
              have q7 : (k : Int) + 1 - 1 = (k : Int) := by omega
              have q8 : IntKind.i64.wrap (k : Int) = (k : Int) := IntWalk.i64_in _ (by omega)
              have htl := tw_le L k
              by_cases hd : ga L (k + 1) = ga L k
              · have e1 := due_eq_same (ga L k)
                have e2 := due_guard .eql (.inr rfl) (ga L k).st (ga L k).bl (ga L k).at_ (ga L k).st (ga L k).bl (ga L k).at_
                have HD := Lib.hid hd
                rw [hd] at z0 z1 z2
                clear hd
                go_wp2_with fail
                go_quiet (fail)
                go_wp2_with fail
                go_roundw
                case rel => exact ⟨k + 1, q + nq, by go_num, by rw [tw_same HD.out]; go_num, by omega, by first | rfl | exact World.drewN_drewN _ _ _⟩
                case measure => simp [intOf]; omega
              · have e1 := due_eq_not (ga L (k + 1)) (ga L k) hd
                have e2 := due_guard .eql (.inr rfl) (ga L (k + 1)).st (ga L (k + 1)).bl (ga L (k + 1)).at_ (ga L k).st (ga L k).bl (ga L k).at_
                have HD := Lib.hid hd
                clear hd
                go_wp2_with fail
                go_quiet (fail)
                go_wp2_with fail
                go_roundw
                case rel => exact ⟨k + 1, q + nq, by go_num, by rw [tw_other HD.out], by omega, by first | rfl | exact World.drewN_drewN _ _ _⟩
                case measure => simp [intOf]; omega
            · have hkn : k = n - 1 := by omega
              have d0 : decide ((k : Int) + 1 < (n : Int)) = false := by rw [decide_eq_false_iff_not]; omega
              have hg3 := HG.out.kept ((Kept.refl [] w2).drewN q) (by simp)
              have hs3 := HSR.out.kept ((Kept.refl [] w2).drewN q) (by simp)
              have HSA := Lib.hid (same_true p wp gcap wc n L HN.out (by have := HN.out; omega) (w2.drewN q) hg3 hs3)
              have HTW := Lib.hid (fun N => mtwice p gcap n L HN.out (by omega) (w2.drewN N) (by rw [HN.out]; exact HG.out.kept ((Kept.refl [] w2).drewN N) (by simp)))
              rw [← hkn] at HTW
              have HKN := Lib.hid hkn
              clear hg3 hs3 hkn
              go_wp2_with fail
              refine HSA.out.mono ?_
              rintro e w5 ⟨rfl, q5, rfl⟩
              go_wp2_with fail
              refine (HTW.out _).mono ?_
              rintro e w6 ⟨rfl, q6, rfl⟩
              go_wp2_with fail
              refine (awake_true _).mono ?_
              rintro e w7 ⟨rfl, hb7⟩
              go_wp2_with fail
              go_ret
              exact ⟨rfl, HB2.out.trans ((bdrewN (Below.refl _ _) _).trans (hb7.mono HB2.out.size))⟩
end Go.Proofs.Ytplgcnlnhboneaa
