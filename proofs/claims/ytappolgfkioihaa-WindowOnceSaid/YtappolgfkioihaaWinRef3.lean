/- Contracts of lightshipref15: Slide. -/
import Derived.Test.YtappolgfkioihaaWinRef2
namespace Go.Proofs.Ytappolgfkioihaa
open Go.ChangeShapes Go.WideShapes Go.ChangeAt Go.RowKit
set_option linter.unusedVariables false

def fl (L : List Nat) (base i : Nat) : List Nat := (L.take i).filter (fun y => y != base)
theorem fl_zero (L : List Nat) (base : Nat) : fl L base 0 = [] := by simp [fl]
theorem fl_succ (L : List Nat) (base i : Nat) (h : i < L.length) : fl L base (i + 1) = fl L base i ++ (if L[i] != base then [L[i]] else []) := by
  unfold fl
  rw [List.take_succ_eq_append_getElem h, List.filter_append]
  congr 1
  simp only [List.filter_cons, List.filter_nil]
theorem fl_len (L : List Nat) (base i : Nat) : (fl L base i).length ≤ L.length := by
  unfold fl
  refine Nat.le_trans (List.length_filter_le _ _) ?_
  simp; omega
theorem fl_all (L : List Nat) (base : Nat) : fl L base L.length = L.filter (fun y => y != base) := by unfold fl; rw [List.take_length]
set_option maxRecDepth 100000 in
set_option maxHeartbeats 4000000 in
theorem rslide_any (base n : Nat) (p : Option Addr) (cap : Nat) (L : List Nat) (most : Int) (hm : most ≤ 9223372036854775807) (hL : L.length ≤ 1000) (hb : base < 4294967296) (w : World) (hs : RU w p cap L) :
    Calls Try.prog 10 #[.agg #[.int .u32 (base : Int), .int .i64 (n : Int), .slice p L.length cap], .int .i64 most] w (RWPost w (sl most.toNat base L).2.1 n p (sl most.toNat base L).2.2 ((sl most.toNat base L).1 : Int)) := by
  obtain ⟨i0, hi, hz0, hz1, hz2⟩ := info_parts u_info
  have HS := Lib.hid hs
  clear hs
  go_enter Try.func10, Try.ntmps10
  go_wp2_with fail
  go_loopw [6] (fun nv wr => ∃ (k base' : Nat) (p' : Option Addr) (cap' : Nat) (L' : List Nat), nv = .int .i64 (k : Int) ∧ SlRel most.toNat base L k base' L' ∧ Blk wr w.heap.size #[.int .u32 (base' : Int), .int .i64 (n : Int), .slice p' L'.length cap'] 31 ∧ Blk wr (w.heap.size + 1) #[.int .u32 0, .int .i64 0, .slice none 0 0] 31 ∧ RU wr p' cap' L' ∧ (∀ a, p' = some a → a.block ≠ w.heap.size ∧ a.block ≠ w.heap.size + 1) ∧ Near w p p' ∧ L'.length ≤ 1000 ∧ base' < 4294967296 ∧ Kept [] w wr) (fun nv _ => most.toNat - (intOf nv).toNat)
  case atStart => exact ⟨0, base, p, cap, L, rfl, SlRel.start _ _ _, Blk.alloc (Blk.new _ _ _) _, Blk.new' (by simp), (HS.out.al _).al _, fun a ha => by have := HS.out.lt a ha; omega, Near.same _ _, hL, hb, ((Kept.refl _ _).alloc _).alloc _⟩
  case round =>
    obtain ⟨k, base', p', cap', L', rfl, hR, hBo, hBr, hRU, hap, hnr, hL', hb', hK⟩ := hrel
    have hkF := hR.1
    have x0 := hBo.cell 0
    have x1 := hBo.cell 1
    have x2 := hBo.cell 2
    have z0 := hBr.free 0
    have z1 := hBr.free 1
    have z2 := hBr.free 2
    have y0 := hBr.cell 0
    have y1 := hBr.cell 1
    have y2 := hBr.cell 2
    simp at x0 x1 x2 y0 y1 y2
    have hsz := hBr.lt
    have hfit := hRU.src.fits
    have hbig := hRU.src.big
    unfold maxLen at hbig
    have HI := Lib.hid (fun w hs => rin_any p' cap' L' base' hb' w hs)
    have HR := Lib.hid hR
    have HBo := Lib.hid hBo
    have HBr := Lib.hid hBr
    have HRU := Lib.hid hRU
    have HAP := Lib.hid hap
    have HNR := Lib.hid hnr
    have HK := Lib.hid hK
    clear hR hBo hBr hRU hap hnr hK
    by_cases hk : (k : Int) < most
    · cases hin : inL L' base' with
      | true =>
        rw [hin] at HI
        have HIN := Lib.hid hin
        clear hin
        go_wp2_with (go_at_call 14; refine (HI.out _ HRU.out).mono ?_; rintro e w' ⟨rfl, rfl⟩)
        clear x0 x1 x2 y0 y1 y2 z0 z1 z2
        obtain ⟨wo, rfl⟩ : ∃ wo, wo = wr := ⟨_, rfl⟩
        go_loopw [7, 8] (fun lv iv wq => ∃ (i : Nat) (v : Value), iv = .int .i64 (i : Int) ∧ i ≤ L'.length ∧ lv = v ∧ wq.ownsRow wo.heap.size 22 1 v (fl L' base' i).length (ul (fl L' base' i)) ∧ Kept [] wo wq) (fun _ iv _ => L'.length - (intOf iv).toNat)
        case atStart => exact ⟨0, _, rfl, Nat.zero_le _, rfl, by rw [fl_zero]; exact World.ownsRow_nil _ _ _ _, Kept.refl _ _⟩
        case round =>
          obtain ⟨i, v, rfl, hiL, rfl, hown, hkq⟩ := hrel
          obtain ⟨pv, capv, hv, hruv⟩ := RU.of_own hown
          subst hv
          have hml := fl_len L' base' i
          have hBo := HBo.out.kept hkq (by simp)
          have hBr := HBr.out.kept hkq (by simp)
          have x0 := hBo.cell 0
          have x2 := hBo.cell 2
          have g0 := hBo.free 0
          have g2 := hBo.free 2
          simp at x0 x2
          have hszq := hkq.size
          have HOW := Lib.hid hown
          have HKQ := Lib.hid hkq
          have HBoq := Lib.hid hBo
          have HBrq := Lib.hid hBr
          clear hBo hBr hown hkq hruv
          by_cases hlt : i < L'.length
          · obtain ⟨lb, off, rfl⟩ := HRU.out.src.of_pos (by omega)
            have u0 := (HRU.out.kept HKQ.out (by simp)).src.at_ i _ (ul_at L' i hlt)
            have hsc := Lib.hid (fl_succ L' base' i hlt)
            generalize hki : L'[i] = ki at *
            have HKI := Lib.hid hki
            clear hki
            have q4 : (0 : Int) ≤ (i : Int) := by omega
            have q5 : (i : Int) < (L'.length : Int) := by omega
            by_cases he : ki = base'
            · subst he
              have b0 : ((ki : Int) != (ki : Int)) = false := by simp
              have bs : (ki != ki) = false := by simp
              rw [bs] at hsc
              simp only [Bool.false_eq_true, if_false, List.append_nil] at hsc
              go_wp2
              go_quiet (fail)
              go_wp2
              go_roundw
              case rel => exact ⟨i + 1, _, by go_num, by omega, rfl, by rw [hsc.out]; exact own_kept HOW.out ((Kept.refl [] _).drewN _) (fun x hx => by simp), HKQ.out.drewN _⟩
              case measure => simp [intOf]; omega
            · have b0 : ((ki : Int) != (base' : Int)) = true := by rw [bne_iff_ne]; omega
              have bs : (ki != base') = true := by rw [bne_iff_ne]; exact he
              rw [bs] at hsc
              simp only [if_true] at hsc
              go_wp2
              go_quiet (fail)
              generalize hw2 : wr.drewN nq = w2
              have hk2 : Kept [] wo w2 := by rw [← hw2]; exact HKQ.out.drewN _
              have ho2 : w2.ownsRow wo.heap.size 22 1 (.slice pv (fl L' base' i).length capv) (fl L' base' i).length (ul (fl L' base' i)) := by
                rw [← hw2]; exact own_kept HOW.out ((Kept.refl [] _).drewN _) (fun x hx => by simp)
              have HO2 := Lib.hid ho2
              have HK2 := Lib.hid hk2
              have hsz2 := hk2.size
              clear hw2 ho2 hk2 x0 x2 u0 g0 g2
              have hBo := HBo.out.kept HK2.out (by simp)
              have x2 := hBo.cell 2
              simp at x2
              have u0 := (HRU.out.kept HK2.out (by simp)).src.at_ i _ (by have := ul_at L' i hlt; rw [HKI.out] at this; exact this)
              clear hBo
              go_wp2_with (at_builtin; refine wpList_append_src _ rfl (.tmp 34) (.tmp 40) 29 rfl wo.heap.size 22 i0 (.int .u32 0) 1 4 Try.underlying29 hi hz0 hz1 hz2 rfl (by decide) _ _ _ rfl (HO2.out.alloc _) _ 1 1 rfl _ (src_u w2 _ _) (fun u hu => by simp at hu; subst hu; rfl) (by unfold maxLen; omega) (by omega) (by simp; omega) ?_)
              intro v3 w3 hown3 hg3 hat3
              have hk3 : Kept [] wo w3 := (HK2.out.alloc _).grown hg3 (fun z hz => .inr (own_lt HO2.out z (mem_rowOf hz)).1)
              have HO3 := Lib.hid hown3
              have HK3 := Lib.hid hk3
              clear hown3 hk3 hg3 hat3 x2 u0
              go_wp2
              go_roundw
              case rel => exact ⟨i + 1, _, by go_num, by omega, rfl, by rw [hsc.out, ul_app, List.length_append]; exact HO3.out, HK3.out⟩
              case measure => simp [intOf]; omega
          · have hie : i = L'.length := by omega
            subst hie
            have dd : decide ((L'.length : Int) < (L'.length : Int)) = false := by rw [decide_eq_false_iff_not]; omega
            have e1 : Hid ((((base' : Int) + 1) % 4294967296) = (((base' + 1) % 4294967296 : Nat) : Int)) := Lib.hid (by omega)
            have hfl := Lib.hid (fl_all L' base')
            go_wp2
            generalize hw4 : World.setCell _ _ _ = w4
            have hk4 : Kept [w.heap.size] wr w4 := by
              rw [← hw4]
              exact ((Kept.refl _ _).set _ (.inl (by simp)) _).set _ (.inl (by simp)) _
            have hBo4 : Blk w4 w.heap.size #[.int .u32 (((base' + 1) % 4294967296 : Nat) : Int), .int .i64 (n : Int), .slice pv (fl L' base' L'.length).length capv] 31 := by
              rw [← hw4, ← e1.out]
              exact (HBoq.out.set 2 _).set 0 _
            have hBr4 := HBrq.out.kept hk4 (by simp)
            have hown4 := own_kept HOW.out hk4 (fun x hx => by have h1 := (own_lt HOW.out x hx).1; simp; omega)
            have hk5 : Kept [] w w4 := (HK.out.trans HKQ.out (fun x hx => .inl hx)).trans hk4 (fun x hx => by simp at hx; right; omega)
            have hru4 := RU.own hown4
            have hro : ∀ a, pv = some a → wo.heap.size ≤ a.block := fun a ha => by
              subst ha
              obtain ⟨p9, cap9, h9, hs9⟩ := Src.of_own HOW.out
              rcases HOW.out.2 with ⟨h0, _⟩ | ⟨g, cap8, cur, hv8, hg8, _⟩
              · cases h0
              · injection hv8 with hv8 _ _
                injection hv8 with hv8
                subst hv8
                exact hg8
            rw [hfl.out] at hBo4 hru4
            clear hw4
            go_roundw
            case rel => exact ⟨k + 1, _, pv, capv, _, by go_num, HR.out.step (by omega) HIN.out, hBo4, hBr4, hru4, fun a ha => by have := hro a ha; omega, fun a ha => .inl (by have := hro a ha; omega), by have := fl_len L' base' L'.length; rw [hfl.out] at this; omega, Nat.mod_lt _ (by omega), hk5⟩
            case measure => simp [intOf]; omega
      | false =>
        rw [hin] at HI
        have hs := HR.out.stop (.inr hin)
        have HSP := Lib.hid hs
        clear hin hs
        go_wp2_with (go_at_call 14; refine (HI.out _ HRU.out).mono ?_; rintro e w' ⟨rfl, rfl⟩)
        go_wp2
        generalize hwf : (((World.setCell _ _ _).setCell _ _).setCell _ _) = wf
        have hBf : Blk wf (w.heap.size + 1) #[.int .u32 (base' : Int), .int .i64 (n : Int), .slice p' L'.length cap'] 31 := by rw [← hwf]; exact out3 (by first | exact HBr.out | exact Blk.drewN HBr.out _) _ _ _
        have q0 := hBf.cell 0
        have q1 := hBf.cell 1
        have q2 := hBf.cell 2
        simp at q0 q1 q2
        refine bodyPost_ret (by simp [results, Try.results10, go_sem, q0, q1, q2]; try rfl) rfl ?_
        have hkf : Kept [w.heap.size + 1] wr wf := by
          rw [← hwf]
          exact (((Kept.refl _ _).set _ (.inl (by simp)) _).set _ (.inl (by simp)) _).set _ (.inl (by simp)) _
        rw [HSP.out]
        exact ⟨p', cap', rfl, HRU.out.kept hkf (fun a ha => by have := (HAP.out a ha).2; simp; exact this), HNR.out, (HK.out.trans hkf (fun x hx => by simp at hx; right; omega)).below (Nat.le_refl _) (by simp)⟩
    · have hs := HR.out.stop (.inl (by omega))
      have HSP := Lib.hid hs
      have dd : decide ((k : Int) < most) = false := by rw [decide_eq_false_iff_not]; exact hk
      clear hs
      go_wp2
      generalize hwf : (((World.setCell _ _ _).setCell _ _).setCell _ _) = wf
      have hBf : Blk wf (w.heap.size + 1) #[.int .u32 (base' : Int), .int .i64 (n : Int), .slice p' L'.length cap'] 31 := by rw [← hwf]; exact out3 (by first | exact HBr.out | exact Blk.drewN HBr.out _) _ _ _
      have q0 := hBf.cell 0
      have q1 := hBf.cell 1
      have q2 := hBf.cell 2
      simp at q0 q1 q2
      refine bodyPost_ret (by simp [results, Try.results10, go_sem, q0, q1, q2]; try rfl) rfl ?_
      have hkf : Kept [w.heap.size + 1] wr wf := by
        rw [← hwf]
        exact (((Kept.refl _ _).set _ (.inl (by simp)) _).set _ (.inl (by simp)) _).set _ (.inl (by simp)) _
      rw [HSP.out]
      exact ⟨p', cap', rfl, HRU.out.kept hkf (fun a ha => by have := (HAP.out a ha).2; simp; exact this), HNR.out, (HK.out.trans hkf (fun x hx => by simp at hx; right; omega)).below (Nat.le_refl _) (by simp)⟩
end Go.Proofs.Ytappolgfkioihaa
