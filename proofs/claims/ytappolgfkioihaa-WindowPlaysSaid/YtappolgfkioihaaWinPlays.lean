/- The walk of WindowPlays. -/
import Derived.Test.YtappolgfkioihaaWinLaw
namespace Go.Proofs.Ytappolgfkioihaa
open Go.ChangeShapes Go.WideShapes Go.ChangeAt Go.RowKit
set_option linter.unusedVariables false

/-- the window and the document's beside it, in block bx -/
structure St (w : World) (b bm bx base n c : Nat) (p : Option Addr) (cap : Nat) (L : List Nat) : Prop where
  win : WinL w b bm base n c L
  blk : Blk w bx #[.int .u32 (base : Int), .int .i64 (n : Int), .slice p L.length cap] 31
  ru : RU w p cap L
  ap : ∀ a, p = some a → a.block ≠ b ∧ a.block ≠ bm ∧ a.block ≠ bx
  ne1 : b ≠ bx
  ne2 : bm ≠ bx
theorem WinL.mono {w : World} {b bm base n c c' : Nat} {L : List Nat} (h : WinL w b bm base n c L) (h1 : c ≤ c') (h2 : c' ≤ 1000000) : WinL w b bm base n c' L :=
  ⟨⟨h.at_.blk, h.at_.mp.mono h1, h.at_.ne, h.at_.bb, h.at_.n1, h.at_.n2, h2⟩, h.inw⟩
theorem St.kept {w w' : World} {b bm bx base n c : Nat} {p : Option Addr} {cap : Nat} {L : List Nat} (s : St w b bm bx base n c p cap L) (hk : Kept [] w w') : St w' b bm bx base n c p cap L :=
  ⟨s.win.kept hk (by simp) (by simp), s.blk.kept hk (by simp), s.ru.kept hk (by simp), s.ap, s.ne1, s.ne2⟩
theorem St.drew {w : World} {b bm bx base n c : Nat} {p : Option Addr} {cap : Nat} {L : List Nat} (s : St w b bm bx base n c p cap L) : St w.drew b bm bx base n c p cap L := s.kept (Kept.refl [] _).drew
theorem St.cells {w : World} {b bm bx base n c : Nat} {p : Option Addr} {cap : Nat} {L : List Nat} (s : St w b bm bx base n c p cap L) : w.cell? ⟨bx, 0, none⟩ = some (.int .u32 (base : Int)) ∧ w.cell? ⟨bx, 1, none⟩ = some (.int .i64 (n : Int)) ∧ w.cell? ⟨bx, 2, none⟩ = some (.slice p L.length cap) :=
  ⟨s.blk.cell 0, s.blk.cell 1, s.blk.cell 2⟩
theorem kfill3 (w : World) (b : Nat) (u v z : Value) : Kept [b] w (((w.setCell ⟨b, 0, none⟩ u).setCell ⟨b, 1, none⟩ v).setCell ⟨b, 2, none⟩ z) :=
  (((Kept.refl _ _).set _ (.inl (by simp)) _).set _ (.inl (by simp)) _).set _ (.inl (by simp)) _
/-- behind the document's deed, its answer in block y -/
structure Mid (w : World) (b bm bx y base n c : Nat) (L : List Nat) (base2 : Nat) (p : Option Addr) (cap : Nat) (L2 : List Nat) : Prop where
  win : WinL w b bm base n c L
  bx3 : ∃ a0 a1 a2, Blk w bx #[a0, a1, a2] 31
  blk : Blk w y #[.int .u32 (base2 : Int), .int .i64 (n : Int), .slice p L2.length cap] 31
  ru : RU w p cap L2
  ap : ∀ a, p = some a → a.block ≠ b ∧ a.block ≠ bm ∧ a.block ≠ bx ∧ a.block ≠ y
  ne1 : b ≠ bx
  ne2 : bm ≠ bx
  ne3 : b ≠ y
  ne4 : bm ≠ y
  ne5 : bx ≠ y
theorem St.mid {w w1 w3 w4 : World} {b bm bx base n c base2 : Nat} {p p3 : Option Addr} {cap cap3 : Nat} {L L2 : List Nat} (s : St w b bm bx base n c p cap L) (hk1 : Kept [] w w1) (hs1 : w.heap.size < w1.heap.size) (hk3 : Kept [] w1 w3) (hru : RU w3 p3 cap3 L2) (hnr : Near w1 p p3)
    (hkf : Kept [w.heap.size] w3 w4) (hbf : Blk w4 w.heap.size #[.int .u32 (base2 : Int), .int .i64 (n : Int), .slice p3 L2.length cap3] 31) : Mid w4 b bm bx w.heap.size base n c L base2 p3 cap3 L2 := by
  have hl := s.win.at_.lt
  have hb := s.blk.lt
  have hk := (hk1.trans hk3 (fun x hx => .inl hx)).trans hkf (fun x hx => by simp at hx; right; omega)
  have s4 := s.kept hk
  have hap : ∀ a, p3 = some a → a.block ≠ b ∧ a.block ≠ bm ∧ a.block ≠ bx ∧ a.block ≠ w.heap.size := fun a ha => by
    rcases hnr a ha with h | ⟨a0, h0, h1⟩
    · omega
    · have h2 := s.ap a0 h0
      have h3 := s.ru.lt a0 h0
      rw [← h1]; omega
  exact ⟨s4.win, ⟨_, _, _, s4.blk⟩, hbf, hru.kept hkf (fun a ha => by have := (hap a ha).2.2.2; simp; exact this), hap, s.ne1, s.ne2, by omega, by omega, by omega⟩
theorem Mid.done {w w5 w6 : World} {b bm bx y base n c c2 : Nat} {L : List Nat} {base2 : Nat} {p : Option Addr} {cap : Nat} {L2 : List Nat} (m : Mid w b bm bx y base n c L base2 p cap L2) (hw : WinL w5 b bm base2 n c2 L2) (hk : Kept [b, bm] w w5) (hk6 : Kept [bx] w5 w6) (hb6 : Blk w6 bx #[.int .u32 (base2 : Int), .int .i64 (n : Int), .slice p L2.length cap] 31) : St w6 b bm bx base2 n c2 p cap L2 := by
  have h1 := m.ne1
  have h2 := m.ne2
  exact ⟨hw.kept hk6 (by simp; omega) (by simp; omega), hb6, (m.ru.kept hk (fun a ha => by have := m.ap a ha; simp; omega)).kept hk6 (fun a ha => by have := m.ap a ha; simp; omega), fun a ha => by have := m.ap a ha; omega, h1, h2⟩
theorem mkL_len (base n : Nat) (L : List Nat) (x : Nat) : (mkL base n L x).length ≤ L.length + 1 := by
  unfold mkL
  split <;> simp
theorem sl_len (f : Nat) : ∀ (base : Nat) (L : List Nat), (sl f base L).2.2.length ≤ L.length := by
  induction f with
  | zero => intro base L; exact Nat.le_refl _
  | succ f ih =>
    intro base L
    rw [sl]
    split
    · exact Nat.le_trans (ih _ _) (List.length_filter_le _ _)
    · exact Nat.le_refl _
set_option maxRecDepth 100000 in
set_option maxHeartbeats 16000000 in
theorem plays_few (base n : Nat) (hbb : base < 4294967296) (m1 : 1 ≤ n) (m2 : n ≤ 64) (a : Option Addr) (len cap bl off : Nat) (K R : Nat → Int) (X : Nat → Nat) (hl : len ≤ 80) (W : World)
    (ha : 0 < len → a = some ⟨bl, off, none⟩) (hlt : len = 0 ∨ bl < W.heap.size) (hK : ∀ i, i < len → W.cell? ⟨bl, off + i * 3, none⟩ = some (.int .i64 (K i))) (hX : ∀ i, i < len → W.cell? ⟨bl, off + i * 3 + 1, none⟩ = some (.int .u32 (X i : Int)))
    (hR : ∀ i, i < len → W.cell? ⟨bl, off + i * 3 + 2, none⟩ = some (.int .i64 (R i))) (hX0 : ∀ i, i < len → X i < 4294967296) (hR0 : ∀ i, i < len → R i ≤ 9223372036854775807) :
    Calls Try.prog 3 #[.int .u32 (base : Int), .int .i64 (n : Int), .slice a len cap] W (TruePost W) := by
  have q1 : decide ((n : Int) < 1) = false := by rw [decide_eq_false_iff_not]; omega
  have q4 : decide ((64 : Int) < (n : Int)) = false := by rw [decide_eq_false_iff_not]; omega
  go_enter Try.func3, Try.ntmps3
  go_wp2_with fail
  refine (wnew_good base n hbb m1 m2 _).mono ?_
  rintro e w1 ⟨b, bm, rfl, hO, l1, l2, hB0⟩
  have hO0 := WinL.new hO
  have hlt0 := hO.lt
  clear hO
  go_wp2_with fail
  clear q1 q4
  obtain ⟨bx, hbx0⟩ : ∃ bx, bx = w1.heap.size := ⟨_, rfl⟩
  rw [← hbx0]
  have HBX := Lib.hid hbx0
  have hbn1 : b ≠ bx := by omega
  have hbn2 : bm ≠ bx := by omega
  have hWbx : W.heap.size ≤ bx := by have := hB0.size; omega
  clear hbx0
  go_loopw [10] (fun iv wr => ∃ (k base' : Nat) (p : Option Addr) (xc : Nat) (L : List Nat), k ≤ len ∧ iv = .int .i64 k ∧ L.length ≤ k ∧ St wr b bm bx base' n k p xc L ∧ Below W.heap.size W wr) (fun iv _ => len - (intOf iv).toNat)
  case atStart => exact ⟨0, base, none, 0, [], Nat.zero_le _, rfl, Nat.le_refl _, ⟨hO0.kept ((Kept.refl [] _).alloc _) (by simp) (by simp), by rw [HBX.out]; exact Blk.new _ _ _, RU.own (World.ownsRow_nil _ 0 _ _), (fun a ha => nomatch ha), hbn1, hbn2⟩, by go_grown⟩
  case round =>
    obtain ⟨k, base2, p, xcap, L, hk, rfl, hLk, hSt, hb⟩ := hrel
    by_cases hlk : k < len
    · have hbl : bl < W.heap.size := by omega
      have ha' := ha (by omega)
      subst ha'
      have cK : wr.cell? ⟨bl, off + k * 3, none⟩ = some (.int .i64 (K k)) := kbelow hb hbl (hK k hlk)
      have cX : wr.cell? ⟨bl, off + k * 3 + 1, none⟩ = some (.int .u32 (X k : Int)) := kbelow hb hbl (hX k hlk)
      have cR : wr.cell? ⟨bl, off + k * 3 + 2, none⟩ = some (.int .i64 (R k)) := kbelow hb hbl (hR k hlk)
      have HCX := Lib.hid (hX k hlk)
      have HCR := Lib.hid (hR k hlk)
      have hXk := hX0 k hlk
      have hRk := hR0 k hlk
      have HB := Lib.hid hb
      have HS := Lib.hid hSt
      obtain ⟨y0, y1, y2⟩ := hSt.cells
      have hbx := hSt.blk.lt
      have hWx := hb.size
      have hblw : bl < wr.heap.size := by omega
      have hb2 := hSt.win.at_.bb
      clear hK hX hR hX0 hR0 hSt hb
      generalize K k = Kk at *
      generalize X k = x at *
      generalize R k = most at *
      have HU := Lib.hid (fun o => (HS.out.kept ((Kept.refl [] wr).alloc o)))
      by_cases k0 : Kk = 0
      · subst k0
        have HRP := Lib.hid (fun w hs => rmark_any base2 n p xcap L x (by omega) hb2 hXk w hs)
        have HOP := Lib.hid (fun w o => wmark_is b bm base2 n k L x hXk (by omega) w o)
        have hLk2 := mkL_len base2 n L x
        generalize mkK base2 n L x = kk at *
        generalize mkL base2 n L x = L2 at *
        go_wp2_with fail
        generalize hwy : World.alloc wr _ = wy
        have hk1 : Kept [] wr wy := by rw [← hwy]; exact (Kept.refl _ _).alloc _
        have hsy : wr.heap.size < wy.heap.size := by rw [← hwy]; simp
        have hBy : Blk wy wr.heap.size #[.int .u32 (base2 : Int), .int .i64 (n : Int), .slice p L.length xcap] 31 := by rw [← hwy]; exact Blk.new _ _ _
        have HSy := Lib.hid (HS.out.kept hk1)
        have u0 := hk1.cell y0 (by simp)
        have u1 := hk1.cell y1 (by simp)
        have u2 := hk1.cell y2 (by simp)
        have v0 := hk1.cell cX (by simp)
        have v1 := hk1.cell cR (by simp)
        have HBy := Lib.hid hBy
        have HK1 := Lib.hid hk1
        have yn2 : bl ≠ wr.heap.size := Nat.ne_of_lt hblw
        have yn : bx ≠ wr.heap.size := Nat.ne_of_lt hbx
        clear hwy hk1 hBy y0 y1 y2 cX cR cK
        go_region_held3 (fun w' => w'.cell? ⟨bx, 0, none⟩ = some (.int .u32 (base2 : Int)) ∧ w'.cell? ⟨bx, 1, none⟩ = some (.int .i64 (n : Int)) ∧ w'.cell? ⟨bx, 2, none⟩ = some (.slice p L.length xcap) ∧ w'.cell? ⟨bl, off + k * 3 + 1, none⟩ = some (.int .u32 (x : Int)))          (repeat' (first | (with_reducible assumption) | refine ⟨?_, ?_⟩ | refine kset ?_ (by with_reducible assumption) | refine kalloc ?_ _ | refine kdrew ?_))          ((go_at_call 8; refine (HRP.out _ (by exact HSy.out.drew.ru)).mono ?_; rintro e w3 ⟨p3, cap3, rfl, hru3, hnr3, hb3⟩; have hk3 : Kept [] wy w3 := Kept.trans (w := _) (by exact (Kept.refl [] wy).drew) (Kept.of_below hb3 []) (fun x hx => .inl hx); obtain ⟨e0, e1, e2⟩ := (HSy.out.kept hk3).cells; have f1 := hk3.cell v0 (by simp); have f2 := hk3.cell v1 (by simp); have Y3 := HBy.out.kept hk3 (by simp); have z0 := Y3.free 0; have z1 := Y3.free 1; have z2 := Y3.free 2; have y3 := Y3.cell 0; have y4 := Y3.cell 1; have y5 := Y3.cell 2))
        go_wp2_with fail
        generalize hw4 : World.setCell _ _ _ = w4
        have M4 : Mid w4 b bm bx wr.heap.size base2 n k L (base2) p3 cap3 L2 := by
          rw [← hw4]
          exact HS.out.mid HK1.out hsy hk3 hru3 (by exact hnr3) (kfill3 _ _ _ _ _) (out3 Y3 _ _ _)
        have hB4 : Below W.heap.size W w4 := by
          rw [← hw4]
          exact HB.out.trans ((((HK1.out.trans hk3 (fun x hx => .inl hx)).mono (r' := [wr.heap.size]) (fun x hx => by simp at hx)).trans (kfill3 _ _ _ _ _) (fun x hx => .inl hx)).below hWx (by simp; exact hWx))
        have cX := kbelow hB4 hbl HCX.out
        have cR := kbelow hB4 hbl HCR.out
        have HM4 := Lib.hid M4
        have HB4 := Lib.hid hB4
        clear hw4 M4 hB4 hb3 hru3 hnr3 hk3 e0 e1 e2 f1 f2 Y3 z0 z1 z2 y3 y4 y5 u0 u1 u2 v0 v1
        refine (HOP.out _ HM4.out.win).mono ?_
        rintro e w5 ⟨rfl, hW5, hK5⟩
        have hB5 := HB4.out.trans (wact_below hK5 HB4.out.size l1 l2)
        have hBy5 := HM4.out.blk.kept hK5 (by have h1 := HM4.out.ne3; have h2 := HM4.out.ne4; simp; omega)
        obtain ⟨a0, a1, a2, hbx3⟩ := HM4.out.bx3
        have hBx5 := hbx3.kept hK5 (by have h1 := HM4.out.ne1; have h2 := HM4.out.ne2; simp; omega)
        have r0 := hBy5.cell 0
        have r1 := hBy5.cell 1
        have r2 := hBy5.cell 2
        have s0 := hBx5.cell 0
        have s1 := hBx5.cell 1
        have s2 := hBx5.cell 2
        have t0 := hBx5.free 0
        have t1 := hBx5.free 1
        have t2 := hBx5.free 2
        simp at r0 r1 r2 s0 s1 s2
        have HW5 := Lib.hid hW5
        have HK5 := Lib.hid hK5
        have HB5 := Lib.hid hB5
        have HX5 := Lib.hid hBx5
        clear hW5 hK5 hB5 hBx5 hBy5 hbx3 cX cR
        go_wp2_with fail
        generalize hw6 : World.setCell _ _ _ = w6
        have hT6 : St w6 b bm bx (base2) n (k + 1) p3 cap3 L2 := by
          rw [← hw6]
          exact HM4.out.done (HW5.out.mono (by omega) (by omega)) HK5.out (kfill3 _ _ _ _ _) (out3 HX5.out _ _ _)
        have hB6 : Below W.heap.size W w6 := by
          rw [← hw6]
          exact HB5.out.trans ((kfill3 _ _ _ _ _).below HB5.out.size (by simp; exact hWbx))
        have HT := Lib.hid hT6
        have HB6 := Lib.hid hB6
        clear hw6 hT6 hB6 r0 r1 r2 s0 s1 s2 t0 t1 t2 HM4 HB4 HW5 HK5 HB5 HX5 HOP HRP HU HSy HBy HK1
        have hT := HT.out
        obtain ⟨y0, y1, y2⟩ := hT.cells
        have cX := kbelow HB6.out hbl HCX.out
        have hbb6 := hT.win.at_.bb
        have hn64 := hT.win.at_.n2
        have HHO := Lib.hid (fun w o => whas_is b bm (base2) n (k + 1) L2 x hXk w o)
        have HHR := Lib.hid (fun w hs => rin_any p3 cap3 L2 x hXk w hs)
        have HBO := Lib.hid (fun w o => wbase_is b bm (base2) n (k + 1) L2 w o)
        have HMO := Lib.hid (fun w o => wmiss_is b bm (base2) n (k + 1) L2 w o)
        have HMR := Lib.hid (fun w hs => rmiss_any (base2) n p3 cap3 L2 hn64 (by omega) hbb6 w hs)
        have HEQ := Lib.hid (fun k h => rm_is (last := k) hbb6 hn64 hT.win.inw h)
        generalize inL L2 x = hr at *
        have br : (hr != hr) = false := by simp
        have bb : (((base2 : Nat) : Int) != ((base2 : Nat) : Int)) = false := by simp
        have bk : (kk != kk) = false := by simp
        have hbx6 := hT.blk.lt
        clear hT
        go_wp2_with fail
        go_region_held3 (fun w' => w'.cell? ⟨bx, 0, none⟩ = some (.int .u32 ((base2 : Nat) : Int)) ∧ w'.cell? ⟨bx, 1, none⟩ = some (.int .i64 (n : Int)) ∧ w'.cell? ⟨bx, 2, none⟩ = some (.slice p3 L2.length cap3) ∧ w'.cell? ⟨bl, off + k * 3 + 1, none⟩ = some (.int .u32 (x : Int)))  (repeat' (first | (with_reducible assumption) | refine ⟨?_, ?_⟩ | refine kset ?_ (by with_reducible assumption) | refine kalloc ?_ _ | refine kdrew ?_ | refine kdrewN ?_ _))  (first | (go_at_call 12; refine (HBO.out _ (by exact HT.out.drew.win)).mono ?_; rintro e w' ⟨rfl, rfl⟩) | (go_at_call 13; refine (HHO.out _ (by exact HT.out.drew.win)).mono ?_; rintro e w' ⟨rfl, rfl⟩) | (go_at_call 14; refine (HHR.out _ (by exact HT.out.drew.ru)).mono ?_; rintro e w' ⟨rfl, rfl⟩)  | (go_at_call 16; refine (HMO.out _ (by exact HT.out.drew.win)).mono ?_; rintro e w7 ⟨kq, pm, cm, hlq, hkq, rfl, hrm, hpm, hb7⟩; have hk7 : Kept [] w6 w7 := Kept.trans (w := _) (by exact (Kept.refl [] _).drew) (Kept.of_below hb7 []) (fun x hx => .inl hx); obtain ⟨e0, e1, e2⟩ := (HT.out.kept hk7).cells; have f1 := hk7.cell cX (by simp))  | (go_at_call 17; refine (HMR.out _ (by exact (HT.out.kept hk7).ru)).mono ?_; rintro e w8 ⟨pr, cr, rfl, hrr, hb8⟩; have hk8 : Kept [] w6 w8 := hk7.trans (Kept.of_below (by exact hb8) []) (fun x hx => .inl hx); obtain ⟨e3, e4, e5⟩ := (HT.out.kept hk8).cells; have f2 := hk8.cell cX (by simp))  | (go_at_call 15; refine (rsame_yes pm pr cm cr _ _ (HEQ.out kq hlq).symm _ (by exact hrm.below hb8) (by exact hrr)).mono ?_; rintro e w' ⟨rfl, n9, rfl⟩))
        go_wp2_with fail
        go_roundw
        case rel => exact ⟨k + 1, base2, p3, cap3, L2, by omega, by go_num, by omega, (HT.out.kept hk8).kept ((Kept.refl [] _).drewN _), HB6.out.trans ((hk8.drewN _).below HB6.out.size (by simp))⟩
        case measure => simp [intOf]; omega
      · have b0 : (Kk == 0) = false := by rw [beq_eq_false_iff_ne]; exact k0
        have HRP := Lib.hid (fun w hs => rslide_any base2 n p xcap L most hRk (by omega) hb2 w hs)
        have HOP := Lib.hid (fun w o => wslide_is b bm base2 n k L most hRk w o)
        have hLk2 : (sl most.toNat base2 L).2.2.length ≤ L.length + 1 := by have := sl_len most.toNat base2 L; omega
        generalize (sl most.toNat base2 L).2.2 = L2 at *
        generalize (sl most.toNat base2 L).2.1 = base3 at *
        obtain ⟨kk, hkk⟩ : ∃ kk : Int, ((sl most.toNat base2 L).1 : Int) = kk := ⟨_, rfl⟩
        rw [hkk] at HRP HOP
        clear hkk
        go_wp2_with fail
        generalize hwy : World.alloc wr _ = wy
        have hk1 : Kept [] wr wy := by rw [← hwy]; exact (Kept.refl _ _).alloc _
        have hsy : wr.heap.size < wy.heap.size := by rw [← hwy]; simp
        have hBy : Blk wy wr.heap.size #[.int .u32 (base2 : Int), .int .i64 (n : Int), .slice p L.length xcap] 31 := by rw [← hwy]; exact Blk.new _ _ _
        have HSy := Lib.hid (HS.out.kept hk1)
        have u0 := hk1.cell y0 (by simp)
        have u1 := hk1.cell y1 (by simp)
        have u2 := hk1.cell y2 (by simp)
        have v0 := hk1.cell cX (by simp)
        have v1 := hk1.cell cR (by simp)
        have HBy := Lib.hid hBy
        have HK1 := Lib.hid hk1
        have yn2 : bl ≠ wr.heap.size := Nat.ne_of_lt hblw
        have yn : bx ≠ wr.heap.size := Nat.ne_of_lt hbx
        clear hwy hk1 hBy y0 y1 y2 cX cR cK
        go_region_held3 (fun w' => w'.cell? ⟨bx, 0, none⟩ = some (.int .u32 (base2 : Int)) ∧ w'.cell? ⟨bx, 1, none⟩ = some (.int .i64 (n : Int)) ∧ w'.cell? ⟨bx, 2, none⟩ = some (.slice p L.length xcap) ∧ w'.cell? ⟨bl, off + k * 3 + 2, none⟩ = some (.int .i64 most))          (repeat' (first | (with_reducible assumption) | refine ⟨?_, ?_⟩ | refine kset ?_ (by with_reducible assumption) | refine kalloc ?_ _ | refine kdrew ?_))          ((go_at_call 10; refine (HRP.out _ (by exact HSy.out.drew.ru)).mono ?_; rintro e w3 ⟨p3, cap3, rfl, hru3, hnr3, hb3⟩; have hk3 : Kept [] wy w3 := Kept.trans (w := _) (by exact (Kept.refl [] wy).drew) (Kept.of_below hb3 []) (fun x hx => .inl hx); obtain ⟨e0, e1, e2⟩ := (HSy.out.kept hk3).cells; have f1 := hk3.cell v0 (by simp); have f2 := hk3.cell v1 (by simp); have Y3 := HBy.out.kept hk3 (by simp); have z0 := Y3.free 0; have z1 := Y3.free 1; have z2 := Y3.free 2; have y3 := Y3.cell 0; have y4 := Y3.cell 1; have y5 := Y3.cell 2))
        go_wp2_with fail
        generalize hw4 : World.setCell _ _ _ = w4
        have M4 : Mid w4 b bm bx wr.heap.size base2 n k L (base3) p3 cap3 L2 := by
          rw [← hw4]
          exact HS.out.mid HK1.out hsy hk3 hru3 (by exact hnr3) (kfill3 _ _ _ _ _) (out3 Y3 _ _ _)
        have hB4 : Below W.heap.size W w4 := by
          rw [← hw4]
          exact HB.out.trans ((((HK1.out.trans hk3 (fun x hx => .inl hx)).mono (r' := [wr.heap.size]) (fun x hx => by simp at hx)).trans (kfill3 _ _ _ _ _) (fun x hx => .inl hx)).below hWx (by simp; exact hWx))
        have cX := kbelow hB4 hbl HCX.out
        have cR := kbelow hB4 hbl HCR.out
        have HM4 := Lib.hid M4
        have HB4 := Lib.hid hB4
        clear hw4 M4 hB4 hb3 hru3 hnr3 hk3 e0 e1 e2 f1 f2 Y3 z0 z1 z2 y3 y4 y5 u0 u1 u2 v0 v1
        refine (HOP.out _ HM4.out.win).mono ?_
        rintro e w5 ⟨rfl, hW5, hK5⟩
        have hB5 := HB4.out.trans (wact_below hK5 HB4.out.size l1 l2)
        have hBy5 := HM4.out.blk.kept hK5 (by have h1 := HM4.out.ne3; have h2 := HM4.out.ne4; simp; omega)
        obtain ⟨a0, a1, a2, hbx3⟩ := HM4.out.bx3
        have hBx5 := hbx3.kept hK5 (by have h1 := HM4.out.ne1; have h2 := HM4.out.ne2; simp; omega)
        have r0 := hBy5.cell 0
        have r1 := hBy5.cell 1
        have r2 := hBy5.cell 2
        have s0 := hBx5.cell 0
        have s1 := hBx5.cell 1
        have s2 := hBx5.cell 2
        have t0 := hBx5.free 0
        have t1 := hBx5.free 1
        have t2 := hBx5.free 2
        simp at r0 r1 r2 s0 s1 s2
        have HW5 := Lib.hid hW5
        have HK5 := Lib.hid hK5
        have HB5 := Lib.hid hB5
        have HX5 := Lib.hid hBx5
        clear hW5 hK5 hB5 hBx5 hBy5 hbx3 cX cR
        go_wp2_with fail
        generalize hw6 : World.setCell _ _ _ = w6
        have hT6 : St w6 b bm bx (base3) n (k + 1) p3 cap3 L2 := by
          rw [← hw6]
          exact HM4.out.done (HW5.out.mono (by omega) (by omega)) HK5.out (kfill3 _ _ _ _ _) (out3 HX5.out _ _ _)
        have hB6 : Below W.heap.size W w6 := by
          rw [← hw6]
          exact HB5.out.trans ((kfill3 _ _ _ _ _).below HB5.out.size (by simp; exact hWbx))
        have HT := Lib.hid hT6
        have HB6 := Lib.hid hB6
        clear hw6 hT6 hB6 r0 r1 r2 s0 s1 s2 t0 t1 t2 HM4 HB4 HW5 HK5 HB5 HX5 HOP HRP HU HSy HBy HK1
        have hT := HT.out
        obtain ⟨y0, y1, y2⟩ := hT.cells
        have cX := kbelow HB6.out hbl HCX.out
        have hbb6 := hT.win.at_.bb
        have hn64 := hT.win.at_.n2
        have HHO := Lib.hid (fun w o => whas_is b bm (base3) n (k + 1) L2 x hXk w o)
        have HHR := Lib.hid (fun w hs => rin_any p3 cap3 L2 x hXk w hs)
        have HBO := Lib.hid (fun w o => wbase_is b bm (base3) n (k + 1) L2 w o)
        have HMO := Lib.hid (fun w o => wmiss_is b bm (base3) n (k + 1) L2 w o)
        have HMR := Lib.hid (fun w hs => rmiss_any (base3) n p3 cap3 L2 hn64 (by omega) hbb6 w hs)
        have HEQ := Lib.hid (fun k h => rm_is (last := k) hbb6 hn64 hT.win.inw h)
        generalize inL L2 x = hr at *
        have br : (hr != hr) = false := by simp
        have bb : (((base3 : Nat) : Int) != ((base3 : Nat) : Int)) = false := by simp
        have bk : (kk != kk) = false := by simp
        have hbx6 := hT.blk.lt
        clear hT
        go_wp2_with fail
        go_region_held3 (fun w' => w'.cell? ⟨bx, 0, none⟩ = some (.int .u32 ((base3 : Nat) : Int)) ∧ w'.cell? ⟨bx, 1, none⟩ = some (.int .i64 (n : Int)) ∧ w'.cell? ⟨bx, 2, none⟩ = some (.slice p3 L2.length cap3) ∧ w'.cell? ⟨bl, off + k * 3 + 1, none⟩ = some (.int .u32 (x : Int)))  (repeat' (first | (with_reducible assumption) | refine ⟨?_, ?_⟩ | refine kset ?_ (by with_reducible assumption) | refine kalloc ?_ _ | refine kdrew ?_ | refine kdrewN ?_ _))  (first | (go_at_call 12; refine (HBO.out _ (by exact HT.out.drew.win)).mono ?_; rintro e w' ⟨rfl, rfl⟩) | (go_at_call 13; refine (HHO.out _ (by exact HT.out.drew.win)).mono ?_; rintro e w' ⟨rfl, rfl⟩) | (go_at_call 14; refine (HHR.out _ (by exact HT.out.drew.ru)).mono ?_; rintro e w' ⟨rfl, rfl⟩)  | (go_at_call 16; refine (HMO.out _ (by exact HT.out.drew.win)).mono ?_; rintro e w7 ⟨kq, pm, cm, hlq, hkq, rfl, hrm, hpm, hb7⟩; have hk7 : Kept [] w6 w7 := Kept.trans (w := _) (by exact (Kept.refl [] _).drew) (Kept.of_below hb7 []) (fun x hx => .inl hx); obtain ⟨e0, e1, e2⟩ := (HT.out.kept hk7).cells; have f1 := hk7.cell cX (by simp))  | (go_at_call 17; refine (HMR.out _ (by exact (HT.out.kept hk7).ru)).mono ?_; rintro e w8 ⟨pr, cr, rfl, hrr, hb8⟩; have hk8 : Kept [] w6 w8 := hk7.trans (Kept.of_below (by exact hb8) []) (fun x hx => .inl hx); obtain ⟨e3, e4, e5⟩ := (HT.out.kept hk8).cells; have f2 := hk8.cell cX (by simp))  | (go_at_call 15; refine (rsame_yes pm pr cm cr _ _ (HEQ.out kq hlq).symm _ (by exact hrm.below hb8) (by exact hrr)).mono ?_; rintro e w' ⟨rfl, n9, rfl⟩))
        go_wp2_with fail
        go_roundw
        case rel => exact ⟨k + 1, base3, p3, cap3, L2, by omega, by go_num, by omega, (HT.out.kept hk8).kept ((Kept.refl [] _).drewN _), HB6.out.trans ((hk8.drewN _).below HB6.out.size (by simp))⟩
        case measure => simp [intOf]; omega
    · have hkl : k = len := by omega
      go_wp2_with (go_at_call 6; refine (awake_true _).mono ?_; rintro e w6 ⟨rfl, hb6⟩)
      go_ret
      exact ⟨rfl, hb.trans (hb6.mono hb.size)⟩
end Go.Proofs.Ytappolgfkioihaa
