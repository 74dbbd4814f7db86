/- The walk of OrderPlays. -/
import Derived.Test.YtbfmnnjjhmmljaaOrderLaw
namespace Go.Proofs.Ytbfmnnjjhmmljaa
open Go.ChangeShapes Go.WideShapes Go.ChangeAt Go.RowKit
set_option linter.unusedVariables false

/-- the order and the document's beside it, in block bx -/
structure St (w : World) (b g1 g2 bx base win : Nat) (p : Option Addr) (cap : Nat) (L : BL) : Prop where
  ord : Ord w b g1 g2 base win L
  blk : Blk w bx #[.int .u32 (base : Int), .int .i64 (win : Int), .slice p L.length cap] 31
  own : w.ownsRow (bx + 1) 59 2 (.slice p L.length cap) L.length (xl L)
  lt1 : b < bx
  lt2 : g1 < bx
  lt3 : g2 < bx
theorem St.kept {w w' : World} {b g1 g2 bx base win : Nat} {p : Option Addr} {cap : Nat} {L : BL} (s : St w b g1 g2 bx base win p cap L) (hk : Kept [] w w') : St w' b g1 g2 bx base win p cap L :=
  ⟨s.ord.kept hk (by simp) (by simp) (by simp), s.blk.kept hk (by simp), own_kept s.own hk (fun x hx => by simp), s.lt1, s.lt2, s.lt3⟩
theorem St.ro {w : World} {b g1 g2 bx base win : Nat} {p : Option Addr} {cap : Nat} {L : BL} (s : St w b g1 g2 bx base win p cap L) : RO w p cap L := by
  obtain ⟨p', cap', h1, h2⟩ := RO.of_own s.own
  injection h1 with h1 _ h3
  subst h1 h3
  exact h2
theorem St.cells {w : World} {b g1 g2 bx base win : Nat} {p : Option Addr} {cap : Nat} {L : BL} (s : St w b g1 g2 bx base win p cap L) : w.cell? ⟨bx, 0, none⟩ = some (.int .u32 (base : Int)) ∧ w.cell? ⟨bx, 1, none⟩ = some (.int .i64 (win : Int)) ∧ w.cell? ⟨bx, 2, none⟩ = some (.slice p L.length cap) :=
  ⟨s.blk.cell 0, s.blk.cell 1, s.blk.cell 2⟩
theorem St.drew {w : World} {b g1 g2 bx base win : Nat} {p : Option Addr} {cap : Nat} {L : BL} (s : St w b g1 g2 bx base win p cap L) : St w.drew b g1 g2 bx base win p cap L := s.kept (Kept.refl [] _).drew
theorem St.al {w : World} {b g1 g2 bx base win : Nat} {p : Option Addr} {cap : Nat} {L : BL} (s : St w b g1 g2 bx base win p cap L) (o : Obj) : St (w.alloc o).drew b g1 g2 bx base win p cap L := s.kept ((Kept.refl [] _).alloc o).drew
theorem fill6 {w : World} {bx y : Nat} {a0 a1 a2 : Value} {T : TypeId} (h : Blk w bx #[a0, a1, a2] T) (hne : bx ≠ y) (u v z u' v' z' : Value) :
    Blk ((((((w.setCell ⟨y, 0, none⟩ u).setCell ⟨y, 1, none⟩ v).setCell ⟨y, 2, none⟩ z).setCell ⟨bx, 0, none⟩ u').setCell ⟨bx, 1, none⟩ v').setCell ⟨bx, 2, none⟩ z') bx #[u', v', z'] T :=
  out3 (((h.other _ hne _).other _ hne _).other _ hne _) _ _ _
theorem kfill6 (w : World) (bx y : Nat) (u v z u' v' z' : Value) : Kept [bx, y] w ((((((w.setCell ⟨y, 0, none⟩ u).setCell ⟨y, 1, none⟩ v).setCell ⟨y, 2, none⟩ z).setCell ⟨bx, 0, none⟩ u').setCell ⟨bx, 1, none⟩ v').setCell ⟨bx, 2, none⟩ z') :=
  ((((((Kept.refl _ _).set _ (.inl (by simp)) _).set _ (.inl (by simp)) _).set _ (.inl (by simp)) _).set _ (.inl (by simp)) _).set _ (.inl (by simp)) _).set _ (.inl (by simp)) _
/-- what the document's deed has left, and the order's still as it was -/
structure Mid (w : World) (b g1 g2 bx base0 win : Nat) (L0 : BL) (base : Nat) (p : Option Addr) (cap : Nat) (L : BL) : Prop where
  ord : Ord w b g1 g2 base0 win L0
  blk : Blk w bx #[.int .u32 (base : Int), .int .i64 (win : Int), .slice p L.length cap] 31
  own : w.ownsRow (bx + 1) 59 2 (.slice p L.length cap) L.length (xl L)
  lt1 : b < bx
  lt2 : g1 < bx
  lt3 : g2 < bx
theorem Mid.done {w w' : World} {b g1 g2 bx base0 win : Nat} {L0 : BL} {base : Nat} {p : Option Addr} {cap : Nat} {L : BL} (m : Mid w b g1 g2 bx base0 win L0 base p cap L) (ho : Ord w' b g1 g2 base win L) (hk : Kept [b, g1, g2] w w') : St w' b g1 g2 bx base win p cap L := by
  have h1 := m.lt1
  have h2 := m.lt2
  have h3 := m.lt3
  refine ⟨ho, m.blk.kept hk (by simp; omega), own_kept m.own hk (fun x hx hm => ?_), h1, h2, h3⟩
  have h4 := (own_lt m.own x hx).1
  simp at hm
  omega
theorem Mid.kept {w w' : World} {b g1 g2 bx base0 win : Nat} {L0 : BL} {base : Nat} {p : Option Addr} {cap : Nat} {L : BL} (m : Mid w b g1 g2 bx base0 win L0 base p cap L) (hk : Kept [] w w') : Mid w' b g1 g2 bx base0 win L0 base p cap L :=
  ⟨m.ord.kept hk (by simp) (by simp) (by simp), m.blk.kept hk (by simp), own_kept m.own hk (fun x hx => by simp), m.lt1, m.lt2, m.lt3⟩
/-- behind the document's deed: the answer lies in block y, then in bx -/
theorem St.mid {w w2 wf : World} {b g1 g2 bx base win base' : Nat} {p p' : Option Addr} {cap cap' : Nat} {L L' : BL} {y : Nat} (s : St w b g1 g2 bx base win p cap L) (hk : Kept [] w w2) (hown : p' = p ∧ cap' = cap ∧ L' = L ∨ w2.ownsRow w.heap.size 59 2 (.slice p' L'.length cap') L'.length (xl L')) (hyo : ∀ x ∈ rowOf (.slice p' L'.length cap'), x ≠ y) (hy : w.heap.size ≤ y)
    (hkf : Kept [bx, y] w2 wf) (hbf : Blk wf bx #[.int .u32 (base' : Int), .int .i64 (win : Int), .slice p' L'.length cap'] 31) : Mid wf b g1 g2 bx base win L base' p' cap' L' := by
  have h1 := s.lt1
  have h2 := s.lt2
  have h3 := s.lt3
  have hb := s.blk.lt
  have hown2 : w2.ownsRow (bx + 1) 59 2 (.slice p' L'.length cap') L'.length (xl L') := by
    rcases hown with ⟨e1, e2, e3⟩ | h
    · subst e1 e2 e3; exact own_kept s.own hk (fun x hx => by simp)
    · refine ⟨h.1, ?_⟩
      rcases h.2 with h0 | ⟨g, cap, cur, hv, hg, r⟩
      · exact .inl h0
      · exact .inr ⟨g, cap, cur, hv, by omega, r⟩
  have hown3 := own_kept hown2 hkf (fun x hx hm => by
    have h4 := own_lt hown2 x hx
    have h5 := hyo x hx
    simp at hm; omega)
  have hl0 := s.ord.lt
  exact ⟨(s.ord.kept hk (by simp) (by simp) (by simp)).kept hkf (by simp; omega) (by simp; omega) (by simp; omega), hbf, hown3, h1, h2, h3⟩
/-- the answer's block laid ahead of the call -/
theorem St.mid1 {w w3 wf : World} {b g1 g2 bx base win base' : Nat} {p p' : Option Addr} {cap cap' : Nat} {L L' : BL} (s : St w b g1 g2 bx base win p cap L) (hk : Kept [] w w3) (hown : p' = p ∧ cap' = cap ∧ L' = L ∨ w3.ownsRow (w.heap.size + 1) 59 2 (.slice p' L'.length cap') L'.length (xl L'))
    (hkf : Kept [bx, w.heap.size] w3 wf) (hbf : Blk wf bx #[.int .u32 (base' : Int), .int .i64 (win : Int), .slice p' L'.length cap'] 31) : Mid wf b g1 g2 bx base win L base' p' cap' L' := by
  refine s.mid hk (hown.imp id fun h => ?_) (fun x hx => ?_) (Nat.le_refl _) hkf hbf
  · refine ⟨h.1, ?_⟩
    rcases h.2 with h0 | ⟨g, cap, cur, hv, hg, r⟩
    · exact .inl h0
    · exact .inr ⟨g, cap, cur, hv, by omega, r⟩
  · rcases hown with ⟨e1, e2, e3⟩ | h
    · subst e1 e2 e3
      have := (own_lt s.own x hx).2; omega
    · have := (own_lt h x hx).1; omega
theorem kfill3 (w : World) (bx y : Nat) (u v z : Value) : Kept [bx, y] w (((w.setCell ⟨bx, 0, none⟩ u).setCell ⟨bx, 1, none⟩ v).setCell ⟨bx, 2, none⟩ z) :=
  (((Kept.refl _ _).set _ (.inl (by simp)) _).set _ (.inl (by simp)) _).set _ (.inl (by simp)) _
/-- the answer's block laid behind the call -/
theorem St.mid2 {w w3 wf : World} {b g1 g2 bx base win base' : Nat} {p p' : Option Addr} {cap cap' : Nat} {L L' : BL} (s : St w b g1 g2 bx base win p cap L) (hk : Kept [] w w3) (hown : p' = p ∧ cap' = cap ∧ L' = L ∨ w3.ownsRow w.heap.size 59 2 (.slice p' L'.length cap') L'.length (xl L'))
    (hkf : Kept [bx, w3.heap.size] w3 wf) (hbf : Blk wf bx #[.int .u32 (base' : Int), .int .i64 (win : Int), .slice p' L'.length cap'] 31) : Mid wf b g1 g2 bx base win L base' p' cap' L' := by
  have hsz := hk.size
  refine s.mid hk hown (fun x hx => ?_) hsz hkf hbf
  rcases hown with ⟨e1, e2, e3⟩ | h
  · subst e1 e2 e3
    have := (own_lt s.own x hx).2; omega
  · have := (own_lt h x hx).2; omega
set_option maxRecDepth 100000 in
set_option maxHeartbeats 16000000 in
theorem plays_few (base win : Nat) (hbb : base < 4294967296) (m1 : 1 ≤ win) (m2 : win ≤ 64) (a : Option Addr) (len cap bl off : Nat) (K R : Nat → Int) (X : Nat → Nat) (S : Nat → ByteArray) (hl : len ≤ 80) (W : World)
    (ha : 0 < len → a = some ⟨bl, off, none⟩) (hlt : len = 0 ∨ bl < W.heap.size) (hK : ∀ i, i < len → W.cell? ⟨bl, off + i * 4, none⟩ = some (.int .i64 (K i))) (hX : ∀ i, i < len → W.cell? ⟨bl, off + i * 4 + 1, none⟩ = some (.int .u32 (X i : Int)))
    (hS : ∀ i, i < len → W.cell? ⟨bl, off + i * 4 + 2, none⟩ = some (.string (S i))) (hR : ∀ i, i < len → W.cell? ⟨bl, off + i * 4 + 3, none⟩ = some (.int .i64 (R i))) (hX0 : ∀ i, i < len → X i < 4294967296) (hSm : ∀ i, i < len → (S i).size ≤ maxLen) :
    Calls Try.prog 3 #[.int .u32 (base : Int), .int .i64 (win : Int), .slice a len cap] W (TruePost W) := by
  have q1 : decide ((win : Int) < 1) = false := by rw [decide_eq_false_iff_not]; omega
  have q4 : decide ((64 : Int) < (win : Int)) = false := by rw [decide_eq_false_iff_not]; omega
  go_enter Try.func3, Try.ntmps3
  go_wp2_with fail
  refine (onew_good base win hbb m1 m2 _).mono ?_
  rintro e w1 ⟨b, g1, g2, rfl, hO, hl0, hB0⟩
  have l1 := hl0 b (by simp)
  have l2 := hl0 g1 (by simp)
  have l3 := hl0 g2 (by simp)
  have hO0 := NewO hbb m1 m2 hO
  have hlt0 := hO0.lt
  clear hO hl0
  go_wp2_with fail
  clear q1 q4
  trace_state
  go_loopw [10] (fun iv wr => ∃ (k base' : Nat) (p : Option Addr) (xc : Nat) (L : BL), k ≤ len ∧ iv = .int .i64 k ∧ St wr b g1 g2 w1.heap.size base' win p xc L ∧ Below W.heap.size W wr) (fun iv _ => len - (intOf iv).toNat)
  case atStart => exact ⟨0, base, none, 0, [], Nat.zero_le _, rfl, ⟨hO0.kept ((Kept.refl [] _).alloc _) (by simp) (by simp) (by simp), Blk.new _ _ _, World.ownsRow_nil _ _ _ _, hlt0.1, hlt0.2.1, hlt0.2.2⟩, by go_grown⟩
  case round =>
    obtain ⟨k, base2, p, xcap, L, hk, rfl, hSt, hb⟩ := hrel
    by_cases hlk : k < len
    · have hbl : bl < W.heap.size := by omega
      have ha' := ha (by omega)
      subst ha'
      have cK : wr.cell? ⟨bl, off + k * 4, none⟩ = some (.int .i64 (K k)) := kbelow hb hbl (hK k hlk)
      have cX : wr.cell? ⟨bl, off + k * 4 + 1, none⟩ = some (.int .u32 (X k : Int)) := kbelow hb hbl (hX k hlk)
      have cS : wr.cell? ⟨bl, off + k * 4 + 2, none⟩ = some (.string (S k)) := kbelow hb hbl (hS k hlk)
      have cR : wr.cell? ⟨bl, off + k * 4 + 3, none⟩ = some (.int .i64 (R k)) := kbelow hb hbl (hR k hlk)
      have HCX := Lib.hid (hX k hlk)
      have HCS := Lib.hid (hS k hlk)
      have HCR := Lib.hid (hR k hlk)
      have hXk := hX0 k hlk
      have hSk := hSm k hlk
      unfold maxLen at hSk
      have HB := Lib.hid hb
      have HS := Lib.hid hSt
      obtain ⟨y0, y1, y2⟩ := hSt.cells
      have hlen := hSt.ord.len
      have hbx := hSt.blk.lt
      have hWx := hb.size
      have hblw : bl < wr.heap.size := by omega
      have hL1 : L.length ≤ 1000 := by omega
      clear hK hX hS hR hX0 hSm hSt hb
      generalize K k = Kk at *
      generalize hXe : X k = x at *
      generalize S k = body at *
      generalize R k = room at *
      clear hXe
      by_cases h5 : 100 < body.size
      · go_wp2_with fail
        go_roundw
        case rel => exact ⟨k + 1, base2, p, xcap, L, by omega, by go_num, HS.out, HB.out⟩
        case measure => simp [intOf]; omega
      · by_cases k0 : Kk = 0
        · subst k0
          have HRP := Lib.hid (fun w hs => rput_any base2 win p xcap L x body hL1 hlen.2.2.1 hXk w hs)
          have HOP := Lib.hid (fun w o => oput_any b g1 g2 base2 win L x body hXk w o)
          generalize putK base2 win L x body = kk at *
          generalize putLx base2 win L x body = L2 at *
          go_wp2_with fail
          go_region_held3 (fun w' => w'.cell? ⟨w1.heap.size, 0, none⟩ = some (.int .u32 (base2 : Int)) ∧ w'.cell? ⟨w1.heap.size, 1, none⟩ = some (.int .i64 (win : Int)) ∧ w'.cell? ⟨w1.heap.size, 2, none⟩ = some (.slice p L.length xcap) ∧ w'.cell? ⟨bl, off + k * 4 + 1, none⟩ = some (.int .u32 (x : Int)) ∧ w'.cell? ⟨bl, off + k * 4 + 2, none⟩ = some (.string body))            (repeat' (first | (with_reducible assumption) | refine ⟨?_, ?_⟩ | refine kset ?_ (by with_reducible assumption) | refine kalloc ?_ _ | refine kdrew ?_))            ((go_at_call 8; refine (HRP.out _ (by first | exact HS.out.drew.ro | exact (HS.out.al _).ro)).mono ?_; rintro e w3 ⟨p3, cap3, rfl, hb3, hown3⟩; have hk3 : Kept [] wr w3 := Kept.trans (w := _) (by first | exact (Kept.refl [] _).drew | exact ((Kept.refl [] _).alloc _).drew) (Kept.of_below hb3 []) (fun x hx => .inl hx); have lb3 : bl < w3.heap.size := Nat.lt_of_lt_of_le hblw hk3.size; have lx3 : w1.heap.size < w3.heap.size := Nat.lt_of_lt_of_le hbx hk3.size; have ge0 := (HS.out.kept hk3).blk.free 0; have ge1 := (HS.out.kept hk3).blk.free 1; have ge2 := (HS.out.kept hk3).blk.free 2; obtain ⟨e0, e1, e2⟩ := (HS.out.kept hk3).cells; have f1 := hk3.cell cX (by simp); have f2 := hk3.cell cS (by simp); (try (have Y3 : Blk w3 wr.heap.size #[.int .u32 0, .int .i64 0, .slice none 0 0] 31 := Blk.below (w := _) (by exact Blk.drew (Blk.new wr _ _)) hb3 (by simp); have z0 := Y3.free 0; have z1 := Y3.free 1; have z2 := Y3.free 2; have y3 := Y3.cell 0; have y4 := Y3.cell 1; have y5 := Y3.cell 2; have yn2 : bl ≠ wr.heap.size := Nat.ne_of_lt hblw; have yn : w1.heap.size ≠ wr.heap.size := Nat.ne_of_lt hbx))))
          all_goals clear y0 y1 y2 cX cS cR cK
          ·
            go_wp2_with fail
            generalize hw4 : World.setCell _ _ _ = w4a
            have M4a : Mid w4a b g1 g2 w1.heap.size base2 win L (base2) p3 cap3 L2 := by
              rw [← hw4]
              exact HS.out.mid2 hk3 hown3 (kfill3 _ _ _ _ _ _) (out3 (HS.out.kept hk3).blk _ _ _)
            have hB4a : Below W.heap.size W w4a := by
              rw [← hw4]
              exact HB.out.trans (((hk3.mono (r' := [w1.heap.size, w3.heap.size]) (fun x hx => by simp at hx)).trans (kfill3 _ _ _ _ _ _) (fun x hx => .inl hx)).below hWx (by simp; omega))
            clear hw4
            generalize hw5 : World.alloc w4a _ = w4
            have M4 : Mid w4 b g1 g2 w1.heap.size base2 win L (base2) p3 cap3 L2 := by
              rw [← hw5]
              exact M4a.kept ((Kept.refl [] _).alloc _)
            have hB4 : Below W.heap.size W w4 := by
              rw [← hw5]
              exact hB4a.alloc hB4a.size _
            clear hw5 M4a hB4a hb3 hown3 hk3 ge0 ge1 ge2 e0 e1 e2 f1 f2
            have cX := kbelow hB4 hbl HCX.out
            have cS := kbelow hB4 hbl HCS.out
            have HM4 := Lib.hid M4
            have HB4 := Lib.hid hB4
            have hsz4 := hB4.size
            have bk : (kk != kk) = false := by simp
            clear M4 hB4
            go_region_held3 (fun w' => w'.cell? ⟨bl, off + k * 4 + 1, none⟩ = some (.int .u32 (x : Int)) ∧ w'.cell? ⟨bl, off + k * 4 + 2, none⟩ = some (.string body))  (repeat' (first | (with_reducible assumption) | refine ⟨?_, ?_⟩ | refine kset ?_ (by with_reducible assumption) | refine kalloc ?_ _ | refine kdrew ?_))  ((go_at_call 9; refine (HOP.out _ (by exact HM4.out.ord.drewN 1)).mono ?_; rintro e w5 ⟨rfl, hO5, hK5⟩; have hb5 : Below W.heap.size w4 w5 := Below.trans (b := _) (by exact (Below.refl _ _).drew) (oact_below hK5 (by exact HB4.out.size) l1 l2 l3); have f1 := kbelow hb5 hbl cX; have f2 := kbelow hb5 hbl cS))
            have HT := Lib.hid (HM4.out.done hO5 (Kept.trans (w := _) ((Kept.refl [b, g1, g2] w4).drew) hK5 (fun x hx => .inl hx)))
            have HB6 := Lib.hid (HB4.out.trans hb5)
            clear hO5 hK5 hb5 f1 f2 cX cS HM4 HB4 HOP HRP
            -- the answers are compared: region 23
            have hT := HT.out
            obtain ⟨y0, y1, y2⟩ := hT.cells
            have cX := kbelow HB6.out hbl HCX.out
            have hlen6 := hT.ord.len
            have hL6 : L2.length ≤ 1000 := by omega
            have HHO := Lib.hid (fun w o => ohas_is b g1 g2 (base2) win L2 x hXk w o)
            have HHR := Lib.hid (fun w hs => rhas_any (base2) win p3 cap3 L2 x hL6 w hs)
            have HBO := Lib.hid (fun w o => obase_is b g1 g2 (base2) win L2 w o)
            have HLO := Lib.hid (fun w o => olen_is b g1 g2 (base2) win L2 w o)
            generalize hasR L2 x = hr at *
            have br : (hr != hr) = false := by simp
            have bb : (((base2 : Nat) : Int) != ((base2 : Nat) : Int)) = false := by simp
            have bll : ((L2.length : Int) != (L2.length : Int)) = false := by simp
            have hbx6 := hT.blk.lt
            clear hT
            go_wp2_with fail
            go_region_held3 (fun w' => w'.cell? ⟨w1.heap.size, 0, none⟩ = some (.int .u32 ((base2 : Nat) : Int)) ∧ w'.cell? ⟨w1.heap.size, 1, none⟩ = some (.int .i64 (win : Int)) ∧ w'.cell? ⟨w1.heap.size, 2, none⟩ = some (.slice p3 L2.length cap3) ∧ w'.cell? ⟨bl, off + k * 4 + 1, none⟩ = some (.int .u32 (x : Int)))  (repeat' (first | (with_reducible assumption) | refine ⟨?_, ?_⟩ | refine kset ?_ (by with_reducible assumption) | refine kalloc ?_ _ | refine kdrew ?_ | refine kdrewN ?_ _))  (first | (go_at_call 12; refine (HBO.out _ (by exact HT.out.drew.ord)).mono ?_; rintro e w' ⟨rfl, rfl⟩) | (go_at_call 13; refine (HLO.out _ (by exact HT.out.drew.ord)).mono ?_; rintro e w' ⟨rfl, rfl⟩) | (go_at_call 14; refine (HHO.out _ (by exact HT.out.drew.ord)).mono ?_; rintro e w' ⟨rfl, n9, rfl⟩) | (go_at_call 15; refine (HHR.out _ (by first | exact (HT.out.kept ((Kept.refl [] _).drewN _)).ro | exact HT.out.drew.ro | exact (HT.out.drew.kept ((Kept.refl [] _).drewN _)).ro)).mono ?_; rintro e w9 ⟨rfl, hb9⟩; have hk9 : Kept [] w5 w9 := Kept.trans (w := _) (by first | exact (Kept.refl [] _).drewN _ | exact (Kept.refl [] _).drew.drewN _) (Kept.of_below hb9 []) (fun x hx => .inl hx); obtain ⟨e0, e1, e2⟩ := (HT.out.kept hk9).cells; have f1 := hk9.cell cX (by simp)))
            go_wp2_with fail
            go_roundw
            case rel => exact ⟨k + 1, base2, p3, cap3, L2, by omega, by go_num, HT.out.kept hk9, HB6.out.trans (hk9.below HB6.out.size (by simp))⟩
            case measure => simp [intOf]; omega
          ·
            go_wp2_with fail
            generalize hw4 : World.setCell _ _ _ = w4
            have M4 : Mid w4 b g1 g2 w1.heap.size base2 win L (base2) p3 cap3 L2 := by
              rw [← hw4]
              exact HS.out.mid1 hk3 (by simpa using hown3) (kfill6 _ _ _ _ _ _ _ _ _) (fill6 (HS.out.kept hk3).blk (Nat.ne_of_lt hbx) _ _ _ _ _ _)
            have hB4 : Below W.heap.size W w4 := by
              rw [← hw4]
              exact HB.out.trans (((hk3.mono (r' := [w1.heap.size, wr.heap.size]) (fun x hx => by simp at hx)).trans (kfill6 _ _ _ _ _ _ _ _ _) (fun x hx => .inl hx)).below hWx (by simp; omega))
            clear hw4 hb3 hown3 hk3 ge0 ge1 ge2 e0 e1 e2 f1 f2 Y3 z0 z1 z2 y3 y4 y5
            have cX := kbelow hB4 hbl HCX.out
            have cS := kbelow hB4 hbl HCS.out
            have HM4 := Lib.hid M4
            have HB4 := Lib.hid hB4
            have hsz4 := hB4.size
            have bk : (kk != kk) = false := by simp
            clear M4 hB4
            go_region_held3 (fun w' => w'.cell? ⟨bl, off + k * 4 + 1, none⟩ = some (.int .u32 (x : Int)) ∧ w'.cell? ⟨bl, off + k * 4 + 2, none⟩ = some (.string body))  (repeat' (first | (with_reducible assumption) | refine ⟨?_, ?_⟩ | refine kset ?_ (by with_reducible assumption) | refine kalloc ?_ _ | refine kdrew ?_))  ((go_at_call 9; refine (HOP.out _ (by exact HM4.out.ord.drewN 1)).mono ?_; rintro e w5 ⟨rfl, hO5, hK5⟩; have hb5 : Below W.heap.size w4 w5 := Below.trans (b := _) (by exact (Below.refl _ _).drew) (oact_below hK5 (by exact HB4.out.size) l1 l2 l3); have f1 := kbelow hb5 hbl cX; have f2 := kbelow hb5 hbl cS))
            have HT := Lib.hid (HM4.out.done hO5 (Kept.trans (w := _) ((Kept.refl [b, g1, g2] w4).drew) hK5 (fun x hx => .inl hx)))
            have HB6 := Lib.hid (HB4.out.trans hb5)
            clear hO5 hK5 hb5 f1 f2 cX cS HM4 HB4 HOP HRP
            -- the answers are compared: region 23
            have hT := HT.out
            obtain ⟨y0, y1, y2⟩ := hT.cells
            have cX := kbelow HB6.out hbl HCX.out
            have hlen6 := hT.ord.len
            have hL6 : L2.length ≤ 1000 := by omega
            have HHO := Lib.hid (fun w o => ohas_is b g1 g2 (base2) win L2 x hXk w o)
            have HHR := Lib.hid (fun w hs => rhas_any (base2) win p3 cap3 L2 x hL6 w hs)
            have HBO := Lib.hid (fun w o => obase_is b g1 g2 (base2) win L2 w o)
            have HLO := Lib.hid (fun w o => olen_is b g1 g2 (base2) win L2 w o)
            generalize hasR L2 x = hr at *
            have br : (hr != hr) = false := by simp
            have bb : (((base2 : Nat) : Int) != ((base2 : Nat) : Int)) = false := by simp
            have bll : ((L2.length : Int) != (L2.length : Int)) = false := by simp
            have hbx6 := hT.blk.lt
            clear hT
            go_wp2_with fail
            go_region_held3 (fun w' => w'.cell? ⟨w1.heap.size, 0, none⟩ = some (.int .u32 ((base2 : Nat) : Int)) ∧ w'.cell? ⟨w1.heap.size, 1, none⟩ = some (.int .i64 (win : Int)) ∧ w'.cell? ⟨w1.heap.size, 2, none⟩ = some (.slice p3 L2.length cap3) ∧ w'.cell? ⟨bl, off + k * 4 + 1, none⟩ = some (.int .u32 (x : Int)))  (repeat' (first | (with_reducible assumption) | refine ⟨?_, ?_⟩ | refine kset ?_ (by with_reducible assumption) | refine kalloc ?_ _ | refine kdrew ?_ | refine kdrewN ?_ _))  (first | (go_at_call 12; refine (HBO.out _ (by exact HT.out.drew.ord)).mono ?_; rintro e w' ⟨rfl, rfl⟩) | (go_at_call 13; refine (HLO.out _ (by exact HT.out.drew.ord)).mono ?_; rintro e w' ⟨rfl, rfl⟩) | (go_at_call 14; refine (HHO.out _ (by exact HT.out.drew.ord)).mono ?_; rintro e w' ⟨rfl, n9, rfl⟩) | (go_at_call 15; refine (HHR.out _ (by first | exact (HT.out.kept ((Kept.refl [] _).drewN _)).ro | exact HT.out.drew.ro | exact (HT.out.drew.kept ((Kept.refl [] _).drewN _)).ro)).mono ?_; rintro e w9 ⟨rfl, hb9⟩; have hk9 : Kept [] w5 w9 := Kept.trans (w := _) (by first | exact (Kept.refl [] _).drewN _ | exact (Kept.refl [] _).drew.drewN _) (Kept.of_below hb9 []) (fun x hx => .inl hx); obtain ⟨e0, e1, e2⟩ := (HT.out.kept hk9).cells; have f1 := hk9.cell cX (by simp)))
            go_wp2_with fail
            go_roundw
            case rel => exact ⟨k + 1, base2, p3, cap3, L2, by omega, by go_num, HT.out.kept hk9, HB6.out.trans (hk9.below HB6.out.size (by simp))⟩
            case measure => simp [intOf]; omega
        · have b0 : (Kk == 0) = false := by rw [beq_eq_false_iff_ne]; exact k0
          have HRN := Lib.hid (fun w hs => rnext_any base2 win p xcap L room hL1 hlen.2.2.1 w hs)
          have HON := Lib.hid (fun w o => onext_any b g1 g2 base2 win L room w o)
          generalize nxBase base2 L room = base3 at *
          generalize nxL base2 L room = L2 at *
          generalize nxBody base2 L room = nb at *
          generalize nextB base2 L room = ok at *
          go_wp2_with fail
          go_region_held3 (fun w' => w'.cell? ⟨w1.heap.size, 0, none⟩ = some (.int .u32 (base2 : Int)) ∧ w'.cell? ⟨w1.heap.size, 1, none⟩ = some (.int .i64 (win : Int)) ∧ w'.cell? ⟨w1.heap.size, 2, none⟩ = some (.slice p L.length xcap) ∧ w'.cell? ⟨bl, off + k * 4 + 3, none⟩ = some (.int .i64 room))            (repeat' (first | (with_reducible assumption) | refine ⟨?_, ?_⟩ | refine kset ?_ (by with_reducible assumption) | refine kalloc ?_ _ | refine kdrew ?_))            ((go_at_call 10; refine (HRN.out _ (by first | exact HS.out.drew.ro | exact (HS.out.al _).ro)).mono ?_; rintro e w3 ⟨p3, cap3, rfl, hb3, hown3⟩; have hk3 : Kept [] wr w3 := Kept.trans (w := _) (by first | exact (Kept.refl [] _).drew | exact ((Kept.refl [] _).alloc _).drew) (Kept.of_below hb3 []) (fun x hx => .inl hx); have lb3 : bl < w3.heap.size := Nat.lt_of_lt_of_le hblw hk3.size; have lx3 : w1.heap.size < w3.heap.size := Nat.lt_of_lt_of_le hbx hk3.size; have ge0 := (HS.out.kept hk3).blk.free 0; have ge1 := (HS.out.kept hk3).blk.free 1; have ge2 := (HS.out.kept hk3).blk.free 2; obtain ⟨e0, e1, e2⟩ := (HS.out.kept hk3).cells; have f1 := hk3.cell cX (by simp); have f2 := hk3.cell cR (by simp); (try (have Y3 : Blk w3 wr.heap.size #[.int .u32 0, .int .i64 0, .slice none 0 0] 31 := Blk.below (w := _) (by exact Blk.drew (Blk.new wr _ _)) hb3 (by simp); have z0 := Y3.free 0; have z1 := Y3.free 1; have z2 := Y3.free 2; have y3 := Y3.cell 0; have y4 := Y3.cell 1; have y5 := Y3.cell 2; have yn2 : bl ≠ wr.heap.size := Nat.ne_of_lt hblw; have yn : w1.heap.size ≠ wr.heap.size := Nat.ne_of_lt hbx))))
          all_goals clear y0 y1 y2 cX cS cR cK
          ·
            go_wp2_with fail
            generalize hw4 : World.setCell _ _ _ = w4a
            have M4a : Mid w4a b g1 g2 w1.heap.size base2 win L (base3) p3 cap3 L2 := by
              rw [← hw4]
              exact HS.out.mid2 hk3 hown3 (kfill3 _ _ _ _ _ _) (out3 (HS.out.kept hk3).blk _ _ _)
            have hB4a : Below W.heap.size W w4a := by
              rw [← hw4]
              exact HB.out.trans (((hk3.mono (r' := [w1.heap.size, w3.heap.size]) (fun x hx => by simp at hx)).trans (kfill3 _ _ _ _ _ _) (fun x hx => .inl hx)).below hWx (by simp; omega))
            clear hw4
            generalize hw5 : World.alloc w4a _ = w4
            have M4 : Mid w4 b g1 g2 w1.heap.size base2 win L (base3) p3 cap3 L2 := by
              rw [← hw5]
              exact M4a.kept ((Kept.refl [] _).alloc _)
            have hB4 : Below W.heap.size W w4 := by
              rw [← hw5]
              exact hB4a.alloc hB4a.size _
            clear hw5 M4a hB4a hb3 hown3 hk3 ge0 ge1 ge2 e0 e1 e2 f1 f2
            have cR := kbelow hB4 hbl HCR.out
            have HM4 := Lib.hid M4
            have HB4 := Lib.hid hB4
            have hsz4 := hB4.size
            have bk : (ok != ok) = false := by simp
            clear M4 hB4
            go_wp2_with fail
            refine (HON.out _ HM4.out.ord).mono ?_
            rintro e w5 ⟨rfl, hO5, hK5⟩
            have hb5 : Below W.heap.size w4 w5 := oact_below hK5 (by exact HB4.out.size) l1 l2 l3
            have HT := Lib.hid (HM4.out.done hO5 hK5)
            have HB6 := Lib.hid (HB4.out.trans hb5)
            clear hO5 hK5 hb5 cR HM4 HB4 HON HRN
            go_wp2_with fail
            -- the answers are compared: region 23
            have hT := HT.out
            obtain ⟨y0, y1, y2⟩ := hT.cells
            have cX := kbelow HB6.out hbl HCX.out
            have hlen6 := hT.ord.len
            have hL6 : L2.length ≤ 1000 := by omega
            have HHO := Lib.hid (fun w o => ohas_is b g1 g2 (base3) win L2 x hXk w o)
            have HHR := Lib.hid (fun w hs => rhas_any (base3) win p3 cap3 L2 x hL6 w hs)
            have HBO := Lib.hid (fun w o => obase_is b g1 g2 (base3) win L2 w o)
            have HLO := Lib.hid (fun w o => olen_is b g1 g2 (base3) win L2 w o)
            generalize hasR L2 x = hr at *
            have br : (hr != hr) = false := by simp
            have bb : (((base3 : Nat) : Int) != ((base3 : Nat) : Int)) = false := by simp
            have bll : ((L2.length : Int) != (L2.length : Int)) = false := by simp
            have hbx6 := hT.blk.lt
            clear hT
            go_wp2_with fail
            go_region_held3 (fun w' => w'.cell? ⟨w1.heap.size, 0, none⟩ = some (.int .u32 ((base3 : Nat) : Int)) ∧ w'.cell? ⟨w1.heap.size, 1, none⟩ = some (.int .i64 (win : Int)) ∧ w'.cell? ⟨w1.heap.size, 2, none⟩ = some (.slice p3 L2.length cap3) ∧ w'.cell? ⟨bl, off + k * 4 + 1, none⟩ = some (.int .u32 (x : Int)))  (repeat' (first | (with_reducible assumption) | refine ⟨?_, ?_⟩ | refine kset ?_ (by with_reducible assumption) | refine kalloc ?_ _ | refine kdrew ?_ | refine kdrewN ?_ _))  (first | (go_at_call 12; refine (HBO.out _ (by exact HT.out.drew.ord)).mono ?_; rintro e w' ⟨rfl, rfl⟩) | (go_at_call 13; refine (HLO.out _ (by exact HT.out.drew.ord)).mono ?_; rintro e w' ⟨rfl, rfl⟩) | (go_at_call 14; refine (HHO.out _ (by exact HT.out.drew.ord)).mono ?_; rintro e w' ⟨rfl, n9, rfl⟩) | (go_at_call 15; refine (HHR.out _ (by first | exact (HT.out.kept ((Kept.refl [] _).drewN _)).ro | exact HT.out.drew.ro | exact (HT.out.drew.kept ((Kept.refl [] _).drewN _)).ro)).mono ?_; rintro e w9 ⟨rfl, hb9⟩; have hk9 : Kept [] w5 w9 := Kept.trans (w := _) (by first | exact (Kept.refl [] _).drewN _ | exact (Kept.refl [] _).drew.drewN _) (Kept.of_below hb9 []) (fun x hx => .inl hx); obtain ⟨e0, e1, e2⟩ := (HT.out.kept hk9).cells; have f1 := hk9.cell cX (by simp)))
            go_wp2_with fail
            go_roundw
            case rel => exact ⟨k + 1, base3, p3, cap3, L2, by omega, by go_num, HT.out.kept hk9, HB6.out.trans (hk9.below HB6.out.size (by simp))⟩
            case measure => simp [intOf]; omega
          ·
            go_wp2_with fail
            generalize hw4 : World.setCell _ _ _ = w4
            have M4 : Mid w4 b g1 g2 w1.heap.size base2 win L (base3) p3 cap3 L2 := by
              rw [← hw4]
              exact HS.out.mid1 hk3 (by simpa using hown3) (kfill6 _ _ _ _ _ _ _ _ _) (fill6 (HS.out.kept hk3).blk (Nat.ne_of_lt hbx) _ _ _ _ _ _)
            have hB4 : Below W.heap.size W w4 := by
              rw [← hw4]
              exact HB.out.trans (((hk3.mono (r' := [w1.heap.size, wr.heap.size]) (fun x hx => by simp at hx)).trans (kfill6 _ _ _ _ _ _ _ _ _) (fun x hx => .inl hx)).below hWx (by simp; omega))
            clear hw4 hb3 hown3 hk3 ge0 ge1 ge2 e0 e1 e2 f1 f2 Y3 z0 z1 z2 y3 y4 y5
            have cR := kbelow hB4 hbl HCR.out
            have HM4 := Lib.hid M4
            have HB4 := Lib.hid hB4
            have hsz4 := hB4.size
            have bk : (ok != ok) = false := by simp
            clear M4 hB4
            go_wp2_with fail
            refine (HON.out _ HM4.out.ord).mono ?_
            rintro e w5 ⟨rfl, hO5, hK5⟩
            have hb5 : Below W.heap.size w4 w5 := oact_below hK5 (by exact HB4.out.size) l1 l2 l3
            have HT := Lib.hid (HM4.out.done hO5 hK5)
            have HB6 := Lib.hid (HB4.out.trans hb5)
            clear hO5 hK5 hb5 cR HM4 HB4 HON HRN
            go_wp2_with fail
            -- the answers are compared: region 23
            have hT := HT.out
            obtain ⟨y0, y1, y2⟩ := hT.cells
            have cX := kbelow HB6.out hbl HCX.out
            have hlen6 := hT.ord.len
            have hL6 : L2.length ≤ 1000 := by omega
            have HHO := Lib.hid (fun w o => ohas_is b g1 g2 (base3) win L2 x hXk w o)
            have HHR := Lib.hid (fun w hs => rhas_any (base3) win p3 cap3 L2 x hL6 w hs)
            have HBO := Lib.hid (fun w o => obase_is b g1 g2 (base3) win L2 w o)
            have HLO := Lib.hid (fun w o => olen_is b g1 g2 (base3) win L2 w o)
            generalize hasR L2 x = hr at *
            have br : (hr != hr) = false := by simp
            have bb : (((base3 : Nat) : Int) != ((base3 : Nat) : Int)) = false := by simp
            have bll : ((L2.length : Int) != (L2.length : Int)) = false := by simp
            have hbx6 := hT.blk.lt
            clear hT
            go_wp2_with fail
            go_region_held3 (fun w' => w'.cell? ⟨w1.heap.size, 0, none⟩ = some (.int .u32 ((base3 : Nat) : Int)) ∧ w'.cell? ⟨w1.heap.size, 1, none⟩ = some (.int .i64 (win : Int)) ∧ w'.cell? ⟨w1.heap.size, 2, none⟩ = some (.slice p3 L2.length cap3) ∧ w'.cell? ⟨bl, off + k * 4 + 1, none⟩ = some (.int .u32 (x : Int)))  (repeat' (first | (with_reducible assumption) | refine ⟨?_, ?_⟩ | refine kset ?_ (by with_reducible assumption) | refine kalloc ?_ _ | refine kdrew ?_ | refine kdrewN ?_ _))  (first | (go_at_call 12; refine (HBO.out _ (by exact HT.out.drew.ord)).mono ?_; rintro e w' ⟨rfl, rfl⟩) | (go_at_call 13; refine (HLO.out _ (by exact HT.out.drew.ord)).mono ?_; rintro e w' ⟨rfl, rfl⟩) | (go_at_call 14; refine (HHO.out _ (by exact HT.out.drew.ord)).mono ?_; rintro e w' ⟨rfl, n9, rfl⟩) | (go_at_call 15; refine (HHR.out _ (by first | exact (HT.out.kept ((Kept.refl [] _).drewN _)).ro | exact HT.out.drew.ro | exact (HT.out.drew.kept ((Kept.refl [] _).drewN _)).ro)).mono ?_; rintro e w9 ⟨rfl, hb9⟩; have hk9 : Kept [] w5 w9 := Kept.trans (w := _) (by first | exact (Kept.refl [] _).drewN _ | exact (Kept.refl [] _).drew.drewN _) (Kept.of_below hb9 []) (fun x hx => .inl hx); obtain ⟨e0, e1, e2⟩ := (HT.out.kept hk9).cells; have f1 := hk9.cell cX (by simp)))
            go_wp2_with fail
            go_roundw
            case rel => exact ⟨k + 1, base3, p3, cap3, L2, by omega, by go_num, HT.out.kept hk9, HB6.out.trans (hk9.below HB6.out.size (by simp))⟩
            case measure => simp [intOf]; omega
    · have hkl : k = len := by omega
      go_wp2_with (go_at_call 6; refine (awake_true _).mono ?_; rintro e w6 ⟨rfl, hb6⟩)
      go_ret
      exact ⟨rfl, hb.trans (hb6.mono hb.size)⟩
end Go.Proofs.Ytbfmnnjjhmmljaa
