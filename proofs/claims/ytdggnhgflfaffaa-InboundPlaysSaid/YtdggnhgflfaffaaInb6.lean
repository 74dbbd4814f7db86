/- inbound.Deliver. -/
import Derived.Test.YtdggnhgflfaffaaInb5
namespace Go.Proofs.Ytdggnhgflfaffaa
set_option maxRecDepth 20000
open Go.ChangeShapes Go.WideShapes Go.ChangeAt Go.RowKit
set_option linter.unusedVariables false

def delX (que : Nat) (x : Ist) : Ist := delN que x.L.length x
/-- memory behind Next: the order of y has moved on, the ring not yet; bd0 is noted -/
def MidD (W w : World) (b ob g1 g2 rb rg win que : Nat) (C : Nat → Int) (y : Ist) (bd0 : Nat) : Prop :=
  ∃ rg', InAt w b ob g1 g2 rb rg' win que C { y with base := nxBase y.base y.L (roomI que y), L := nxL y.base y.L (roomI que y) } bd0 ∧ (rg' = rg ∨ W.heap.size ≤ rg') ∧ Kept [b, ob, g1, g2, rb, rg] W w
set_option maxHeartbeats 8000000 in
theorem ideliver (b : Nat) (R : List Nat) (win que k : Nat) (C : Nat → Int) (x : Ist) (hf : Fine x win que k) (w : World) (h : In w b R win que C x) :
    Calls Try.prog 25 #[.pointer (some ⟨b, 0, none⟩)] w (IAct w b R win que C (delX que x) (.int .i64 (((delX que x).s.size - x.s.size : Nat) : Int))) := by
  obtain ⟨ob, g1, g2, rb, rg, rfl, h⟩ := h
  obtain ⟨c3, c11, c12, c13, c14, c15, c16, c17⟩ := h.cells
  have HA := Lib.hid h
  have hbl := hf.bl
  have hq2 := hf.q2
  have HBO : Hid (∀ p ∈ x.L, p.2.size ≤ 1000) := Lib.hid hf.bods
  obtain ⟨bd0, hbd⟩ : ∃ n, n = bodyLen x.L := ⟨_, rfl⟩
  have hnb : b ∉ [ob, g1, g2] := by have := h.ne; simp; omega
  have hssz := h.ring.lt.2.2.2
  have HRO : Hid (∀ w', Kept [] w w' → Calls Try.prog 51 #[.pointer (some ⟨rb, 0, none⟩)] w' (RRoomPost w' (roomI que x))) := Lib.hid (fun w' hk => rroom_any rb rg que x.s w' (h.ring.kept hk (by simp) (by simp)))
  have HNX := Lib.hid (fun w' (hk : Kept [] w w') => onext_any ob g1 g2 x.base win x.L (roomI que x) w' (h.ord.kept hk (by simp) (by simp) (by simp)))
  have HBD := Lib.hid hbd
  rw [← hbd] at hbl
  clear h c3 c13 c14 c15 c16 c17 hf hbd
  obtain ⟨l0, hl0⟩ : ∃ n, n = x.L.length := ⟨_, rfl⟩
  have HL0 := Lib.hid hl0
  clear hl0
  obtain ⟨body, hbody⟩ : ∃ t, t = nxBody x.base x.L (roomI que x) := ⟨_, rfl⟩
  obtain ⟨ok, hok⟩ : ∃ t, t = nextB x.base x.L (roomI que x) := ⟨_, rfl⟩
  rw [← hbody, ← hok] at HNX
  have HBY := Lib.hid hbody
  have HOK := Lib.hid hok
  clear hbody hok
  go_enter Try.func25, Try.ntmps25
  go_wp2_with fail
  go_region_held3 (fun w' => w'.cell? ⟨b, 11, none⟩ = some (.pointer (some ⟨ob, 0, none⟩)) ∧ w'.cell? ⟨b, 12, none⟩ = some (.pointer (some ⟨rb, 0, none⟩))) (first | exact ⟨c11, c12⟩ | exact ⟨kdrew c11, kdrew c12⟩ | exact ⟨d11, d12⟩ | exact ⟨e11, e12⟩) (first | (go_at_call 51; refine (HRO.out _ (by exact (Kept.refl [] _).drew)).mono ?_; rintro e wq ⟨rfl, q9, rfl⟩; have d11 := kdrewN (kdrew c11) q9; have d12 := kdrewN (kdrew c12) q9) | (go_at_call 50; refine (HNX.out _ (by exact (Kept.refl [] _).drewN _)).mono ?_; rintro e wn ⟨rfl, hon, hkn⟩; have e11 := hkn.cell d11 hnb; have e12 := hkn.cell d12 hnb))
  have hM : MidD w wn b ob g1 g2 rb rg win que C x bd0 := by
    have h1 := (HA.out.kept ((Kept.refl [] w).drewN (1 + q9)) (by simp)).ordered hon hkn
    rw [← HBD.out] at h1
    exact ⟨rg, h1, .inl rfl, ((Kept.refl [b, ob, g1, g2, rb, rg] w).drewN (1 + q9)).trans hkn (fun y hy => .inl (by simp at hy ⊢; omega))⟩
  have HM := Lib.hid hM
  rename_i hHeld
  clear hM hon hkn e11 e12 d11 d12 c11 c12 HRO HNX hHeld
  go_wp2_with fail
  go_loopg [3, 4, 5] l0 (fun g nv bv okv wr => ∃ (y : Ist) (n : Nat) (t : ByteArray) (o : Bool), delN que g y = delX que x ∧ y.L.length ≤ g ∧ nv = .int .i64 (n : Int) ∧ n + x.s.size = y.s.size ∧ bv = .string t ∧ t = nxBody y.base y.L (roomI que y) ∧ okv = .bool o ∧ o = nextB y.base y.L (roomI que y) ∧ bodyLen y.L + n = bd0 ∧ (∀ p ∈ y.L, p.2.size ≤ 1000) ∧ MidD w wr b ob g1 g2 rb rg win que C y bd0)
  case atStart => exact ⟨x, 0, body, ok, by rw [HL0.out]; rfl, by rw [HL0.out]; exact Nat.le_refl _, rfl, by simp, rfl, HBY.out, rfl, HOK.out, by rw [HBD.out]; omega, HBO.out, HM.out⟩
  case round =>
    clear HBY HOK HM hssz
    obtain ⟨y, n, body, ok, hdel, hlg, rfl, hsz, rfl, hbody, rfl, hok, hbs, hbo, hM⟩ := hrel
    obtain ⟨rg', hA, hrg, hkM⟩ := hM
    obtain ⟨c3, c11, c12, c13, c14, c15, c16, c17⟩ := hA.cells
    have HA2 := Lib.hid hA
    have HK2 := Lib.hid hkM
    have HG2 := Lib.hid hrg
    have hq := hA.ring.lt.2.2.2
    have hq : y.s.size ≤ que ∧ que ≤ 1048576 := hq
    have HDL := Lib.hid hdel
    have HBO2 := Lib.hid hbo
    have HSZ := Lib.hid hsz
    have hbs2 : n ≤ bd0 := by omega
    cases ok with
    | true =>
      replace hok := hok.symm
      obtain ⟨f, hf, hd2, hl2⟩ := delN_step hok hlg
      obtain ⟨hb1, hb2, hb3⟩ := step_len hok
      have hbody1 : (nxBody y.base y.L (roomI que y)).size ≤ 1000 := by
        obtain ⟨p, hp, e⟩ := hb3
        rw [← e]; exact hbo p hp
      have hsub : ∀ p ∈ (stepX que y).L, p.2.size ≤ 1000 := by
        intro p hp
        refine hbo p ?_
        have hp : p ∈ nxL y.base y.L (roomI que y) := hp
        unfold nxL at hp
        rw [if_pos hok] at hp
        exact List.mem_of_mem_eraseIdx hp
      have HPT := Lib.hid (put_any rb rg' que y.s (nxBody y.base y.L (roomI que y)) (nxBody y.base y.L (roomI que y)).size (by omega) (Int.min_eq_left hb2) wr hA.ring)
      rw [extract_all] at HPT
      have hst : (stepX que y).s = y.s ++ nxBody y.base y.L (roomI que y) := rfl
      have hss : (stepX que y).s.size = y.s.size + (nxBody y.base y.L (roomI que y)).size := by rw [hst, ByteArray.size_append]
      have HX := Lib.hid (And.intro hf (And.intro (hd2.symm.trans hdel) (And.intro hl2 (And.intro hb1 (And.intro hss hsub)))))
      have HXE : Hid (∀ w' rg2, InAt w' b ob g1 g2 rb rg2 win que C { y with base := nxBase y.base y.L (roomI que y), L := nxL y.base y.L (roomI que y), s := y.s ++ nxBody y.base y.L (roomI que y) } bd0 → InAt w' b ob g1 g2 rb rg2 win que C (stepX que y) bd0) := Lib.hid (fun w' rg2 h => h)
      clear hf hd2 hl2 hb1 hb2 hb3 hsub hst hdel hlg hsz hbo hkM hrg hA c3 c13 c14 c15 c16 c17 hok
      rw [← hbody] at HPT hbody1 hss
      have HBY := Lib.hid hbody
      have hwn : IntKind.i64.wrap ((n : Int) + (body.size : Int)) = (n : Int) + (body.size : Int) := IntWalk.i64_in _ (by omega)
      have HBS := Lib.hid hbs
      clear hbody hbs hss hq
      go_wp2_with fail
      refine HPT.out.mono ?_
      rintro e w3 ⟨rfl, rg3, hr3, hk3, hg3⟩
      have hA3 := HA2.out.ringed hr3 hk3 hg3
      rw [HBY.out] at hA3
      have hA3 := HXE.out w3 rg3 hA3
      obtain ⟨c3, c11, c12, c13, c14, c15, c16, c17⟩ := hA3.cells
      have HA3 := Lib.hid hA3
      have HK3 := Lib.hid (HK2.out.trans hk3 (fun z hz => by have := HG2.out; simp at hz ⊢; omega))
      have HG3 : Hid (rg3 = rg ∨ w.heap.size ≤ rg3) := Lib.hid (by have := HG2.out; have := HK2.out.size; omega)
      obtain ⟨z, hz⟩ : ∃ z, z = stepX que y := ⟨_, rfl⟩
      rw [← hz] at HX HA3 hA3
      have HRO : Hid (∀ w', Kept [] w3 w' → Calls Try.prog 51 #[.pointer (some ⟨rb, 0, none⟩)] w' (RRoomPost w' (roomI que z))) := Lib.hid (fun w' hk => rroom_any rb rg3 que z.s w' (hA3.ring.kept hk (by simp) (by simp)))
      have HNX := Lib.hid (fun w' (hk : Kept [] w3 w') => onext_any ob g1 g2 z.base win z.L (roomI que z) w' (hA3.ord.kept hk (by simp) (by simp) (by simp)))
      have HZ := Lib.hid hz
      clear c3 c13 c14 c15 c16 c17 hA3 hr3 hk3 hg3 HPT HA2 HK2 HG2 HXE hz
      obtain ⟨body2, hbody2⟩ : ∃ t, t = nxBody z.base z.L (roomI que z) := ⟨_, rfl⟩
      obtain ⟨ok2, hok2⟩ : ∃ t, t = nextB z.base z.L (roomI que z) := ⟨_, rfl⟩
      rw [← hbody2, ← hok2] at HNX
      have HBY2 := Lib.hid hbody2
      have HOK2 := Lib.hid hok2
      clear hbody2 hok2
      go_wp2_with fail
      go_region_held3 (fun w' => w'.cell? ⟨b, 11, none⟩ = some (.pointer (some ⟨ob, 0, none⟩)) ∧ w'.cell? ⟨b, 12, none⟩ = some (.pointer (some ⟨rb, 0, none⟩))) (first | exact ⟨c11, c12⟩ | exact ⟨kdrew c11, kdrew c12⟩ | exact ⟨d11, d12⟩ | exact ⟨e11, e12⟩) (first | (go_at_call 51; refine (HRO.out _ (by exact (Kept.refl [] _).drew)).mono ?_; rintro e wq ⟨rfl, q9, rfl⟩; have d11 := kdrewN (kdrew c11) q9; have d12 := kdrewN (kdrew c12) q9) | (go_at_call 50; refine (HNX.out _ (by exact (Kept.refl [] _).drewN _)).mono ?_; rintro e wn ⟨rfl, hon, hkn⟩; have e11 := hkn.cell d11 hnb; have e12 := hkn.cell d12 hnb))
      rename_i hHeld
      have HM : Hid (MidD w wn b ob g1 g2 rb rg win que C z bd0) := Lib.hid ⟨rg3, (HA3.out.kept ((Kept.refl [] w3).drewN (1 + q9)) (by simp)).ordered hon hkn, HG3.out, (HK3.out.drewN (1 + q9)).trans hkn (fun y hy => .inl (by simp at hy ⊢; omega))⟩
      clear hon hkn e11 e12 d11 d12 c11 c12 HRO HNX hHeld HA3
      go_wp2_with fail
      go_roundg (gk - 1)
      case measure => have := HX.out.1; omega
      case rel =>
        obtain ⟨x1, x2, x3, x4, x5, x6⟩ := HX.out
        have h8 := HSZ.out
        have hbb := HBY.out
        have hbs := HBS.out
        refine ⟨z, n + body.size, body2, ok2, by rw [show gk - 1 = f by omega]; exact x2, by omega, by push_cast; rfl, by rw [x5, ← hbb]; omega, rfl, HBY2.out, rfl, HOK2.out, ?_, x6, HM.out⟩
        rw [← hbb] at x4
        omega
    | false =>
      replace hok := hok.symm
      obtain ⟨e1, e2, e3⟩ := no_body hok
      have hdy : delX que x = y := by rw [← hdel]; exact delN_stop que gk y hok
      have HDY := Lib.hid hdy
      have f17 := hA.blk.free 17
      have hbw := hA.blk.lt
      have HN : Hid (n = y.s.size - x.s.size) := Lib.hid (by omega)
      have HF : Hid (∀ w', InAt w' b ob g1 g2 rb rg' win que C { y with base := nxBase y.base y.L (roomI que y), L := nxL y.base y.L (roomI que y) } (bodyLen y.L) → InB w' b [b, ob, g1, g2, rb, rg'] win que C y (bodyLen y.L)) := Lib.hid (by
        intro w' h
        rw [e2, e3] at h
        exact ⟨ob, g1, g2, rb, rg', rfl, h⟩)
      have q1 : (bd0 : Int) - (n : Int) = ((bodyLen y.L : Nat) : Int) := by omega
      have q2 : IntKind.i64.wrap ((bodyLen y.L : Nat) : Int) = ((bodyLen y.L : Nat) : Int) := IntWalk.i64_in _ (by omega)
      have HSET := Lib.hid (hA.setbd (bodyLen y.L))
      clear hA e1 e2 e3 hdy hdel hlg hbo hok hbody c3 c11 c12 c13 c14 c15 c16
      have HBL := Lib.hid (show bodyLen y.L = bodyLen y.L from rfl)
      obtain ⟨bl, hble⟩ : ∃ n, n = bodyLen y.L := ⟨_, rfl⟩
      rw [← hble] at hbs q1 q2 HSET HF
      have HBE := Lib.hid hble
      have HBS := Lib.hid hbs
      clear hble HBL hbs hq hsz
      go_wp2_with fail
      go_ret
      rw [HDY.out, ← HN.out]
      exact ⟨rfl, _, (by rw [← HBE.out]; exact HF.out _ HSET.out), HK2.out.set _ (.inl (by simp)) _, fun z hz => by have := HG2.out; simp at hz ⊢; omega⟩
end Go.Proofs.Ytdggnhgflfaffaa
