/- The walk of InboundPlays. -/
import Derived.Test.YtdggnhgflfaffaaInbEasy
import Derived.Test.YtdggnhgflfaffaaReg28b
namespace Go.Proofs.Ytdggnhgflfaffaa
set_option maxRecDepth 20000
open Go.ChangeShapes Go.WideShapes Go.ChangeAt Go.RowKit
set_option linter.unusedVariables false
set_option linter.unusedSimpArgs false

/-- the stream and the document's beside it, in block g9 -/
structure PS (W wr : World) (C : Nat → Int) (win que b g9 k : Nat) (R : List Nat) (x : Ist) (p : Option Addr) (cap : Nat) (q : Option Addr) (cap2 : Nat) (cv : Array Value) : Prop where
  i : In wr b R win que C x
  rb : Blk wr g9 cv 38
  eqv : rC C win x p cap q cap2 = cv
  cb : Blk wr W.heap.size (cfgV C) 23
  ra : RefAt wr x p cap q cap2
  pn : ∀ a, p = some a → a.block ∉ R ∧ a.block ≠ g9
  qn : ∀ a, q = some a → a.block ∉ R ∧ a.block ≠ g9
  f : Fine x win que k
  bl : Below W.heap.size W wr
  g : g9 ∉ R ∧ W.heap.size < g9
  rl : ∀ y ∈ R, W.heap.size < y
theorem ps_step {W wr wd w' wf : World} {C : Nat → Int} {win que b g9 k g11 : Nat} {R R' : List Nat} {x x' : Ist} {p p' : Option Addr} {cap cap' : Nat} {q q' : Option Addr} {cap2 cap2' : Nat} {cv : Array Value} (s : PS W wr C win que b g9 k R x p cap q cap2 cv) (hkd : Kept [] wr wd) (hf : Fine x' win que (k + 1))
    (hi : In w' b R' win que C x') (hra : RefAt w' x' p' cap' q' cap2') (hk' : Kept R wd w') (hR' : ∀ y ∈ R', y ∈ R ∨ wd.heap.size ≤ y) (hpn : ∀ a, p' = some a → a.block ∉ R') (hqn : ∀ a, q' = some a → a.block ∉ R') (hn1 : Near wd p p') (hn2 : Near wd q q')
    (hkf : Kept [g11] w' wf) (hg : wr.heap.size ≤ g11) (hgR : g11 ∉ R') (hgp : ∀ a, p' = some a → a.block ≠ g11) (hgq : ∀ a, q' = some a → a.block ≠ g11) :
    PS W (wf.setRow g9 (rC C win x' p' cap' q' cap2')) C win que b g9 (k + 1) R' x' p' cap' q' cap2' (rC C win x' p' cap' q' cap2') := by
  have hgl := s.rb.lt
  have hsd := hkd.size
  have hs' := hk'.size
  have hcl := s.cb.lt
  have hg9 : g9 ∉ R' := fun hm => by
    rcases hR' _ hm with h | h
    · exact s.g.1 h
    · omega
  have hk9 : Kept [g9] wf (wf.setRow g9 (rC C win x' p' cap' q' cap2')) := (Kept.refl _ _).setRow _ (.inl (by simp)) _
  have hp9 : ∀ a, p' = some a → a.block ≠ g9 := fun a ha => by
    rcases hn1 a ha with h | ⟨a0, h1, h2⟩
    · omega
    · have := (s.pn a0 h1).2; omega
  have hq9 : ∀ a, q' = some a → a.block ≠ g9 := fun a ha => by
    rcases hn2 a ha with h | ⟨a0, h1, h2⟩
    · omega
    · have := (s.qn a0 h1).2; omega
  have hWR : W.heap.size ∉ R := fun hm => by have := s.rl _ hm; omega
  refine ⟨?_, ?_, rfl, ?_, ?_, fun a ha => ⟨hpn a ha, hp9 a ha⟩, fun a ha => ⟨hqn a ha, hq9 a ha⟩, hf, ?_, ⟨hg9, s.g.2⟩, fun y hy => ?_⟩
  · exact (hi.kept hkf (fun y hy hm => by simp at hm; subst hm; exact hgR hy)).kept hk9 (fun y hy hm => by simp at hm; subst hm; exact hg9 hy)
  · exact (((s.rb.kept hkd (by simp)).kept hk' s.g.1).kept hkf (by simp; omega)).row _
  · exact ((((s.cb.kept hkd (by simp)).kept hk' hWR).kept hkf (by simp; omega)).kept hk9 (by simp; have := s.g.2; omega))
  · exact (hra.kept hkf (fun a ha hm => by simp at hm; exact hgp a ha hm) (fun a ha hm => by simp at hm; exact hgq a ha hm)).kept hk9 (fun a ha hm => by simp at hm; exact hp9 a ha hm) (fun a ha hm => by simp at hm; exact hq9 a ha hm)
  · have h1 : Kept R wr w' := (hkd.mono (r' := R) (fun y hy => by simp at hy)).trans hk' (fun y hy => .inl hy)
    have h2 : Kept (R ++ [g11, g9]) wr (wf.setRow g9 (rC C win x' p' cap' q' cap2')) := ((h1.mono (fun y hy => .inl (by simp [hy]))).trans hkf (fun y hy => .inl (by simp at hy ⊢; simp [hy]))).trans hk9 (fun y hy => .inl (by simp at hy ⊢; simp [hy]))
    refine s.bl.trans (h2.below s.bl.size (fun y hy => ?_))
    simp at hy
    rcases hy with h | h | h
    · have := s.rl y h; omega
    · have := s.bl.size; omega
    · have := s.g.2; omega
  · rcases hR' y hy with h | h
    · exact s.rl y h
    · omega
theorem PS.kept {W wr wd : World} {C : Nat → Int} {win que b g9 k : Nat} {R : List Nat} {x : Ist} {p : Option Addr} {cap : Nat} {q : Option Addr} {cap2 : Nat} {cv : Array Value} (s : PS W wr C win que b g9 k R x p cap q cap2 cv) (h : Kept [] wr wd) : PS W wd C win que b g9 k R x p cap q cap2 cv :=
  ⟨s.i.kept h (by simp), s.rb.kept h (by simp), s.eqv, s.cb.kept h (by simp), s.ra.kept h (by simp) (by simp), s.pn, s.qn, s.f, s.bl.trans (h.below s.bl.size (by simp)), s.g, s.rl⟩
theorem PS.mono {W wr : World} {C : Nat → Int} {win que b g9 k : Nat} {R : List Nat} {x : Ist} {p : Option Addr} {cap : Nat} {q : Option Addr} {cap2 : Nat} {cv : Array Value} (s : PS W wr C win que b g9 k R x p cap q cap2 cv) (hk : k + 1 ≤ 1000) : PS W wr C win que b g9 (k + 1) R x p cap q cap2 cv :=
  ⟨s.i, s.rb, s.eqv, s.cb, s.ra, s.pn, s.qn, (Fin0.of s.f).fine hk s.i, s.bl, s.g, s.rl⟩
theorem load_deed {w : World} {bl o : Nat} {K X N : Int} {S : ByteArray} (h0 : w.cell? ⟨bl, o, none⟩ = some (.int .i64 K)) (h1 : w.cell? ⟨bl, o + 1, none⟩ = some (.int .u32 X)) (h2 : w.cell? ⟨bl, o + 2, none⟩ = some (.string S)) (h3 : w.cell? ⟨bl, o + 3, none⟩ = some (.int .i64 N)) :
    (loadVar 41 ⟨bl, o, none⟩).run Try.prog w = .ok (.agg #[.int .i64 K, .int .u32 X, .string S, .int .i64 N]) w := by go_simp
set_option maxHeartbeats 8000000 in
theorem plays_few (C : Nat → Int) (hsm : SmallP C) (a : Option Addr) (len cap bl off : Nat) (K N : Nat → Int) (X : Nat → Nat) (S : Nat → ByteArray) (hl : len ≤ 60) (W : World)
    (ha : 0 < len → a = some ⟨bl, off, none⟩) (hlt : len = 0 ∨ bl < W.heap.size) (hK : ∀ i, i < len → W.cell? ⟨bl, off + i * 4, none⟩ = some (.int .i64 (K i))) (hX : ∀ i, i < len → W.cell? ⟨bl, off + i * 4 + 1, none⟩ = some (.int .u32 (X i : Int)))
    (hS : ∀ i, i < len → W.cell? ⟨bl, off + i * 4 + 2, none⟩ = some (.string (S i))) (hN : ∀ i, i < len → W.cell? ⟨bl, off + i * 4 + 3, none⟩ = some (.int .i64 (N i))) (hX0 : ∀ i, i < len → X i < 4294967296) (hSm : ∀ i, i < len → (S i).size ≤ maxLen) :
    Calls Try.prog 3 #[.agg (cfgV C), .slice a len cap] W (TruePost W) := by
  obtain ⟨c0, c1, c2, c3, c4, c5, c6, c7, c8, c9, c10⟩ := cfgGet C
  have HSM : Hid (∀ w, Calls Try.prog 5 #[.agg #[.int .i64 (C 0), .int .i64 (C 1), .int .i64 (C 2), .int .i64 (C 3), .int .i64 (C 4), .int .i64 (C 5), .int .i64 (C 6), .int .i64 (C 7), .int .i64 (C 8), .int .i64 (C 9), .int .i64 (C 10)]] w fun e w' => e = .returned (.bool true) ∧ Below w.heap.size w w') := Lib.hid (fun w => (small_is C w).mono (fun e w' hh => by
    obtain ⟨h1 | h1, h2⟩ := hh
    · exact ⟨h1.1, h2⟩
    · exact (h1.2 hsm).elim))
  have HN : Hid (∀ w, Calls Try.prog 6 #[.agg #[.int .i64 (C 0), .int .i64 (C 1), .int .i64 (C 2), .int .i64 (C 3), .int .i64 (C 4), .int .i64 (C 5), .int .i64 (C 6), .int .i64 (C 7), .int .i64 (C 8), .int .i64 (C 9), .int .i64 (C 10)], .int .i64 3] w (INewPost w C)) := Lib.hid (fun w => inew_good C 3 hsm.1 (by omega) (by omega) w)
  have HRN : Hid (∀ win : Nat, C 3 = (win : Int) → ∀ w, Calls Try.prog 9 #[.agg #[.int .i64 (C 0), .int .i64 (C 1), .int .i64 (C 2), .int .i64 (C 3), .int .i64 (C 4), .int .i64 (C 5), .int .i64 (C 6), .int .i64 (C 7), .int .i64 (C 8), .int .i64 (C 9), .int .i64 (C 10)]] w fun e w' => e = .returned (.agg (rC C win x0 none 0 none 0)) ∧ Below w.heap.size w w') := Lib.hid (fun win hw w => rnew C win hw w)
  have HA := Lib.hid (And.intro ha (And.intro hlt (And.intro hK (And.intro hX (And.intro hS (And.intro hN (And.intro hX0 hSm)))))))
  clear ha hlt hK hX hS hN hX0 hSm hsm
  generalize hcv : cfgV C = cv at *
  have HV := Lib.hid hcv
  clear hcv
  go_enter Try.func3, Try.ntmps3
  go_wp2_with fail
  refine (HSM.out _).mono ?_
  rintro e w1 ⟨rfl, hb1⟩
  have hB : Blk w1 W.heap.size (cfgV C) 23 := by
    rw [HV.out]
    exact (Blk.new W cv _).kept (Kept.of_below hb1 []) (by simp)
  obtain ⟨d0, d1, d2, d3, d4, d5, d6, d7, d8, d9, d10⟩ := cfgCells hB
  have HB := Lib.hid hB
  have HB1 : Hid (Below W.heap.size W w1) := Lib.hid ((below1 W _).trans (hb1.mono (by simp)))
  clear hB hb1 c0 c1 c2 c3 c4 c5 c6 c7 c8 c9 c10 HSM
  go_wp2_with fail
  refine (HN.out _).mono ?_
  rintro e w2 ⟨b, R, win, que, rfl, h3, h5, hi, hlow, hb2⟩
  have hB2 := HB.out.kept (Kept.of_below hb2 []) (by simp)
  obtain ⟨g0, g1, g2, g3, g4, g5, g6, g7, g8, g9, g10⟩ := cfgCells hB2
  have HB2 := Lib.hid hB2
  have HB3 : Hid (Below W.heap.size W w2) := Lib.hid (HB1.out.trans (hb2.mono HB1.out.size))
  have HLOW : Hid (∀ y ∈ R, W.heap.size < y) := Lib.hid (fun y hy => by have := hlow y hy; have := HB.out.lt; omega)
  have HI := Lib.hid hi
  have H35 := Lib.hid (And.intro h3 h5)
  have HRN2 := Lib.hid (HRN.out win h3)
  clear hB2 hb2 d0 d1 d2 d3 d4 d5 d6 d7 d8 d9 d10 HB HB1 HN HRN hi hlow h3 h5
  go_wp2_with fail
  refine (HRN2.out _).mono ?_
  rintro e w3 ⟨rfl, hb3⟩
  obtain ⟨cr, hcr⟩ : ∃ cr, cr = rC C win x0 none 0 none 0 := ⟨_, rfl⟩
  rw [← hcr]
  have HCR := Lib.hid hcr
  have HRZ : Hid (cr.size = 18) := Lib.hid (by rw [hcr]; rfl)
  have HRO : Hid (cr.all (·.oneCell') = true) := Lib.hid (by rw [hcr]; exact rC_one _ _ _ _ _ _ _)
  have HB4 : Hid (Below W.heap.size W w3) := Lib.hid (HB3.out.trans (hb3.mono HB3.out.size))
  have HK3 := Lib.hid (Kept.of_below hb3 [])
  clear hcr hb3 g0 g1 g2 g3 g4 g5 g6 g7 g8 g9 g10 HRN2
  go_wp2_with (refine wpList_store_rowTo rfl 38 _ _ rfl rfl (w3.heap.size) cr rfl rfl 38 rZ (by exact Blk.new _ _ _) (by rw [HRZ.out]; kernel_rfl) (by rw [HRZ.out]; rfl) HRO.out ?_)
  generalize hw4 : World.setRow _ _ _ = w4
  have hk4 : Kept [] w3 w4 := by rw [← hw4]; exact ((Kept.refl _ _).alloc _).setRow _ (.inr (Nat.le_refl _)) _
  have hk24 : Kept [] w2 w4 := HK3.out.trans hk4 (fun x hx => .inl hx)
  have HPS : Hid (PS W w4 C win que b w3.heap.size 0 R x0 none 0 none 0 cr) := Lib.hid (by
    have hl3 := HB2.out.lt
    have hs3 := HK3.out.size
    refine ⟨HI.out.kept hk24 (by simp), by rw [← hw4]; exact (Blk.new _ _ _).row cr, HCR.out.symm, HB2.out.kept hk24 (by simp), ?_, (fun a h => nomatch h), (fun a h => nomatch h), ?_, HB4.out.trans (hk4.below HB4.out.size (by simp)), ⟨fun hm => by have := HI.out.lt _ hm; omega, by omega⟩, HLOW.out⟩
    · exact ⟨⟨Src.empty w4 2, fun a h => nomatch h⟩, RU.nil w4⟩
    · have hfa := HI.out.facts
      exact ⟨by decide, by decide, (fun y h => nomatch h), by decide, by omega, hfa.2.1, hfa.2.2.2.1, (fun y h => nomatch h), by decide⟩)
  generalize hg9 : w3.heap.size = g9 at *
  clear hw4 hk4 hk24 HI HCR HRZ HRO HB2 HB3 HB4 HK3 HLOW HV hg9
  go_loopw [10] (fun iv wr => ∃ (k : Nat) (R : List Nat) (x : Ist) (p : Option Addr) (cap : Nat) (q : Option Addr) (cap2 : Nat) (cr : Array Value), k ≤ len ∧ iv = .int .i64 k ∧ PS W wr C win que b g9 k R x p cap q cap2 cr) (fun iv _ => len - (intOf iv).toNat)
  case atStart => exact ⟨0, R, x0, none, 0, none, 0, cr, Nat.zero_le _, rfl, HPS.out⟩
  case round =>
    clear HPS
    obtain ⟨k, R, x, p, xcap, q, cap2, cr, hk, rfl, hps⟩ := hrel
    have HPS := Lib.hid hps
    clear hps
    by_cases hlk : k < len
    · obtain ⟨ha, hlt, hK, hX, hS, hN, hX0, hSm⟩ := HA.out
      have hbl : bl < W.heap.size := by omega
      have ha' := ha (by omega)
      subst ha'
      have hXk := hX0 k hlk
      have hSk := hSm k hlk
      unfold maxLen at hSk
      have cK : wr.cell? ⟨bl, off + k * 4, none⟩ = some (.int .i64 (K k)) := kbelow HPS.out.bl hbl (hK k hlk)
      have cX : wr.cell? ⟨bl, off + k * 4 + 1, none⟩ = some (.int .u32 (X k : Int)) := kbelow HPS.out.bl hbl (hX k hlk)
      have cS : wr.cell? ⟨bl, off + k * 4 + 2, none⟩ = some (.string (S k)) := kbelow HPS.out.bl hbl (hS k hlk)
      have cN : wr.cell? ⟨bl, off + k * 4 + 3, none⟩ = some (.int .i64 (N k)) := kbelow HPS.out.bl hbl (hN k hlk)
      clear ha hlt hK hX hS hN hX0 hSm
      generalize K k = Kk at *
      generalize hXe : X k = xk at *
      generalize S k = body at *
      generalize N k = nk at *
      clear hXe
      by_cases h5 : 300 < body.size
      · go_wp2_with fail
        go_roundw
        case rel => exact ⟨k + 1, R, x, p, xcap, q, cap2, cr, by omega, by go_num, HPS.out.mono (by omega)⟩
        case measure => simp [intOf]; omega
      · go_wp2_with fail
        have HGR : Hid (g9 ∉ R ∧ bl ∉ R) := Lib.hid ⟨HPS.out.g.1, fun hm => by have := HPS.out.rl _ hm; omega⟩
        have hbw : bl < wr.heap.size := by have := HPS.out.bl.size; omega
        have hg9w : g9 < wr.heap.size := HPS.out.rb.lt
        have hg9b : bl < g9 := by have := HPS.out.g.2; omega
        have HSD : Hid (∀ wa wb r, g9 ∉ r ∧ bl ∉ r → Kept r wa wb → (Blk wa g9 cr 38 ∧ wa.cell? ⟨bl, off + k * 4, none⟩ = some (.int .i64 Kk) ∧ wa.cell? ⟨bl, off + k * 4 + 1, none⟩ = some (.int .u32 (xk : Int)) ∧ wa.cell? ⟨bl, off + k * 4 + 2, none⟩ = some (.string body) ∧ wa.cell? ⟨bl, off + k * 4 + 3, none⟩ = some (.int .i64 nk)) →
            (Blk wb g9 cr 38 ∧ wb.cell? ⟨bl, off + k * 4, none⟩ = some (.int .i64 Kk) ∧ wb.cell? ⟨bl, off + k * 4 + 1, none⟩ = some (.int .u32 (xk : Int)) ∧ wb.cell? ⟨bl, off + k * 4 + 2, none⟩ = some (.string body) ∧ wb.cell? ⟨bl, off + k * 4 + 3, none⟩ = some (.int .i64 nk))) := Lib.hid (fun wa wb r hr hk h => ⟨h.1.kept hk hr.1, hk.cell h.2.1 hr.2, hk.cell h.2.2.1 hr.2, hk.cell h.2.2.2.1 hr.2, hk.cell h.2.2.2.2 hr.2⟩)
        have HRZ : Hid (cr.size = 18) := Lib.hid (by rw [← HPS.out.eqv]; rfl)
        have HDO : Hid (∀ w, Kept [] wr w → Calls Try.prog 10 #[.pointer (some ⟨b, 0, none⟩), .agg cr, .agg #[.int .i64 Kk, .int .u32 (xk : Int), .string body, .int .i64 nk]] w (fun e w' => ∃ x', Fine x' win que (k + 1) ∧ DPost w b R p q win que C x' e w')) := Lib.hid (fun w hk => by
          have s := HPS.out.kept hk
          rw [← s.eqv]
          exact do_any C win que k b R x p xcap q cap2 xk Kk nk body hXk (by omega) s.f (by omega) H35.out.1 H35.out.2 w s.i s.ra (fun a ha => (s.pn a ha).1) (fun a ha => (s.qn a ha).1))
        have HS0 : Hid (Blk wr.drew g9 cr 38 ∧ wr.drew.cell? ⟨bl, off + k * 4, none⟩ = some (.int .i64 Kk) ∧ wr.drew.cell? ⟨bl, off + k * 4 + 1, none⟩ = some (.int .u32 (xk : Int)) ∧ wr.drew.cell? ⟨bl, off + k * 4 + 2, none⟩ = some (.string body) ∧ wr.drew.cell? ⟨bl, off + k * 4 + 3, none⟩ = some (.int .i64 nk)) := Lib.hid ⟨HPS.out.rb.drew, kdrew cK, kdrew cX, kdrew cS, kdrew cN⟩
        clear cK cX cS cN
        refine wp_region_held_drew (S := fun w' => Blk w' g9 cr 38 ∧ w'.cell? ⟨bl, off + k * 4, none⟩ = some (.int .i64 Kk) ∧ w'.cell? ⟨bl, off + k * 4 + 1, none⟩ = some (.int .u32 (xk : Int)) ∧ w'.cell? ⟨bl, off + k * 4 + 2, none⟩ = some (.string body) ∧ w'.cell? ⟨bl, off + k * 4 + 3, none⟩ = some (.int .i64 nk)) (by kernel_rfl) HS0.out (fun hHeld => ?_)
        refine tk 0 (some 70) (.pointer (some ⟨b, 0, none⟩)) rfl (by rfl) (by kernel_rfl) (by kernel_rfl) (by kernel_rfl) (fun _ _ _ h => h) (by kernel_rfl) (fun _ _ => by kernel_rfl) hHeld ?_
        refine tk 1 (some 71) (.agg cr) rfl (by rfl) (by kernel_rfl) (by kernel_rfl) (by kernel_rfl) (fun _ _ _ h => h) (by kernel_rfl) (fun w' hS => run_load_I (.tmp 9) (by rfl) g9 (by kernel_rfl) hS.1 HRZ.out) hHeld ?_
        refine tk 2 (some 72) (.slice (some ⟨bl, off, none⟩) len cap) rfl (by rfl) (by kernel_rfl) (by kernel_rfl) (by kernel_rfl) (fun _ _ _ h => h) (by kernel_rfl) (fun _ _ => by kernel_rfl) hHeld ?_
        refine tk 3 (some 73) (.int .i64 (k : Int)) rfl (by rfl) (by kernel_rfl) (by kernel_rfl) (by kernel_rfl) (fun _ _ _ h => h) (by kernel_rfl) (fun _ _ => by kernel_rfl) hHeld ?_
        refine tk 4 (some 74) (.pointer (some ⟨bl, off + k * 4, none⟩)) rfl (by rfl) (by kernel_rfl) (by kernel_rfl) (by kernel_rfl) (fun _ _ _ h => h) (by kernel_rfl) (fun w' hS => run_index (.tmp 72) (.tmp 73) (by rfl) bl off len cap k (by kernel_rfl) (by kernel_rfl) hlk) hHeld ?_
        refine tk 5 (some 75) (.agg #[.int .i64 Kk, .int .u32 (xk : Int), .string body, .int .i64 nk]) rfl (by rfl) (by kernel_rfl) (by kernel_rfl) (by kernel_rfl) (fun _ _ _ h => h) (by kernel_rfl) (fun w' hS => run_load_at 41 (.tmp 74) (by rfl) ⟨bl, off + k * 4, none⟩ (by kernel_rfl) (load_deed hS.2.1 hS.2.2.1 hS.2.2.2.1 hS.2.2.2.2)) hHeld ?_
        refine wpAnyH_ready (rs := [6, 10]) (by kernel_rfl) (by simp) (AllReadyH.cons rfl (fun K hK => ?_) (AllReadyH.cons rfl (fun K hK => ?_) AllReadyH.nil))
        · refine st_call 6 (some 76) (by kernel_rfl) (by rfl) 10 #[.pointer (some ⟨b, 0, none⟩), .agg cr, .agg #[.int .i64 Kk, .int .u32 (xk : Int), .string body, .int .i64 nk]] (by kernel_rfl) (HDO.out _ (Kept.refl [] wr).drew) hK ?_
          rintro e w' ⟨x', hf', R', p', cap', q', cap2', rfl, hi', hra', hk', hR', hpn, hqn, hn1, hn2⟩
          refine ⟨_, rfl, HSD.out _ _ R HGR.out hk' hHeld, fun hHeld4 => ?_⟩
          obtain ⟨cr2, hcr2⟩ : ∃ cr2, cr2 = rC C win x' p' cap' q' cap2' := ⟨_, rfl⟩
          rw [← hcr2]
          have HRZ2 : Hid (cr2.size = 18) := Lib.hid (by rw [hcr2]; rfl)
          have HRO2 : Hid (cr2.all (·.oneCell') = true) := Lib.hid (by rw [hcr2]; exact rC_one _ _ _ _ _ _ _)
          have HDP := Lib.hid (And.intro hf' (And.intro hi' (And.intro hra' (And.intro hk' (And.intro hR' (And.intro hpn (And.intro hqn (And.intro hn1 hn2))))))))
          have HCR2 := Lib.hid hcr2
          have hsw' := hk'.size
          clear hf' hi' hra' hk' hR' hpn hqn hn1 hn2 hcr2
          refine tk 7 (some 69) (.tuple #[.agg cr2, .bool true]) rfl (by rfl) (by kernel_rfl) (by kernel_rfl) (by kernel_rfl) (fun _ _ _ h => h) (by kernel_rfl) (fun _ _ => by kernel_rfl) hHeld4 ?_
          refine tk 8 (some 77) (.agg cr2) rfl (by rfl) (by kernel_rfl) (by kernel_rfl) (by kernel_rfl) (fun _ _ _ h => h) (by kernel_rfl) (fun _ _ => by kernel_rfl) hHeld4 ?_
          refine tk 9 (some 78) (.bool true) rfl (by rfl) (by kernel_rfl) (by kernel_rfl) (by kernel_rfl) (fun _ _ _ h => h) (by kernel_rfl) (fun _ _ => by kernel_rfl) hHeld4 ?_
          refine an_alloc 10 (some 11) (by kernel_rfl) rfl (by kernel_rfl) (by rfl) (by rfl) (HSD.out _ _ [] (by simp) ((Kept.refl [] _).alloc _) hHeld4) (fun hHeld5 => ?_)
          have hl9 : g9 < w'.heap.size := hHeld4.1.lt
          refine an_store 11 none (by kernel_rfl) rfl (by kernel_rfl) (by rfl) (.tmp 11) (.tmp 77) (by rfl) w'.heap.size cr2 rZ (by kernel_rfl) (by kernel_rfl) (Blk.new _ _ _) HRZ2.out (by rfl) HRO2.out (HSD.out _ _ [w'.heap.size] (by simp; omega) ((Kept.refl _ _).setRow _ (.inl (by simp)) _) hHeld5) (fun hHeld6 => ?_)
          refine tk 12 (some 12) (.bool true) rfl (by rfl) (by kernel_rfl) (by kernel_rfl) (by kernel_rfl) (fun _ _ _ h => h) (by kernel_rfl) (fun _ _ => by kernel_rfl) hHeld6 ?_
          refine wpAnyH_done (by kernel_rfl) ?_ _
          simp only [Act.put, List.setIfInBounds_toArray, List.set_cons_zero, List.set_cons_succ]
          have hkf : Kept [w'.heap.size] w' ((w'.alloc (.cells rZ 38)).setRow w'.heap.size cr2) := ((Kept.refl _ _).alloc _).setRow _ (.inl (by simp)) _
          have hb11 := (Blk.new w' rZ 38).row cr2
          have hPS2 : ∀ wg, wg = ((w'.alloc (.cells rZ 38)).setRow w'.heap.size cr2).setRow g9 cr2 → PS W wg C win que b g9 (k + 1) R' x' p' cap' q' cap2' cr2 := fun wg hwg => by
            obtain ⟨hf', hi', hra', hk', hR', hpn, hqn, hn1, hn2⟩ := HDP.out
            rw [hwg]
            rw [HCR2.out] at hkf ⊢
            exact ps_step HPS.out ((Kept.refl [] wr).drew) hf' hi' hra' hk' hR' hpn hqn hn1 hn2 hkf (by have := hk'.size; exact this) (fun hm => by have := hi'.lt _ hm; omega) (fun a ha => by have := hra'.ro.lt a ha; omega) (fun a ha => by have := hra'.ru.lt a ha; omega)
          generalize hgg : w'.heap.size = g11 at *
          generalize hwf : (w'.alloc (.cells rZ 38)).setRow g11 cr2 = wf at *
          have hlg : g9 ≠ g11 := by omega
          have HB9 : Hid (Blk wf g9 cr 38) := Lib.hid hHeld6.1
          have HP2 := Lib.hid hPS2
          have HB11 := Lib.hid hb11
          clear hPS2 hkf hwf hgg
          go_wp2_with (first | (refine wpList_load_row rfl 38 _ rfl (g11) rfl 38 cr2 (0, 0) _ (by exact HB11.out) Try.underlying38 rfl (by rw [HRZ2.out]; kernel_rfl) ?_) | (refine wpList_store_rowTo rfl 38 _ _ rfl rfl (g9) cr2 rfl rfl 38 cr (by exact HB9.out) (by rw [HRZ2.out]; kernel_rfl) (by rw [HRZ2.out]; exact HRZ.out) HRO2.out ?_))
          have HPS2 : Hid (PS W (wf.setRow g9 cr2) C win que b g9 (k + 1) R' x' p' cap' q' cap2' cr2) := Lib.hid (HP2.out _ rfl)
          have HQ : Hid (∀ w, PS W w C win que b g9 (k + 1) R' x' p' cap' q' cap2' cr2 →
              Calls Try.prog 12 #[.agg cr2] w (fun e w' => e = .returned (.int .u32 (ackN x' : Int)) ∧ Below w.heap.size w w') ∧
              Calls Try.prog 13 #[.pointer (some ⟨b, 0, none⟩)] w (SameD w (.bool (endB x'))) ∧
              Calls Try.prog 14 #[.agg cr2] w (fun e w' => e = .returned (.bool (endB x')) ∧ Below w.heap.size w w') ∧
              Calls Try.prog 16 #[.pointer (some ⟨b, 0, none⟩)] w (LackPost w (lacksL x')) ∧
              Calls Try.prog 17 #[.agg cr2] w (LackPost w (lacksL x')) ∧
              Calls Try.prog 18 #[.pointer (some ⟨b, 0, none⟩)] w (SameD w (.int .i64 (heldN x' : Int))) ∧
              Calls Try.prog 19 #[.agg cr2] w (fun e w' => e = .returned (.int .i64 (heldN x' : Int)) ∧ Below w.heap.size w w') ∧
              Calls Try.prog 11 #[.pointer (some ⟨b, 0, none⟩)] w (SameD w (.tuple #[.int .u32 (ackN x' : Int), .int .i64 (win : Int)])) ∧
              w.cell? ⟨W.heap.size, 3, none⟩ = some (.int .i64 (win : Int))) := Lib.hid (by
            intro w s
            have hbase : x'.base < 2147483648 := by have := s.f.base; have := s.f.small; omega
            have hfa := s.i.facts
            have hbl2 := s.f.bl
            rw [← s.eqv]
            exact ⟨rack C win x' p' cap' q' cap2' hbase w, iended b R' win que C x' w s.i, (rended C win x' p' cap' q' cap2' w).mono (fun e w' h => ⟨h.1, by rw [h.2]; exact below1 _ _⟩), ilacks b R' win que (k + 1) C x' s.f w s.i, rlacks C win que (k + 1) x' p' cap' q' cap2' s.f w s.ra, iheld b R' win que C x' (by omega) w s.i, rheld C win que (k + 1) x' p' cap' q' cap2' s.f (by omega) w s.ra, iack b R' win que C x' hbase w s.i, (s.cb.cell 3).trans (by rw [← H35.out.1]; rfl)⟩)
          have HNU : Hid (∀ (pa pb : Option Addr) (ca cb : Nat) w, RU w pa ca (lacksL x') → RU w pb cb (lacksL x') → Calls Try.prog 15 #[.slice pa (lacksL x').length ca, .slice pb (lacksL x').length cb] w (SameD w (.bool true))) := Lib.hid (fun pa pb ca cb w h1 h2 => by
            have h := numbers_any pa pb ca cb _ _ _ _ w rfl rfl h1 h2
            rw [decide_eq_true rfl] at h
            exact h)
          generalize ackN x' = ak at *
          generalize endB x' = eb at *
          generalize lacksL x' = LL at *
          generalize heldN x' = hn at *
          generalize wf.setRow g9 cr2 = wg at *
          clear HP2 HB11 HB9 HDP HCR2 HSD HS0 HDO HRZ hHeld6
          refine ((HQ.out _ HPS2.out).2.2.2.2.2.2.2.1).mono ?_
          rintro e w5 ⟨rfl, n5, rfl⟩
          have HPS3 : Hid (PS W (wg.drewN n5) C win que b g9 (k + 1) R' x' p' cap' q' cap2' cr2) := Lib.hid (HPS2.out.kept ((Kept.refl _ _).drewN _))
          generalize wg.drewN n5 = w5 at *
          clear HPS2
          go_wp2_with fail
          refine wp_region_held_drew (S := fun w' => PS W w' C win que b g9 (k + 1) R' x' p' cap' q' cap2' cr2) (by kernel_rfl) (HPS3.out.kept (Kept.refl _ _).drew) (fun h0 => ?_)
          refine tk 0 (some 85) (.bool true) rfl (by rfl) (by kernel_rfl) (by kernel_rfl) (by kernel_rfl) (fun _ _ _ h => h) (by kernel_rfl) (fun _ _ => by kernel_rfl) h0 ?_
          refine tk 1 (some 86) (.bool false) rfl (by rfl) (by kernel_rfl) (by kernel_rfl) (by kernel_rfl) (fun _ _ _ h => h) (by kernel_rfl) (fun _ _ => by kernel_rfl) h0 ?_
          refine tk 2 (some 87) (.bool false) rfl (by rfl) (by kernel_rfl) (by kernel_rfl) (by kernel_rfl) (fun _ _ _ h => h) (by kernel_rfl) (fun _ _ => by kernel_rfl) h0 ?_
          refine tk 3 (some 88) (.int .u32 (ak : Int)) rfl (by rfl) (by kernel_rfl) (by kernel_rfl) (by kernel_rfl) (fun _ _ _ h => h) (by kernel_rfl) (fun _ _ => by kernel_rfl) h0 ?_
          refine tk 4 (some 89) (.agg cr2) rfl (by rfl) (by kernel_rfl) (by kernel_rfl) (by kernel_rfl) (fun _ _ _ h => h) (by kernel_rfl) (fun w' hS => run_load_I (.tmp 9) (by rfl) g9 (by kernel_rfl) hS.rb HRZ2.out) h0 ?_
          refine an_call 5 (some 90) (by kernel_rfl) rfl (by kernel_rfl) (by rfl) 12 #[.agg cr2] (by kernel_rfl) ((HQ.out _ h0).1) ?_
          rintro e v1 ⟨rfl, hb1⟩
          refine ⟨_, rfl, h0.kept (Kept.of_below hb1 []), fun h1 => ?_⟩
          refine tk 6 (some 91) (.bool false) rfl (by rfl) (by kernel_rfl) (by kernel_rfl) (by kernel_rfl) (fun _ _ _ h => h) (by kernel_rfl) (fun _ _ => run_neq_u32 (.tmp 88) (.tmp 90) (by rfl) (ak : Int) (by kernel_rfl) (by kernel_rfl)) h1 ?_
          refine tk 7 (some 92) (.bool false) rfl (by rfl) (by kernel_rfl) (by kernel_rfl) (by kernel_rfl) (fun _ _ _ h => h) (by kernel_rfl) (fun _ _ => by kernel_rfl) h1 ?_
          refine tk 8 (some 93) (.bool false) rfl (by rfl) (by kernel_rfl) (by kernel_rfl) (by kernel_rfl) (fun _ _ _ h => h) (by kernel_rfl) (fun _ _ => by kernel_rfl) h1 ?_
          refine tk 9 (some 94) (.int .i64 (win : Int)) rfl (by rfl) (by kernel_rfl) (by kernel_rfl) (by kernel_rfl) (fun _ _ _ h => h) (by kernel_rfl) (fun _ _ => by kernel_rfl) h1 ?_
          refine tk 10 (some 95) (.pointer (some ⟨W.heap.size, 3, none⟩)) rfl (by rfl) (by kernel_rfl) (by kernel_rfl) (by kernel_rfl) (fun _ _ _ h => h) (by kernel_rfl) (fun _ _ => by kernel_rfl) h1 ?_
          refine tk 11 (some 96) (.int .i64 (win : Int)) rfl (by rfl) (by kernel_rfl) (by kernel_rfl) (by kernel_rfl) (fun _ _ _ h => h) (by kernel_rfl) (fun w' hS => run_load_at 3 (.tmp 95) (by rfl) ⟨W.heap.size, 3, none⟩ (by kernel_rfl) (load_int (HQ.out _ hS).2.2.2.2.2.2.2.2)) h1 ?_
          refine tk 12 (some 97) (.bool false) rfl (by rfl) (by kernel_rfl) (by kernel_rfl) (by kernel_rfl) (fun _ _ _ h => h) (by kernel_rfl) (fun _ _ => run_neq_i64 (.tmp 94) (.tmp 96) (by rfl) (win : Int) (by kernel_rfl) (by kernel_rfl)) h1 ?_
          refine tk 13 (some 98) (.bool false) rfl (by rfl) (by kernel_rfl) (by kernel_rfl) (by kernel_rfl) (fun _ _ _ h => h) (by kernel_rfl) (fun _ _ => by kernel_rfl) h1 ?_
          refine tk 14 (some 99) (.bool false) rfl (by rfl) (by kernel_rfl) (by kernel_rfl) (by kernel_rfl) (fun _ _ _ h => h) (by kernel_rfl) (fun _ _ => by kernel_rfl) h1 ?_
          refine tk 15 (some 100) (.pointer (some ⟨b, 0, none⟩)) rfl (by rfl) (by kernel_rfl) (by kernel_rfl) (by kernel_rfl) (fun _ _ _ h => h) (by kernel_rfl) (fun _ _ => by kernel_rfl) h1 ?_
          refine tk 17 (some 102) (.agg cr2) rfl (by rfl) (by kernel_rfl) (by kernel_rfl) (by kernel_rfl) (fun _ _ _ h => h) (by kernel_rfl) (fun w' hS => run_load_I (.tmp 9) (by rfl) g9 (by kernel_rfl) hS.rb HRZ2.out) h1 ?_
          refine an_call 16 (some 101) (by kernel_rfl) rfl (by kernel_rfl) (by rfl) 13 #[.pointer (some ⟨b, 0, none⟩)] (by kernel_rfl) ((HQ.out _ h1).2.1) ?_
          rintro e v2 ⟨rfl, m2, rfl⟩
          refine ⟨_, rfl, h1.kept ((Kept.refl _ _).drewN _), fun h2 => ?_⟩
          refine an_call 18 (some 103) (by kernel_rfl) rfl (by kernel_rfl) (by rfl) 14 #[.agg cr2] (by kernel_rfl) ((HQ.out _ h2).2.2.1) ?_
          rintro e v3 ⟨rfl, hb3⟩
          refine ⟨_, rfl, h2.kept (Kept.of_below hb3 []), fun h3 => ?_⟩
          refine tk 19 (some 104) (.bool false) rfl (by rfl) (by kernel_rfl) (by kernel_rfl) (by kernel_rfl) (fun _ _ _ h => h) (by kernel_rfl) (fun _ _ => run_neq_bool (.tmp 101) (.tmp 103) (by rfl) eb (by kernel_rfl) (by kernel_rfl)) h3 ?_
          refine tk 20 (some 105) (.bool false) rfl (by rfl) (by kernel_rfl) (by kernel_rfl) (by kernel_rfl) (fun _ _ _ h => h) (by kernel_rfl) (fun _ _ => by kernel_rfl) h3 ?_
          refine tk 21 (some 106) (.bool false) rfl (by rfl) (by kernel_rfl) (by kernel_rfl) (by kernel_rfl) (fun _ _ _ h => h) (by kernel_rfl) (fun _ _ => by kernel_rfl) h3 ?_
          refine tk 22 (some 107) (.pointer (some ⟨b, 0, none⟩)) rfl (by rfl) (by kernel_rfl) (by kernel_rfl) (by kernel_rfl) (fun _ _ _ h => h) (by kernel_rfl) (fun _ _ => by kernel_rfl) h3 ?_
          refine tk 24 (some 109) (.agg cr2) rfl (by rfl) (by kernel_rfl) (by kernel_rfl) (by kernel_rfl) (fun _ _ _ h => h) (by kernel_rfl) (fun w' hS => run_load_I (.tmp 9) (by rfl) g9 (by kernel_rfl) hS.rb HRZ2.out) h3 ?_
          refine an_call 23 (some 108) (by kernel_rfl) rfl (by kernel_rfl) (by rfl) 16 #[.pointer (some ⟨b, 0, none⟩)] (by kernel_rfl) ((HQ.out _ h3).2.2.2.1) ?_
          rintro e v4 ⟨pa, ca, rfl, hra, _, hb4⟩
          refine ⟨_, rfl, h3.kept (Kept.of_below hb4 []), fun h4 => ?_⟩
          refine an_call 25 (some 110) (by kernel_rfl) rfl (by kernel_rfl) (by rfl) 17 #[.agg cr2] (by kernel_rfl) ((HQ.out _ h4).2.2.2.2.1) ?_
          rintro e v5 ⟨pb, cb, rfl, hrb, _, hb5⟩
          have hra5 := hra.below hb5
          refine ⟨_, rfl, h4.kept (Kept.of_below hb5 []), fun h5 => ?_⟩
          refine an_call 26 (some 111) (by kernel_rfl) rfl (by kernel_rfl) (by rfl) 15 #[.slice pa LL.length ca, .slice pb LL.length cb] (by kernel_rfl) (HNU.out pa pb ca cb _ hra5 hrb) ?_
          rintro e v6 ⟨rfl, m6, rfl⟩
          refine ⟨_, rfl, h5.kept ((Kept.refl _ _).drewN _), fun h6 => ?_⟩
          refine tk 27 (some 112) (.bool false) rfl (by rfl) (by kernel_rfl) (by kernel_rfl) (by kernel_rfl) (fun _ _ _ h => h) (by kernel_rfl) (fun _ _ => by kernel_rfl) h6 ?_
          refine tk 28 (some 113) (.bool false) rfl (by rfl) (by kernel_rfl) (by kernel_rfl) (by kernel_rfl) (fun _ _ _ h => h) (by kernel_rfl) (fun _ _ => by kernel_rfl) h6 ?_
          refine tk 29 (some 114) (.bool false) rfl (by rfl) (by kernel_rfl) (by kernel_rfl) (by kernel_rfl) (fun _ _ _ h => h) (by kernel_rfl) (fun _ _ => by kernel_rfl) h6 ?_
          refine tk 30 (some 115) (.pointer (some ⟨b, 0, none⟩)) rfl (by rfl) (by kernel_rfl) (by kernel_rfl) (by kernel_rfl) (fun _ _ _ h => h) (by kernel_rfl) (fun _ _ => by kernel_rfl) h6 ?_
          refine tk 32 (some 117) (.agg cr2) rfl (by rfl) (by kernel_rfl) (by kernel_rfl) (by kernel_rfl) (fun _ _ _ h => h) (by kernel_rfl) (fun w' hS => run_load_I (.tmp 9) (by rfl) g9 (by kernel_rfl) hS.rb HRZ2.out) h6 ?_
          refine an_call 31 (some 116) (by kernel_rfl) rfl (by kernel_rfl) (by rfl) 18 #[.pointer (some ⟨b, 0, none⟩)] (by kernel_rfl) ((HQ.out _ h6).2.2.2.2.2.1) ?_
          rintro e v7 ⟨rfl, m7, rfl⟩
          refine ⟨_, rfl, h6.kept ((Kept.refl _ _).drewN _), fun h7 => ?_⟩
          refine an_call 33 (some 118) (by kernel_rfl) rfl (by kernel_rfl) (by rfl) 19 #[.agg cr2] (by kernel_rfl) ((HQ.out _ h7).2.2.2.2.2.2.1) ?_
          rintro e v8 ⟨rfl, hb8⟩
          refine ⟨_, rfl, h7.kept (Kept.of_below hb8 []), fun h8 => ?_⟩
          refine tk 34 (some 119) (.bool false) rfl (by rfl) (by kernel_rfl) (by kernel_rfl) (by kernel_rfl) (fun _ _ _ h => h) (by kernel_rfl) (fun _ _ => run_neq_i64 (.tmp 116) (.tmp 118) (by rfl) (hn : Int) (by kernel_rfl) (by kernel_rfl)) h8 ?_
          refine tk 35 (some 120) (.bool false) rfl (by rfl) (by kernel_rfl) (by kernel_rfl) (by kernel_rfl) (fun _ _ _ h => h) (by kernel_rfl) (fun _ _ => by kernel_rfl) h8 ?_
          refine wpAnyH_done (by kernel_rfl) ?_ _
          simp only [Act.put, List.setIfInBounds_toArray, List.set_cons_zero, List.set_cons_succ]
          have HPS8 := Lib.hid h8
          clear h0 h1 h2 h3 h4 h5 h6 h7 h8 hb1 hb3 hb4 hb5 hb8 hra hrb hra5 HQ HNU HPS3
          go_wp2_with fail
          go_roundw
          case rel => exact ⟨k + 1, R', x', p', cap', q', cap2', cr2, by omega, by go_num, HPS8.out⟩
          case measure => simp [intOf]; omega
        · refine st_alloc 10 (some 11) (by kernel_rfl) (by rfl) (by rfl) hK (HSD.out _ _ [] (by simp) ((Kept.refl [] _).alloc _) hHeld) (fun hHeldB => ?_)
          refine an_call 6 (some 76) (by kernel_rfl) rfl (by kernel_rfl) (by rfl) 10 #[.pointer (some ⟨b, 0, none⟩), .agg cr, .agg #[.int .i64 Kk, .int .u32 (xk : Int), .string body, .int .i64 nk]] (by kernel_rfl) (HDO.out _ ((Kept.refl [] wr).drew.alloc _)) ?_
          rintro e w' ⟨x', hf', R', p', cap', q', cap2', rfl, hi', hra', hk', hR', hpn, hqn, hn1, hn2⟩
          refine ⟨_, rfl, HSD.out _ _ R HGR.out hk' hHeldB, fun hHeld4 => ?_⟩
          obtain ⟨cr2, hcr2⟩ : ∃ cr2, cr2 = rC C win x' p' cap' q' cap2' := ⟨_, rfl⟩
          rw [← hcr2]
          have HRZ2 : Hid (cr2.size = 18) := Lib.hid (by rw [hcr2]; rfl)
          have HRO2 : Hid (cr2.all (·.oneCell') = true) := Lib.hid (by rw [hcr2]; exact rC_one _ _ _ _ _ _ _)
          have HDP := Lib.hid (And.intro hf' (And.intro hi' (And.intro hra' (And.intro hk' (And.intro hR' (And.intro hpn (And.intro hqn (And.intro hn1 hn2))))))))
          have HCR2 := Lib.hid hcr2
          have hsw' := hk'.size
          clear hf' hi' hra' hk' hR' hpn hqn hn1 hn2 hcr2
          refine tk 7 (some 69) (.tuple #[.agg cr2, .bool true]) rfl (by rfl) (by kernel_rfl) (by kernel_rfl) (by kernel_rfl) (fun _ _ _ h => h) (by kernel_rfl) (fun _ _ => by kernel_rfl) hHeld4 ?_
          refine tk 8 (some 77) (.agg cr2) rfl (by rfl) (by kernel_rfl) (by kernel_rfl) (by kernel_rfl) (fun _ _ _ h => h) (by kernel_rfl) (fun _ _ => by kernel_rfl) hHeld4 ?_
          refine tk 9 (some 78) (.bool true) rfl (by rfl) (by kernel_rfl) (by kernel_rfl) (by kernel_rfl) (fun _ _ _ h => h) (by kernel_rfl) (fun _ _ => by kernel_rfl) hHeld4 ?_
          have HBZ : Hid (Blk w' wr.heap.size rZ 38) := Lib.hid ((Blk.new wr.drew rZ 38).kept HDP.out.2.2.2.1 (fun hm => by have := HPS.out.i.lt _ hm; have : wr.drew.heap.size = wr.heap.size := rfl; omega))
          refine an_store 11 none (by kernel_rfl) rfl (by kernel_rfl) (by rfl) (.tmp 11) (.tmp 77) (by rfl) wr.heap.size cr2 rZ (by kernel_rfl) (by kernel_rfl) HBZ.out HRZ2.out (by rfl) HRO2.out (HSD.out _ _ [wr.heap.size] (by simp; omega) ((Kept.refl _ _).setRow _ (.inl (by simp)) _) hHeld4) (fun hHeld6 => ?_)
          refine tk 12 (some 12) (.bool true) rfl (by rfl) (by kernel_rfl) (by kernel_rfl) (by kernel_rfl) (fun _ _ _ h => h) (by kernel_rfl) (fun _ _ => by kernel_rfl) hHeld6 ?_
          refine wpAnyH_done (by kernel_rfl) ?_ _
          simp only [Act.put, List.setIfInBounds_toArray, List.set_cons_zero, List.set_cons_succ]
          rw [show wr.drew.heap.size = wr.heap.size from rfl]
          have hkf : Kept [wr.heap.size] w' (w'.setRow wr.heap.size cr2) := (Kept.refl _ _).setRow _ (.inl (by simp)) _
          have hb11 := HBZ.out.row cr2
          have hPS2 : ∀ wg, wg = (w'.setRow wr.heap.size cr2).setRow g9 cr2 → PS W wg C win que b g9 (k + 1) R' x' p' cap' q' cap2' cr2 := fun wg hwg => by
            obtain ⟨hf', hi', hra', hk', hR', hpn, hqn, hn1, hn2⟩ := HDP.out
            have hsd : (wr.drew.alloc (.cells rZ 38)).heap.size = wr.heap.size + 1 := by simp
            rw [hwg]
            rw [HCR2.out] at hkf ⊢
            refine ps_step HPS.out ((Kept.refl [] wr).drew.alloc _) hf' hi' hra' hk' hR' hpn hqn hn1 hn2 hkf (Nat.le_refl _) (fun hm => ?_) (fun a ha => ?_) (fun a ha => ?_)
            · rcases hR' _ hm with h | h
              · have := HPS.out.i.lt _ h; omega
              · omega
            · rcases hn1 a ha with h | ⟨a0, h1, h2⟩
              · omega
              · have := HPS.out.ra.ro.lt a0 h1; omega
            · rcases hn2 a ha with h | ⟨a0, h1, h2⟩
              · omega
              · have := HPS.out.ra.ru.lt a0 h1; omega
          generalize hgg : wr.heap.size = g11 at *
          generalize hwf : w'.setRow g11 cr2 = wf at *
          have hlg : g9 ≠ g11 := by omega
          have HB9 : Hid (Blk wf g9 cr 38) := Lib.hid hHeld6.1
          have HP2 := Lib.hid hPS2
          have HB11 := Lib.hid hb11
          clear hPS2 hkf hwf hgg
          go_wp2_with (first | (refine wpList_load_row rfl 38 _ rfl (g11) rfl 38 cr2 (0, 0) _ (by exact HB11.out) Try.underlying38 rfl (by rw [HRZ2.out]; kernel_rfl) ?_) | (refine wpList_store_rowTo rfl 38 _ _ rfl rfl (g9) cr2 rfl rfl 38 cr (by exact HB9.out) (by rw [HRZ2.out]; kernel_rfl) (by rw [HRZ2.out]; exact HRZ.out) HRO2.out ?_))
          have HPS2 : Hid (PS W (wf.setRow g9 cr2) C win que b g9 (k + 1) R' x' p' cap' q' cap2' cr2) := Lib.hid (HP2.out _ rfl)
          have HQ : Hid (∀ w, PS W w C win que b g9 (k + 1) R' x' p' cap' q' cap2' cr2 →
              Calls Try.prog 12 #[.agg cr2] w (fun e w' => e = .returned (.int .u32 (ackN x' : Int)) ∧ Below w.heap.size w w') ∧
              Calls Try.prog 13 #[.pointer (some ⟨b, 0, none⟩)] w (SameD w (.bool (endB x'))) ∧
              Calls Try.prog 14 #[.agg cr2] w (fun e w' => e = .returned (.bool (endB x')) ∧ Below w.heap.size w w') ∧
              Calls Try.prog 16 #[.pointer (some ⟨b, 0, none⟩)] w (LackPost w (lacksL x')) ∧
              Calls Try.prog 17 #[.agg cr2] w (LackPost w (lacksL x')) ∧
              Calls Try.prog 18 #[.pointer (some ⟨b, 0, none⟩)] w (SameD w (.int .i64 (heldN x' : Int))) ∧
              Calls Try.prog 19 #[.agg cr2] w (fun e w' => e = .returned (.int .i64 (heldN x' : Int)) ∧ Below w.heap.size w w') ∧
              Calls Try.prog 11 #[.pointer (some ⟨b, 0, none⟩)] w (SameD w (.tuple #[.int .u32 (ackN x' : Int), .int .i64 (win : Int)])) ∧
              w.cell? ⟨W.heap.size, 3, none⟩ = some (.int .i64 (win : Int))) := Lib.hid (by
            intro w s
            have hbase : x'.base < 2147483648 := by have := s.f.base; have := s.f.small; omega
            have hfa := s.i.facts
            have hbl2 := s.f.bl
            rw [← s.eqv]
            exact ⟨rack C win x' p' cap' q' cap2' hbase w, iended b R' win que C x' w s.i, (rended C win x' p' cap' q' cap2' w).mono (fun e w' h => ⟨h.1, by rw [h.2]; exact below1 _ _⟩), ilacks b R' win que (k + 1) C x' s.f w s.i, rlacks C win que (k + 1) x' p' cap' q' cap2' s.f w s.ra, iheld b R' win que C x' (by omega) w s.i, rheld C win que (k + 1) x' p' cap' q' cap2' s.f (by omega) w s.ra, iack b R' win que C x' hbase w s.i, (s.cb.cell 3).trans (by rw [← H35.out.1]; rfl)⟩)
          have HNU : Hid (∀ (pa pb : Option Addr) (ca cb : Nat) w, RU w pa ca (lacksL x') → RU w pb cb (lacksL x') → Calls Try.prog 15 #[.slice pa (lacksL x').length ca, .slice pb (lacksL x').length cb] w (SameD w (.bool true))) := Lib.hid (fun pa pb ca cb w h1 h2 => by
            have h := numbers_any pa pb ca cb _ _ _ _ w rfl rfl h1 h2
            rw [decide_eq_true rfl] at h
            exact h)
          generalize ackN x' = ak at *
          generalize endB x' = eb at *
          generalize lacksL x' = LL at *
          generalize heldN x' = hn at *
          generalize wf.setRow g9 cr2 = wg at *
          clear HP2 HB11 HB9 HDP HCR2 HSD HS0 HDO HRZ hHeld6
          refine ((HQ.out _ HPS2.out).2.2.2.2.2.2.2.1).mono ?_
          rintro e w5 ⟨rfl, n5, rfl⟩
          have HPS3 : Hid (PS W (wg.drewN n5) C win que b g9 (k + 1) R' x' p' cap' q' cap2' cr2) := Lib.hid (HPS2.out.kept ((Kept.refl _ _).drewN _))
          generalize wg.drewN n5 = w5 at *
          clear HPS2
          go_wp2_with fail
          refine wp_region_held_drew (S := fun w' => PS W w' C win que b g9 (k + 1) R' x' p' cap' q' cap2' cr2) (by kernel_rfl) (HPS3.out.kept (Kept.refl _ _).drew) (fun h0 => ?_)
          refine tk 0 (some 85) (.bool true) rfl (by rfl) (by kernel_rfl) (by kernel_rfl) (by kernel_rfl) (fun _ _ _ h => h) (by kernel_rfl) (fun _ _ => by kernel_rfl) h0 ?_
          refine tk 1 (some 86) (.bool false) rfl (by rfl) (by kernel_rfl) (by kernel_rfl) (by kernel_rfl) (fun _ _ _ h => h) (by kernel_rfl) (fun _ _ => by kernel_rfl) h0 ?_
          refine tk 2 (some 87) (.bool false) rfl (by rfl) (by kernel_rfl) (by kernel_rfl) (by kernel_rfl) (fun _ _ _ h => h) (by kernel_rfl) (fun _ _ => by kernel_rfl) h0 ?_
          refine tk 3 (some 88) (.int .u32 (ak : Int)) rfl (by rfl) (by kernel_rfl) (by kernel_rfl) (by kernel_rfl) (fun _ _ _ h => h) (by kernel_rfl) (fun _ _ => by kernel_rfl) h0 ?_
          refine tk 4 (some 89) (.agg cr2) rfl (by rfl) (by kernel_rfl) (by kernel_rfl) (by kernel_rfl) (fun _ _ _ h => h) (by kernel_rfl) (fun w' hS => run_load_I (.tmp 9) (by rfl) g9 (by kernel_rfl) hS.rb HRZ2.out) h0 ?_
          refine an_call 5 (some 90) (by kernel_rfl) rfl (by kernel_rfl) (by rfl) 12 #[.agg cr2] (by kernel_rfl) ((HQ.out _ h0).1) ?_
          rintro e v1 ⟨rfl, hb1⟩
          refine ⟨_, rfl, h0.kept (Kept.of_below hb1 []), fun h1 => ?_⟩
          refine tk 6 (some 91) (.bool false) rfl (by rfl) (by kernel_rfl) (by kernel_rfl) (by kernel_rfl) (fun _ _ _ h => h) (by kernel_rfl) (fun _ _ => run_neq_u32 (.tmp 88) (.tmp 90) (by rfl) (ak : Int) (by kernel_rfl) (by kernel_rfl)) h1 ?_
          refine tk 7 (some 92) (.bool false) rfl (by rfl) (by kernel_rfl) (by kernel_rfl) (by kernel_rfl) (fun _ _ _ h => h) (by kernel_rfl) (fun _ _ => by kernel_rfl) h1 ?_
          refine tk 8 (some 93) (.bool false) rfl (by rfl) (by kernel_rfl) (by kernel_rfl) (by kernel_rfl) (fun _ _ _ h => h) (by kernel_rfl) (fun _ _ => by kernel_rfl) h1 ?_
          refine tk 9 (some 94) (.int .i64 (win : Int)) rfl (by rfl) (by kernel_rfl) (by kernel_rfl) (by kernel_rfl) (fun _ _ _ h => h) (by kernel_rfl) (fun _ _ => by kernel_rfl) h1 ?_
          refine tk 10 (some 95) (.pointer (some ⟨W.heap.size, 3, none⟩)) rfl (by rfl) (by kernel_rfl) (by kernel_rfl) (by kernel_rfl) (fun _ _ _ h => h) (by kernel_rfl) (fun _ _ => by kernel_rfl) h1 ?_
          refine tk 11 (some 96) (.int .i64 (win : Int)) rfl (by rfl) (by kernel_rfl) (by kernel_rfl) (by kernel_rfl) (fun _ _ _ h => h) (by kernel_rfl) (fun w' hS => run_load_at 3 (.tmp 95) (by rfl) ⟨W.heap.size, 3, none⟩ (by kernel_rfl) (load_int (HQ.out _ hS).2.2.2.2.2.2.2.2)) h1 ?_
          refine tk 12 (some 97) (.bool false) rfl (by rfl) (by kernel_rfl) (by kernel_rfl) (by kernel_rfl) (fun _ _ _ h => h) (by kernel_rfl) (fun _ _ => run_neq_i64 (.tmp 94) (.tmp 96) (by rfl) (win : Int) (by kernel_rfl) (by kernel_rfl)) h1 ?_
          refine tk 13 (some 98) (.bool false) rfl (by rfl) (by kernel_rfl) (by kernel_rfl) (by kernel_rfl) (fun _ _ _ h => h) (by kernel_rfl) (fun _ _ => by kernel_rfl) h1 ?_
          refine tk 14 (some 99) (.bool false) rfl (by rfl) (by kernel_rfl) (by kernel_rfl) (by kernel_rfl) (fun _ _ _ h => h) (by kernel_rfl) (fun _ _ => by kernel_rfl) h1 ?_
          refine tk 15 (some 100) (.pointer (some ⟨b, 0, none⟩)) rfl (by rfl) (by kernel_rfl) (by kernel_rfl) (by kernel_rfl) (fun _ _ _ h => h) (by kernel_rfl) (fun _ _ => by kernel_rfl) h1 ?_
          refine tk 17 (some 102) (.agg cr2) rfl (by rfl) (by kernel_rfl) (by kernel_rfl) (by kernel_rfl) (fun _ _ _ h => h) (by kernel_rfl) (fun w' hS => run_load_I (.tmp 9) (by rfl) g9 (by kernel_rfl) hS.rb HRZ2.out) h1 ?_
          refine an_call 16 (some 101) (by kernel_rfl) rfl (by kernel_rfl) (by rfl) 13 #[.pointer (some ⟨b, 0, none⟩)] (by kernel_rfl) ((HQ.out _ h1).2.1) ?_
          rintro e v2 ⟨rfl, m2, rfl⟩
          refine ⟨_, rfl, h1.kept ((Kept.refl _ _).drewN _), fun h2 => ?_⟩
          refine an_call 18 (some 103) (by kernel_rfl) rfl (by kernel_rfl) (by rfl) 14 #[.agg cr2] (by kernel_rfl) ((HQ.out _ h2).2.2.1) ?_
          rintro e v3 ⟨rfl, hb3⟩
          refine ⟨_, rfl, h2.kept (Kept.of_below hb3 []), fun h3 => ?_⟩
          refine tk 19 (some 104) (.bool false) rfl (by rfl) (by kernel_rfl) (by kernel_rfl) (by kernel_rfl) (fun _ _ _ h => h) (by kernel_rfl) (fun _ _ => run_neq_bool (.tmp 101) (.tmp 103) (by rfl) eb (by kernel_rfl) (by kernel_rfl)) h3 ?_
          refine tk 20 (some 105) (.bool false) rfl (by rfl) (by kernel_rfl) (by kernel_rfl) (by kernel_rfl) (fun _ _ _ h => h) (by kernel_rfl) (fun _ _ => by kernel_rfl) h3 ?_
          refine tk 21 (some 106) (.bool false) rfl (by rfl) (by kernel_rfl) (by kernel_rfl) (by kernel_rfl) (fun _ _ _ h => h) (by kernel_rfl) (fun _ _ => by kernel_rfl) h3 ?_
          refine tk 22 (some 107) (.pointer (some ⟨b, 0, none⟩)) rfl (by rfl) (by kernel_rfl) (by kernel_rfl) (by kernel_rfl) (fun _ _ _ h => h) (by kernel_rfl) (fun _ _ => by kernel_rfl) h3 ?_
          refine tk 24 (some 109) (.agg cr2) rfl (by rfl) (by kernel_rfl) (by kernel_rfl) (by kernel_rfl) (fun _ _ _ h => h) (by kernel_rfl) (fun w' hS => run_load_I (.tmp 9) (by rfl) g9 (by kernel_rfl) hS.rb HRZ2.out) h3 ?_
          refine an_call 23 (some 108) (by kernel_rfl) rfl (by kernel_rfl) (by rfl) 16 #[.pointer (some ⟨b, 0, none⟩)] (by kernel_rfl) ((HQ.out _ h3).2.2.2.1) ?_
          rintro e v4 ⟨pa, ca, rfl, hra, _, hb4⟩
          refine ⟨_, rfl, h3.kept (Kept.of_below hb4 []), fun h4 => ?_⟩
          refine an_call 25 (some 110) (by kernel_rfl) rfl (by kernel_rfl) (by rfl) 17 #[.agg cr2] (by kernel_rfl) ((HQ.out _ h4).2.2.2.2.1) ?_
          rintro e v5 ⟨pb, cb, rfl, hrb, _, hb5⟩
          have hra5 := hra.below hb5
          refine ⟨_, rfl, h4.kept (Kept.of_below hb5 []), fun h5 => ?_⟩
          refine an_call 26 (some 111) (by kernel_rfl) rfl (by kernel_rfl) (by rfl) 15 #[.slice pa LL.length ca, .slice pb LL.length cb] (by kernel_rfl) (HNU.out pa pb ca cb _ hra5 hrb) ?_
          rintro e v6 ⟨rfl, m6, rfl⟩
          refine ⟨_, rfl, h5.kept ((Kept.refl _ _).drewN _), fun h6 => ?_⟩
          refine tk 27 (some 112) (.bool false) rfl (by rfl) (by kernel_rfl) (by kernel_rfl) (by kernel_rfl) (fun _ _ _ h => h) (by kernel_rfl) (fun _ _ => by kernel_rfl) h6 ?_
          refine tk 28 (some 113) (.bool false) rfl (by rfl) (by kernel_rfl) (by kernel_rfl) (by kernel_rfl) (fun _ _ _ h => h) (by kernel_rfl) (fun _ _ => by kernel_rfl) h6 ?_
          refine tk 29 (some 114) (.bool false) rfl (by rfl) (by kernel_rfl) (by kernel_rfl) (by kernel_rfl) (fun _ _ _ h => h) (by kernel_rfl) (fun _ _ => by kernel_rfl) h6 ?_
          refine tk 30 (some 115) (.pointer (some ⟨b, 0, none⟩)) rfl (by rfl) (by kernel_rfl) (by kernel_rfl) (by kernel_rfl) (fun _ _ _ h => h) (by kernel_rfl) (fun _ _ => by kernel_rfl) h6 ?_
          refine tk 32 (some 117) (.agg cr2) rfl (by rfl) (by kernel_rfl) (by kernel_rfl) (by kernel_rfl) (fun _ _ _ h => h) (by kernel_rfl) (fun w' hS => run_load_I (.tmp 9) (by rfl) g9 (by kernel_rfl) hS.rb HRZ2.out) h6 ?_
          refine an_call 31 (some 116) (by kernel_rfl) rfl (by kernel_rfl) (by rfl) 18 #[.pointer (some ⟨b, 0, none⟩)] (by kernel_rfl) ((HQ.out _ h6).2.2.2.2.2.1) ?_
          rintro e v7 ⟨rfl, m7, rfl⟩
          refine ⟨_, rfl, h6.kept ((Kept.refl _ _).drewN _), fun h7 => ?_⟩
          refine an_call 33 (some 118) (by kernel_rfl) rfl (by kernel_rfl) (by rfl) 19 #[.agg cr2] (by kernel_rfl) ((HQ.out _ h7).2.2.2.2.2.2.1) ?_
          rintro e v8 ⟨rfl, hb8⟩
          refine ⟨_, rfl, h7.kept (Kept.of_below hb8 []), fun h8 => ?_⟩
          refine tk 34 (some 119) (.bool false) rfl (by rfl) (by kernel_rfl) (by kernel_rfl) (by kernel_rfl) (fun _ _ _ h => h) (by kernel_rfl) (fun _ _ => run_neq_i64 (.tmp 116) (.tmp 118) (by rfl) (hn : Int) (by kernel_rfl) (by kernel_rfl)) h8 ?_
          refine tk 35 (some 120) (.bool false) rfl (by rfl) (by kernel_rfl) (by kernel_rfl) (by kernel_rfl) (fun _ _ _ h => h) (by kernel_rfl) (fun _ _ => by kernel_rfl) h8 ?_
          refine wpAnyH_done (by kernel_rfl) ?_ _
          simp only [Act.put, List.setIfInBounds_toArray, List.set_cons_zero, List.set_cons_succ]
          have HPS8 := Lib.hid h8
          clear h0 h1 h2 h3 h4 h5 h6 h7 h8 hb1 hb3 hb4 hb5 hb8 hra hrb hra5 HQ HNU HPS3
          go_wp2_with fail
          go_roundw
          case rel => exact ⟨k + 1, R', x', p', cap', q', cap2', cr2, by omega, by go_num, HPS8.out⟩
          case measure => simp [intOf]; omega
    · have hkl : k = len := by omega
      go_wp2_with (go_at_call 8; refine (awake_true _).mono ?_; rintro e w6 ⟨rfl, hb6⟩)
      go_ret
      exact ⟨rfl, HPS.out.bl.trans (hb6.mono HPS.out.bl.size)⟩
end Go.Proofs.Ytdggnhgflfaffaa
