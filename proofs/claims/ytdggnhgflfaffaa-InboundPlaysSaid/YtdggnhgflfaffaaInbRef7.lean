/- lightshipref28: Deliver -/
import Derived.Test.YtdggnhgflfaffaaInbRef
namespace Go.Proofs.Ytdggnhgflfaffaa
set_option maxRecDepth 20000
open Go.ChangeShapes Go.WideShapes Go.ChangeAt Go.RowKit
set_option linter.unusedVariables false
set_option linter.unusedSimpArgs false

def W2 (W : World) : World := (W.alloc (.cells #[] 0)).alloc (.cells #[] 0)
theorem W2_size (W : World) : (W2 W).heap.size = W.heap.size + 2 := by simp [W2]
structure DelS (W w : World) (C : Nat → Int) (win que : Nat) (x y : Ist) (p p' : Option Addr) (cap' : Nat) (q : Option Addr) (cap2 : Nat) (cv : Array Value) : Prop where
  eqv : rC C win y p' cap' q cap2 = cv
  b0 : Blk w W.heap.size cv 38
  b1 : Blk w (W.heap.size + 1) rZ 38
  ra : RefAt w y p' cap' q cap2
  nr : Near (W2 W) p p'
  bl : Below W.heap.size W w
  bs : y.base + y.L.length ≤ 1000
  ll : y.L.length ≤ 64
  bo : ∀ b ∈ y.L, b.2.size ≤ 1000
  sz : y.s.size ≤ que
theorem nxBody_le {base : Nat} {L : BL} {room : Int} (h : ∀ b ∈ L, b.2.size ≤ 1000) : (nxBody base L room).size ≤ 1000 := by
  unfold nxBody
  split
  · rename_i hn
    unfold nextB at hn
    rw [decide_eq_true_iff] at hn
    have := hn.1
    rw [bodyAt_get _ _ this]
    exact h _ (List.getElem_mem _)
  · show (0 : Nat) ≤ 1000; omega
set_option maxHeartbeats 4000000 in
theorem rdeliver (C : Nat → Int) (win que k : Nat) (x : Ist) (p : Option Addr) (cap : Nat) (q : Option Addr) (cap2 : Nat) (hf : Fine x win que k) (hs : x.s.size ≤ que) (hque : C 5 = (que : Int)) (w : World) (h : RefAt w x p cap q cap2) :
    Calls Try.prog 34 #[.agg (rC C win x p cap q cap2)] w (RPost w C win (delX que x) p q (fun o => .tuple #[o, .int .i64 (((delX que x).s.size - x.s.size : Nat) : Int)])) := by
  have hq2 := hf.q2
  have HF : Hid (x.base + x.L.length ≤ 1000 ∧ x.L.length ≤ 64 ∧ ∀ b ∈ x.L, b.2.size ≤ 1000) := Lib.hid ⟨by have := hf.base; have := hf.small; omega, hf.len, hf.bods⟩
  have H := Lib.hid h
  have HQ := Lib.hid hque
  have HSX := Lib.hid hs
  obtain ⟨dx, hdx⟩ : ∃ dx, dx = delX que x := ⟨_, rfl⟩
  rw [← hdx]
  have HDX := Lib.hid hdx
  clear hf h hque hs hdx
  obtain ⟨cv, hcv⟩ : ∃ cv, cv = rC C win x p cap q cap2 := ⟨_, rfl⟩
  rw [← hcv]
  have HCV := Lib.hid hcv
  clear hcv
  go_enter Try.func34, Try.ntmps34
  go_wp2_with fail
  generalize hwa : (w.alloc _).alloc _ = wa
  have HD : Hid (DelS w wa C win que x x p p cap q cap2 cv) := Lib.hid (by
    rw [← hwa]
    exact ⟨HCV.out.symm, (Blk.new _ _ _).alloc _, Blk.new' (by simp), H.out.below (below2 _ _ _), Near.same _ _, below2 _ _ _, HF.out.1, HF.out.2.1, HF.out.2.2, HSX.out⟩)
  obtain ⟨l0, hl0⟩ : ∃ n, n = x.L.length := ⟨_, rfl⟩
  have HL0 := Lib.hid hl0
  clear hwa hl0
  go_loopg [4] l0 (fun g nv wr => ∃ (y : Ist) (n : Nat) (p' : Option Addr) (cap' : Nat) (cv' : Array Value), delN que g y = dx ∧ y.L.length ≤ g ∧ nv = .int .i64 (n : Int) ∧ n + x.s.size = y.s.size ∧ DelS w wr C win que x y p p' cap' q cap2 cv')
  case atStart => exact ⟨x, 0, p, cap, cv, by rw [HL0.out, HDX.out]; rfl, by rw [HL0.out]; exact Nat.le_refl _, rfl, by simp, HD.out⟩
  case round =>
    obtain ⟨y, n, p', cap', cv', hdel, hlg, rfl, hsz, hD⟩ := hrel
    clear HD HL0 HCV
    have hws := hD.sz
    have hll := hD.ll
    have hbs := hD.bs
    have HD := Lib.hid hD
    have HSZ := Lib.hid hsz
    have HDEL := Lib.hid (And.intro hdel hlg)
    obtain ⟨room, hroom⟩ : ∃ r, r = roomI que y := ⟨_, rfl⟩
    have hr1 : IntKind.i64.wrap ((que : Int) - (y.s.size : Int)) = room := by rw [hroom]; unfold roomI; exact IntWalk.i64_in _ (by omega)
    have hr2 : (que : Int) - (y.s.size : Int) = room := by rw [hroom]; rfl
    have HROOM := Lib.hid hroom
    have HNX := Lib.hid (fun w hs => rnext_any y.base win p' cap' y.L room (by omega) (by omega) w hs)
    have hC := rGet C win y p' cap' q cap2
    rw [hD.eqv, HQ.out] at hC
    obtain ⟨c0, c1, c2, c3, c4, c5, c6, c7, c8, c9, c10, c11, c12, c13, c14, c15, c16, c17⟩ := hC
    have d5 := (hD.b0.cell 5).trans c5
    have d11 := (hD.b0.cell 11).trans c11
    have d12 := (hD.b0.cell 12).trans c12
    have d13 := (hD.b0.cell 13).trans c13
    have d15 := (hD.b0.cell 15).trans c15
    have HC := Lib.hid (And.intro c11 (And.intro c12 (And.intro c13 c15)))
    clear c0 c1 c2 c3 c4 c5 c6 c7 c8 c9 c10 c11 c12 c13 c14 c15 c16 c17 hdel hlg hsz hroom
    obtain ⟨ok, hok⟩ : ∃ t, t = nextB y.base y.L room := ⟨_, rfl⟩
    obtain ⟨body, hbody⟩ : ∃ t, t = nxBody y.base y.L room := ⟨_, rfl⟩
    obtain ⟨nb, hnb⟩ : ∃ t, t = nxBase y.base y.L room := ⟨_, rfl⟩
    obtain ⟨nl, hnl⟩ : ∃ t, t = nxL y.base y.L room := ⟨_, rfl⟩
    rw [← hok, ← hbody, ← hnb, ← hnl] at HNX
    have hbody1 : body.size ≤ 1000 := by rw [hbody]; exact nxBody_le hD.bo
    have HE := Lib.hid (And.intro hok (And.intro hbody (And.intro hnb hnl)))
    clear hok hbody hnb hnl hD
    go_wp2_with fail
    refine (HNX.out _ HD.out.ra.ro).mono ?_
    rintro e w3 ⟨p2, cp2, rfl, hb3, hown⟩
    obtain ⟨HRO, HNR⟩ : Hid (RO w3 p2 cp2 nl) ∧ Hid (Near (W2 w) p p2) := by
      have hss : w.heap.size + 1 < wr.heap.size := HD.out.b1.lt
      have hw2 := W2_size w
      rcases hown with ⟨rfl, rfl, rfl⟩ | h
      · exact ⟨Lib.hid (HD.out.ra.ro.below hb3), Lib.hid HD.out.nr⟩
      · obtain ⟨p'', cap'', hv, hro⟩ := RO.of_own h
        injection hv with e1 _ e3
        subst e1 e3
        exact ⟨Lib.hid hro, Lib.hid (fun a ha => .inl (by have := (own_lt h a.block (by simp [rowOf, Value.ownBlock, ha])).1; omega))⟩
    have hlt0 : w.heap.size < wr.heap.size := HD.out.b0.lt
    have hlt1 : w.heap.size + 1 < wr.heap.size := HD.out.b1.lt
    have HB3 := Lib.hid (HD.out.b0.below hb3 hlt0)
    have HE3 := Lib.hid (HD.out.b1.below hb3 hlt1)
    have HRU := Lib.hid (HD.out.ra.ru.below hb3)
    have HBW : Hid (Below w.heap.size w w3) := Lib.hid (HD.out.bl.trans (hb3.mono HD.out.bl.size))
    have hs3 : wr.heap.size ≤ w3.heap.size := hb3.size
    have hg0 : w.heap.size < w3.heap.size := by omega
    have hg1 : w.heap.size + 1 < w3.heap.size := by omega
    have z11 := (HB3.out.cell 11).trans HC.out.1
    have z12 := (HB3.out.cell 12).trans HC.out.2.1
    have z13 := (HB3.out.cell 13).trans HC.out.2.2.1
    have z15 := (HB3.out.cell 15).trans HC.out.2.2.2
    have fd := HB3.out.free
    obtain ⟨n2, hn2⟩ : ∃ n2, n2 = nl.length := ⟨_, rfl⟩
    rw [← hn2]
    have HN2 := Lib.hid hn2
    have HSZ1 : Hid (cv'.size = 18) := Lib.hid (by rw [← HD.out.eqv]; rfl)
    have HONE1 : Hid (cv'.all (·.oneCell') = true) := Lib.hid (by rw [← HD.out.eqv]; exact rC_one _ _ _ _ _ _ _)
    have HRA := Lib.hid (HD.out.ra.below hb3)
    clear hb3 hown d5 d11 d12 d13 d15 HNX hn2
    cases ok with
    | false =>
      go_wp2_with (first | (refine wpList_load_row rfl 38 _ rfl w.heap.size rfl 38 cv' (0, 0) _ (by exact HB3.out.alloc _) Try.underlying38 rfl (by rw [HSZ1.out]; kernel_rfl) ?_) | (refine wpList_store_rowTo rfl 38 _ _ rfl rfl (w.heap.size + 1) cv' rfl rfl 38 rZ (by exact HE3.out.alloc _) (by rw [HSZ1.out]; kernel_rfl) (by rw [HSZ1.out]; exact rfl) HONE1.out ?_))
      refine bodyPost_ret (results_I2 rfl _ (.int .i64 (n : Int)) rfl rfl ((HE3.out.alloc _).row cv') HSZ1.out) rfl ?_
      have hE := HE.out.1.symm
      rw [HROOM.out] at hE
      obtain rfl : y = dx := by rw [← HDEL.out.1, delN_stop _ _ _ hE]
      have en : ((y.s.size - x.s.size : Nat) : Int) = (n : Int) := by have := HSZ.out; omega
      rw [en]
      have hk6 := ((Kept.refl [w.heap.size + 1] w3).alloc (.cells #[.int .u32 (nb : Int), .int .i64 (win : Int), .slice p2 n2 cp2] 35)).setRow (w.heap.size + 1) (.inl (by simp)) cv'
      have hbf := ((Kept.of_below HBW.out []).trans hk6 (fun y hy => .inr (by simp at hy; omega))).below (Nat.le_refl _) (by simp)
      rw [← HD.out.eqv] at hk6 hbf ⊢
      have hw2 := W2_size w
      exact rpost_gen (x' := y) H.out (W3 := W2 w) (by omega) HRA.out HD.out.nr (Near.same _ _) (fun o => .tuple #[o, .int .i64 (n : Int)]) (by simp; omega) hk6 hbf
    | true =>
      have hadd : ¬ 9223372036854775807 < y.s.size + body.size := by omega
      have hnn : n ≤ 1048576 := by have := HSZ.out; omega
      have hwn : IntKind.i64.wrap ((n : Int) + (body.size : Int)) = (n : Int) + (body.size : Int) := IntWalk.i64_in _ (by omega)
      go_wp2_with fail
      obtain ⟨hE1, hE2, hE3, hE4⟩ := HE.out
      rw [HROOM.out] at hE1 hE2 hE3 hE4
      have hE1 := hE1.symm
      obtain ⟨f, hf, hd2, hl2⟩ := delN_step hE1 HDEL.out.2
      obtain ⟨f3, hf3, hd3, hl3⟩ := delN_step (f := y.L.length) hE1 (Nat.le_refl _)
      obtain ⟨hb1, hb2, hb3⟩ := step_len hE1
      have hst : (stepX que y).s = y.s ++ body := by rw [hE2]; rfl
      have hss : (stepX que y).s.size = y.s.size + body.size := by rw [hst, ByteArray.size_append]
      have hll2 : (stepX que y).L = nl := by rw [hE4]; rfl
      have hbb2 : (stepX que y).base = nb := by rw [hE3]; rfl
      have hnb : nb = y.base + 1 := by
        rw [hE3]; unfold nxBase; rw [if_pos hE1]; exact Nat.mod_eq_of_lt (by omega)
      rw [← hE2] at hb2
      unfold roomI at hb2
      have hsub : ∀ b ∈ nl, b.2.size ≤ 1000 := by
        intro b hb
        rw [hE4] at hb
        unfold nxL at hb
        rw [if_pos hE1] at hb
        exact HD.out.bo b (List.mem_of_mem_eraseIdx hb)
      have hw2 := W2_size w
      obtain ⟨cv2, hcv2⟩ : ∃ cv2, cv2 = (((cv'.setIfInBounds 11 (.int .u32 (nb : Int))).setIfInBounds 12 (.int .i64 (win : Int))).setIfInBounds 13 (.slice p2 n2 cp2)).setIfInBounds 15 (.string (y.s ++ body)) := ⟨_, rfl⟩
      have heq : rC C win (stepX que y) p2 cp2 q cap2 = cv2 := by
        rw [hcv2, ← HD.out.eqv, HN2.out, ← hll2, ← hbb2, ← hst]; rfl
      have hk6 := ((((Kept.refl [w.heap.size] w3).set ⟨w.heap.size, 11, none⟩ (.inl (by simp)) (.int .u32 (nb : Int))).set ⟨w.heap.size, 12, none⟩ (.inl (by simp)) (.int .i64 (win : Int))).set ⟨w.heap.size, 13, none⟩ (.inl (by simp)) (.slice p2 n2 cp2)).set ⟨w.heap.size, 15, none⟩ (.inl (by simp)) (.string (y.s ++ body)) |>.alloc (.cells #[.int .u32 (nb : Int), .int .i64 (win : Int), .slice p2 n2 cp2] 35)
      have hb0 := ((((HB3.out.set 11 (.int .u32 (nb : Int))).set 12 (.int .i64 (win : Int))).set 13 (.slice p2 n2 cp2)).set 15 (.string (y.s ++ body))).alloc (.cells #[.int .u32 (nb : Int), .int .i64 (win : Int), .slice p2 n2 cp2] 35)
      rw [← hcv2] at hb0
      have hbf := ((Kept.of_below HBW.out []).trans hk6 (fun y hy => .inr (by simp at hy; omega))).below (Nat.le_refl _) (by simp)
      have hra : RefAt w3 (stepX que y) p2 cp2 q cap2 := ⟨by rw [hll2]; exact HRO.out, HRU.out⟩
      go_roundg (gk - 1)
      case measure => omega
      case rel =>
        refine ⟨stepX que y, n + body.size, p2, cp2, cv2, ?_, by omega, by push_cast; rfl, by have := HSZ.out; omega, heq, hb0, HE3.out.kept hk6 (by simp), refat_gen H.out hra HNR.out (Near.same _ _) (by simp; omega) hk6, HNR.out, hbf, by rw [hbb2, hnb]; omega, by omega, by rw [hll2]; exact hsub, by omega⟩
        rw [show gk - 1 = f by omega, ← hd2]; exact HDEL.out.1
end Go.Proofs.Ytdggnhgflfaffaa
