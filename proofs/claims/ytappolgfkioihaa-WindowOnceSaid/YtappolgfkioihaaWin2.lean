/- Windows by lists; Slide. -/
import Derived.Test.YtappolgfkioihaaWin
namespace Go.Proofs.Ytappolgfkioihaa
open Go.ChangeShapes Go.WideShapes Go.ChangeAt Go.RowKit
set_option linter.unusedVariables false

def inL (L : List Nat) (x : Nat) : Bool := L.contains x
theorem inL_iff {L : List Nat} {x : Nat} : inL L x = true ↔ x ∈ L := by unfold inL; exact List.contains_iff_mem
def mkK (base n : Nat) (L : List Nat) (x : Nat) : Int := markK base n (inL L) x
def mkL (base n : Nat) (L : List Nat) (x : Nat) : List Nat := if mkK base n L x = 3 then L ++ [x] else L
theorem inL_app (L : List Nat) (x : Nat) : setM (inL L) x true = inL (L ++ [x]) := by
  funext y
  unfold setM
  rw [Bool.eq_iff_iff, inL_iff]
  split
  · rename_i h; subst h; simp
  · rename_i h
    rw [inL_iff]; simp [h]
theorem inL_filter (L : List Nat) (x : Nat) : setM (inL L) x false = inL (L.filter (fun y => y != x)) := by
  funext y
  unfold setM
  rw [Bool.eq_iff_iff, inL_iff, List.mem_filter]
  split
  · rename_i h; subst h; simp
  · rename_i h
    rw [inL_iff]; simp [h]
/-- a window that holds L -/
structure WinL (w : World) (b bm base n c : Nat) (L : List Nat) : Prop where
  at_ : WinAt w b bm base n c (inL L)
  inw : ∀ x ∈ L, x < 4294967296 ∧ keyIn base n x = true
theorem WinL.kept {w w' : World} {b bm base n c : Nat} {L : List Nat} {r : List Nat} (h : WinL w b bm base n c L) (hk : Kept r w w') (h1 : b ∉ r) (h2 : bm ∉ r) : WinL w' b bm base n c L := ⟨h.at_.kept hk h1 h2, h.inw⟩
theorem WinL.drewN {w : World} {b bm base n c : Nat} {L : List Nat} (h : WinL w b bm base n c L) (k : Nat) : WinL (w.drewN k) b bm base n c L := ⟨h.at_.drewN k, h.inw⟩
theorem WinL.new {w : World} {b bm base n c : Nat} (h : WinAt w b bm base n c (fun _ => false)) : WinL w b bm base n c [] := ⟨h, by simp⟩
def WLAct (W : World) (b bm base n c : Nat) (L : List Nat) (r : Value) (e : Ending) (w' : World) : Prop := e = .returned r ∧ WinL w' b bm base n c L ∧ Kept [b, bm] W w'
theorem less_key {base win x : Nat} (h : lessB x base = true) : keyIn base win x = false := by
  cases hk : keyIn base win x with
  | false => rfl
  | true =>
    rw [key_iff] at hk
    unfold lessB at h
    rw [decide_eq_true_iff] at h
    unfold ahead at h hk
    omega
theorem mk3 {base n : Nat} {L : List Nat} {x : Nat} (h : mkK base n L x = 3) : keyIn base n x = true ∧ x ∉ L := by
  unfold mkK markK at h
  split at h
  · cases h
  · split at h
    · cases h
    · split at h
      · cases h
      · rename_i h2 h3
        refine ⟨by simpa using h2, fun hm => h3 (inL_iff.2 hm)⟩
theorem wmark_is (b bm base n c : Nat) (L : List Nat) (x : Nat) (hx : x < 4294967296) (hc : c < 1000000) (w : World) (h : WinL w b bm base n c L) :
    Calls Try.prog 9 #[.pointer (some ⟨b, 0, none⟩), .int .u32 (x : Int)] w (WLAct w b bm base n (c + 1) (mkL base n L x) (.int .i64 (mkK base n L x))) := by
  refine (wmark_any b bm base n c (inL L) x hx hc w h.at_).mono fun e w' hp => ?_
  obtain ⟨h1, h2, h3⟩ := hp
  refine ⟨h1, ?_, h3⟩
  unfold mkL
  unfold markM at h2
  by_cases hk : mkK base n L x = 3
  · rw [if_pos hk]
    have hk' : markK base n (inL L) x = 3 := hk
    rw [if_pos hk', inL_app] at h2
    refine ⟨h2, fun y hy => ?_⟩
    rcases List.mem_append.1 hy with h4 | h4
    · exact h.inw y h4
    · simp at h4; subst h4; exact ⟨hx, (mk3 hk).1⟩
  · rw [if_neg hk]
    have hk' : ¬ markK base n (inL L) x = 3 := hk
    rw [if_neg hk'] at h2
    exact ⟨h2, h.inw⟩
theorem whas_is (b bm base n c : Nat) (L : List Nat) (x : Nat) (hx : x < 4294967296) (w : World) (h : WinL w b bm base n c L) : Calls Try.prog 13 #[.pointer (some ⟨b, 0, none⟩), .int .u32 (x : Int)] w fun e w' => e = .returned (.bool (inL L x)) ∧ w = w' :=
  whas_any b bm base n c (inL L) x hx w h.at_
theorem wbase_is (b bm base n c : Nat) (L : List Nat) (w : World) (h : WinL w b bm base n c L) : Calls Try.prog 12 #[.pointer (some ⟨b, 0, none⟩)] w fun e w' => e = .returned (.int .u32 (base : Int)) ∧ w = w' :=
  wbase_any b bm base n c (inL L) w h.at_
/-- how a window slides: so far, the base, the list -/
def sl : Nat → Nat → List Nat → Nat × Nat × List Nat
  | 0, base, L => (0, base, L)
  | f + 1, base, L => if inL L base then ((sl f ((base + 1) % 4294967296) (L.filter (fun y => y != base))).1 + 1, (sl f ((base + 1) % 4294967296) (L.filter (fun y => y != base))).2) else (0, base, L)
theorem sl_stop {f base : Nat} {L : List Nat} (h : inL L base = false) : sl f base L = (0, base, L) := by
  cases f with
  | zero => rfl
  | succ f => simp [sl, h]
theorem sl_go {f base : Nat} {L : List Nat} (hf : 0 < f) (h : inL L base = true) : sl f base L = ((sl (f - 1) ((base + 1) % 4294967296) (L.filter (fun y => y != base))).1 + 1, (sl (f - 1) ((base + 1) % 4294967296) (L.filter (fun y => y != base))).2) := by
  obtain ⟨g, rfl⟩ : ∃ g, f = g + 1 := ⟨f - 1, by omega⟩
  simp [sl, h]
/-- rounds of a slide: k done, r the rest -/
def SlRel (F base0 : Nat) (L0 : List Nat) (k base : Nat) (L : List Nat) : Prop := k ≤ F ∧ sl F base0 L0 = (k + (sl (F - k) base L).1, (sl (F - k) base L).2)
theorem SlRel.start (F base : Nat) (L : List Nat) : SlRel F base L 0 base L := ⟨Nat.zero_le _, by simp⟩
theorem SlRel.step {F base0 : Nat} {L0 : List Nat} {k base : Nat} {L : List Nat} (h : SlRel F base0 L0 k base L) (hk : k < F) (hi : inL L base = true) : SlRel F base0 L0 (k + 1) ((base + 1) % 4294967296) (L.filter (fun y => y != base)) := by
  refine ⟨hk, ?_⟩
  rw [h.2, sl_go (by omega) hi, show F - k - 1 = F - (k + 1) by omega]
  simp only [Prod.mk.injEq, and_true]
  omega
theorem SlRel.stop {F base0 : Nat} {L0 : List Nat} {k base : Nat} {L : List Nat} (h : SlRel F base0 L0 k base L) (hs : k = F ∨ inL L base = false) : sl F base0 L0 = (k, base, L) := by
  rw [h.2]
  rcases hs with rfl | hs
  · rw [Nat.sub_self]; rfl
  · rw [sl_stop hs]; simp
theorem slide_in {base n : Nat} {L : List Nat} (hb : base < 4294967296) (hn : n ≤ 64) (h : ∀ x ∈ L, x < 4294967296 ∧ keyIn base n x = true) : ∀ x ∈ L.filter (fun y => y != base), x < 4294967296 ∧ keyIn ((base + 1) % 4294967296) n x = true := by
  intro x hx
  rw [List.mem_filter] at hx
  have h1 := h x hx.1
  have h2 : x ≠ base := by simpa using hx.2
  refine ⟨h1.1, ?_⟩
  have h3 := h1.1
  have h4 := h1.2
  rw [key_iff] at h4 ⊢
  unfold ahead at h4 ⊢
  omega
theorem wslide_nil (most : Int) (w : World) : Calls Try.prog 11 #[.pointer none, .int .i64 most] w fun e w' => e = .returned (.int .i64 0) ∧ w = w' := by
  go_enter Try.func11, Try.ntmps11
  go_wp2
  go_ret
  exact ⟨rfl, rfl⟩
set_option maxRecDepth 100000 in
set_option maxHeartbeats 2000000 in
theorem wslide_is (b bm base n c : Nat) (L : List Nat) (most : Int) (hm : most ≤ 9223372036854775807) (w : World) (h : WinL w b bm base n c L) :
    Calls Try.prog 11 #[.pointer (some ⟨b, 0, none⟩), .int .i64 most] w (WLAct w b bm (sl most.toNat base L).2.1 n c (sl most.toNat base L).2.2 (.int .i64 ((sl most.toNat base L).1 : Int))) := by
  have H := Lib.hid h
  clear h
  go_enter Try.func11, Try.ntmps11
  go_wp2_with fail
  go_loopw [5] (fun nv wr => ∃ (k base' : Nat) (L' : List Nat), nv = .int .i64 (k : Int) ∧ SlRel most.toNat base L k base' L' ∧ WinL wr b bm base' n c L' ∧ Kept [b, bm] w wr) (fun nv _ => most.toNat - (intOf nv).toNat)
  case atStart => exact ⟨0, base, L, rfl, SlRel.start _ _ _, H.out, Kept.refl _ _⟩
  case round =>
    obtain ⟨k, base', L', rfl, hR, hW, hK⟩ := hrel
    have hkF := hR.1
    obtain ⟨c0, c1, c2⟩ := hW.at_.cells
    have hbb := hW.at_.bb
    have HR := Lib.hid hR
    have HW := Lib.hid hW
    have HK := Lib.hid hK
    clear hR hW hK
    by_cases hk : (k : Int) < most
    · have hl := fun q => (HW.out.at_.drewN q).mp.look base' hbb
      cases hi : inL L' base' with
      | true =>
        rw [hi] at hl
        have HI := Lib.hid hi
        clear hi
        go_wp2
        go_quiet (fail)
        generalize hw2 : wr.drewN nq = w2
        have hW2 : WinL w2 b bm base' n c L' := by rw [← hw2]; exact HW.out.drewN _
        have hK2 : Kept [b, bm] w w2 := by rw [← hw2]; exact HK.out.drewN _
        clear hw2 c0 c1 c2 hl
        obtain ⟨c0, c1, c2⟩ := hW2.at_.cells
        obtain ⟨w3, hdel, hm3, hk3⟩ := (hW2.at_.kept (w' := w2.drew) ((Kept.refl [] w2).drew) (by simp) (by simp)).mp.drop base' hbb 0
        rw [inL_filter] at hm3
        have hB3 := hW2.at_.blk.kept (r := [bm]) (Kept.trans (w := w2.drew) ((Kept.refl _ _).drew) hk3 (fun x hx => .inl hx)) (by simp; exact hW2.at_.ne)
        have d0 := hB3.cell 0
        have f0 := hB3.free 0
        simp at d0
        have HM3 := Lib.hid hm3
        have HK3 := Lib.hid hk3
        have HB3 := Lib.hid hB3
        have HW2 := Lib.hid hW2
        have HK2 := Lib.hid hK2
        clear hm3 hk3 hB3 hW2 hK2
        have e1 : Hid ((((base' : Int) + 1) % 4294967296) = (((base' + 1) % 4294967296 : Nat) : Int)) := Lib.hid (by omega)
        go_wp2
        go_region
        go_wp2
        generalize hw4 : World.setCell _ _ _ = w4
        have hW4 : WinL w4 b bm ((base' + 1) % 4294967296) n c (L'.filter (fun y => y != base')) := by
          rw [← hw4, e1.out]
          refine ⟨⟨HB3.out.set 0 _, HM3.out.kept (r := [b]) ((Kept.refl _ _).set _ (.inl (by simp)) _) (by simp; exact fun e => HW2.out.at_.ne e.symm), HW2.out.at_.ne, Nat.mod_lt _ (by omega), HW2.out.at_.n1, HW2.out.at_.n2, HW2.out.at_.cc⟩, slide_in hbb HW2.out.at_.n2 HW2.out.inw⟩
        have hK4 : Kept [b, bm] w w4 := by
          rw [← hw4]
          exact (((HK2.out.drew).trans HK3.out (fun z hz => by simp at hz; simp [hz])).set _ (.inl (by simp)) _)
        go_roundw
        case rel => exact ⟨k + 1, _, _, by go_num, HR.out.step (by omega) HI.out, hW4, hK4⟩
        case measure => simp [intOf]; omega
      | false =>
        rw [hi] at hl
        have hs := HR.out.stop (.inr hi)
        have HS := Lib.hid hs
        clear hi hs
        go_wp2
        go_quiet (fail)
        go_wp2
        go_ret
        rw [HS.out]
        exact ⟨rfl, HW.out.drewN _, HK.out.drewN _⟩
    · have hs := HR.out.stop (.inl (by omega))
      have HS := Lib.hid hs
      have dd : decide ((k : Int) < most) = false := by rw [decide_eq_false_iff_not]; exact hk
      clear hs
      go_wp2
      go_quiet (fail)
      go_wp2
      go_ret
      rw [HS.out]
      exact ⟨rfl, HW.out.drewN _, HK.out.drewN _⟩
end Go.Proofs.Ytappolgfkioihaa
