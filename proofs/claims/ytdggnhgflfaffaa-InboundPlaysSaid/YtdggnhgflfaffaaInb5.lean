/- inbound: Read, Deliver. -/
import Derived.Test.YtdggnhgflfaffaaInb4
import Derived.Deep.LoopGhost
namespace Go.Proofs.Ytdggnhgflfaffaa
set_option maxRecDepth 20000
open Go.ChangeShapes Go.WideShapes Go.ChangeAt Go.RowKit
set_option linter.unusedVariables false

theorem tlist_eq (a b : ByteArray) : (a.toList == b.toList) = decide (a = b) := by
  rw [Bool.eq_iff_iff, beq_iff_eq, decide_eq_true_iff, ByteArray.toList_eq, ByteArray.toList_eq]
  exact ⟨fun h => ByteArray.ext (Array.toList_inj.1 h), fun h => by rw [h]⟩
theorem InAt.ringed {w w' : World} {b ob g1 g2 rb rg rg' win que : Nat} {C : Nat → Int} {x : Ist} {bd : Nat} {s' : ByteArray} (h : InAt w b ob g1 g2 rb rg win que C x bd) (hr : Ring w' rb rg' que s') (hk : Kept [rb, rg] w w') (hg : rg' = rg ∨ w.heap.size ≤ rg') :
    InAt w' b ob g1 g2 rb rg' win que C { x with s := s' } bd := by
  have n := h.ne
  have l1 := h.blk.lt
  have l2 := h.ord.lt
  refine ⟨h.blk.kept hk (by simp; omega), h.ord.kept hk (by simp; omega) (by simp; omega) (by simp; omega), hr, h.hwin, h.hque, ?_⟩
  rcases hg with rfl | hg
  · exact n
  · omega
def rdM (s : ByteArray) (n : Int) : Nat := (max 0 (min n (s.size : Int))).toNat
theorem rdM_eq (s : ByteArray) (n : Int) : max 0 (min n (s.size : Int)) = (rdM s n : Int) := by unfold rdM; omega
def rdX (x : Ist) (n : Int) : Ist := if n < 1 then x else { x with s := x.s.extract (rdM x.s n) x.s.size }
def rdT (x : Ist) (n : Int) : ByteArray := if n < 1 then ⟨#[]⟩ else x.s.extract 0 (rdM x.s n)
def rdK (x : Ist) (n : Int) : Int := if n < 1 then 1 else if x.s.size = 0 ∧ endB x = true then 13 else 0
set_option maxHeartbeats 2000000 in
theorem iread (b : Nat) (R : List Nat) (win que : Nat) (C : Nat → Int) (x : Ist) (n : Int) (w : World) (h : In w b R win que C x) :
    Calls Try.prog 20 #[.pointer (some ⟨b, 0, none⟩), .int .i64 n] w (IAct w b R win que C (rdX x n) (.tuple #[.string (rdT x n), .int .i64 (rdK x n)])) := by
  unfold rdX rdT rdK
  by_cases hn : n < 1
  · rw [if_pos hn, if_pos hn, if_pos hn]
    have HS := Lib.hid (fun v => IAct.same (v := v) (e := .returned v) h ⟨rfl, 0, rfl⟩)
    clear h
    go_enter Try.func20, Try.ntmps20
    go_wp2_with fail
    try rw [Exit.noGoto_ret]
    go_returns
    exact HS.out _
  · rw [if_neg hn, if_neg hn, if_neg hn]
    obtain ⟨ob, g1, g2, rb, rg, rfl, h⟩ := h
    obtain ⟨c3, c11, c12, c13, c14, c15, c16, c17⟩ := h.cells
    have HT := Lib.hid (take_any rb rg que x.s n (rdM x.s n) (rdM_eq x.s n) w h.ring)
    have HA := Lib.hid h
    have hms : (x.s.extract 0 (rdM x.s n)).size = rdM x.s n := by
      have : rdM x.s n ≤ x.s.size := by unfold rdM; omega
      rw [size_extract _ _ _ this]; omega
    have hm0 : rdM x.s n = 0 ↔ x.s.size = 0 := by unfold rdM; omega
    have HE : Hid (∀ w' R' s', In w' b R' win que C { x with s := s' } → Calls Try.prog 13 #[.pointer (some ⟨b, 0, none⟩)] w' (SameD w' (.bool (endB x)))) := Lib.hid (fun w' R' s' hi => iended b R' win que C { x with s := s' } w' hi)
    clear h c3 c11 c13 c14 c15 c16 c17
    by_cases hs : x.s.size = 0
    · have ht : x.s.extract 0 (rdM x.s n) = ⟨#[]⟩ := ByteArray.ext (Array.size_eq_zero_iff.1 (by rw [hm0.2 hs] at hms ⊢; exact hms))
      rw [ht] at HT ⊢
      have e0 : (rdM x.s n) = 0 := hm0.2 hs
      have b0 : ((⟨#[]⟩ : ByteArray).toList == (⟨#[]⟩ : ByteArray).toList) = true := by simp
      cases he : endB x with
      | false =>
        rw [he] at HE
        rw [if_neg (by simp)]
        go_enter Try.func20, Try.ntmps20
        go_wp2_with fail
        refine HT.out.mono ?_
        rintro e w1 ⟨rfl, rg', hr', hk', hg'⟩
        have HA2 := Lib.hid (HA.out.ringed hr' hk' hg')
        have HK := Lib.hid hk'
        have HG := Lib.hid hg'
        clear hr' hk' hg' HT
        go_wp2_with fail
        refine (HE.out _ _ _ ⟨ob, g1, g2, rb, rg', rfl, HA2.out⟩).mono ?_
        rintro e w2 ⟨rfl, q, rfl⟩
        go_wp2_with fail
        try rw [Exit.noGoto_ret]
        go_returns
        exact ⟨rfl, _, ⟨ob, g1, g2, rb, rg', rfl, HA2.out.kept ((Kept.refl [] w1).drewN q) (by simp)⟩, (HK.out.drewN q).mono (fun y hy => .inl (by simp at hy ⊢; omega)), fun y hy => by simp at hy ⊢; have := HG.out; omega⟩
      | true =>
        rw [he] at HE
        rw [if_pos ⟨hs, rfl⟩]
        go_enter Try.func20, Try.ntmps20
        go_wp2_with fail
        refine HT.out.mono ?_
        rintro e w1 ⟨rfl, rg', hr', hk', hg'⟩
        have HA2 := Lib.hid (HA.out.ringed hr' hk' hg')
        have HK := Lib.hid hk'
        have HG := Lib.hid hg'
        clear hr' hk' hg' HT
        go_wp2_with fail
        refine (HE.out _ _ _ ⟨ob, g1, g2, rb, rg', rfl, HA2.out⟩).mono ?_
        rintro e w2 ⟨rfl, q, rfl⟩
        go_wp2_with fail
        try rw [Exit.noGoto_ret]
        go_returns
        exact ⟨rfl, _, ⟨ob, g1, g2, rb, rg', rfl, HA2.out.kept ((Kept.refl [] w1).drewN q) (by simp)⟩, (HK.out.drewN q).mono (fun y hy => .inl (by simp at hy ⊢; omega)), fun y hy => by simp at hy ⊢; have := HG.out; omega⟩
    · have hne : x.s.extract 0 (rdM x.s n) ≠ ⟨#[]⟩ := by
        intro e
        rw [e] at hms
        have : rdM x.s n = 0 := hms.symm
        exact hs (hm0.1 this)
      rw [if_neg (by omega)]
      have b0 : ((x.s.extract 0 (rdM x.s n)).toList == (⟨#[]⟩ : ByteArray).toList) = false := by rw [tlist_eq, decide_eq_false hne]
      have b1 : (x.s.extract 0 (rdM x.s n)).toList.isEmpty = false := by
        cases h9 : (x.s.extract 0 (rdM x.s n)).toList.isEmpty with
        | false => rfl
        | true => rw [List.isEmpty_iff.1 h9] at b0; simp at b0
      generalize x.s.extract 0 (rdM x.s n) = t at *
      go_enter Try.func20, Try.ntmps20
      go_wp2_with fail
      refine HT.out.mono ?_
      rintro e w1 ⟨rfl, rg', hr', hk', hg'⟩
      have HA2 := Lib.hid (HA.out.ringed hr' hk' hg')
      have HK := Lib.hid hk'
      have HG := Lib.hid hg'
      clear hr' hk' hg' HT hms hne
      go_wp2_with fail
      try rw [Exit.noGoto_ret]
      go_returns
      exact ⟨rfl, _, ⟨ob, g1, g2, rb, rg', rfl, HA2.out⟩, HK.out.mono (fun y hy => .inl (by simp at hy ⊢; omega)), fun y hy => by simp at hy ⊢; have := HG.out; omega⟩
def roomI (que : Nat) (x : Ist) : Int := (que : Int) - (x.s.size : Int)
def stepX (que : Nat) (x : Ist) : Ist := { x with base := nxBase x.base x.L (roomI que x), L := nxL x.base x.L (roomI que x), s := x.s ++ nxBody x.base x.L (roomI que x) }
def delN (que : Nat) : Nat → Ist → Ist
  | 0, x => x
  | f + 1, x => if nextB x.base x.L (roomI que x) then delN que f (stepX que x) else x
theorem delN_stop (que f : Nat) (x : Ist) (h : nextB x.base x.L (roomI que x) = false) : delN que f x = x := by
  cases f with
  | zero => rfl
  | succ f => simp [delN, h]
theorem next_pos {base : Nat} {L : BL} {room : Int} (h : nextB base L room = true) : 0 < L.length := by
  unfold nextB at h; rw [decide_eq_true_iff] at h; omega
theorem delN_step {que f : Nat} {x : Ist} (h : nextB x.base x.L (roomI que x) = true) (hf : x.L.length ≤ f) : ∃ g, f = g + 1 ∧ delN que f x = delN que g (stepX que x) ∧ (stepX que x).L.length ≤ g := by
  have h0 := next_pos h
  refine ⟨f - 1, by omega, ?_, ?_⟩
  · obtain ⟨g, rfl⟩ : ∃ g, f = g + 1 := ⟨f - 1, by omega⟩
    simp [delN, h]
  · unfold stepX nxL
    rw [if_pos h]
    show (x.L.eraseIdx _).length ≤ _
    have h2 := h
    unfold nextB at h2; rw [decide_eq_true_iff] at h2
    rw [List.length_eraseIdx, if_pos h2.1]; omega
theorem bodyLen_erase : ∀ (L : BL) (i : Nat) (h : i < L.length), bodyLen (L.eraseIdx i) + (L[i]).2.size = bodyLen L
  | [], i, h => by simp at h
  | a :: L, 0, h => by simp [bodyLen]; omega
  | a :: L, i + 1, h => by
    have := bodyLen_erase L i (by simpa using h)
    unfold bodyLen at this ⊢
    simp only [List.eraseIdx_cons_succ, List.map_cons, List.sum_cons, List.getElem_cons_succ]
    omega
theorem step_len {que : Nat} {x : Ist} (h : nextB x.base x.L (roomI que x) = true) : bodyLen (stepX que x).L + (nxBody x.base x.L (roomI que x)).size = bodyLen x.L ∧ ((nxBody x.base x.L (roomI que x)).size : Int) ≤ roomI que x ∧ ∃ p ∈ x.L, p.2 = nxBody x.base x.L (roomI que x) := by
  have h2 := h
  unfold nextB at h2
  rw [decide_eq_true_iff] at h2
  obtain ⟨h3, h4⟩ := h2
  unfold stepX nxL nxBody
  rw [if_pos h, if_pos h]
  refine ⟨?_, h4, x.L[ix x.L x.base], List.getElem_mem h3, (bodyAt_get _ _ h3).symm⟩
  show bodyLen (x.L.eraseIdx (ix x.L x.base)) + (bodyAt x.L (ix x.L x.base)).size = _
  rw [bodyAt_get _ _ h3]
  exact bodyLen_erase _ _ h3
theorem no_body {base : Nat} {L : BL} {room : Int} (h : nextB base L room = false) : nxBody base L room = ⟨#[]⟩ ∧ nxBase base L room = base ∧ nxL base L room = L := by
  unfold nxBody nxBase nxL
  simp [h]
end Go.Proofs.Ytdggnhgflfaffaa
