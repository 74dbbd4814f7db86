/- Contracts of package ring: Put. -/
import Derived.Test.YtdggnhgflfaffaaRing3
set_option maxRecDepth 20000
namespace Go.Proofs.Ytdggnhgflfaffaa
open Go.ChangeShapes Go.WideShapes Go.ChangeAt Go.RowKit
set_option linter.unusedVariables false

theorem put_nil (t : ByteArray) (w : World) : Calls Try.prog 52 #[.pointer none, .string t] w fun e w' => e = .returned (.int .i64 0) ∧ w = w' := by
  go_enter Try.func52, Try.ntmps52
  go_wp2
  go_ret
  exact ⟨rfl, rfl⟩
/-- the row behind both copies -/
def putF (f : Nat → UInt8) (cap q k1 k : Nat) (u : ByteArray) (p : Nat) : UInt8 := copyF (copyF f q u k1) 0 (u.extract k1 k) (k - k1) p
theorem putF_at (f : Nat → UInt8) (cap fr n k : Nat) (s u : ByteArray) (hs : s.size = n) (hu : u.size = k) (hfr : fr < cap) (hnk : n + k ≤ cap) (hat : ∀ i, i < s.size → f ((fr + i) % cap) = bt s i) (q k1 : Nat) (hq : q = (fr + n) % cap) (hk1 : k1 = min k (cap - q)) :
    ∀ i, i < (s ++ u).size → putF f cap q k1 k u ((fr + i) % cap) = bt (s ++ u) i := by
  intro i hi
  rw [ByteArray.size_append, hs, hu] at hi
  rw [bt_app, hs]
  have hql : q < cap := by rw [hq]; exact Nat.mod_lt _ (by omega)
  obtain ⟨a, ha⟩ : ∃ a, a = (fr + i) % cap := ⟨_, rfl⟩
  rw [← ha]
  have ha1 : a = fr + i ∨ a + cap = fr + i := by
    rcases Nat.lt_or_ge (fr + i) cap with h | h
    · left; rw [ha, Nat.mod_eq_of_lt h]
    · right; rw [ha, Nat.mod_eq_sub_mod h, Nat.mod_eq_of_lt (by omega)]; omega
  have hq1 : q = fr + n ∨ q + cap = fr + n := by
    rcases Nat.lt_or_ge (fr + n) cap with h | h
    · left; rw [hq, Nat.mod_eq_of_lt h]
    · right; rw [hq, Nat.mod_eq_sub_mod h, Nat.mod_eq_of_lt (by omega)]; omega
  have hal : a < cap := by rw [ha]; exact Nat.mod_lt _ (by omega)
  unfold putF copyF
  by_cases hin : i < n
  · rw [if_pos hin, if_neg (by omega), if_neg (by omega), ha]
    exact hat i (by omega)
  · rw [if_neg hin]
    by_cases h2 : 0 ≤ a ∧ a < 0 + (k - k1)
    · rw [if_pos h2, bt_extract _ _ _ _ (by omega) (by omega)]
      congr 1; omega
    · rw [if_neg h2, if_pos (by omega)]
      congr 1; omega
set_option maxRecDepth 100000 in
set_option maxHeartbeats 4000000 in
theorem put_any (b g most : Nat) (s t : ByteArray) (k : Nat) (ht : t.size ≤ 1048576) (hk : min (t.size : Int) ((most : Int) - (s.size : Int)) = (k : Int)) (w : World) (h : Ring w b g most s) :
    Calls Try.prog 52 #[.pointer (some ⟨b, 0, none⟩), .string t] w (ActPost w b g most (s ++ t.extract 0 k) (.int .i64 (k : Int))) := by
  have hR := Lib.hid h
  obtain ⟨cap0, fr0, f0, h⟩ := h
  obtain ⟨c0, c1, c2, c3⟩ := h.cells
  have h1 := h.sc
  have h2 := h.cm
  have h3 := h.mm
  have hkt : k ≤ t.size := by omega
  have hkm : s.size + k ≤ most := by omega
  have z1 := size_extract t 0 k hkt
  rw [Nat.sub_zero] at z1
  have q1 : IntKind.i64.wrap ((most : Int) - (s.size : Int)) = (most : Int) - (s.size : Int) := IntWalk.i64_in _ (by omega)
  clear h
  go_enter Try.func52, Try.ntmps52
  go_wp2
  go_quiet (fail)
  go_wp2_with fail
  rw [show ((s.size : Int) + (k : Int)) = ((s.size + k : Nat) : Int) from by omega]
  refine (grow_any b g most s (s.size + k) hkm (by omega) _ (hR.out.drewN _)).mono ?_
  rintro e w1 ⟨rfl, g', cap, fr, f, hA, hneed, hK1, hgn⟩
  have hK : Kept [b, g] w w1 := ((Kept.refl _ _).drewN nq).trans hK1 (fun x hx => .inl (by simp at hx; simp [hx]))
  clear c0 c1 c2 c3 q1 hK1 hk
  obtain ⟨c0, c1, c2, c3⟩ := hA.cells
  have e2 := hA.blk.free 2
  have hfc := hA.fc
  have hcm := hA.cm
  have hA' := Lib.hid hA
  clear hA
  have q1 : IntKind.i64.wrap ((fr : Int) + (s.size : Int)) = (fr : Int) + (s.size : Int) := IntWalk.i64_in _ (by omega)
  by_cases hat : fr + s.size < cap
  · obtain ⟨q, hq⟩ : ∃ q : Nat, q = fr + s.size := ⟨_, rfl⟩
    have hqI : (fr : Int) + (s.size : Int) = (q : Int) := by omega
    rw [hqI] at q1
    have hqc : q < cap := by omega
    have HQ := Lib.hid (show q = (fr + s.size) % cap by rw [Nat.mod_eq_of_lt (by omega)]; exact hq)
    clear hq
    go_wp2_with fail
    go_quiet (fail)
    generalize hw2 : w1.drewN _ = w2
    have hr2 : RowF w2 g' cap f := by rw [← hw2]; exact hA'.out.row
    have hb2 : Blk w2 b (ringC g' cap fr s.size most) 99 := by rw [← hw2]; exact hA'.out.blk
    have hK2 : Kept [b, g] w w2 := by rw [← hw2]; exact hK.drewN _
    clear hw2 c0 c1 c2 c3 e2 q1 hqI
    have c0 := hb2.cell 0
    have c1 := hb2.cell 1
    have c2 := hb2.cell 2
    have e2 := hb2.free 2
    simp [ringC] at c0 c1 c2
    obtain ⟨k1, hk1⟩ : ∃ k1, k1 = min k (cap - q) := ⟨_, rfl⟩
    obtain ⟨w3, hcp, hrow3, hg3, hsz3⟩ := copy_str hr2 q (by omega) (t.extract 0 k) (cap - q) k1 3 (by rw [z1]; exact hk1.symm)
    have hk1k : k1 ≤ k := by omega
    have HK1 := Lib.hid hk1
    have hne := hA'.out.ne
    have hne2 : ¬ cap = q := by omega
    have hb3 : Blk w3 b (ringC g' cap fr s.size most) 99 := Blk.grown hb2 hg3 (by simpa using hne)
    have z2 : ((t.extract 0 k).extract k1 k).size = k - k1 := size_extract _ _ _ (by omega)
    obtain ⟨w4, hcp4, hrow4, hg4, hsz4⟩ := copy_str (w := w3.drew) (by exact hrow3) 0 (Nat.zero_le _) ((t.extract 0 k).extract k1 k) cap (k - k1) 3 (by rw [z2]; omega)
    have hb4 : Blk w4 b (ringC g' cap fr s.size most) 99 := Blk.grown (w := w3.drew) hb3 hg4 (by simpa using hne)
    rw [Nat.sub_zero] at hcp4
    have hB3 := Lib.hid hb3
    have hB4 := Lib.hid hb4
    have d0 := hb3.cell 0
    have d2 := hb4.cell 2
    have g2 := hb4.free 2
    simp [ringC] at d0 d2
    clear hk1 hb3 hb4
    go_wp2_with fail
    go_region
    go_wp2_with fail
    go_ret
    have hk4 : Kept [b, g] w w4 := (hK2.grown hg3 (fun x hx => by injection hx with hx; subst hx; rcases hgn with h | h; (left; simp [h]); (right; exact h))).drew.grown hg4 (fun x hx => by injection hx with hx; subst hx; rcases hgn with h | h; (left; simp [h]); (right; exact h))
    refine ⟨rfl, g', ⟨cap, fr, putF f cap q k1 k (t.extract 0 k), ?_, ?_, hne, hfc, by rw [ByteArray.size_append, z1]; exact hneed, hcm, h3, ?_⟩, ?_, hgn⟩
    · have h8 := hB4.out.set 2 (.int .i64 ((s.size : Int) + (k : Int)))
      have e : (ringC g' cap fr s.size most).setIfInBounds 2 (.int .i64 ((s.size : Int) + (k : Int))) = ringC g' cap fr (s ++ t.extract 0 k).size most := by
        rw [ByteArray.size_append, z1]; simp [ringC]
      rw [e] at h8
      exact h8
    · exact hrow4.other _ (fun e => hne e.symm) _
    · exact putF_at f cap fr s.size k s (t.extract 0 k) rfl z1 hfc hneed hA'.out.at_ q k1 HQ.out HK1.out
    · exact hk4.set _ (.inl (by simp)) _
  · obtain ⟨q, hq⟩ : ∃ q : Nat, q + cap = fr + s.size := ⟨fr + s.size - cap, by omega⟩
    have hqI : (fr : Int) + (s.size : Int) = (q : Int) + (cap : Int) := by omega
    rw [hqI] at q1
    have hqc : q < cap := by omega
    have HQ := Lib.hid (show q = (fr + s.size) % cap by rw [Nat.mod_eq_sub_mod (by omega), Nat.mod_eq_of_lt (by omega)]; omega)
    clear hq
    go_wp2_with fail
    go_quiet (fail)
    generalize hw2 : w1.drewN _ = w2
    have hr2 : RowF w2 g' cap f := by rw [← hw2]; exact hA'.out.row
    have hb2 : Blk w2 b (ringC g' cap fr s.size most) 99 := by rw [← hw2]; exact hA'.out.blk
    have hK2 : Kept [b, g] w w2 := by rw [← hw2]; exact hK.drewN _
    clear hw2 c0 c1 c2 c3 e2 q1 hqI
    have c0 := hb2.cell 0
    have c1 := hb2.cell 1
    have c2 := hb2.cell 2
    have e2 := hb2.free 2
    simp [ringC] at c0 c1 c2
    obtain ⟨k1, hk1⟩ : ∃ k1, k1 = min k (cap - q) := ⟨_, rfl⟩
    obtain ⟨w3, hcp, hrow3, hg3, hsz3⟩ := copy_str hr2 q (by omega) (t.extract 0 k) (cap - q) k1 3 (by rw [z1]; exact hk1.symm)
    have hk1k : k1 ≤ k := by omega
    have HK1 := Lib.hid hk1
    have hne := hA'.out.ne
    have hne2 : ¬ cap = q := by omega
    have hb3 : Blk w3 b (ringC g' cap fr s.size most) 99 := Blk.grown hb2 hg3 (by simpa using hne)
    have z2 : ((t.extract 0 k).extract k1 k).size = k - k1 := size_extract _ _ _ (by omega)
    obtain ⟨w4, hcp4, hrow4, hg4, hsz4⟩ := copy_str (w := w3.drew) (by exact hrow3) 0 (Nat.zero_le _) ((t.extract 0 k).extract k1 k) cap (k - k1) 3 (by rw [z2]; omega)
    have hb4 : Blk w4 b (ringC g' cap fr s.size most) 99 := Blk.grown (w := w3.drew) hb3 hg4 (by simpa using hne)
    rw [Nat.sub_zero] at hcp4
    have hB3 := Lib.hid hb3
    have hB4 := Lib.hid hb4
    have d0 := hb3.cell 0
    have d2 := hb4.cell 2
    have g2 := hb4.free 2
    simp [ringC] at d0 d2
    clear hk1 hb3 hb4
    go_wp2_with fail
    go_region
    go_wp2_with fail
    go_ret
    have hk4 : Kept [b, g] w w4 := (hK2.grown hg3 (fun x hx => by injection hx with hx; subst hx; rcases hgn with h | h; (left; simp [h]); (right; exact h))).drew.grown hg4 (fun x hx => by injection hx with hx; subst hx; rcases hgn with h | h; (left; simp [h]); (right; exact h))
    refine ⟨rfl, g', ⟨cap, fr, putF f cap q k1 k (t.extract 0 k), ?_, ?_, hne, hfc, by rw [ByteArray.size_append, z1]; exact hneed, hcm, h3, ?_⟩, ?_, hgn⟩
    · have h8 := hB4.out.set 2 (.int .i64 ((s.size : Int) + (k : Int)))
      have e : (ringC g' cap fr s.size most).setIfInBounds 2 (.int .i64 ((s.size : Int) + (k : Int))) = ringC g' cap fr (s ++ t.extract 0 k).size most := by
        rw [ByteArray.size_append, z1]; simp [ringC]
      rw [e] at h8
      exact h8
    · exact hrow4.other _ (fun e => hne e.symm) _
    · exact putF_at f cap fr s.size k s (t.extract 0 k) rfl z1 hfc hneed hA'.out.at_ q k1 HQ.out HK1.out
    · exact hk4.set _ (.inl (by simp)) _
end Go.Proofs.Ytdggnhgflfaffaa
