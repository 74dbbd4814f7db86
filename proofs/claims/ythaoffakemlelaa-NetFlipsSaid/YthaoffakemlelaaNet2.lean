/- Contracts of package net: slices.Delete at texts, Take. -/
import Derived.Test.YthaoffakemlelaaNet
import Derived.Laws.IdiomCopy
namespace Go.Proofs.Ythaoffakemlelaa
open Go.ChangeShapes Go.WideShapes Go.ChangeAt Go.RowKit
set_option linter.unusedVariables false

/-- a list with others laid over it from o on -/
def putL (xs : List Value) (o : Nat) : List Value → List Value
  | [] => xs
  | v :: r => putL (xs.set o v) (o + 1) r
theorem putL_len (xs : List Value) (o : Nat) (vs : List Value) : (putL xs o vs).length = xs.length := by
  induction vs generalizing xs o with
  | nil => rfl
  | cons v r ih => rw [putL, ih, List.length_set]
theorem putL_at (xs : List Value) (o : Nat) (vs : List Value) (ho : o + vs.length ≤ xs.length) (j : Nat) : (putL xs o vs)[j]? = if o ≤ j ∧ j < o + vs.length then vs[j - o]? else xs[j]? := by
  induction vs generalizing xs o with
  | nil => rw [putL, if_neg (fun h => by have := h.2; simp at this; omega)]
  | cons v r ih =>
    simp only [List.length_cons] at ho
    rw [putL, ih _ _ (by rw [List.length_set]; omega)]
    by_cases h1 : o + 1 ≤ j ∧ j < o + 1 + r.length
    · rw [if_pos h1, if_pos (by simp; omega), show j - o = j - (o + 1) + 1 by omega, List.getElem?_cons_succ]
    · rw [if_neg h1, List.getElem?_set]
      by_cases h2 : o = j
      · subst h2
        rw [if_pos rfl, if_pos (by omega), if_pos (by simp), Nat.sub_self]
        rfl
      · rw [if_neg h2, if_neg (by simp; omega)]
theorem own_setCells {base : Nat} {e : TypeId} {g n cap : Nat} (vs : List Value) : ∀ (o : Nat) (w : World) (xs : List Value), w.ownsRow base e 1 (.slice (some ⟨g, 0, none⟩) n cap) n xs → (w.setCells g o vs).ownsRow base e 1 (.slice (some ⟨g, 0, none⟩) n cap) n (putL xs o vs) := by
  induction vs with
  | nil => intro o w xs h; exact h
  | cons v r ih => intro o w xs h; exact ih (o + 1) _ _ (h.stored o v).1
theorem own_less {w : World} {base : Nat} {e : TypeId} {g n cap size : Nat} {xs : List Value} (h : w.ownsRow base e size (.slice (some ⟨g, 0, none⟩) n cap) n xs) (m : Nat) (hm : m ≤ n) : w.ownsRow base e size (.slice (some ⟨g, 0, none⟩) m cap) m (xs.take (m * size)) := by
  refine ⟨by rw [List.length_take, h.1]; exact Nat.min_eq_left (Nat.mul_le_mul_right _ hm), ?_⟩
  rcases h.2 with ⟨h0, _⟩ | ⟨g', cap', cur, hv, hb, hg, hnc, hcm, hcs, ht⟩
  · cases h0
  · injection hv with h1 _ h3
    injection h1 with h1; injection h1 with h1
    subst h1 h3
    exact .inr ⟨g, cap, cur, rfl, hb, hg, by omega, hcm, hcs, by rw [← ht, List.take_take, Nat.min_eq_left (Nat.mul_le_mul_right _ hm)]⟩
theorem own_cap {w : World} {base : Nat} {e : TypeId} {g n cap size : Nat} {xs : List Value} (h : w.ownsRow base e size (.slice (some ⟨g, 0, none⟩) n cap) n xs) : n ≤ cap ∧ cap ≤ maxLen := by
  rcases h.2 with ⟨h0, _⟩ | ⟨g', cap', cur, hv, hb, hg, hnc, hcm, hcs, ht⟩
  · cases h0
  · injection hv with h1 _ h3
    subst h3
    exact ⟨hnc, hcm⟩
theorem kept_setCells {r : List Nat} {a : World} {g : Nat} (vs : List Value) : ∀ (o : Nat) (w : World), Kept r a w → (g ∈ r ∨ a.heap.size ≤ g) → Kept r a (w.setCells g o vs) := by
  induction vs with
  | nil => intro o w h _; exact h
  | cons v r ih => intro o w h hg; exact ih (o + 1) _ (h.set _ hg v) hg
theorem z_string (w : World) : (zeroValue 9).run Try.prog w = .ok (.string ⟨#[]⟩) w := by kernel_rfl
/-- what stays when one goes -/
theorem erase_cells (L : List ByteArray) (k : Nat) (hk : k < L.length) (u : Value) : (putL (putL (sv L) k (sv (L.drop (k + 1)))) (L.length - 1) [u]).take (L.length - 1) = sv (L.eraseIdx k) := by
  have hl1 : (sv (L.drop (k + 1))).length = L.length - (k + 1) := by rw [sv_len, List.length_drop]
  have hle : (L.eraseIdx k).length = L.length - 1 := by rw [List.length_eraseIdx, if_pos hk]
  apply List.ext_getElem?
  intro j
  rw [List.getElem?_take]
  by_cases hj : j < L.length - 1
  · rw [if_pos hj, putL_at _ _ _ (by rw [putL_len, sv_len]; simp; omega), if_neg (by simp; omega), putL_at _ _ _ (by rw [hl1, sv_len]; omega), hl1]
    simp only [sv, List.getElem?_map, List.getElem?_eraseIdx, List.getElem?_drop]
    by_cases h : j < k
    · rw [if_neg (by omega), if_pos h]
    · rw [if_pos (by omega), if_neg h, show k + 1 + (j - k) = j + 1 by omega]
  · rw [if_neg hj, List.getElem?_eq_none (by rw [sv_len, hle]; omega)]

def DelPost (W : World) (base g cap : Nat) (L : List ByteArray) (e : Ending) (w' : World) : Prop :=
  e = .returned (.slice (some ⟨g, 0, none⟩) L.length cap) ∧ w'.ownsRow base 9 1 (.slice (some ⟨g, 0, none⟩) L.length cap) L.length (sv L) ∧ Kept [g] W w'
set_option maxRecDepth 100000 in
set_option maxHeartbeats 2000000 in
theorem del_any (base g cap : Nat) (L : List ByteArray) (k j : Nat) (hkj : j = k + 1) (hk : k < L.length) (hL : L.length ≤ 4096) (j1 : Int) (hj1 : j1 = (j : Int)) (w : World) (hown : w.ownsRow base 9 1 (.slice (some ⟨g, 0, none⟩) L.length cap) L.length (sv L)) :
    Calls Try.prog 17 #[.slice (some ⟨g, 0, none⟩) L.length cap, .int .i64 (k : Int), .int .i64 j1] w (DelPost w base g cap (L.eraseIdx k)) := by
  subst hj1
  obtain ⟨hcap, hmax⟩ := own_cap hown
  unfold maxLen at hmax
  obtain ⟨i0, hi, hz0, hz1, hz2⟩ := info_parts s_info
  have hcell : ∀ t, t < L.length → w.cell? ⟨g, t, none⟩ = some (.string (bg L t)) := fun t ht => by rw [hown.cellAt _ (by omega)]; exact sv_bg _ _ ht
  have hfree := fun t => hown.frozenAt t
  obtain ⟨n, hn⟩ : ∃ n, n = L.length := ⟨_, rfl⟩
  obtain ⟨news, hnews⟩ : ∃ news, news = sv (L.drop j) := ⟨_, rfl⟩
  have hlen : news.length = n - j := by rw [hnews, sv_len, List.length_drop, hn]
  obtain ⟨A, hA, hsrc⟩ : ∃ A : Addr, (if cap = j then some (⟨g, 0, none⟩ : Addr) else some ⟨g, j, none⟩) = some A ∧ Hid (∀ t u, news[t]? = some u → w.drew.cell? (A.add t) = some u) := by
    by_cases h : cap = j
    · refine ⟨⟨g, 0, none⟩, by simp [h], fun t u hu => ?_⟩
      have h0 : news.length = 0 := by rw [hlen]; omega
      rw [List.length_eq_zero_iff.1 h0] at hu
      simp at hu
    · refine ⟨⟨g, j, none⟩, by simp [h], fun t u hu => ?_⟩
      have ht : t < n - j := by
        have := (List.getElem?_eq_some_iff.1 hu).1
        rwa [hlen] at this
      rw [add_plain]
      have e1 : news[t]? = some (.string (bg L (j + t))) := by
        rw [hnews]
        simp only [sv, List.getElem?_map, List.getElem?_drop]
        rw [bg_at L _ (by omega), List.getElem?_eq_getElem (by omega)]; rfl
      rw [hu] at e1
      rw [e1]
      exact hcell _ (by omega)
  have s1 : Hid (news.length = (n - j) * 1) := by rw [Nat.mul_one]; exact hlen
  have s2 : Hid (∀ u ∈ news, u.oneCell' = true) := by rw [hnews]; exact sv_one _
  have s3 : Hid (∀ t, t < news.length → (w.drew.cell? ⟨g, 0 + k * 1 + t, none⟩).isSome = true ∧ w.drew.frozen? ⟨g, 0 + k * 1 + t, none⟩ = false) := by
    intro t ht
    rw [hlen] at ht
    rw [Nat.mul_one, Nat.zero_add]
    exact ⟨by show (w.cell? _).isSome = true; rw [hcell (k + t) (by omega)]; rfl, hfree _⟩
  obtain ⟨W1, hW1⟩ : ∃ W1, W1 = w.drew.setCells g (0 + k * 1) news := ⟨_, rfl⟩
  have hown1 : W1.ownsRow base 9 1 (.slice (some ⟨g, 0, none⟩) L.length cap) L.length (putL (sv L) k news) := by
    rw [hW1, Nat.zero_add, Nat.mul_one]
    exact own_setCells news k w.drew (sv L) (by exact hown)
  have hc1 : ∀ t, t < n → (W1.cell? ⟨g, t, none⟩).isSome = true := fun t ht => by
    rw [hown1.cellAt t (by omega)]
    have : t < (putL (sv L) k news).length := by rw [putL_len, sv_len]; omega
    rw [List.getElem?_eq_getElem this]; rfl
  have hf1 := fun t => hown1.frozenAt t
  have hcl : ∀ ty, (Builtin.clear_ #[28] ty #[.slice (some ⟨g, k + (n - j), none⟩) (n - (k + (n - j))) (cap - (k + (n - j)))]).run Try.prog W1 = .ok (.tuple #[]) (W1.setCells g (k + (n - j)) (List.replicate (n - (k + (n - j))) (.string ⟨#[]⟩))) :=
    fun ty => Lib.run_clear_slice W1 _ _ ty _ Try.underlying28 z_string rfl rfl g (k + (n - j)) _ _ (by omega) (fun t ht => hc1 _ (by omega)) (fun t ht => hf1 _)
  have hlast : k + (n - j) = L.length - 1 := by omega
  have hone : n - (k + (n - j)) = 1 := by omega
  have hfin : (W1.setCells g (k + (n - j)) (List.replicate (n - (k + (n - j))) (.string ⟨#[]⟩))).ownsRow base 9 1 (.slice (some ⟨g, 0, none⟩) (L.length - 1) cap) (L.length - 1) (sv (L.eraseIdx k)) := by
    have h1 := own_less (own_setCells (List.replicate (n - (k + (n - j))) (.string ⟨#[]⟩)) (k + (n - j)) W1 _ hown1) (L.length - 1) (by omega)
    rw [hone, hlast, Nat.mul_one, hnews, hkj] at h1
    have h2 := erase_cells L k hk (.string ⟨#[]⟩)
    rw [show List.replicate 1 (Value.string ⟨#[]⟩) = [Value.string ⟨#[]⟩] from rfl, h2] at h1
    rw [hone, hlast]; exact h1
  have hkep : Kept [g] w (W1.setCells g (k + (n - j)) (List.replicate (n - (k + (n - j))) (.string ⟨#[]⟩))) := by
    refine kept_setCells _ _ _ ?_ (.inl (by simp))
    rw [hW1]
    exact kept_setCells _ _ _ (Kept.refl _ _).drew (.inl (by simp))
  have hne : ((k : Int) == (j : Int)) = false := by rw [beq_eq_false_iff_ne]; omega
  have hle : (L.eraseIdx k).length = L.length - 1 := by rw [List.length_eraseIdx, if_pos hk]
  rw [← hn]
  rw [← hn] at hfin hle
  have hlast' : k + (n - j) = n - 1 := by omega
  have hkn : k < n := by omega
  have hncap : n ≤ cap := by omega
  have hn4 : n ≤ 4096 := by omega
  have HFIN := Lib.hid hfin
  have HKEP := Lib.hid hkep
  have HLE := Lib.hid hle
  have HLAST := Lib.hid hlast'
  have HW1 := Lib.hid hW1
  have hkj2 : k < j := by omega
  have hjn : j ≤ n := by omega
  have hic : k ≤ cap := by omega
  have hjc : j ≤ cap := by omega
  clear hfin hkep hle hW1 hlast hone hlast' hk hL hcap hown hown1 hc1 hf1 hcell hfree hlen hkj hn hnews
  go_enter Try.func17, Try.ntmps17
  go_wp2_with fail
  go_region_law (refine step_append_room rfl (.tmp 22) (.tmp 25) 28 rfl 9 i0 1 Try.underlying28 hi hz1 g 0 k cap (by simp [Act.eval, Act.put]) A (n - j) (cap - j) news (by simp [Act.eval, Act.put]) s1.out hsrc.out s2.out (by omega) s3.out ?_; rw [← HW1.out])
  go_wp2
  go_ret
  refine ⟨?_, ?_, HKEP.out⟩
  · rw [HLE.out, ← HLAST.out]
    rfl
  · rw [HLE.out]; exact HFIN.out
end Go.Proofs.Ythaoffakemlelaa
