/- Times and keys in order: heaps and sorted lists of them, in plain lists. No program in sight. -/
import Derived.Test.YtplgcnlnhboneaaMem
namespace Go.Proofs.Ytplgcnlnhboneaa
open Go.ChangeShapes Go.WideShapes Go.ChangeAt Go.RowKit
set_option linter.unusedVariables false

structure Du where
  st : Int
  bl : Int
  at_ : Int
def Du.lt (x y : Du) : Bool := if x.at_ ≠ y.at_ then decide (x.at_ < y.at_) else if x.st ≠ y.st then decide (x.st < y.st) else decide (x.bl < y.bl)
theorem lt_iff (x y : Du) : x.lt y = true ↔ x.at_ < y.at_ ∨ (x.at_ = y.at_ ∧ (x.st < y.st ∨ (x.st = y.st ∧ x.bl < y.bl))) := by
  unfold Du.lt
  split
  · rw [decide_eq_true_iff]; omega
  · split
    · rw [decide_eq_true_iff]; omega
    · rw [decide_eq_true_iff]; omega
theorem nlt_iff (x y : Du) : x.lt y = false ↔ ¬ (x.at_ < y.at_ ∨ (x.at_ = y.at_ ∧ (x.st < y.st ∨ (x.st = y.st ∧ x.bl < y.bl)))) := by
  rw [← lt_iff]; simp
theorem nlt_self (x : Du) : x.lt x = false := by rw [nlt_iff]; omega
theorem nlt_of_lt {x y : Du} (h : x.lt y = true) : y.lt x = false := by rw [lt_iff] at h; rw [nlt_iff]; omega
theorem nlt_trans {x y z : Du} (h : y.lt x = false) (k : z.lt y = false) : z.lt x = false := by rw [nlt_iff] at *; omega
theorem nlt_antisymm {x y : Du} (h : y.lt x = false) (k : x.lt y = false) : x = y := by
  rw [nlt_iff] at *
  obtain ⟨a, b, c⟩ := x
  obtain ⟨a', b', c'⟩ := y
  simp at h k
  have h1 : a = a' := by omega
  have h2 : b = b' := by omega
  have h3 : c = c' := by omega
  rw [h1, h2, h3]

def ga (L : List Du) (i : Nat) : Du := L.getD i ⟨0, 0, 0⟩
theorem ga_at (L : List Du) (i : Nat) (h : i < L.length) : ga L i = L[i] := by simp [ga, List.getD, h]
theorem ga_set (L : List Du) (i j : Nat) (x : Du) (hi : i < L.length) : ga (L.set i x) j = if j = i then x else ga L j := by
  unfold ga
  simp only [List.getD, List.getElem?_set]
  by_cases h : i = j
  · subst h; simp [hi]
  · rw [if_neg h, if_neg (fun e => h e.symm)]
def sw (L : List Du) (i j : Nat) : List Du := (L.set i (ga L j)).set j (ga L i)
theorem sw_len (L : List Du) (i j : Nat) : (sw L i j).length = L.length := by simp [sw]
theorem ga_sw (L : List Du) (i j k : Nat) (hi : i < L.length) (hj : j < L.length) : ga (sw L i j) k = if k = j then ga L i else if k = i then ga L j else ga L k := by
  unfold sw
  rw [ga_set _ _ _ _ (by simpa using hj), ga_set _ _ _ _ hi]
theorem sw_perm (L : List Du) (i j : Nat) (hi : i < L.length) (hj : j < L.length) : (sw L i j).Perm L := by
  have h := Array.swap_perm (xs := L.toArray) (i := i) (j := j) (by simpa using hi) (by simpa using hj)
  have e : (L.toArray.swap i j (by simpa using hi) (by simpa using hj)).toList = sw L i j := by
    simp [Array.swap, sw, ga_at, hi, hj]
  have h2 := h.toList
  rw [e] at h2
  exact h2

def IsHeap (L : List Du) : Prop := ∀ j, 0 < j → j < L.length → (ga L j).lt (ga L ((j - 1) / 2)) = false
def UpInv (L : List Du) (i : Nat) : Prop := i < L.length ∧ (∀ j, 0 < j → j < L.length → j ≠ i → (ga L j).lt (ga L ((j - 1) / 2)) = false) ∧ ∀ j, 0 < j → j < L.length → (j - 1) / 2 = i → 0 < i → (ga L j).lt (ga L ((i - 1) / 2)) = false
theorem ga_app (L M : List Du) (j : Nat) (h : j < L.length) : ga (L ++ M) j = ga L j := by
  unfold ga; simp only [List.getD]; rw [List.getElem?_append_left h]
theorem up_start (L : List Du) (d : Du) (h : IsHeap L) : UpInv (L ++ [d]) L.length := by
  refine ⟨by simp, fun j h1 h2 h3 => ?_, fun j h1 h2 h3 h4 => ?_⟩
  · simp at h2
    rw [ga_app _ _ _ (by omega), ga_app _ _ _ (by omega)]
    exact h j h1 (by omega)
  · simp at h2; omega
theorem up_stop {L : List Du} {i : Nat} (h : UpInv L i) (hs : i = 0 ∨ (ga L i).lt (ga L ((i - 1) / 2)) = false) : IsHeap L := by
  intro j h1 h2
  by_cases hj : j = i
  · subst hj
    rcases hs with h3 | h3
    · omega
    · exact h3
  · exact h.2.1 j h1 h2 hj
theorem up_step {L : List Du} {i : Nat} (h : UpInv L i) (h0 : 0 < i) (hl : (ga L i).lt (ga L ((i - 1) / 2)) = true) : UpInv (sw L i ((i - 1) / 2)) ((i - 1) / 2) := by
  obtain ⟨hi, ha, hb⟩ := h
  have hp : (i - 1) / 2 < L.length := by omega
  refine ⟨by rw [sw_len]; exact hp, fun j h1 h2 h3 => ?_, fun j h1 h2 h3 h4 => ?_⟩
  · rw [sw_len] at h2
    rw [ga_sw _ _ _ _ hi hp, ga_sw _ _ _ _ hi hp, if_neg h3]
    by_cases hj : j = i
    · subst hj
      rw [if_pos rfl, if_pos rfl]
      exact nlt_of_lt hl
    · rw [if_neg hj]
      by_cases hq : (j - 1) / 2 = (i - 1) / 2
      · rw [if_pos hq]
        exact nlt_trans (nlt_of_lt hl) (by have := ha j h1 h2 hj; rwa [hq] at this)
      · rw [if_neg hq]
        by_cases hq2 : (j - 1) / 2 = i
        · rw [if_pos hq2]
          exact hb j h1 h2 hq2 h0
        · rw [if_neg hq2]
          exact ha j h1 h2 hj
  · rw [sw_len] at h2
    rw [ga_sw _ _ _ _ hi hp, ga_sw _ _ _ _ hi hp, if_neg (by omega : ¬ j = (i - 1) / 2), if_neg (by omega : ¬ ((i - 1) / 2 - 1) / 2 = (i - 1) / 2), if_neg (by omega : ¬ ((i - 1) / 2 - 1) / 2 = i)]
    have hg := ha ((i - 1) / 2) h4 hp (by omega)
    by_cases hj : j = i
    · subst hj
      rw [if_pos rfl]
      exact hg
    · rw [if_neg hj]
      exact nlt_trans hg (by have := ha j h1 h2 hj; rwa [h3] at this)

def DownInv (L : List Du) (i : Nat) : Prop := (∀ j, 0 < j → j < L.length → (j - 1) / 2 ≠ i → (ga L j).lt (ga L ((j - 1) / 2)) = false) ∧ ∀ j, 0 < j → j < L.length → (j - 1) / 2 = i → 0 < i → (ga L j).lt (ga L ((i - 1) / 2)) = false
/-- the least of one and those of its two that were looked at -/
def LeastOf (L : List Du) (i k m : Nat) : Prop := (m = i ∨ (2 * i + 1 ≤ m ∧ m < k ∧ m < L.length ∧ (ga L m).lt (ga L i) = true)) ∧ ∀ c, 2 * i + 1 ≤ c → c < k → c < L.length → (ga L c).lt (ga L m) = false
theorem least_start (L : List Du) (i : Nat) : LeastOf L i (2 * i + 1) i := ⟨.inl rfl, fun c h1 h2 => by omega⟩
theorem least_new {L : List Du} {i k m : Nat} (h : LeastOf L i k m) (hk : 2 * i + 1 ≤ k) (hl : k < L.length) (hlt : (ga L k).lt (ga L m) = true) : LeastOf L i (k + 1) k := by
  obtain ⟨h1, h2⟩ := h
  refine ⟨.inr ⟨hk, by omega, hl, ?_⟩, fun c c1 c2 c3 => ?_⟩
  · rcases h1 with h | ⟨_, _, _, h⟩
    · rw [← h]; exact hlt
    · rw [lt_iff] at *; omega
  · by_cases hc : c = k
    · rw [hc]; exact nlt_self _
    · exact nlt_trans (nlt_of_lt hlt) (h2 c c1 (by omega) c3)
theorem least_old {L : List Du} {i k m : Nat} (h : LeastOf L i k m) (hlt : L.length ≤ k ∨ (ga L k).lt (ga L m) = false) : LeastOf L i (k + 1) m := by
  obtain ⟨h1, h2⟩ := h
  refine ⟨?_, fun c c1 c2 c3 => ?_⟩
  · rcases h1 with h | ⟨a, b, c, d⟩
    · exact .inl h
    · exact .inr ⟨a, by omega, c, d⟩
  · by_cases hc : c = k
    · rw [hc]
      rcases hlt with h | h
      · omega
      · exact h
    · exact h2 c c1 (by omega) c3
theorem down_stop {L : List Du} {i : Nat} (h : DownInv L i) (hm : LeastOf L i (2 * i + 3) i) : IsHeap L := by
  intro j h1 h2
  by_cases hj : (j - 1) / 2 = i
  · rw [hj]; exact hm.2 j (by omega) (by omega) h2
  · exact h.1 j h1 h2 hj
theorem down_step {L : List Du} {i m : Nat} (h : DownInv L i) (hi : i < L.length) (hm : LeastOf L i (2 * i + 3) m) (hne : m ≠ i) : DownInv (sw L i m) m ∧ m < L.length ∧ i < m ∧ m ≤ 2 * i + 2 := by
  obtain ⟨ha, hb⟩ := h
  obtain ⟨hm1, hm2⟩ := hm
  rcases hm1 with h | ⟨m1, m2, m3, m4⟩
  · exact absurd h hne
  refine ⟨⟨fun j h1 h2 h3 => ?_, fun j h1 h2 h3 h4 => ?_⟩, m3, by omega, by omega⟩
  · rw [sw_len] at h2
    rw [ga_sw _ _ _ _ hi m3, ga_sw _ _ _ _ hi m3, if_neg h3]
    by_cases hj : j = m
    · subst hj
      rw [if_pos rfl, if_pos (by omega)]
      exact nlt_of_lt m4
    · rw [if_neg hj]
      by_cases hji : j = i
      · subst hji
        rw [if_pos rfl, if_neg (by omega)]
        exact hb m (by omega) m3 (by omega) h1
      · rw [if_neg hji]
        by_cases hq : (j - 1) / 2 = i
        · rw [if_pos hq]
          exact hm2 j (by omega) (by omega) h2
        · rw [if_neg hq]
          exact ha j h1 h2 hq
  · rw [sw_len] at h2
    have hpm : (m - 1) / 2 = i := by omega
    rw [ga_sw _ _ _ _ hi m3, ga_sw _ _ _ _ hi m3, if_neg (by omega : ¬ j = m), if_neg (by omega : ¬ j = i), if_neg (by omega : ¬ (m - 1) / 2 = m), if_pos hpm]
    have := ha j h1 h2 (by omega)
    rwa [h3] at this
theorem ga_take (L : List Du) (k j : Nat) (h : j < k) : ga (L.take k) j = ga L j := by
  unfold ga; simp only [List.getD]; rw [List.getElem?_take_of_lt h]
theorem down_start (L : List Du) (h : IsHeap L) (d : Du) (h0 : 0 < L.length) : DownInv ((L.set 0 d).take (L.length - 1)) 0 := by
  refine ⟨fun j h1 h2 h3 => ?_, fun j h1 h2 h3 h4 => by omega⟩
  rw [List.length_take, List.length_set] at h2
  rw [ga_take _ _ _ (by omega), ga_take _ _ _ (by omega), ga_set _ _ _ _ h0, ga_set _ _ _ _ h0, if_neg (by omega), if_neg h3]
  exact h j h1 (by omega)
theorem down_perm (L : List Du) (h0 : 0 < L.length) : (ga L 0 :: (L.set 0 (ga L (L.length - 1))).take (L.length - 1)).Perm L := by
  cases L with
  | nil => simp at h0
  | cons x t =>
    by_cases ht : t = []
    · subst ht; simp [ga]
    · have e1 : ga (x :: t) 0 = x := rfl
      have hl : 0 < t.length := List.length_pos_iff.2 ht
      have e2 : ga (x :: t) ((x :: t).length - 1) = t.getLast ht := by
        rw [ga_at _ _ (by simp), List.getLast_eq_getElem]
        simp only [List.length_cons, Nat.add_sub_cancel]
        rw [List.getElem_cons]
        simp only [dif_neg (by omega : ¬ t.length = 0)]
      rw [e1, e2]
      refine List.Perm.cons x ?_
      have e3 : ((x :: t).set 0 (t.getLast ht)).take ((x :: t).length - 1) = t.getLast ht :: t.take (t.length - 1) := by
        simp only [List.set_cons_zero, List.length_cons, Nat.add_sub_cancel]
        obtain ⟨n, hn⟩ : ∃ n, t.length = n + 1 := ⟨t.length - 1, by omega⟩
        rw [hn, List.take_succ_cons, Nat.add_sub_cancel]
      rw [e3]
      have e4 : t = t.take (t.length - 1) ++ [t.getLast ht] := by
        rw [← List.dropLast_eq_take]; exact (List.dropLast_concat_getLast ht).symm
      have h5 : (t.getLast ht :: t.take (t.length - 1)).Perm (t.take (t.length - 1) ++ [t.getLast ht]) := (List.perm_append_singleton _ _).symm
      rw [← e4] at h5
      exact h5
theorem heap_root {L : List Du} (h : IsHeap L) : ∀ j, j < L.length → (ga L j).lt (ga L 0) = false := by
  intro j
  induction j using Nat.strongRecOn with
  | _ j ih =>
    intro hj
    rcases Nat.eq_zero_or_pos j with h0 | h0
    · subst h0; exact nlt_self _
    · exact nlt_trans (ih ((j - 1) / 2) (by omega) (by omega)) (h j h0 hj)

def Srt (L : List Du) : Prop := L.Pairwise fun x y => y.lt x = false
theorem srt_ins {L : List Du} {d : Du} {i : Nat} (h : Srt L) (hi : i ≤ L.length) (h1 : ∀ j, j < i → d.lt (ga L j) = false) (h2 : i = L.length ∨ d.lt (ga L i) = true) : Srt (L.take i ++ d :: L.drop i) := by
  have hd : ∀ y ∈ L.drop i, y.lt d = false := by
    intro y hy
    rcases h2 with h2 | h2
    · rw [h2, List.drop_length] at hy; simp at hy
    · have hlt : i < L.length := by
        rcases Nat.lt_or_ge i L.length with h3 | h3
        · exact h3
        · rw [List.drop_of_length_le h3] at hy; simp at hy
      rw [List.drop_eq_getElem_cons hlt] at hy
      have h3 : Srt (L.drop i) := List.Pairwise.drop h
      rw [List.drop_eq_getElem_cons hlt] at h3
      rw [ga_at _ _ hlt] at h2
      rcases List.mem_cons.1 hy with h4 | h4
      · rw [h4]; exact nlt_of_lt h2
      · exact nlt_trans (nlt_of_lt h2) ((List.pairwise_cons.1 h3).1 y h4)
  have ht : ∀ x ∈ L.take i, d.lt x = false := by
    intro x hx
    obtain ⟨j, hj, rfl⟩ := List.mem_iff_getElem.1 hx
    rw [List.length_take] at hj
    rw [List.getElem_take, ← ga_at L j (by omega)]
    exact h1 j (by omega)
  have h5 := h
  unfold Srt at h5 ⊢
  rw [← List.take_append_drop i L, List.pairwise_append] at h5
  rw [List.pairwise_append]
  refine ⟨h5.1, List.pairwise_cons.2 ⟨hd, h5.2.1⟩, fun x hx y hy => ?_⟩
  rcases List.mem_cons.1 hy with h6 | h6
  · rw [h6]; exact ht x hx
  · exact h5.2.2 x hx y h6
theorem perm_ins (L : List Du) (d : Du) (i : Nat) : (L.take i ++ d :: L.drop i).Perm (d :: L) := by
  have h := List.perm_middle (a := d) (l₁ := L.take i) (l₂ := L.drop i)
  rwa [List.take_append_drop] at h
theorem heap_head {x : Du} {xs A : List Du} (hs : Srt (x :: xs)) (hp : (x :: xs).Perm A) (hh : IsHeap A) : ga A 0 = x := by
  have hl : 0 < A.length := by rw [← hp.length_eq]; simp
  have hx : x ∈ A := hp.mem_iff.1 (by simp)
  have hg : ga A 0 ∈ x :: xs := hp.mem_iff.2 (by rw [ga_at A 0 hl]; exact List.getElem_mem _)
  obtain ⟨j, hj, he⟩ := List.mem_iff_getElem.1 hx
  have h1 := heap_root hh j hj
  rw [ga_at A j hj, he] at h1
  rcases List.mem_cons.1 hg with h2 | h2
  · exact h2
  · exact nlt_antisymm h1 ((List.pairwise_cons.1 hs).1 _ h2)
end Go.Proofs.Ytplgcnlnhboneaa
