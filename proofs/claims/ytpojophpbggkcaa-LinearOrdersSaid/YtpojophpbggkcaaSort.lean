/- Lists in an order: insertion, one step by one; two sorted ones of the same are the same. No function of the program in sight. -/
import Derived.Test.YtpojophpbggkcaaOwn
namespace Go.Proofs.Ytpojophpbggkcaa
set_option linter.unusedVariables false
section
variable {α : Type} [Inhabited α]
structure LtLaw (lt : α → α → Bool) : Prop where
  irr : ∀ x, lt x x = false
  ntr : ∀ x y z, lt y x = false → lt z y = false → lt z x = false
  nas : ∀ x y, lt x y = true → lt y x = false
def gi (L : List α) (i : Nat) : α := L.getD i default
theorem gi_at (L : List α) (i : Nat) (h : i < L.length) : gi L i = L[i] := by simp [gi, List.getD, h]
theorem gi_set (L : List α) (i j : Nat) (x : α) (hi : i < L.length) : gi (L.set i x) j = if j = i then x else gi L j := by
  unfold gi
  simp only [List.getD, List.getElem?_set]
  by_cases h : i = j
  · subst h; simp [hi]
  · rw [if_neg h, if_neg (fun e => h e.symm)]
def sx (L : List α) (i j : Nat) : List α := (L.set i (gi L j)).set j (gi L i)
theorem sx_len (L : List α) (i j : Nat) : (sx L i j).length = L.length := by simp [sx]
theorem gi_sx (L : List α) (i j k : Nat) (hi : i < L.length) (hj : j < L.length) : gi (sx L i j) k = if k = j then gi L i else if k = i then gi L j else gi L k := by
  unfold sx
  rw [gi_set _ _ _ _ (by simpa using hj), gi_set _ _ _ _ hi]
theorem sx_perm (L : List α) (i j : Nat) (hi : i < L.length) (hj : j < L.length) : (sx L i j).Perm L := by
  have h := Array.swap_perm (xs := L.toArray) (i := i) (j := j) (by simpa using hi) (by simpa using hj)
  have e : (L.toArray.swap i j (by simpa using hi) (by simpa using hj)).toList = sx L i j := by
    simp [Array.swap, sx, gi_at, hi, hj]
  have h2 := h.toList
  rw [e] at h2
  exact h2
variable {lt : α → α → Bool}
def SrtTo (lt : α → α → Bool) (L : List α) (k : Nat) : Prop := ∀ p q, p < q → q < k → lt (gi L q) (gi L p) = false
def InsInv (lt : α → α → Bool) (L : List α) (i j : Nat) : Prop :=
  (∀ p q, p < q → q ≤ i → p ≠ j → q ≠ j → lt (gi L q) (gi L p) = false) ∧ ∀ q, j < q → q ≤ i → lt (gi L q) (gi L j) = false
theorem ins_start {L : List α} {i : Nat} (h : SrtTo lt L i) : InsInv lt L i i :=
  ⟨fun p q h1 h2 h3 h4 => h p q h1 (by omega), fun q h1 h2 => by omega⟩
theorem ins_stop {L : List α} {i j : Nat} (o : LtLaw lt) (h : InsInv lt L i j) (hj : j ≤ i) (hs : j = 0 ∨ lt (gi L j) (gi L (j - 1)) = false) : SrtTo lt L (i + 1) := by
  intro p q h1 h2
  by_cases hq : q = j
  · subst hq
    rcases hs with hs | hs
    · omega
    · by_cases hp : p = q - 1
      · subst hp; exact hs
      · exact o.ntr _ _ _ (h.1 p (q - 1) (by omega) (by omega) (by omega) (by omega)) hs
  · by_cases hp : p = j
    · subst hp; exact h.2 q h1 (by omega)
    · exact h.1 p q h1 (by omega) hp hq
theorem ins_step {L : List α} {i j : Nat} (o : LtLaw lt) (h : InsInv lt L i (j + 1)) (hj : j + 1 ≤ i) (hi : i < L.length) (hl : lt (gi L (j + 1)) (gi L j) = true) : InsInv lt (sx L (j + 1) j) i j := by
  have g := fun k => gi_sx L (j + 1) j k (by omega) (by omega)
  refine ⟨fun p q h1 h2 h3 h4 => ?_, fun q h1 h2 => ?_⟩
  · rw [g p, g q, if_neg h3, if_neg h4]
    by_cases hq : q = j + 1
    · rw [if_pos hq, if_neg (by omega)]
      exact h.1 p j (by omega) (by omega) (by omega) (by omega)
    · rw [if_neg hq]
      by_cases hp : p = j + 1
      · rw [if_pos hp]
        exact h.1 j q (by omega) h2 (by omega) hq
      · rw [if_neg hp]
        exact h.1 p q h1 h2 hp hq
  · rw [g q, g j, if_pos rfl, if_neg (by omega)]
    by_cases hq : q = j + 1
    · rw [if_pos hq]
      exact o.nas _ _ hl
    · rw [if_neg hq]
      exact h.2 q (by omega) h2
def Sd (lt : α → α → Bool) (L : List α) : Prop := L.Pairwise fun x y => lt y x = false
theorem Sd.of_to {L : List α} (h : SrtTo lt L L.length) : Sd lt L := by
  unfold Sd
  rw [List.pairwise_iff_getElem]
  intro i j hi hj hij
  rw [← gi_at L i hi, ← gi_at L j hj]
  exact h i j hij hj
theorem Sd.to {L : List α} (h : Sd lt L) : SrtTo lt L L.length := by
  intro p q h1 h2
  rw [gi_at L p (by omega), gi_at L q h2]
  unfold Sd at h
  rw [List.pairwise_iff_getElem] at h
  exact h p q (by omega) h2 h1
theorem sd_ins {L : List α} {d : α} {i : Nat} (o : LtLaw lt) (h : Sd lt L) (hi : i ≤ L.length) (h1 : ∀ j, j < i → lt d (gi L j) = false) (h2 : i = L.length ∨ lt d (gi L i) = true) : Sd lt (L.take i ++ d :: L.drop i) := by
  have hd : ∀ y ∈ L.drop i, lt y d = false := by
    intro y hy
    rcases h2 with h2 | h2
    · rw [h2, List.drop_length] at hy; simp at hy
    · have hlt : i < L.length := by
        rcases Nat.lt_or_ge i L.length with h3 | h3
        · exact h3
        · rw [List.drop_of_length_le h3] at hy; simp at hy
      rw [List.drop_eq_getElem_cons hlt] at hy
      have h3 : Sd lt (L.drop i) := List.Pairwise.drop h
      rw [List.drop_eq_getElem_cons hlt] at h3
      rw [gi_at _ _ hlt] at h2
      rcases List.mem_cons.1 hy with h4 | h4
      · rw [h4]; exact o.nas _ _ h2
      · exact o.ntr _ _ _ (o.nas _ _ h2) ((List.pairwise_cons.1 h3).1 y h4)
  have ht : ∀ x ∈ L.take i, lt d x = false := by
    intro x hx
    obtain ⟨j, hj, rfl⟩ := List.mem_iff_getElem.1 hx
    rw [List.length_take] at hj
    rw [List.getElem_take, ← gi_at L j (by omega)]
    exact h1 j (by omega)
  have h5 := h
  unfold Sd at h5 ⊢
  rw [← List.take_append_drop i L, List.pairwise_append] at h5
  rw [List.pairwise_append]
  refine ⟨h5.1, List.pairwise_cons.2 ⟨hd, h5.2.1⟩, fun x hx y hy => ?_⟩
  rcases List.mem_cons.1 hy with h6 | h6
  · rw [h6]; exact ht x hx
  · exact h5.2.2 x hx y h6
omit [Inhabited α] in
theorem ins_perm (L : List α) (d : α) (i : Nat) : (L.take i ++ d :: L.drop i).Perm (d :: L) := by
  have h := List.perm_middle (a := d) (l₁ := L.take i) (l₂ := L.drop i)
  rwa [List.take_append_drop] at h
omit [Inhabited α] in
theorem sd_unique (anti : ∀ x y, lt x y = false → lt y x = false → x = y) : ∀ {X Y : List α}, Sd lt X → Sd lt Y → X.Perm Y → X = Y
  | [], Y, _, _, h => (List.nil_perm.1 h).symm
  | x :: X, [], _, _, h => by have := h.length_eq; simp at this
  | x :: X, y :: Y, hx, hy, h => by
    have h1 := List.pairwise_cons.1 hx
    have h2 := List.pairwise_cons.1 hy
    have e : x = y := by
      have a1 : x ∈ y :: Y := h.mem_iff.1 (by simp)
      have a2 : y ∈ x :: X := h.mem_iff.2 (by simp)
      rcases List.mem_cons.1 a1 with b1 | b1
      · exact b1
      · rcases List.mem_cons.1 a2 with b2 | b2
        · exact b2.symm
        · exact anti _ _ (h2.1 x b1) (h1.1 y b2)
    subst e
    rw [sd_unique anti h1.2 h2.2 h.cons_inv]
/-- the least so far, of the first k -/
def MinTo (lt : α → α → Bool) (L : List α) (k : Nat) (m : α) : Prop := (∃ i, i < k ∧ gi L i = m) ∧ ∀ i, i < k → lt (gi L i) m = false
theorem min_start (o : LtLaw lt) (L : List α) : MinTo lt L 1 (gi L 0) :=
  ⟨⟨0, by omega, rfl⟩, fun i hi => by obtain rfl : i = 0 := by omega
                                      exact o.irr _⟩
theorem min_new {L : List α} {k : Nat} {m : α} (o : LtLaw lt) (h : MinTo lt L k m) (hl : lt (gi L k) m = true) : MinTo lt L (k + 1) (gi L k) := by
  refine ⟨⟨k, by omega, rfl⟩, fun i hi => ?_⟩
  by_cases e : i = k
  · subst e; exact o.irr _
  · exact o.ntr _ _ _ (o.nas _ _ hl) (h.2 i (by omega))
theorem min_old {L : List α} {k : Nat} {m : α} (h : MinTo lt L k m) (hl : lt (gi L k) m = false) : MinTo lt L (k + 1) m := by
  obtain ⟨⟨i, h1, h2⟩, h3⟩ := h
  refine ⟨⟨i, by omega, h2⟩, fun i hi => ?_⟩
  by_cases e : i = k
  · subst e; exact hl
  · exact h3 i (by omega)
/-- the least one of a list -/
def IsMin (lt : α → α → Bool) (L : List α) (m : α) : Prop := m ∈ L ∧ ∀ x ∈ L, lt x m = false
theorem MinTo.is {L : List α} {m : α} (h : MinTo lt L L.length m) : IsMin lt L m := by
  obtain ⟨⟨i, h1, h2⟩, h3⟩ := h
  refine ⟨?_, fun x hx => ?_⟩
  · rw [← h2, gi_at L i h1]; exact List.getElem_mem h1
  · obtain ⟨j, hj, rfl⟩ := List.mem_iff_getElem.1 hx
    rw [← gi_at L j hj]; exact h3 j hj
omit [Inhabited α] in
theorem min_unique (anti : ∀ x y, lt x y = false → lt y x = false → x = y) {L M : List α} {a b : α} (h1 : IsMin lt L a) (h2 : IsMin lt M b) (h3 : b ∈ L) (h4 : a ∈ M) : a = b :=
  anti a b (h2.2 a h4) (h1.2 b h3)
end
end Go.Proofs.Ytpojophpbggkcaa
