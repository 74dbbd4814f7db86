/- The plain law of merging by a heap. No function of the program in sight. -/
import Derived.Test.YtplgcnlnhboneaaMerge
namespace Go.Proofs.Ytplgcnlnhboneaa
set_option linter.unusedVariables false

def isOpen (Ls : Nat → List Du) (A : Nat → Nat) (i : Nat) : Prop := 0 < A i ∧ A i < (Ls i).length
instance (Ls : Nat → List Du) (A : Nat → Nat) (i : Nat) : Decidable (isOpen Ls A i) := by unfold isOpen; exact inferInstance
instance (x y : Du) : Decidable (x = y) := decidable_of_iff (x.st = y.st ∧ x.bl = y.bl ∧ x.at_ = y.at_) (by cases x; cases y; simp)
def lastD (Ls : Nat → List Du) (A : Nat → Nat) (i : Nat) : Du := ga (Ls i) (A i - 1)
def opens (Ls : Nat → List Du) (A : Nat → Nat) (m : Nat) (d : Du) : Nat := (List.range m).countP (fun i => decide (isOpen Ls A i ∧ lastD Ls A i = d))
theorem opens_pos {Ls : Nat → List Du} {A : Nat → Nat} {m i : Nat} {d : Du} (hi : i < m) (ho : isOpen Ls A i) (hl : lastD Ls A i = d) : 0 < opens Ls A m d := by
  unfold opens
  rw [List.countP_pos_iff]
  exact ⟨i, List.mem_range.2 hi, by simp [ho, hl]⟩
theorem opens_zero {Ls : Nat → List Du} {A : Nat → Nat} {m : Nat} {d : Du} (h : ∀ i, i < m → isOpen Ls A i → lastD Ls A i ≠ d) : opens Ls A m d = 0 := by
  unfold opens
  rw [List.countP_eq_zero]
  intro i hi
  rw [List.mem_range] at hi
  simp
  exact fun ho => h i hi ho
/-- all that is pushed -/
def pushed (Ls : Nat → List Du) (A : Nat → Nat) (m : Nat) : List Du := (List.range m).flatMap (fun i => (Ls i).take (A i))
def inc (A : Nat → Nat) (i : Nat) (j : Nat) : Nat := if j = i then A j + 1 else A j
theorem pushed_succ (Ls : Nat → List Du) (A : Nat → Nat) (m : Nat) : pushed Ls A (m + 1) = pushed Ls A m ++ (Ls m).take (A m) := by
  unfold pushed
  rw [List.range_succ, List.flatMap_append]
  simp
theorem pushed_congr {Ls : Nat → List Du} {A B : Nat → Nat} {m : Nat} (h : ∀ i, i < m → A i = B i) : pushed Ls A m = pushed Ls B m := by
  induction m with
  | zero => rfl
  | succ m ih => rw [pushed_succ, pushed_succ, ih (fun i hi => h i (by omega)), h m (by omega)]
theorem pushed_inc (Ls : Nat → List Du) (A : Nat → Nat) (m i : Nat) (hi : i < m) (hA : A i < (Ls i).length) : (pushed Ls (inc A i) m).Perm (ga (Ls i) (A i) :: pushed Ls A m) := by
  induction m with
  | zero => omega
  | succ m ih =>
    rw [pushed_succ, pushed_succ]
    by_cases h : i = m
    · subst h
      rw [pushed_congr (A := inc A i) (B := A) (fun j hj => by unfold inc; rw [if_neg (by omega)])]
      have e : inc A i i = A i + 1 := by unfold inc; rw [if_pos rfl]
      rw [e, List.take_succ_eq_append_getElem hA, ← List.append_assoc, ga_at _ _ hA]
      exact List.perm_append_comm.trans (by simp)
    · have e : inc A i m = A m := by unfold inc; rw [if_neg (fun h2 => h h2.symm)]
      rw [e]
      exact (ih (by omega)).append_right _
def hit (Ls : Nat → List Du) (A : Nat → Nat) (i : Nat) (d : Du) : Nat := if isOpen Ls A i ∧ lastD Ls A i = d then 1 else 0
theorem hit_congr {Ls : Nat → List Du} {A B : Nat → Nat} {i : Nat} {d : Du} (h : A i = B i) : hit Ls A i d = hit Ls B i d := by
  unfold hit isOpen lastD
  simp only [h]
theorem opens_succ (Ls : Nat → List Du) (A : Nat → Nat) (m : Nat) (d : Du) : opens Ls A (m + 1) d = opens Ls A m d + hit Ls A m d := by
  unfold opens hit
  rw [List.range_succ, List.countP_append]
  simp [List.countP_cons]
theorem opens_congr {Ls : Nat → List Du} {A B : Nat → Nat} {m : Nat} {d : Du} (h : ∀ i, i < m → A i = B i) : opens Ls A m d = opens Ls B m d := by
  induction m with
  | zero => rfl
  | succ m ih =>
    rw [opens_succ, opens_succ, ih (fun i hi => h i (by omega)), hit_congr (h m (by omega))]
theorem opens_inc (Ls : Nat → List Du) (A : Nat → Nat) (m i : Nat) (d : Du) (hi : i < m) : opens Ls (inc A i) m d + hit Ls A i d = opens Ls A m d + hit Ls (inc A i) i d := by
  induction m with
  | zero => omega
  | succ m ih =>
    rw [opens_succ, opens_succ]
    by_cases h : i = m
    · subst h
      rw [opens_congr (A := inc A i) (B := A) (fun j hj => by unfold inc; rw [if_neg (by omega)])]
      omega
    · have e : inc A i m = A m := by unfold inc; rw [if_neg (fun h2 => h h2.symm)]
      rw [hit_congr e]
      have := ih (by omega)
      omega
/-- out is given, X waits in the heap, A i of list i are pushed -/
structure MInv (Ls : Nat → List Du) (m : Nat) (A : Nat → Nat) (out X : List Du) : Prop where
  le : ∀ i, i < m → A i ≤ (Ls i).length
  st : ∀ i, i < m → A i = 0 → (Ls i).length = 0
  pm : (out ++ X).Perm (pushed Ls A m)
  so : Srt out
  sx : Srt X
  ab : ∀ x ∈ out, ∀ y ∈ X, y.lt x = false
  op : ∀ d, opens Ls A m d ≤ X.countP (fun x => decide (x = d))
theorem MInv.whole {Ls : Nat → List Du} {m : Nat} {A : Nat → Nat} {out : List Du} (h : MInv Ls m A out []) : out.Perm ((List.range m).flatMap Ls) := by
  have h1 : ∀ i, i < m → A i = (Ls i).length := by
    intro i hi
    have h2 := h.le i hi
    have h3 := h.st i hi
    rcases Nat.lt_or_ge (A i) (Ls i).length with h4 | h4
    · have h5 := opens_pos (d := lastD Ls A i) hi (show isOpen Ls A i from ⟨by omega, h4⟩) rfl
      have h6 := h.op (lastD Ls A i)
      simp at h6
      omega
    · omega
  have hp := h.pm
  rw [List.append_nil] at hp
  refine hp.trans ?_
  unfold pushed
  have : ∀ l : List Nat, (∀ i ∈ l, i < m) → l.flatMap (fun i => (Ls i).take (A i)) = l.flatMap Ls := by
    intro l
    induction l with
    | nil => intro _; rfl
    | cons a l ih =>
      intro hl
      rw [List.flatMap_cons, List.flatMap_cons, ih (fun i hi => hl i (by simp [hi])), h1 a (hl a (by simp)), List.take_length]
  rw [this _ (fun i hi => List.mem_range.1 hi)]
/-- d goes out, no list is open at it -/
theorem MInv.pop0 {Ls : Nat → List Du} {m : Nat} {A : Nat → Nat} {out X : List Du} {d : Du} (h : MInv Ls m A out (d :: X)) (hn : ∀ i, i < m → isOpen Ls A i → lastD Ls A i ≠ d) : MInv Ls m A (out ++ [d]) X := by
  have hs := List.pairwise_cons.1 h.sx
  refine ⟨h.le, h.st, by rw [List.append_assoc]; exact h.pm, ?_, hs.2, ?_, ?_⟩
  · unfold Srt
    rw [List.pairwise_append]
    exact ⟨h.so, by simp, fun x hx y hy => by simp at hy; subst hy; exact h.ab x hx y (by simp)⟩
  · intro x hx y hy
    rcases List.mem_append.1 hx with h1 | h1
    · exact h.ab x h1 y (by simp [hy])
    · simp at h1; subst h1; exact hs.1 y hy
  · intro e
    have h1 := h.op e
    rw [List.countP_cons] at h1
    by_cases he : d = e
    · subst he
      rw [opens_zero hn]; omega
    · simp [he] at h1
      exact h1
theorem cnt_perm {X Y : List Du} (h : X.Perm Y) (d : Du) : X.countP (fun x => decide (x = d)) = Y.countP (fun x => decide (x = d)) := h.countP_eq _
/-- d goes out; list i, open at d, is pushed on -/
theorem MInv.pop1 {Ls : Nat → List Du} {m : Nat} {A : Nat → Nat} {out X X' : List Du} {d : Du} {i : Nat} (h : MInv Ls m A out (d :: X)) (hi : i < m) (ho : isOpen Ls A i) (hl : lastD Ls A i = d)
    (hr : (ga (Ls i) (A i)).lt d = false) (hp : X'.Perm (ga (Ls i) (A i) :: X)) (hs' : Srt X') : MInv Ls m (inc A i) (out ++ [d]) X' := by
  have hs := List.pairwise_cons.1 h.sx
  refine ⟨fun j hj => ?_, fun j hj h0 => ?_, ?_, ?_, hs', ?_, ?_⟩
  · unfold inc
    split
    · rename_i e; subst e; exact ho.2
    · exact h.le j hj
  · unfold inc at h0
    split at h0
    · omega
    · exact h.st j hj h0
  · have h1 : (out ++ [d] ++ X').Perm (ga (Ls i) (A i) :: (out ++ (d :: X))) := by
      refine (List.Perm.append_left _ hp).trans ?_
      rw [List.append_assoc]
      have h2 : (out ++ ([d] ++ ga (Ls i) (A i) :: X)).Perm (out ++ (ga (Ls i) (A i) :: d :: X)) := List.Perm.append_left _ (List.Perm.swap _ _ _)
      exact h2.trans List.perm_middle
    exact (h1.trans (h.pm.cons _)).trans (pushed_inc Ls A m i hi ho.2).symm
  · unfold Srt
    rw [List.pairwise_append]
    exact ⟨h.so, by simp, fun x hx y hy => by simp at hy; subst hy; exact h.ab x hx y (by simp)⟩
  · have hd : ∀ y ∈ X', y.lt d = false := fun y hy => by
      rcases List.mem_cons.1 (hp.mem_iff.1 hy) with h1 | h1
      · subst h1; exact hr
      · exact hs.1 y h1
    intro x hx y hy
    rcases List.mem_append.1 hx with h1 | h1
    · exact nlt_trans (h.ab x h1 d (by simp)) (hd y hy)
    · simp at h1; subst h1; exact hd y hy
  · intro e
    have h1 := h.op e
    have h2 := opens_inc Ls A m i e hi
    rw [cnt_perm hp e, List.countP_cons]
    rw [List.countP_cons] at h1
    have h3 : hit Ls (inc A i) i e ≤ if decide (ga (Ls i) (A i) = e) = true then 1 else 0 := by
      unfold hit
      split
      · rename_i h4
        have h5 : lastD Ls (inc A i) i = ga (Ls i) (A i) := by unfold lastD inc; rw [if_pos rfl]; rfl
        rw [h5] at h4
        simp [h4.2]
      · exact Nat.zero_le _
    have h4 : hit Ls A i e = if decide (d = e) = true then 1 else 0 := by
      unfold hit
      by_cases he : d = e
      · rw [if_pos ⟨ho, hl.trans he⟩]; simp [he]
      · rw [if_neg (fun h => he (hl.symm.trans h.2))]; simp [he]
    omega
theorem opens_pushed (Ls : Nat → List Du) (A : Nat → Nat) (d : Du) (m : Nat) : opens Ls A m d ≤ (pushed Ls A m).countP (fun x => decide (x = d)) := by
  induction m with
  | zero => exact Nat.zero_le _
  | succ m ih =>
    rw [opens_succ, pushed_succ, List.countP_append]
    have : hit Ls A m d ≤ ((Ls m).take (A m)).countP (fun x => decide (x = d)) := by
      unfold hit
      split
      · rename_i h
        have h0 := h.1.1
        have h1 := h.1.2
        have h2 : A m - 1 < ((Ls m).take (A m)).length := by rw [List.length_take]; omega
        have h3 : d ∈ (Ls m).take (A m) := by
          rw [← h.2]
          unfold lastD
          rw [ga_at _ _ (by omega)]
          exact List.mem_iff_getElem.2 ⟨A m - 1, h2, by simp⟩
        have h4 : 0 < ((Ls m).take (A m)).countP (fun x => decide (x = d)) := List.countP_pos_iff.2 ⟨d, h3, by simp⟩
        omega
      · exact Nat.zero_le _
    omega
/-- ahead of the first one that goes out: the first of each list -/
def first (Ls : Nat → List Du) (k : Nat) (i : Nat) : Nat := if i < k then min 1 (Ls i).length else 0
theorem MInv.start {Ls : Nat → List Du} {m : Nat} {X : List Du} (hs : Srt X) (hp : X.Perm (pushed Ls (first Ls m) m)) : MInv Ls m (first Ls m) [] X := by
  refine ⟨fun i hi => ?_, fun i hi h0 => ?_, by simpa using hp, List.Pairwise.nil, hs, by simp, fun d => ?_⟩
  · unfold first; rw [if_pos hi]; omega
  · unfold first at h0; rw [if_pos hi] at h0; omega
  · rw [cnt_perm hp d]; exact opens_pushed Ls _ d m
end Go.Proofs.Ytplgcnlnhboneaa
