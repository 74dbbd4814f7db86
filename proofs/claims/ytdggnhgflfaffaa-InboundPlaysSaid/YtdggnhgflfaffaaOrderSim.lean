/- The plain law of orders: slots by numbers that go round, and a list of bodies by numbers. No function of the program in sight. -/
import Derived.Test.YtdggnhgflfaffaaOrder
set_option maxRecDepth 20000
namespace Go.Proofs.Ytdggnhgflfaffaa
set_option linter.unusedVariables false

abbrev BL := List (Nat × ByteArray)
def keyIn (base win x : Nat) : Bool := withinB (x : Int) (base : Int) (win : Int)
/-- the list and the slots hold the same -/
structure Sim (base win : Nat) (f : Nat → ByteArray) (h : Nat → Bool) (L : BL) : Prop where
  bb : base < 4294967296
  w1 : 1 ≤ win
  w2 : win ≤ 64
  nd : (L.map (·.1)).Nodup
  u32 : ∀ p ∈ L, p.1 < 4294967296
  inw : ∀ p ∈ L, keyIn base win p.1 = true
  fwd : ∀ p ∈ L, h (p.1 % 64) = true ∧ f (p.1 % 64) = p.2
  back : ∀ i, i < 64 → h i = true → ∃ p ∈ L, p.1 % 64 = i
theorem key_iff {base win x : Nat} : keyIn base win x = true ↔ 0 ≤ ahead base x ∧ ahead base x < win := by
  unfold keyIn withinB
  rw [Bool.and_eq_true, decide_eq_true_iff, decide_eq_true_iff]
theorem key_uniq {base win x y : Nat} (hb : base < 4294967296) (hw : win ≤ 64) (hx : x < 4294967296) (hy : y < 4294967296) (ix : keyIn base win x = true) (iy : keyIn base win y = true) (h : x % 64 = y % 64) : x = y := by
  rw [key_iff] at ix iy
  unfold ahead at ix iy
  omega
theorem Sim.empty (base win : Nat) (hb : base < 4294967296) (h1 : 1 ≤ win) (h2 : win ≤ 64) (f : Nat → ByteArray) : Sim base win f (fun _ => false) [] :=
  ⟨hb, h1, h2, by simp, by simp, by simp, by simp, fun i _ h => by cases h⟩
/-- a body of x waits -/
theorem Sim.has {base win : Nat} {f : Nat → ByteArray} {h : Nat → Bool} {L : BL} (s : Sim base win f h L) (x : Nat) (hx : x < 4294967296) (ix : keyIn base win x = true) : h (x % 64) = true ↔ x ∈ L.map (·.1) := by
  constructor
  · intro hh
    obtain ⟨p, hp, he⟩ := s.back (x % 64) (Nat.mod_lt _ (by omega)) hh
    have := key_uniq s.bb s.w2 (s.u32 p hp) hx (s.inw p hp) ix he
    exact List.mem_map.2 ⟨p, hp, this⟩
  · intro hm
    obtain ⟨p, hp, he⟩ := List.mem_map.1 hm
    rw [← he]; exact (s.fwd p hp).1
theorem Sim.put {base win : Nat} {f : Nat → ByteArray} {h : Nat → Bool} {L : BL} (s : Sim base win f h L) (x : Nat) (b : ByteArray) (hx : x < 4294967296) (ix : keyIn base win x = true) (hn : h (x % 64) = false) : Sim base win (upd f (x % 64) b) (upd h (x % 64) true) (L ++ [(x, b)]) := by
  have hnm : x ∉ L.map (·.1) := fun hm => by rw [(s.has x hx ix).2 hm] at hn; cases hn
  refine ⟨s.bb, s.w1, s.w2, ?_, ?_, ?_, ?_, ?_⟩
  · rw [List.map_append, List.nodup_append]
    refine ⟨s.nd, by simp, fun a ha c hc e => ?_⟩
    simp at hc; subst hc; subst e
    exact hnm ha
  · intro p hp
    rcases List.mem_append.1 hp with h1 | h1
    · exact s.u32 p h1
    · simp at h1; subst h1; exact hx
  · intro p hp
    rcases List.mem_append.1 hp with h1 | h1
    · exact s.inw p h1
    · simp at h1; subst h1; exact ix
  · intro p hp
    rcases List.mem_append.1 hp with h1 | h1
    · unfold upd
      rw [if_neg, if_neg]
      · exact s.fwd p h1
      all_goals
        intro e
        have := key_uniq s.bb s.w2 (s.u32 p h1) hx (s.inw p h1) ix e
        exact hnm (List.mem_map.2 ⟨p, h1, this⟩)
    · simp at h1; subst h1
      simp [upd]
  · intro i hi hh
    unfold upd at hh
    split at hh
    · rename_i e; exact ⟨(x, b), by simp, e.symm⟩
    · obtain ⟨p, hp, he⟩ := s.back i hi hh
      exact ⟨p, by simp [hp], he⟩
theorem Sim.slide {base win : Nat} {f : Nat → ByteArray} {h : Nat → Bool} {L : BL} (s : Sim base win f h L) (k : Nat) (hk : k < L.length) (he : (L[k]).1 = base) : Sim ((base + 1) % 4294967296) win (upd f (base % 64) ⟨#[]⟩) (upd h (base % 64) false) (L.eraseIdx k) := by
  have hsub : ∀ p ∈ L.eraseIdx k, p ∈ L := fun p hp => (List.eraseIdx_sublist L k).subset hp
  have hnd := s.nd
  have hne : ∀ p ∈ L.eraseIdx k, p.1 ≠ base := by
    intro p hp e
    obtain ⟨j, hj, hje⟩ := List.mem_iff_getElem.1 hp
    rw [List.getElem_eraseIdx] at hje
    rw [List.length_eraseIdx, if_pos hk] at hj
    have hinj : ∀ a b : Nat, (ha : a < L.length) → (hb : b < L.length) → (L[a]).1 = (L[b]).1 → a = b := by
      intro a b ha hb hab
      exact (List.getElem_inj (xs := L.map (·.1)) (h₀ := by simpa using ha) (h₁ := by simpa using hb) hnd).1 (by simpa using hab)
    split at hje
    · have := hinj j k (by omega) hk (by rw [hje, e, he]); omega
    · have := hinj (j + 1) k (by omega) hk (by rw [hje, e, he]); omega
  refine ⟨Nat.mod_lt _ (by omega), s.w1, s.w2, ?_, fun p hp => s.u32 p (hsub p hp), ?_, ?_, ?_⟩
  · exact hnd.sublist ((List.eraseIdx_sublist L k).map _)
  · intro p hp
    have h1 := s.inw p (hsub p hp)
    have h2 := hne p hp
    have h3 := s.u32 p (hsub p hp)
    have h4 := s.bb
    have h5 := s.w2
    rw [key_iff] at h1 ⊢
    unfold ahead at h1 ⊢
    omega
  · intro p hp
    have hb0 : keyIn base win base = true := by
      have := s.w1
      have h4 := s.bb
      have h5 := s.w2
      rw [key_iff]; unfold ahead; omega
    have hx : p.1 % 64 ≠ base % 64 := fun e => hne p hp (key_uniq s.bb s.w2 (s.u32 p (hsub p hp)) s.bb (s.inw p (hsub p hp)) hb0 e)
    unfold upd
    rw [if_neg hx, if_neg hx]
    exact s.fwd p (hsub p hp)
  · intro i hi hh
    unfold upd at hh
    split at hh
    · cases hh
    · rename_i hib
      obtain ⟨p, hp, hpe⟩ := s.back i hi hh
      refine ⟨p, ?_, hpe⟩
      obtain ⟨j, hj, hje⟩ := List.mem_iff_getElem.1 hp
      by_cases hjk : j = k
      · subst hjk; rw [← hje, he] at hpe; exact absurd hpe.symm hib
      · exact List.mem_eraseIdx_iff_getElem.2 ⟨j, hj, by simpa using hjk, hje⟩
theorem below_len (n : Nat) : ∀ l : List Nat, l.Nodup → (∀ x ∈ l, x < n) → l.length ≤ n := by
  induction n with
  | zero => intro l _ h; cases l with
    | nil => simp
    | cons a t => exact absurd (h a (by simp)) (by omega)
  | succ n ih =>
    intro l hn h
    have h1 := ih (l.filter (fun x => decide (x < n))) (hn.filter _) (fun x hx => by simpa using (List.mem_filter.1 hx).2)
    have h2 : l.length ≤ (l.filter (fun x => decide (x < n))).length + 1 := by
      clear ih h1
      induction l with
      | nil => simp
      | cons a t ih2 =>
        have hn2 := List.nodup_cons.1 hn
        by_cases ha : a < n
        · rw [List.filter_cons_of_pos (by simpa using ha)]
          have := ih2 hn2.2 (fun x hx => h x (by simp [hx]))
          simp; omega
        · have ha2 : a = n := by have := h a (by simp); omega
          subst ha2
          have : (t.filter (fun x => decide (x < a))) = t := List.filter_eq_self.2 (fun x hx => by
            have h3 := h x (by simp [hx])
            have h4 : x ≠ a := fun e => hn2.1 (e ▸ hx)
            simp; omega)
          rw [List.filter_cons_of_neg (by simp), this]; simp
    omega
theorem Sim.len {base win : Nat} {f : Nat → ByteArray} {h : Nat → Bool} {L : BL} (s : Sim base win f h L) : L.length ≤ win := by
  have h1 := below_len win (L.map fun p => (ahead base p.1).toNat) (by
    have hn := s.nd
    rw [List.nodup_iff_pairwise_ne, List.pairwise_map] at hn ⊢
    refine List.Pairwise.imp_of_mem (fun {a b} ha hb hab e => hab ?_) hn
    have h1 := s.inw a ha
    have h2 := s.inw b hb
    have h3 := s.u32 a ha
    have h4 := s.u32 b hb
    have h5 := s.bb
    rw [key_iff] at h1 h2
    unfold ahead at h1 h2 e
    omega) (fun x hx => by
    obtain ⟨p, hp, rfl⟩ := List.mem_map.1 hx
    have h1 := s.inw p hp
    rw [key_iff] at h1
    omega)
  simpa using h1
/-- the place of a number; the length: it is not there -/
def ix (L : BL) (x : Nat) : Nat := L.findIdx (fun p => p.1 == x)
theorem ix_lt {L : BL} {x : Nat} : ix L x < L.length ↔ x ∈ L.map (·.1) := by
  unfold ix
  rw [List.findIdx_lt_length]
  simp [List.mem_map]
theorem ix_le (L : BL) (x : Nat) : ix L x ≤ L.length := List.findIdx_le_length
theorem ix_at {L : BL} {x : Nat} (h : ix L x < L.length) : (L[ix L x]).1 = x := by
  have := List.findIdx_getElem (p := fun p : Nat × ByteArray => p.1 == x) (xs := L) (w := h)
  exact beq_iff_eq.1 this
theorem ix_not {L : BL} {x j : Nat} (h : j < ix L x) : (L[j]'(Nat.lt_of_lt_of_le h (ix_le L x))).1 ≠ x := by
  have := List.not_of_lt_findIdx (p := fun p : Nat × ByteArray => p.1 == x) (xs := L) h
  simpa using this
theorem ix_here {L : BL} {x j : Nat} (hj : j < L.length) (he : (L[j]).1 = x) (hle : j ≤ ix L x) : ix L x = j := by
  by_cases h : j < ix L x
  · exact absurd he (ix_not h)
  · omega
end Go.Proofs.Ytdggnhgflfaffaa
