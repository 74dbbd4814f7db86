/- Arguments that came in, opened: slices of slices of rows of plain cells. No function of the program in sight. -/
import Derived.Test.YtplgcnlnhboneaaOpen
namespace Go.Proofs.Ytplgcnlnhboneaa
open Go.ChangeShapes Go.WideShapes Go.ChangeAt Go.RowKit
set_option linter.unusedVariables false

/-- a slice of flat elements that lies in cells: its address, length, capacity, block, offset and values -/
structure RowD where
  p : Option Addr
  n : Nat
  c : Nat
  b : Nat
  o : Nat
  V : Nat → Nat → Value
instance : Inhabited RowD := ⟨⟨none, 0, 0, 0, 0, fun _ _ => .bool false⟩⟩
structure RowOk (W : World) (ks : List (Value → Prop)) (r : RowD) : Prop where
  le : r.n ≤ r.c
  cm : r.c ≤ maxLen
  at_ : 0 < r.n → r.p = some ⟨r.b, r.o, none⟩
  zero : r.n = 0 → r.c = 0 ∨ r.p.isSome
  sl : SL W r.b r.o r.n ks.length r.V
  is : ∀ i, i < r.n → ∀ (j : Nat) (q : Value → Prop), ks[j]? = some q → q (r.V i j)
/-- the cells of a slice of flat elements -/
theorem flat_cells {P : Program} {t e : TypeId} {ks : List (Value → Prop)} (ht : P.underlying t = some (.slice e)) (hk : Flat P e ks) (hpos : 0 < ks.length)
    {H : Type} {enc : TypeId × Value → H} {W : World} {fuel : Nat} {cs : List Value} {x : DataW H × List MemPlace}
    (hf : DataW.trod enc P W 0 (fun _ => true) true fuel t cs = some x) : ∃ r : RowD, cs = [.slice r.p r.n r.c] ∧ RowOk W ks r := by
  rcases Deep.open_slice ht hf with ⟨hcs, _⟩ | ⟨x, l, c, m, n, D, Pl, hcs, _, hl, hm, hmm, _, hx⟩
  · exact ⟨⟨none, 0, 0, 0, 0, fun _ _ => .bool false⟩, hcs, ⟨Nat.le_refl _, by simp, by simp, by simp, ⟨.inl rfl, by simp⟩, by simp⟩⟩
  · have hcm : c = m := by simpa using hmm.symm
    subst hcm
    have each : ∀ i, i < c → ∃ cs' : List Value, cs'.length = ks.length ∧ (∀ (j : Nat), j < ks.length → W.cell? ((x.add (i * ks.length)).add j) = cs'[j]?) ∧ ∀ (j : Nat) (p : Value → Prop), ks[j]? = some p → ∃ v, cs'[j]? = some v ∧ p v := by
      intro i hi
      obtain ⟨cs', h1, h2⟩ := hx i hi
      rw [hk.1] at h1
      obtain ⟨hq1, hq2⟩ := hk.2 H enc W 0 (fun _ => true) true n cs' _ h2
      obtain ⟨_, hlen, hcell⟩ := World.cells?_some h1
      exact ⟨cs', hq1, fun j hj => hcell j hj, hq2⟩
    obtain ⟨C, hC⟩ := Deep.choose_lt each
    have hadd : ∀ i j, (x.add (i * ks.length)).add j = x.add (i * ks.length + j) := fun i j => Deep.add_add _ _ _
    by_cases hlen : l = 0
    · subst hlen
      exact ⟨⟨some x, 0, c, 0, 0, fun _ _ => .bool false⟩, hcs, ⟨hl, hm, fun h => absurd h (Nat.lt_irrefl _), fun _ => .inr rfl, ⟨.inl rfl, fun i hi => absurd hi (Nat.not_lt_zero _)⟩, fun i hi => absurd hi (Nat.not_lt_zero _)⟩⟩
    · obtain ⟨b, off, spot⟩ := x
      have h0 := (hC 0 (by omega)).2.1 0 hpos
      obtain ⟨v0, hv0, _⟩ := (hC 0 (by omega)).2.2 0 (ks[0]'hpos) (List.getElem?_eq_getElem _)
      rw [hv0] at h0
      have hspot : spot = none := by
        have := World.cell?_spot h0
        simpa [Addr.add] using this
      subst hspot
      have hb : b < W.heap.size := by
        have := World.block_lt_of_cell? _ _ h0
        simpa [Addr.add] using this
      have hval : ∀ i, i < l → ∀ (j : Nat), j < ks.length → W.cell? ⟨b, off + i * ks.length + j, none⟩ = some ((C i).getD j (.bool false)) := by
        intro i hi j hj
        have h1 := (hC i (by omega)).2.1 j hj
        have h2 : j < (C i).length := by rw [(hC i (by omega)).1]; exact hj
        rw [hadd] at h1
        have e : (⟨b, off, none⟩ : Addr).add (i * ks.length + j) = ⟨b, off + i * ks.length + j, none⟩ := by
          rw [add_plain, Nat.add_assoc]
        rw [e] at h1
        rw [h1, List.getElem?_eq_getElem h2]
        simp [List.getD, h2]
      refine ⟨⟨some ⟨b, off, none⟩, l, c, b, off, fun i j => (C i).getD j (.bool false)⟩, hcs, ⟨hl, hm, fun _ => rfl, fun _ => .inr rfl, ⟨.inr hb, hval⟩, ?_⟩⟩
      intro i hi j p hp
      have hi' : i < l := hi
      obtain ⟨v, hv, hpv⟩ := (hC i (by omega)).2.2 j p hp
      have e : (C i).getD j (.bool false) = v := by rw [List.getD, hv]; rfl
      show p ((C i).getD j (.bool false))
      rw [e]; exact hpv
/-- a slice of slices -/
theorem open_rows {P : Program} {t s e : TypeId} {ks : List (Value → Prop)} (ht : P.underlying t = some (.slice s)) (hs : P.underlying s = some (.slice e)) (hc1 : P.cellsOf s = 1) (hk : Flat P e ks) (hpos : 0 < ks.length)
    {H : Type} {enc : TypeId × Value → H} {W : World} {base : Nat} {v : Value} {d : DataW H} {ps : List MemPlace}
    (ho : Value.okWide P W .any base t v) (h : DataW.Trod enc P W 0 (fun _ => true) true t v d ps) :
    ∃ (a : Option Addr) (len cap b off : Nat) (R : Nat → RowD), v = .slice a len cap ∧ len ≤ cap ∧ cap ≤ maxLen ∧ (0 < len → a = some ⟨b, off, none⟩) ∧ (len = 0 → cap = 0 ∨ a.isSome) ∧ (len = 0 ∨ b < W.heap.size) ∧
      ∀ i, i < len → W.cell? ⟨b, off + i, none⟩ = some (.slice (R i).p (R i).n (R i).c) ∧ RowOk W ks (R i) := by
  obtain ⟨a, len, cap, rfl⟩ := okWide_slice ht ho
  obtain ⟨fuel, hf⟩ := h
  rcases Deep.open_slice ht hf with ⟨hcs, _⟩ | ⟨x, l, c, m, n, D, Pl, hcs, _, hl, hm, hmm, _, hx⟩
  · simp [Value.cells] at hcs
    obtain ⟨rfl, rfl, rfl⟩ := hcs
    exact ⟨none, 0, 0, 0, 0, fun _ => default, rfl, Nat.le_refl _, by simp, by simp, by simp, .inl rfl, by simp⟩
  · simp [Value.cells] at hcs
    obtain ⟨rfl, rfl, rfl⟩ := hcs
    have hcm : cap = m := by simpa using hmm.symm
    subst hcm
    have each : ∀ i, i < cap → ∃ r : RowD, W.cell? (x.add i) = some (.slice r.p r.n r.c) ∧ RowOk W ks r := by
      intro i hi
      obtain ⟨cs', h1, h2⟩ := hx i hi
      rw [hc1] at h1
      obtain ⟨r, hr, hok⟩ := flat_cells hs hk hpos h2
      obtain ⟨_, hlen, hcell⟩ := World.cells?_some h1
      subst hr
      have := hcell 0 (by omega)
      rw [Deep.add_add] at this
      simp at this
      exact ⟨r, this, hok⟩
    obtain ⟨R, hR⟩ := Deep.choose_lt each
    by_cases hlen : len = 0
    · subst hlen
      exact ⟨some x, 0, cap, 0, 0, fun _ => default, rfl, hl, hm, fun h => absurd h (Nat.lt_irrefl _), fun _ => .inr rfl, .inl rfl, fun i hi => absurd hi (Nat.not_lt_zero _)⟩
    · obtain ⟨b, off, spot⟩ := x
      have h0 := (hR 0 (by omega)).1
      have hspot : spot = none := by
        have := World.cell?_spot h0
        simpa [Addr.add] using this
      subst hspot
      have hb : b < W.heap.size := by
        have := World.block_lt_of_cell? _ _ h0
        simpa [Addr.add] using this
      refine ⟨some ⟨b, off, none⟩, len, cap, b, off, R, rfl, hl, hm, fun _ => rfl, fun _ => .inr rfl, .inr hb, fun i hi => ?_⟩
      obtain ⟨h1, h2⟩ := hR i (by omega)
      rw [add_plain] at h1
      exact ⟨h1, h2⟩
end Go.Proofs.Ytplgcnlnhboneaa
