/- Arguments that came in, opened: slices whose elements are rows of plain cells (integers, bools, strings). No function of the program in sight. -/
import Derived.Test.YtpojophpbggkcaaMem
import Derived.Deep.Slices
import Derived.ChangeOld
import Derived.Carry
namespace Go.Proofs.Ytpojophpbggkcaa
open Go.ChangeShapes Go.WideShapes Go.ChangeAt Go.RowKit
set_option linter.unusedVariables false

def IsI (k : IntKind) (v : Value) : Prop := ∃ n, v = .int k n ∧ (Lit.int k n).wf = true
def IsB (v : Value) : Prop := ∃ b, v = .bool b
def IsS (v : Value) : Prop := ∃ s, v = .string s ∧ s.size ≤ maxLen

/-- a value of type t is so many cells, each of its kind -/
def Flat (P : Program) (t : TypeId) (ks : List (Value → Prop)) : Prop :=
  P.cellsOf t = ks.length ∧ ∀ (H : Type) (enc : TypeId × Value → H) (w : World) (base : Nat) (spare : Nat → Bool) (held : Bool) (fuel : Nat) (cs : List Value) (x : DataW H × List MemPlace),
    DataW.trod enc P w base spare held fuel t cs = some x → cs.length = ks.length ∧ ∀ (j : Nat) (p : Value → Prop), ks[j]? = some p → ∃ v, cs[j]? = some v ∧ p v

theorem flat_int {P : Program} {t : TypeId} {k : IntKind} (ht : P.underlying t = some (.int k)) (hc : P.cellsOf t = 1) : Flat P t [IsI k] := by
  refine ⟨hc, fun H enc w base spare held fuel cs x h => ?_⟩
  obtain ⟨n, rfl, _, hw⟩ := DataW.trod_int ht h
  exact ⟨rfl, fun j p hp => by cases j with | zero => simp at hp; subst hp; exact ⟨_, rfl, n, rfl, hw⟩ | succ j => simp at hp⟩
theorem flat_bool {P : Program} {t : TypeId} (ht : P.underlying t = some .bool) (hc : P.cellsOf t = 1) : Flat P t [IsB] := by
  refine ⟨hc, fun H enc w base spare held fuel cs x h => ?_⟩
  obtain ⟨n, rfl, _⟩ := DataW.trod_bool ht h
  exact ⟨rfl, fun j p hp => by cases j with | zero => simp at hp; subst hp; exact ⟨_, rfl, n, rfl⟩ | succ j => simp at hp⟩
theorem flat_string {P : Program} {t : TypeId} (ht : P.underlying t = some .string) (hc : P.cellsOf t = 1) : Flat P t [IsS] := by
  refine ⟨hc, fun H enc w base spare held fuel cs x h => ?_⟩
  obtain ⟨n, rfl, _, hw⟩ := DataW.trod_string ht h
  exact ⟨rfl, fun j p hp => by cases j with | zero => simp at hp; subst hp; exact ⟨_, rfl, n, rfl, hw⟩ | succ j => simp at hp⟩

/-- the fields' types and offsets cover the row ks: field i lies at its offset, with kinds kss i -/
theorem flat_struct {P : Program} {t : TypeId} {fs : Array Field} {ks : List (Value → Prop)} (ht : P.underlying t = some (.struct fs)) (hc : P.cellsOf t = ks.length)
    (hf : ∀ (j : Nat), j < ks.length → ∃ (i : Nat) (f : Field) (kf : List (Value → Prop)), fs[i]? = some f ∧ Flat P f.type kf ∧ f.offset ≤ j ∧ j < f.offset + kf.length ∧ kf[j - f.offset]? = ks[j]?) : Flat P t ks := by
  refine ⟨hc, fun H enc w base spare held fuel cs x h => ?_⟩
  obtain ⟨xs, n, rfl, rfl, hlen, hxs, hx⟩ := DataW.trod_struct ht h
  refine ⟨by omega, fun j p hp => ?_⟩
  have hj : j < ks.length := (List.getElem?_eq_some_iff.1 hp).1
  obtain ⟨i, f, kf, hi, hfl, h1, h2, h3⟩ := hf j hj
  have hxi := hx i f hi
  have hlt : i < fs.size := (Array.getElem?_eq_some_iff.1 hi).1
  have hsome : xs[i]? = some (xs[i]'(by omega)) := List.getElem?_eq_getElem _
  rw [hsome] at hxi
  obtain ⟨hl, hv⟩ := hfl.2 H enc w base spare held n _ _ hxi
  obtain ⟨v, hv1, hv2⟩ := hv (j - f.offset) p (by rw [h3]; exact hp)
  refine ⟨v, ?_, hv2⟩
  rw [List.getElem?_take] at hv1
  split at hv1
  · rw [List.getElem?_drop] at hv1
    rw [← hv1]; congr 1; omega
  · cases hv1

/-- a slice of len elements of sz cells each: element i's cell j holds V i j. 'lt': where it lies -/
structure SL (w : World) (b off len sz : Nat) (V : Nat → Nat → Value) : Prop where
  lt : len = 0 ∨ b < w.heap.size
  cell : ∀ i, i < len → ∀ j, j < sz → w.cell? ⟨b, off + i * sz + j, none⟩ = some (V i j)

theorem open_flat {P : Program} {t e : TypeId} {ks : List (Value → Prop)} (ht : P.underlying t = some (.slice e)) (hk : Flat P e ks) (hpos : 0 < ks.length)
    {H : Type} {enc : TypeId × Value → H} {W : World} {base : Nat} {v : Value} {d : DataW H} {ps : List MemPlace}
    (ho : Value.okWide P W .any base t v) (h : DataW.Trod enc P W 0 (fun _ => true) true t v d ps) :
    ∃ (a : Option Addr) (len cap b off : Nat) (V : Nat → Nat → Value), v = .slice a len cap ∧ len ≤ cap ∧ cap ≤ maxLen ∧ (0 < len → a = some ⟨b, off, none⟩) ∧ (len = 0 → cap = 0 ∨ a.isSome) ∧ SL W b off len ks.length V ∧
      ∀ i, i < len → ∀ (j : Nat) (p : Value → Prop), ks[j]? = some p → p (V i j) := by
  obtain ⟨a, len, cap, rfl⟩ := okWide_slice ht ho
  obtain ⟨fuel, hf⟩ := h
  rcases Deep.open_slice ht hf with ⟨hcs, _⟩ | ⟨x, l, c, m, n, D, Pl, hcs, _, hl, hm, hmm, _, hx⟩
  · simp [Value.cells] at hcs
    obtain ⟨rfl, rfl, rfl⟩ := hcs
    exact ⟨none, 0, 0, 0, 0, fun _ _ => .bool false, rfl, Nat.le_refl _, by simp, by simp, by simp, ⟨.inl rfl, by simp⟩, by simp⟩
  · simp [Value.cells] at hcs
    obtain ⟨rfl, rfl, rfl⟩ := hcs
    have hcm : cap = m := by simpa using hmm.symm
    subst hcm
    have each : ∀ i, i < cap → ∃ cs' : List Value, cs'.length = ks.length ∧ (∀ (j : Nat), j < ks.length → W.cell? ((x.add (i * ks.length)).add j) = cs'[j]?) ∧ ∀ (j : Nat) (p : Value → Prop), ks[j]? = some p → ∃ v, cs'[j]? = some v ∧ p v := by
      intro i hi
      obtain ⟨cs', h1, h2⟩ := hx i hi
      rw [hk.1] at h1
      obtain ⟨hq1, hq2⟩ := hk.2 H enc W 0 (fun _ => true) true n cs' _ h2
      obtain ⟨_, hlen, hcell⟩ := World.cells?_some h1
      exact ⟨cs', hq1, fun j hj => hcell j hj, hq2⟩
    obtain ⟨C, hC⟩ := Deep.choose_lt each
    have hadd : ∀ i j, (x.add (i * ks.length)).add j = x.add (i * ks.length + j) := fun i j => Deep.add_add _ _ _
    by_cases hlen : len = 0
    · subst hlen
      exact ⟨some x, 0, cap, 0, 0, fun _ _ => .bool false, rfl, hl, hm, fun h => absurd h (Nat.lt_irrefl _), fun _ => .inr rfl, ⟨.inl rfl, fun i hi => absurd hi (Nat.not_lt_zero _)⟩, fun i hi => absurd hi (Nat.not_lt_zero _)⟩
    · obtain ⟨b, off, spot⟩ := x
      have h0 := (hC 0 (by omega)).2.1 0 hpos
      obtain ⟨v0, hv0, _⟩ := (hC 0 (by omega)).2.2 0 (ks[0]'hpos) (List.getElem?_eq_getElem _)
      rw [hv0] at h0
      have hspot : spot = none := by
        have := World.cell?_spot h0
        simpa [Addr.add] using this
      subst hspot
      have hb : b < W.heap.size := by
        have := World.block_lt_of_cell? _ _ h0
        simpa [Addr.add] using this
      have hval : ∀ i, i < len → ∀ (j : Nat), j < ks.length → W.cell? ⟨b, off + i * ks.length + j, none⟩ = some ((C i).getD j (.bool false)) := by
        intro i hi j hj
        have h1 := (hC i (by omega)).2.1 j hj
        have h2 : j < (C i).length := by rw [(hC i (by omega)).1]; exact hj
        rw [hadd] at h1
        have e : (⟨b, off, none⟩ : Addr).add (i * ks.length + j) = ⟨b, off + i * ks.length + j, none⟩ := by
          rw [add_plain, Nat.add_assoc]
        rw [e] at h1
        rw [h1, List.getElem?_eq_getElem h2]
        simp [List.getD, h2]
      refine ⟨some ⟨b, off, none⟩, len, cap, b, off, fun i j => (C i).getD j (.bool false), rfl, hl, hm, fun _ => rfl, fun _ => .inr rfl, ⟨.inr hb, hval⟩, ?_⟩
      intro i hi j p hp
      obtain ⟨v, hv, hpv⟩ := (hC i (by omega)).2.2 j p hp
      have e : (C i).getD j (.bool false) = v := by rw [List.getD, hv]; rfl
      show p ((C i).getD j (.bool false))
      rw [e]; exact hpv

/-- a struct of plain cells, by value -/
theorem open_flat1 {P : Program} {t : TypeId} {ks : List (Value → Prop)} {fs : Array Field} (hk : Flat P t ks) (ht : P.underlying t = some (.struct fs))
    {H : Type} {enc : TypeId × Value → H} {W : World} {base : Nat} {v : Value} {d : DataW H} {ps : List MemPlace}
    (ho : Value.okWide P W .any base t v) (h : DataW.Trod enc P W 0 (fun _ => true) true t v d ps) :
    ∃ V : Nat → Value, v = .agg ((List.range ks.length).map V).toArray ∧ ∀ (j : Nat) (p : Value → Prop), ks[j]? = some p → p (V j) := by
  obtain ⟨cs, rfl, hsz⟩ := okWide_struct ht ho
  obtain ⟨fuel, hf⟩ := h
  obtain ⟨hl, hv⟩ := hk.2 H enc W 0 (fun _ => true) true fuel _ _ hf
  have hl' : cs.toList.length = ks.length := by simpa [Value.cells] using hl
  refine ⟨fun j => cs.toList.getD j (.bool false), ?_, ?_⟩
  · congr 1
    apply Array.ext'
    simp only []
    apply List.ext_getElem?
    intro i
    by_cases hi : i < ks.length
    · have hi2 : i < cs.toList.length := by omega
      simp [List.getElem?_map, List.getElem?_range hi, List.getElem?_eq_getElem hi2]
      rw [Array.getElem?_eq_getElem (by simpa using hi2)]; rfl
    · rw [List.getElem?_eq_none (by omega), List.getElem?_eq_none (by simp; omega)]
  · intro j p hp
    obtain ⟨u, hu, hpu⟩ := hv j p hp
    have hu' : cs.toList[j]? = some u := by simpa [Value.cells] using hu
    show p (cs.toList.getD j (.bool false))
    rw [show cs.toList.getD j (.bool false) = u by rw [List.getD, hu']; rfl]
    exact hpu

theorem wf_bd {k : IntKind} {n : Int} (h : (Lit.int k n).wf = true) : k.min ≤ n ∧ n ≤ k.max := by simpa [Lit.wf] using h
theorem choose_int {n : Nat} {V : Nat → Value} {k : IntKind} (h : ∀ i, i < n → IsI k (V i)) : ∃ B : Nat → Int, ∀ i, i < n → V i = .int k (B i) ∧ (Lit.int k (B i)).wf = true :=
  Deep.choose_lt h
theorem choose_bool {n : Nat} {V : Nat → Value} (h : ∀ i, i < n → IsB (V i)) : ∃ B : Nat → Bool, ∀ i, i < n → V i = .bool (B i) := Deep.choose_lt h
instance : Inhabited ByteArray := ⟨ByteArray.empty⟩
theorem choose_str {n : Nat} {V : Nat → Value} (h : ∀ i, i < n → IsS (V i)) : ∃ S : Nat → ByteArray, ∀ i, i < n → V i = .string (S i) ∧ (S i).size ≤ maxLen := Deep.choose_lt h
/-- the cells of field j, by their kinds -/
theorem SL.ints {w : World} {b off len sz : Nat} {V : Nat → Nat → Value} (h : SL w b off len sz V) (j : Nat) (hj : j < sz) {k : IntKind} (hk : ∀ i, i < len → IsI k (V i j)) :
    ∃ B : Nat → Int, (∀ i, i < len → w.cell? ⟨b, off + i * sz + j, none⟩ = some (.int k (B i))) ∧ ∀ i, i < len → k.min ≤ B i ∧ B i ≤ k.max := by
  obtain ⟨B, hB⟩ := choose_int (V := fun i => V i j) hk
  exact ⟨B, fun i hi => by rw [h.cell i hi j hj]; exact congrArg some (hB i hi).1, fun i hi => wf_bd (hB i hi).2⟩
theorem SL.bools {w : World} {b off len sz : Nat} {V : Nat → Nat → Value} (h : SL w b off len sz V) (j : Nat) (hj : j < sz) (hk : ∀ i, i < len → IsB (V i j)) :
    ∃ B : Nat → Bool, ∀ i, i < len → w.cell? ⟨b, off + i * sz + j, none⟩ = some (.bool (B i)) := by
  obtain ⟨B, hB⟩ := choose_bool (V := fun i => V i j) hk
  exact ⟨B, fun i hi => by rw [h.cell i hi j hj]; exact congrArg some (hB i hi)⟩
theorem SL.strs {w : World} {b off len sz : Nat} {V : Nat → Nat → Value} (h : SL w b off len sz V) (j : Nat) (hj : j < sz) (hk : ∀ i, i < len → IsS (V i j)) :
    ∃ S : Nat → ByteArray, (∀ i, i < len → w.cell? ⟨b, off + i * sz + j, none⟩ = some (.string (S i))) ∧ ∀ i, i < len → (S i).size ≤ maxLen := by
  obtain ⟨S, hS⟩ := choose_str (V := fun i => V i j) hk
  exact ⟨S, fun i hi => by rw [h.cell i hi j hj]; exact congrArg some (hS i hi).1, fun i hi => (hS i hi).2⟩
end Go.Proofs.Ytpojophpbggkcaa
