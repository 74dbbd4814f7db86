/- Rows that came in, as lists of Dues. -/
import Derived.Test.YtplgcnlnhboneaaMergeNext
namespace Go.Proofs.Ytplgcnlnhboneaa
open Go.ChangeShapes Go.WideShapes Go.ChangeAt Go.RowKit
set_option linter.unusedVariables false

theorem row_list {W : World} {r : RowD} (h : RowOk W [IsI .i64, IsI .u32, IsI .i64] r) : ∃ L : List Du, L.length = r.n ∧ (0 < r.n → Src W r.p r.n r.c 3 (dl L) ∧ ∀ a, r.p = some a → a.block < W.heap.size) := by
  have hs : SL W r.b r.o r.n 3 r.V := h.sl
  obtain ⟨A, hA, _⟩ := hs.ints 0 (by omega) (k := .i64) (fun i hi => h.is i hi 0 _ rfl)
  obtain ⟨B, hB, _⟩ := hs.ints 1 (by omega) (k := .u32) (fun i hi => h.is i hi 1 _ rfl)
  obtain ⟨C, hC, _⟩ := hs.ints 2 (by omega) (k := .i64) (fun i hi => h.is i hi 2 _ rfl)
  obtain ⟨L, hL⟩ : ∃ L : List Du, L = (List.range r.n).map (fun k => ⟨A k, B k, C k⟩) := ⟨_, rfl⟩
  have hl : L.length = r.n := by rw [hL]; simp
  have hg : ∀ k, k < r.n → ga L k = ⟨A k, B k, C k⟩ := fun k hk => by
    rw [ga_at L k (by omega)]; simp [hL]
  refine ⟨L, hl, fun hn => ?_⟩
  have hp := h.at_ hn
  refine ⟨⟨by rw [dl_len, hl], h.le, h.cm, (fun h0 => by rw [hp] at h0; cases h0), (fun a ha => by rw [hp] at ha; injection ha with ha; subst ha; rfl), fun a ha j u hu => ?_⟩, fun a ha => ?_⟩
  · rw [hp] at ha
    injection ha with ha
    subst ha
    have hj : j < (dl L).length := (List.getElem?_eq_some_iff.1 hu).1
    rw [dl_len, hl] at hj
    have e : j = j / 3 * 3 + j % 3 := by omega
    have hk : j / 3 < r.n := by omega
    have h3 : j % 3 < 3 := by omega
    rw [e, dl_get L _ _ (by omega) h3, hg _ hk] at hu
    rw [e, add_plain, ← Nat.add_assoc]
    match hm : j % 3, h3 with
    | 0, _ => rw [hm] at hu; rw [hA _ hk]; simpa [dc] using hu
    | 1, _ => rw [hm] at hu; rw [hB _ hk]; simpa [dc] using hu
    | 2, _ => rw [hm] at hu; rw [hC _ hk]; simpa [dc] using hu
  · rw [hp] at ha
    injection ha with ha
    subst ha
    rcases hs.lt with h1 | h1
    · omega
    · exact h1
theorem rows_lists {W : World} {a : Option Addr} {m b off : Nat} {R : Nat → RowD} (ha : 0 < m → a = some ⟨b, off, none⟩) (hlt : m = 0 ∨ b < W.heap.size)
    (h : ∀ i, i < m → W.cell? ⟨b, off + i, none⟩ = some (.slice (R i).p (R i).n (R i).c) ∧ RowOk W [IsI .i64, IsI .u32, IsI .i64] (R i)) :
    ∃ Ls : Nat → List Du, Lists W W.heap.size a m b off (fun i => ((R i).p, (R i).c)) Ls ∧ ∀ i, i < m → (Ls i).length ≤ (R i).c ∧ (R i).c ≤ maxLen := by
  obtain ⟨Ls, hLs⟩ := Deep.choose_lt (fun i hi => row_list (h i hi).2)
  refine ⟨Ls, ⟨ha, hlt, fun i hi => ?_, fun i hi h0 => ?_, fun i hi h0 => ?_⟩, fun i hi => ?_⟩
  · rw [(hLs i hi).1]; exact (h i hi).1
  · have := (hLs i hi).1
    rw [this] at h0 ⊢
    exact ((hLs i hi).2 h0).1
  · have := (hLs i hi).1
    rw [this] at h0
    exact ((hLs i hi).2 h0).2
  · rw [(hLs i hi).1]; exact ⟨(h i hi).2.le, (h i hi).2.cm⟩
end Go.Proofs.Ytplgcnlnhboneaa
