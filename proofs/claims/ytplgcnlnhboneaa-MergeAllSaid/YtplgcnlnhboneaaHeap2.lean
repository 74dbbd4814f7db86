/- Contracts of package heap: up, down. -/
import Derived.Test.YtplgcnlnhboneaaHeap
namespace Go.Proofs.Ytplgcnlnhboneaa
open Go.ChangeShapes Go.WideShapes Go.ChangeAt Go.RowKit
set_option linter.unusedVariables false

/-- a heap whose row lies in block g -/
def HeapG (w : World) (b g n cap : Nat) (L : List Du) : Prop := HeapAt w b (.slice (some ⟨g, 0, none⟩) n cap) L ∧ L.length = n
theorem HeapG.kept {w w' : World} {b g n cap : Nat} {L : List Du} {r : List Nat} (h : HeapG w b g n cap L) (hk : Kept r w w') (h1 : b ∉ r) (h2 : g ∉ r) : HeapG w' b g n cap L := ⟨h.1.kept hk h1 (by simpa [rowOf, Value.ownBlock] using h2), h.2⟩
theorem HeapG.cells {w : World} {b g n cap : Nat} {L : List Du} (h : HeapG w b g n cap L) : w.cell? ⟨b, 0, none⟩ = some (.slice (some ⟨g, 0, none⟩) n cap) ∧ w.cell? ⟨b, 1, none⟩ = some (.func (.func 15) #[] #[]) := h.1.cells
theorem HeapG.elem {w : World} {b g n cap : Nat} {L : List Du} (h : HeapG w b g n cap L) (i : Nat) (hi : i < n) :
    w.cell? ⟨g, i * 3, none⟩ = some (.int .i64 (ga L i).st) ∧ w.cell? ⟨g, i * 3 + 1, none⟩ = some (.int .u32 (ga L i).bl) ∧ w.cell? ⟨g, i * 3 + 2, none⟩ = some (.int .i64 (ga L i).at_) := by
  obtain ⟨h1, h2⟩ := h
  subst h2
  exact h1.elem i hi
theorem HeapG.free {w : World} {b g n cap : Nat} {L : List Du} (h : HeapG w b g n cap L) (j : Nat) : w.frozen? ⟨g, j, none⟩ = false := by
  obtain ⟨h1, h2⟩ := h
  subst h2
  exact h1.own.frozenAt j
theorem HeapG.lt {w : World} {b g n cap : Nat} {L : List Du} (h : HeapG w b g n cap L) : b < g ∧ g < w.heap.size ∧ n ≤ 5000 := by
  have h1 := own_lt h.1.own g (by simp [rowOf, Value.ownBlock])
  have h2 := h.1.len
  have h3 := h.2
  omega
theorem dl_set (L : List Du) (i : Nat) (h : i < L.length) (d : Du) : (((dl L).set (i * 3) (.int .i64 d.st)).set (i * 3 + 1) (.int .u32 d.bl)).set (i * 3 + 2) (.int .i64 d.at_) = dl (L.set i d) := by
  induction L generalizing i with
  | nil => simp at h
  | cons x L ih =>
    cases i with
    | zero => simp [dl_cons, dc]
    | succ i =>
      rw [List.set_cons_succ, dl_cons, dl_cons, ← ih i (by simpa using h)]
      have e : ∀ j, (i + 1) * 3 + j = (dc x).length + (i * 3 + j) := fun j => by simp [dc]; omega
      rw [show (i + 1) * 3 = (dc x).length + i * 3 by simp [dc]; omega, show (dc x).length + i * 3 + 1 = (dc x).length + (i * 3 + 1) by omega, show (dc x).length + i * 3 + 2 = (dc x).length + (i * 3 + 2) by omega]
      rw [List.set_append_right _ _ (by omega), List.set_append_right _ _ (by omega), List.set_append_right _ _ (by omega)]
      simp only [Nat.add_sub_cancel_left]
def set3 (w : World) (g i : Nat) (d : Du) : World := ((w.setCell ⟨g, i * 3, none⟩ (.int .i64 d.st)).setCell ⟨g, i * 3 + 1, none⟩ (.int .u32 d.bl)).setCell ⟨g, i * 3 + 2, none⟩ (.int .i64 d.at_)
theorem set3_kept {r : List Nat} {a w : World} (h : Kept r a w) (g i : Nat) (d : Du) (hg : g ∈ r ∨ a.heap.size ≤ g) : Kept r a (set3 w g i d) := ((h.set _ hg _).set _ hg _).set _ hg _
theorem HeapG.put {w : World} {b g n cap : Nat} {L : List Du} (h : HeapG w b g n cap L) (i : Nat) (hi : i < n) (d : Du) : HeapG (set3 w g i d) b g n cap (L.set i d) := by
  have hlt := h.lt.1
  obtain ⟨h1, h2⟩ := h
  subst h2
  refine ⟨⟨h1.blk.kept (set3_kept (Kept.refl [g] w) g i d (.inl (by simp))) (by simp; omega), ?_, by rw [List.length_set]; exact h1.len⟩, by rw [List.length_set]⟩
  have h3 := (((h1.own.stored (i * 3) (.int .i64 d.st)).1.stored (i * 3 + 1) (.int .u32 d.bl)).1.stored (i * 3 + 2) (.int .i64 d.at_)).1
  rw [dl_set L i hi d] at h3
  rw [List.length_set]
  exact h3
def HGPost (W : World) (b g n cap : Nat) (L : List Du) (e : Ending) (w' : World) : Prop := e = .returned (.tuple #[]) ∧ ∃ M, HeapG w' b g n cap M ∧ M.Perm L ∧ IsHeap M ∧ Kept [g] W w'
set_option maxRecDepth 100000 in
set_option maxHeartbeats 4000000 in
theorem hup (b g n cap : Nat) (L : List Du) (w : World) (h : HeapG w b g n cap L) (hu : UpInv L (n - 1)) : Calls Try.prog 19 #[.pointer (some ⟨b, 0, none⟩)] w (HGPost w b g n cap L) := by
  obtain ⟨c0, c1⟩ := h.cells
  obtain ⟨hbg, hgl, hn⟩ := h.lt
  have hn0 : 0 < n := by have := hu.1; have := h.2; omega
  have H := Lib.hid h
  have HU := Lib.hid hu
  clear h hu
  go_enter Try.func19, Try.ntmps19
  go_wp2_with fail
  clear c0 c1
  go_loopw [2] (fun iv wr => ∃ (i : Nat) (M : List Du), iv = .int .i64 (i : Int) ∧ HeapG wr b g n cap M ∧ M.Perm L ∧ UpInv M i ∧ Kept [g] w wr) (fun iv _ => (intOf iv).toNat)
  case atStart => exact ⟨n - 1, L, by (refine congrArg (Value.int .i64) ?_; omega), H.out, List.Perm.refl _, HU.out, Kept.refl _ _⟩
  case round =>
    clear H HU
    obtain ⟨i, M, rfl, hG, hP, hU, hK⟩ := hrel
    have hin : i < n := by have := hU.1; have := hG.2; omega
    have HG := Lib.hid hG
    have HP := Lib.hid hP
    have HU := Lib.hid hU
    have hgr := hG.lt.2.1
    clear hG hP hU
    obtain ⟨c0, c1⟩ := HG.out.cells
    by_cases hi0 : i = 0
    · subst hi0
      have q0 : decide ((0 : Int) < ((0 : Nat) : Int)) = false := by simp
      go_wp2_with fail
      go_quiet (fail)
      go_wp2_with fail
      go_returns
      exact ⟨rfl, M, HG.out.kept ((Kept.refl [] _).drewN _) (by simp) (by simp), HP.out, up_stop HU.out (.inl rfl), hK.drewN _⟩
    · obtain ⟨p, hp⟩ : ∃ p, p = (i - 1) / 2 := ⟨_, rfl⟩
      have hpn : p < n := by omega
      have hpI : ((i : Int) - 1) / 2 = (p : Int) := by omega
      have HPI := Lib.hid hp
      obtain ⟨x0, x1, x2⟩ := HG.out.elem i hin
      obtain ⟨y0, y1, y2⟩ := HG.out.elem p hpn
      have HL := Lib.hid (fun w => hless (ga M i) (ga M p) w)
      have hpi : p < i := by omega
      clear hp
      have hbr : b < wr.heap.size := by omega
      have d0 : decide ((0 : Int) < (i : Int)) = true := by rw [decide_eq_true_iff]; omega
      have d1 : decide (0 < i) = true := by rw [decide_eq_true_iff]; omega
      have d2 : 0 < i := by omega
      have q1 : IntKind.i64.wrap ((i : Int) - 1) = (i : Int) - 1 := IntWalk.i64_in _ (by omega)
      have q3 : ((i : Int) - 1).tdiv 2 = (p : Int) := by rw [Int.tdiv_eq_ediv_of_nonneg (by omega)]; exact hpI
      have q8 : IntKind.i64.wrap (p : Int) = (p : Int) := IntWalk.i64_in _ (by omega)
      have q4 : (0 : Int) ≤ (p : Int) := by omega
      have q5 : (p : Int) < (n : Int) := by omega
      have q6 : (i : Int) < (n : Int) := by omega
      have q7 : (0 : Int) ≤ (i : Int) := by omega
      go_wp2_with fail
      go_region_held3 (fun w' => w'.cell? ⟨b, 0, none⟩ = some (.slice (some ⟨g, 0, none⟩) n cap) ∧ w'.cell? ⟨b, 1, none⟩ = some (.func (.func 15) #[] #[]) ∧ w'.cell? ⟨g, i * 3, none⟩ = some (.int .i64 (ga M i).st) ∧ w'.cell? ⟨g, i * 3 + 1, none⟩ = some (.int .u32 (ga M i).bl) ∧ w'.cell? ⟨g, i * 3 + 2, none⟩ = some (.int .i64 (ga M i).at_) ∧ w'.cell? ⟨g, p * 3, none⟩ = some (.int .i64 (ga M p).st) ∧ w'.cell? ⟨g, p * 3 + 1, none⟩ = some (.int .u32 (ga M p).bl) ∧ w'.cell? ⟨g, p * 3 + 2, none⟩ = some (.int .i64 (ga M p).at_)) (first | exact ⟨c0, c1, x0, x1, x2, y0, y1, y2⟩ | exact ⟨kbelow hb4 (by exact hbr) c0, kbelow hb4 (by exact hbr) c1, kbelow hb4 (by exact hgr) x0, kbelow hb4 (by exact hgr) x1, kbelow hb4 (by exact hgr) x2, kbelow hb4 (by exact hgr) y0, kbelow hb4 (by exact hgr) y1, kbelow hb4 (by exact hgr) y2⟩) ((go_at_call 15; refine (HL.out _).mono ?_; rintro e w4 ⟨rfl, hb4⟩))
      rename_i hHeld
      have hk4 : Kept [] wr w4 := ((Kept.refl [] wr).drew).trans (Kept.of_below hb4 []) (fun x hx => .inl hx)
      have HG4 : Hid (HeapG w4 b g n cap M) := Lib.hid (HG.out.kept hk4 (by simp) (by simp))
      have HK4 := Lib.hid (hK.trans hk4 (fun x hx => by simp at hx))
      have hsz4 : g < w4.heap.size := Nat.lt_of_lt_of_le hgr hb4.size
      clear hb4 hk4 hK c0 c1 x0 x1 x2 y0 y1 y2 HG d0 d1 HL hHeld
      cases hlt : (ga M i).lt (ga M p) with
      | false =>
        have HLT := Lib.hid hlt
        clear hlt
        go_wp2_with fail
        go_returns
        exact ⟨rfl, M, HG4.out, HP.out, up_stop HU.out (.inr (by rw [← HPI.out]; exact HLT.out)), HK4.out⟩
      | true =>
        have HLT := Lib.hid hlt
        clear hlt
        obtain ⟨c0, c1⟩ := HG4.out.cells
        obtain ⟨x0, x1, x2⟩ := HG4.out.elem i hin
        obtain ⟨y0, y1, y2⟩ := HG4.out.elem p hpn
        have f0 := HG4.out.free (i * 3)
        have f1 := HG4.out.free (i * 3 + 1)
        have f2 := HG4.out.free (i * 3 + 2)
        have e0 := HG4.out.free (p * 3)
        have e1 := HG4.out.free (p * 3 + 1)
        have e2 := HG4.out.free (p * 3 + 2)
        have hbg2 : b ≠ g := by omega
        go_wp2_with fail
        go_region
        have hG5 : HeapG (set3 (set3 w4 g i (ga M p)) g p (ga M i)) b g n cap (sw M i p) := (HG4.out.put i hin _).put p hpn _
        have hk5 : Kept [g] w (set3 (set3 w4 g i (ga M p)) g p (ga M i)) := set3_kept (set3_kept HK4.out g i _ (.inl (by simp))) g p _ (.inl (by simp))
        have hP5 : (sw M i p).Perm L := (sw_perm M i p (by rw [HG4.out.2]; exact hin) (by rw [HG4.out.2]; exact hpn)).trans HP.out
        have hU5 : UpInv (sw M i p) p := by
          have h1 := up_step HU.out d2 (by rw [← HPI.out]; exact HLT.out)
          rw [← HPI.out] at h1
          exact h1
        have HX := Lib.hid (And.intro hG5 (And.intro hk5 (And.intro hP5 hU5)))
        clear hG5 hk5 hP5 hU5 HG4 c0 c1 x0 x1 x2 y0 y1 y2 f0 f1 f2 e0 e1 e2
        go_wp2_with fail
        go_roundw
        case rel => exact ⟨p, sw M i p, rfl, HX.out.1.kept ((Kept.refl [] _).drew) (by simp) (by simp), HX.out.2.2.1, HX.out.2.2.2, HX.out.2.1.drew⟩
        case measure => simp [intOf]; omega
end Go.Proofs.Ytplgcnlnhboneaa
