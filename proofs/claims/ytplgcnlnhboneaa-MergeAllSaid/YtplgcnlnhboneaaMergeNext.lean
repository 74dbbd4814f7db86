/- merge.All: what lies in memory; the contract of its closure 'next'. -/
import Derived.Test.YtplgcnlnhboneaaMergeLaw
import Derived.Test.YtplgcnlnhboneaaOpenRows
import Derived.Test.YtplgcnlnhboneaaRowV
namespace Go.Proofs.Ytplgcnlnhboneaa
open Go.ChangeShapes Go.WideShapes Go.ChangeAt Go.RowKit
set_option linter.unusedVariables false

/-- lists that are read -/
structure Lists (w : World) (B : Nat) (a : Option Addr) (m : Nat) (b off : Nat) (R : Nat → Option Addr × Nat) (Ls : Nat → List Du) : Prop where
  at_ : 0 < m → a = some ⟨b, off, none⟩
  lt : m = 0 ∨ b < B
  cell : ∀ i, i < m → w.cell? ⟨b, off + i, none⟩ = some (.slice (R i).1 (Ls i).length (R i).2)
  src : ∀ i, i < m → 0 < (Ls i).length → Src w (R i).1 (Ls i).length (R i).2 3 (dl (Ls i))
  blk : ∀ i, i < m → 0 < (Ls i).length → ∀ a, (R i).1 = some a → a.block < B
theorem Lists.below {w w' : World} {B : Nat} {a : Option Addr} {m b off : Nat} {R : Nat → Option Addr × Nat} {Ls : Nat → List Du} (h : Lists w B a m b off R Ls) (hb : Below B w w') : Lists w' B a m b off R Ls :=
  ⟨h.at_, h.lt, fun i hi => kbelow hb (by rcases h.lt with h1 | h1; omega; exact h1) (h.cell i hi), fun i hi h0 => (h.src i hi h0).below hb (h.blk i hi h0), h.blk⟩
/-- the blocks that merge.All makes -/
structure AllMem (w : World) (B pl pa g ph b : Nat) (v : Value) (a : Option Addr) (m cap : Nat) (A : Nat → Nat) (X : List Du) : Prop where
  l : Blk w pl #[.slice a m cap] 22
  at_ : Blk w pa #[.slice (some ⟨g, 0, none⟩) m m] 40
  row : RowV w g m (fun i => .int .i64 (A i : Int))
  h : Blk w ph #[.pointer (some ⟨b, 0, none⟩)] 38
  heap : HS w b v X
  ge : ∀ x ∈ [pl, pa, g, ph, b], B ≤ x
  ne : pl ≠ g ∧ pl ≠ b ∧ pa ≠ g ∧ pa ≠ b ∧ ph ≠ g ∧ ph ≠ b ∧ g ≠ b
  apart : ∀ x ∈ [pl, pa, g, ph], x ∉ rowOf v
theorem AllMem.kept {w w' : World} {B pl pa g ph b : Nat} {v : Value} {a : Option Addr} {m cap : Nat} {A : Nat → Nat} {X : List Du} {r : List Nat} (h : AllMem w B pl pa g ph b v a m cap A X) (hk : Kept r w w')
    (hr : ∀ x ∈ [pl, pa, g, ph, b], x ∉ r) (hv : ∀ x ∈ rowOf v, x ∉ r) : AllMem w' B pl pa g ph b v a m cap A X := by
  simp at hr
  obtain ⟨h1, h2, h3, h4, h5⟩ := hr
  exact ⟨h.l.kept hk h1, h.at_.kept hk h2, h.row.kept hk h3, h.h.kept hk h4, h.heap.kept hk h5 hv, h.ge, h.ne, h.apart⟩
theorem AllMem.blocks {w : World} {B pl pa g ph b : Nat} {v : Value} {a : Option Addr} {m cap : Nat} {A : Nat → Nat} {X : List Du} (h : AllMem w B pl pa g ph b v a m cap A X) :
    pl < w.heap.size ∧ pa < w.heap.size ∧ g < w.heap.size ∧ ph < w.heap.size ∧ b < w.heap.size := by
  refine ⟨h.l.lt, h.at_.lt, h.row.1, h.h.lt, ?_⟩
  obtain ⟨M, h1, _⟩ := h.heap
  exact h1.blk.lt
theorem ins_ex (d : Du) (X : List Du) (h : Srt X) : ∃ X', X'.Perm (d :: X) ∧ Srt X' := by
  induction X with
  | nil => exact ⟨[d], List.Perm.refl _, by simp [Srt]⟩
  | cons x X ih =>
    have hx := List.pairwise_cons.1 h
    cases hd : d.lt x with
    | true =>
      refine ⟨d :: x :: X, List.Perm.refl _, List.pairwise_cons.2 ⟨fun y hy => ?_, h⟩⟩
      rcases List.mem_cons.1 hy with h1 | h1
      · subst h1; exact nlt_of_lt hd
      · exact nlt_trans (nlt_of_lt hd) (hx.1 y h1)
    | false =>
      obtain ⟨X', h1, h2⟩ := ih hx.2
      refine ⟨x :: X', (h1.cons x).trans (List.Perm.swap _ _ _), List.pairwise_cons.2 ⟨fun y hy => ?_, h2⟩⟩
      rcases List.mem_cons.1 (h1.mem_iff.1 hy) with h3 | h3
      · subst h3; exact hd
      · exact hx.1 y h3
def NextPost (W : World) (B pl pa g ph b : Nat) (v : Value) (a : Option Addr) (m cap : Nat) (A' : Nat → Nat) (d : Du) (X : List Du) (e : Ending) (w' : World) : Prop :=
  e = .returned (.tuple #[]) ∧ ∃ v' X', X'.Perm (d :: X) ∧ Srt X' ∧ AllMem w' B pl pa g ph b v' a m cap A' X' ∧ Kept (g :: b :: rowOf v) W w' ∧ ∀ x ∈ rowOf v', x ∈ rowOf v ∨ W.heap.size ≤ x
theorem next_cells {w w4 : World} {B pl pa g ph b : Nat} {v : Value} {a : Option Addr} {m cap : Nat} {A : Nat → Nat} {X : List Du} {bl off i lb lo x n rc : Nat} {d : Du} (hM : AllMem w B pl pa g ph b v a m cap A X) (hK : Kept (b :: rowOf v) w w4)
    (c3 : w.cell? ⟨bl, off + i, none⟩ = some (.slice (some ⟨lb, lo, none⟩) n rc)) (c4 : w.cell? ⟨g, i, none⟩ = some (.int .i64 (x : Int))) (hlb : lb < B) (hbl : bl < B)
    (y0 : w.cell? ⟨lb, lo + x * 3, none⟩ = some (.int .i64 d.st)) (y1 : w.cell? ⟨lb, lo + x * 3 + 1, none⟩ = some (.int .u32 d.bl)) (y2 : w.cell? ⟨lb, lo + x * 3 + 2, none⟩ = some (.int .i64 d.at_)) :
    w4.cell? ⟨pa, 0, none⟩ = some (.slice (some ⟨g, 0, none⟩) m m) ∧ w4.cell? ⟨pl, 0, none⟩ = some (.slice a m cap) ∧ w4.cell? ⟨bl, off + i, none⟩ = some (.slice (some ⟨lb, lo, none⟩) n rc) ∧ w4.cell? ⟨g, i, none⟩ = some (.int .i64 (x : Int)) ∧ w4.cell? ⟨ph, 0, none⟩ = some (.pointer (some ⟨b, 0, none⟩)) ∧ w4.cell? ⟨lb, lo + x * 3, none⟩ = some (.int .i64 d.st) ∧ w4.cell? ⟨lb, lo + x * 3 + 1, none⟩ = some (.int .u32 d.bl) ∧ w4.cell? ⟨lb, lo + x * 3 + 2, none⟩ = some (.int .i64 d.at_) := by
  have hrow := hM.heap.rows
  have hge := hM.ge
  have hap := hM.apart
  obtain ⟨n1, n2, n3, n4, n5, n6, n7⟩ := hM.ne
  simp at hge hap
  have hb : ∀ k, k < B → k ∉ b :: rowOf v := fun k hk hm => by
    rcases List.mem_cons.1 hm with h | h
    · omega
    · have := (hrow k h).1; omega
  refine ⟨hK.cell hM.at_.one ?_, hK.cell hM.l.one ?_, hK.cell c3 (hb _ hbl), hK.cell c4 ?_, hK.cell hM.h.one ?_, hK.cell y0 (hb _ hlb), hK.cell y1 (hb _ hlb), hK.cell y2 (hb _ hlb)⟩
  · exact fun hm => by
      rcases List.mem_cons.1 hm with h | h
      · exact n4 h
      · exact hap.2.1 h
  · exact fun hm => by
      rcases List.mem_cons.1 hm with h | h
      · exact n2 h
      · exact hap.1 h
  · exact fun hm => by
      rcases List.mem_cons.1 hm with h | h
      · exact n7 h
      · exact hap.2.2.1 h
  · exact fun hm => by
      rcases List.mem_cons.1 hm with h | h
      · exact n6 h
      · exact hap.2.2.2 h
theorem next_mem {w0 w4 : World} {B pl pa g ph b : Nat} {v v4 : Value} {a : Option Addr} {m cap : Nat} {A : Nat → Nat} {X X' : List Du} (hM : AllMem w0 B pl pa g ph b v a m cap A X) (hK : Kept (b :: rowOf v) w0 w4) (hS : HS w4 b v4 X')
    (hr : ∀ x ∈ rowOf v4, x ∈ rowOf v ∨ w0.heap.size ≤ x) {i : Nat} (hi : i < m) (x : Nat) (hx : A i = x) : AllMem (w4.setCell ⟨g, i, none⟩ (.int .i64 ((x : Int) + 1))) B pl pa g ph b v4 a m cap (inc A i) X' ∧ Kept (g :: b :: rowOf v) w0 (w4.setCell ⟨g, i, none⟩ (.int .i64 ((x : Int) + 1))) := by
  obtain ⟨n1, n2, n3, n4, n5, n6, n7⟩ := hM.ne
  have hap := hM.apart
  simp at hap
  have hl := hM.blocks
  have no : ∀ k, k ≠ b → k ∉ rowOf v → k ∉ b :: rowOf v := fun k h1 h2 h3 => by
    rcases List.mem_cons.1 h3 with h | h
    · exact h1 h
    · exact h2 h
  have hk : Kept [g] w4 (w4.setCell ⟨g, i, none⟩ (.int .i64 ((x : Int) + 1))) := (Kept.refl _ _).set _ (.inl (by simp)) _
  have hg4 : g ∉ rowOf v4 := fun h => by
    rcases hr g h with h1 | h1
    · exact hap.2.2.1 h1
    · omega
  refine ⟨⟨(hM.l.kept hK (no _ n2 hap.1)).kept hk (by simpa using n1), (hM.at_.kept hK (no _ n4 hap.2.1)).kept hk (by simpa using n3), ?_, (hM.h.kept hK (no _ n6 hap.2.2.2)).kept hk (by simpa using n5), hS.kept hk (by simpa using n7.symm) (fun y hy h => ?_), hM.ge, hM.ne, fun y hy h => ?_⟩, ?_⟩
  · refine ((hM.row.kept hK (no _ n7 hap.2.2.1)).set i hi _).congr (fun j hj => ?_)
    unfold upd inc
    split
    · rename_i h; subst h; rw [hx]; simp
    · rfl
  · simp at h; subst h; exact hg4 hy
  · rcases hr y h with h1 | h1
    · exact hM.apart y hy h1
    · simp at hy; rcases hy with rfl | rfl | rfl | rfl <;> omega
  · exact (hK.mono (fun y hy => .inl (by simp at hy ⊢; right; exact hy))).trans hk (fun y hy => .inl (by simp at hy; simp [hy]))
set_option maxRecDepth 100000 in
set_option maxHeartbeats 4000000 in
theorem next_none (B pl pa g ph b : Nat) (v : Value) (a : Option Addr) (m cap : Nat) (A : Nat → Nat) (X : List Du) (bl off : Nat) (R : Nat → Option Addr × Nat) (Ls : Nat → List Du) (hm : m ≤ 256) (hcap : m ≤ cap) (i : Nat) (hi : i < m) (hA : (Ls i).length ≤ A i) (hA2 : A i ≤ 1000) (w : World)
    (hM : AllMem w B pl pa g ph b v a m cap A X) (hL : Lists w B a m bl off R Ls) : Calls Try.prog 11 #[.int .i64 (i : Int), .pointer (some ⟨pa, 0, none⟩), .pointer (some ⟨pl, 0, none⟩), .pointer (some ⟨ph, 0, none⟩)] w fun e w' => e = .returned (.tuple #[]) ∧ ∃ q, w' = w.drewN q := by
  have ha := hL.at_ (by omega)
  subst ha
  have c1 := hM.at_.one
  have c2 := hM.l.one
  have c3 := hL.cell i hi
  have c4 := hM.row.cell hi
  obtain ⟨n, hn⟩ : ∃ n, n = (Ls i).length := ⟨_, rfl⟩
  obtain ⟨x, hx⟩ : ∃ x, x = A i := ⟨_, rfl⟩
  obtain ⟨rp, hrp⟩ : ∃ p, p = (R i).1 := ⟨_, rfl⟩
  obtain ⟨rc, hrc⟩ : ∃ p, p = (R i).2 := ⟨_, rfl⟩
  rw [← hn, ← hrp, ← hrc] at c3
  simp only [← hx] at c4
  rw [← hn, ← hx] at hA
  rw [← hx] at hA2
  clear hM hL hn hx hrp hrc
  have q1 : (0 : Int) ≤ (i : Int) := by omega
  have q2 : (i : Int) < (m : Int) := by omega
  have q3 : decide ((x : Int) < (n : Int)) = false := by rw [decide_eq_false_iff_not]; omega
  go_enter Try.func11, Try.ntmps11
  go_wp2_with fail
  go_quiet (fail)
  go_wp2_with fail
  go_returns
  exact ⟨rfl, _, rfl⟩
set_option maxRecDepth 100000 in
set_option maxHeartbeats 4000000 in
theorem next_some (B pl pa g ph b : Nat) (v : Value) (a : Option Addr) (m cap : Nat) (A : Nat → Nat) (X : List Du) (bl off : Nat) (R : Nat → Option Addr × Nat) (Ls : Nat → List Du) (hm : m ≤ 256) (hcap : m ≤ cap) (i : Nat) (hi : i < m) (hA : A i < (Ls i).length) (hA2 : (Ls i).length ≤ 1000) (hX : X.length < 5000) (w : World) (hB : B ≤ w.heap.size)
    (hM : AllMem w B pl pa g ph b v a m cap A X) (hL : Lists w B a m bl off R Ls) : Calls Try.prog 11 #[.int .i64 (i : Int), .pointer (some ⟨pa, 0, none⟩), .pointer (some ⟨pl, 0, none⟩), .pointer (some ⟨ph, 0, none⟩)] w (NextPost w B pl pa g ph b v a m cap (inc A i) (ga (Ls i) (A i)) X) := by
  have ha := hL.at_ (by omega)
  subst ha
  have c1 := hM.at_.one
  have c2 := hM.l.one
  have c3 := hL.cell i hi
  have c4 := hM.row.cell hi
  have c5 := hM.h.one
  have hs := hL.src i hi (by omega)
  have hsb := hL.blk i hi (by omega)
  obtain ⟨n, hn⟩ : ∃ n, n = (Ls i).length := ⟨_, rfl⟩
  obtain ⟨x, hx⟩ : ∃ x, x = A i := ⟨_, rfl⟩
  obtain ⟨rp, hrp⟩ : ∃ p, p = (R i).1 := ⟨_, rfl⟩
  obtain ⟨rc, hrc⟩ : ∃ p, p = (R i).2 := ⟨_, rfl⟩
  have y0 := fun bb oo (h : (R i).1 = some ⟨bb, oo, none⟩) => Src.at_ (by have := hs; rwa [h] at this) (A i * 3) _ (by have := dl_get (Ls i) (A i) 0 hA (by omega); simpa [dc] using this)
  have y1 := fun bb oo (h : (R i).1 = some ⟨bb, oo, none⟩) => Src.at_ (by have := hs; rwa [h] at this) (A i * 3 + 1) _ (by have := dl_get (Ls i) (A i) 1 hA (by omega); simpa [dc] using this)
  have y2 := fun bb oo (h : (R i).1 = some ⟨bb, oo, none⟩) => Src.at_ (by have := hs; rwa [h] at this) (A i * 3 + 2) _ (by have := dl_get (Ls i) (A i) 2 hA (by omega); simpa [dc] using this)
  obtain ⟨lb, lo, hp⟩ := hs.of_pos (by have := hs.fits; omega)
  rw [hp] at hrp
  have y0 := y0 lb lo hp
  have y1 := y1 lb lo hp
  have y2 := y2 lb lo hp
  have hlb := hsb _ hp
  have hbl : bl < B := by rcases hL.lt with h | h; omega; exact h
  rw [← Nat.add_assoc] at y1 y2
  rw [hp, ← hn, ← hrc] at c3
  simp only [← hx] at c4
  rw [← hx] at y0 y1 y2
  have hA1 : x < n := by omega
  have hn1 : n ≤ 1000 := by omega
  obtain ⟨X', hP, hS⟩ := ins_ex (ga (Ls i) (A i)) X (by obtain ⟨M, _, _, _, h⟩ := hM.heap; exact h)
  have HP := Lib.hid (fun w2 h => spush b v X X' (ga (Ls i) (A i)) hP hS hX w2 h)
  have HI := Lib.hid (And.intro hP hS)
  rw [← hx] at HP
  have hAx : A i = x := hx.symm
  have HX := Lib.hid hAx
  have HM := Lib.hid hM
  have hgt := hM.blocks
  have fz := hM.row.free hi
  clear hM hL hs hsb hp hrp hrc hA hA2 hP hS hX hAx hx hn
  have q1 : (0 : Int) ≤ (i : Int) := by omega
  have q2 : (i : Int) < (m : Int) := by omega
  have q3 : decide ((x : Int) < (n : Int)) = true := by rw [decide_eq_true_iff]; omega
  have q4 : (0 : Int) ≤ (x : Int) := by omega
  have q5 : (x : Int) < (n : Int) := by omega
  go_enter Try.func11, Try.ntmps11
  go_wp2_with fail
  go_quiet (fail)
  go_wp2_with fail
  generalize hw : w.drewN nq = w0
  have hk0 : Kept [] w w0 := by rw [← hw]; exact (Kept.refl _ _).drewN _
  have hM0 : AllMem w0 B pl pa g ph b v (some ⟨bl, off, none⟩) m cap A X := HM.out.kept hk0 (by simp) (by simp)
  have hs0 : w.heap.size ≤ w0.heap.size := hk0.size
  have HM0 := Lib.hid hM0
  replace c1 := hM0.at_.one
  replace c2 := hM0.l.one
  replace c3 := hk0.cell c3 (by simp)
  replace c4 := hk0.cell c4 (by simp)
  replace c5 := hM0.h.one
  replace y0 := hk0.cell y0 (by simp)
  replace y1 := hk0.cell y1 (by simp)
  replace y2 := hk0.cell y2 (by simp)
  replace fz := hM0.row.free hi
  have hlb2 : lb < w0.heap.size := by omega
  have HMD := Lib.hid (hM0.kept (Kept.refl [] _).drew (by simp) (by simp))
  have hMD := hM0.kept (Kept.refl [] w0).drew (by simp) (by simp)
  have HPD := Lib.hid ((HP.out w0.drew hMD.heap).mono (R' := fun e w4 => SPost w0.drew b v X' (.tuple #[]) e w4 ∧ (Kept (b :: rowOf v) w0.drew w4 → _)) fun e w4 h => And.intro h (fun hK => next_cells (w4 := w4) hMD hK c3 c4 hlb hbl y0 y1 y2))
  have HK0 := Lib.hid hk0
  clear hMD
  clear hw hM0 hk0 hgt HM q3
  go_region_held3 (fun w' => w'.cell? ⟨pa, 0, none⟩ = some (.slice (some ⟨g, 0, none⟩) m m) ∧ w'.cell? ⟨pl, 0, none⟩ = some (.slice (some ⟨bl, off, none⟩) m cap) ∧ w'.cell? ⟨bl, off + i, none⟩ = some (.slice (some ⟨lb, lo, none⟩) n rc) ∧ w'.cell? ⟨g, i, none⟩ = some (.int .i64 (x : Int)) ∧ w'.cell? ⟨ph, 0, none⟩ = some (.pointer (some ⟨b, 0, none⟩)) ∧ w'.cell? ⟨lb, lo + x * 3, none⟩ = some (.int .i64 (ga (Ls i) x).st) ∧ w'.cell? ⟨lb, lo + x * 3 + 1, none⟩ = some (.int .u32 (ga (Ls i) x).bl) ∧ w'.cell? ⟨lb, lo + x * 3 + 2, none⟩ = some (.int .i64 (ga (Ls i) x).at_)) (first | exact ⟨c1, c2, c3, c4, c5, y0, y1, y2⟩ | exact HC.out) ((go_at_call 12; refine HPD.out.mono ?_; rintro e w4 ⟨⟨rfl, v4, hS4, hK4, hr4⟩, hc4⟩; have HC := Lib.hid (hc4 hK4)))
  obtain ⟨d1, _, _, d4, _⟩ := HC.out
  have hr5 : ∀ y ∈ rowOf v4, y ∈ rowOf v ∨ w0.heap.size ≤ y := hr4
  have hK5 : Kept (b :: rowOf v) w0 w4 := (Kept.refl _ w0).drew.trans hK4 (fun y h => .inl h)
  have hg4 : g < w4.heap.size := World.block_lt_of_cell? _ _ d4
  have hfz : w4.frozen? ⟨g, i, none⟩ = false := by
    have hb := hK5.block g HM0.out.row.1 (fun hm => by
      rcases List.mem_cons.1 hm with h | h
      · exact HM0.out.ne.2.2.2.2.2.2 h
      · exact HM0.out.apart g (by simp) h)
    rw [World.frozen?_of_block (a := ⟨g, i, none⟩) hb]; exact fz
  have HF := Lib.hid (next_mem HM0.out hK5 hS4 hr5 hi x HX.out)
  have HR := Lib.hid (And.intro hr5 (And.intro hK5 HK0.out))
  have HI2 := HI
  clear HC hc4 hS4 hK4 hr4 c1 c2 c3 c4 c5 y0 y1 y2 fz HMD HPD HP hr5 hK5 HM0 HK0 HX HI
  go_wp2_with fail
  go_returns
  obtain ⟨f1, f2⟩ := HF.out
  obtain ⟨g1, g2, g3⟩ := HR.out
  refine ⟨rfl, v4, X', HI2.out.1, HI2.out.2, f1, (g3.mono (by simp)).trans f2 (fun y h => .inl h), fun y hy => ?_⟩
  rcases g1 y hy with h | h
  · exact .inl h
  · right; omega
end Go.Proofs.Ytplgcnlnhboneaa
