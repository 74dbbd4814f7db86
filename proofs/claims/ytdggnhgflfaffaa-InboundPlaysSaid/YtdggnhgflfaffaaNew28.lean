/- lightshipref26.Plain; inbound.New. -/
import Derived.Test.YtdggnhgflfaffaaCfg
import Derived.Test.YtdggnhgflfaffaaInb7
namespace Go.Proofs.Ytdggnhgflfaffaa
set_option maxRecDepth 20000
open Go.ChangeShapes Go.WideShapes Go.ChangeAt Go.RowKit
set_option linter.unusedVariables false
set_option linter.unusedSimpArgs false

def plainC (k : Nat) : Int := [4, 2, 16, 4, 256, 256, 64, 4096, 16, 2, 8].getD k 0
theorem plain_ok : CkOk plainC := by unfold CkOk plainC; simp
theorem rplain (w : World) : Calls Try.prog 21 #[] w fun e w' => e = .returned (.agg (cfgV plainC)) ∧ Below w.heap.size w w' := by
  go_enter Try.func21, Try.ntmps21
  go_wp2_with fail
  exact bodyPost_ret (results_cell_row rfl _ _ w.heap.size 23 (cfgV plainC) (0, 0) _ rfl (Blk.new w (cfgV plainC) 23) Try.underlying23 rfl (by kernel_rfl)) rfl ⟨rfl, below1 _ _⟩
def x0 : Ist := ⟨0, [], ⟨#[]⟩, 0, false, []⟩
def INewPost (W : World) (C : Nat → Int) (e : Ending) (w' : World) : Prop :=
  ∃ b R win que, e = .returned (.tuple #[.pointer (some ⟨b, 0, none⟩), .int .i64 0]) ∧ C 3 = ((win : Nat) : Int) ∧ C 5 = ((que : Nat) : Int) ∧ In w' b R win que C x0 ∧ (∀ y ∈ R, W.heap.size ≤ y) ∧ Below W.heap.size W w'
theorem inew_bad (C : Nat → Int) (stream : Int) (h : ¬ (CkOk C ∧ 0 ≤ stream ∧ stream ≤ 255)) (w : World) : Calls Try.prog 6 #[.agg (cfgV C), .int .i64 stream] w fun e w' => e = .returned (.tuple #[.pointer none, .int .i64 2]) ∧ Below w.heap.size w w' := by
  obtain ⟨c0, c1, c2, c3, c4, c5, c6, c7, c8, c9, c10⟩ := cfgGet C
  have H := Lib.hid h
  have HC := Lib.hid (fun w => ccheck C w)
  clear h
  generalize hcv : cfgV C = cv at *
  have HV := Lib.hid hcv
  clear hcv
  go_enter Try.func6, Try.ntmps6
  go_wp2_with fail
  refine (ccheck C _).mono ?_
  rintro e w1 ⟨⟨rfl, hok⟩ | ⟨rfl, hno⟩, hb1⟩
  · have hs : stream < 0 ∨ 255 < stream := by have := H.out; by_cases h0 : 0 ≤ stream <;> by_cases h1 : stream ≤ 255 <;> first | omega | exact (this ⟨hok, h0, h1⟩).elim
    clear hok HC
    rcases hs with hs | hs
    · go_wp2_with fail
      go_ret2
      exact ⟨rfl, (below1 w _).trans (hb1.mono (by simp))⟩
    · go_wp2_with fail
      go_ret2
      exact ⟨rfl, (below1 w _).trans (hb1.mono (by simp))⟩
  · clear hno HC
    go_wp2_with fail
    go_ret2
    exact ⟨rfl, (below1 w _).trans (hb1.mono (by simp))⟩
set_option maxHeartbeats 1000000 in
theorem inew_good (C : Nat → Int) (stream : Int) (hc : CkOk C) (h0 : 0 ≤ stream) (h1 : stream ≤ 255) (w : World) : Calls Try.prog 6 #[.agg (cfgV C), .int .i64 stream] w (INewPost w C) := by
  obtain ⟨win, hwin⟩ : ∃ win : Nat, C 3 = (win : Int) := ⟨(C 3).toNat, by have := hc.2.2.2.1; omega⟩
  obtain ⟨que, hque⟩ : ∃ que : Nat, C 5 = (que : Int) := ⟨(C 5).toNat, by have := mul_small hc.1.1 hc.1.2 hc.2.2.1.1 hc.2.2.1.2; have := hc.2.2.2.2.2.1; omega⟩
  have hw1 : 1 ≤ win ∧ win ≤ 64 := by have := hc.2.2.2.1; omega
  have hq1 : 1 ≤ que ∧ que ≤ 1048576 := by have := mul_small hc.1.1 hc.1.2 hc.2.2.1.1 hc.2.2.1.2; have := hc.2.2.2.2.2.1; omega
  obtain ⟨c0, c1, c2, c3, c4, c5, c6, c7, c8, c9, c10⟩ := cfgGet C
  have HO := Lib.hid hc
  have HQ := Lib.hid (And.intro hwin (And.intro hque (And.intro hw1 hq1)))
  clear hc hwin hque hw1 hq1
  generalize hcv : cfgV C = cv at *
  have HV := Lib.hid hcv
  clear hcv
  go_enter Try.func6, Try.ntmps6
  go_wp2_with fail
  refine (ccheck C _).mono ?_
  rintro e w1 ⟨⟨rfl, hok⟩ | ⟨rfl, hno⟩, hb1⟩
  · clear hok
    have hB : Blk w1 w.heap.size (cfgV C) 23 := by
      rw [HV.out]
      exact (Blk.new w cv _).kept (Kept.of_below hb1 []) (by simp)
    obtain ⟨d0, d1, d2, d3, d4, d5, d6, d7, d8, d9, d10⟩ := cfgCells hB
    have HB := Lib.hid hB
    have HON : Hid (∀ w, Calls Try.prog 27 #[.int .u32 0, .int .i64 (C 3)] w (ONewPost w 0 win)) := Lib.hid (fun w => by rw [HQ.out.1]; exact onew_good 0 win (by omega) HQ.out.2.2.1.1 HQ.out.2.2.1.2 w)
    have HRN : Hid (∀ w, Calls Try.prog 28 #[.int .i64 (C 5)] w (NewPost w que)) := Lib.hid (fun w => by rw [HQ.out.2.1]; exact new_good que HQ.out.2.2.2.1 HQ.out.2.2.2.2 w)
    have HB1 : Hid (Below w.heap.size w w1) := Lib.hid ((below1 w _).trans (hb1.mono (by simp)))
    have hlt := hB.lt
    clear hB hb1 c0 c1 c2 c3 c4 c5 c6 c7 c8 c9 c10
    go_wp2_with fail
    obtain ⟨cn, hcn⟩ : ∃ cn : Array Value, cn = #[.int .i64 (C 0), .int .i64 (C 1), .int .i64 (C 2), .int .i64 (C 3), .int .i64 (C 4), .int .i64 (C 5), .int .i64 (C 6), .int .i64 (C 7), .int .i64 (C 8), .int .i64 (C 9), .int .i64 (C 10), .pointer none, .pointer none, .int .u32 0, .bool false, .int .u32 0, .bool false, .int .i64 0] := ⟨_, rfl⟩
    rw [← hcn]
    have HCN := Lib.hid hcn
    clear hcn
    refine (HON.out _).mono ?_
    rintro e w2 ⟨ob, g1, g2, rfl, ho, hn, hb2⟩
    have hB2 : Blk w2 w1.heap.size cn 65 := (Blk.new w1 cn _).kept (Kept.of_below hb2 []) (by simp)
    have d5' : w2.cell? ⟨w.heap.size, 5, none⟩ = some (.int .i64 (C 5)) := ((HB.out.alloc _).kept (Kept.of_below hb2 []) (by simp)).cell 5
    have HK2 : Hid (Kept [] w1 w2) := Lib.hid (((Kept.refl [] w1).alloc _).trans (Kept.of_below hb2 []) (fun x hx => .inl hx))
    have hne : ∀ y ∈ [ob, g1, g2], w1.heap.size + 1 ≤ y := fun y hy => by have := hn y hy; simpa using this
    have HNE := Lib.hid hne
    have hlt2 := hB2.lt
    have e11 : w2.cell? ⟨w1.heap.size, 11, none⟩ = some (.pointer none) := by have := hB2.cell 11; rw [HCN.out] at this; exact this
    have e12 : w2.cell? ⟨w1.heap.size, 12, none⟩ = some (.pointer none) := by have := hB2.cell 12; rw [HCN.out] at this; exact this
    have ef := hB2.free
    have HB2 := Lib.hid hB2
    have HOR := Lib.hid ho
    clear hB2 ho hn hb2 hne d0 d1 d2 d3 d4 d5 d6 d7 d8 d9 d10 HON
    go_wp2_with fail
    refine (HRN.out _).mono ?_
    rintro e w3 ⟨rb, rg, rfl, hr, hn1, hn2, hb3⟩
    have hB3 : Blk w3 w1.heap.size (cn.setIfInBounds 11 (.pointer (some ⟨ob, 0, none⟩))) 65 := (HB2.out.set 11 _).kept (Kept.of_below hb3 []) (by simp)
    have e12' : w3.cell? ⟨w1.heap.size, 12, none⟩ = some (.pointer none) := by have := hB3.cell 12; rw [HCN.out] at this; exact this
    have ef' := hB3.free
    have HB3 := Lib.hid hB3
    have hs23 : w2.heap.size ≤ rb ∧ w2.heap.size ≤ rg := by simpa using And.intro hn1 hn2
    have hK3 : Kept [w1.heap.size] w2 w3 := ((Kept.refl [w1.heap.size] w2).set ⟨w1.heap.size, 11, none⟩ (.inl (by simp)) _).trans (Kept.of_below hb3 []) (fun x hx => by simp at hx)
    have HK3 := Lib.hid hK3
    have HR3 := Lib.hid hr
    have hlt3 := hB3.lt
    have HS23 := Lib.hid hs23
    clear hB3 hr hb3 hn1 hn2 hs23 hK3 d5' e11 e12 ef HRN
    go_wp2_with fail
    go_ret2
    have hlo := HOR.out.lt
    have hne := HNE.out
    have hs := HS23.out
    simp only [List.mem_cons, List.not_mem_nil, or_false, forall_eq_or_imp, forall_eq] at hne
    have hk4 : Kept [w1.heap.size] w3 (w3.setCell ⟨w1.heap.size, 12, none⟩ (.pointer (some ⟨rb, 0, none⟩))) := (Kept.refl [w1.heap.size] w3).set ⟨w1.heap.size, 12, none⟩ (.inl (by simp)) _
    have hkall : Kept [w1.heap.size] w2 (w3.setCell ⟨w1.heap.size, 12, none⟩ (.pointer (some ⟨rb, 0, none⟩))) := HK3.out.trans hk4 (fun x hx => .inl hx)
    refine ⟨w1.heap.size, [w1.heap.size, ob, g1, g2, rb, rg], win, que, rfl, HQ.out.1, HQ.out.2.1, ⟨ob, g1, g2, rb, rg, rfl, ⟨?_, ?_, ?_, HQ.out.1, HQ.out.2.1, by omega⟩⟩, ?_, ?_⟩
    · have hx := HB3.out.set 12 (.pointer (some ⟨rb, 0, none⟩))
      have e : (cn.setIfInBounds 11 (.pointer (some ⟨ob, 0, none⟩))).setIfInBounds 12 (.pointer (some ⟨rb, 0, none⟩)) = inC C ob rb x0 (bodyLen x0.L) := by rw [HCN.out]; rfl
      rw [e] at hx
      exact hx
    · exact NewO (by decide) HQ.out.2.2.1.1 HQ.out.2.2.1.2 (HOR.out.kept hkall (by simp; omega) (by simp; omega) (by simp; omega))
    · exact HR3.out.kept hk4 (by simp; omega) (by simp; omega)
    · intro y hy
      simp at hy
      rcases hy with rfl | rfl | rfl | rfl | rfl | rfl <;> omega
    · exact HB1.out.trans (((HK2.out.trans hkall (fun x hx => .inr (by simp at hx <;> omega))).below (B := w.heap.size) (by omega) (fun x hx => by simp at hx <;> omega)))
  · exact (hno HO.out).elim
end Go.Proofs.Ytdggnhgflfaffaa
