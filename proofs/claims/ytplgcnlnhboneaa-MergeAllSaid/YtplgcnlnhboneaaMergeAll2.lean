/- merge.All: all lists rise: one list in order. -/
import Derived.Test.YtplgcnlnhboneaaMergeAll
namespace Go.Proofs.Ytplgcnlnhboneaa
open Go.ChangeShapes Go.WideShapes Go.ChangeAt Go.RowKit
set_option linter.unusedVariables false

def tot (Ls : Nat → List Du) (m : Nat) : Nat := ((List.range m).flatMap Ls).length
theorem take_le (Ls : Nat → List Du) (A : Nat → Nat) (m : Nat) : (pushed Ls A m).length ≤ tot Ls m := by
  unfold tot
  induction m with
  | zero => simp [pushed]
  | succ m ih =>
    rw [pushed_succ, List.range_succ, List.flatMap_append, List.length_append, List.length_append]
    have : ((Ls m).take (A m)).length ≤ (List.flatMap Ls [m]).length := by simp; omega
    omega
theorem len_tot (Ls : Nat → List Du) (m i : Nat) (hi : i < m) : (Ls i).length ≤ tot Ls m := by
  unfold tot
  induction m with
  | zero => omega
  | succ m ih =>
    rw [List.range_succ, List.flatMap_append, List.length_append]
    by_cases h : i = m
    · subst h; simp
    · have := ih (by omega); omega
theorem inc_first {Ls : Nat → List Du} {k : Nat} (h : 0 < (Ls k).length) : inc (first Ls k) k = first Ls (k + 1) := by
  funext j
  unfold inc first
  by_cases h1 : j = k
  · subst h1; simp; omega
  · by_cases h2 : j < k
    · simp [h1, h2, show j < k + 1 by omega]
    · simp [h1, h2, show ¬ j < k + 1 by omega]
theorem first_same {Ls : Nat → List Du} {k : Nat} (h : (Ls k).length = 0) : first Ls k = first Ls (k + 1) := by
  funext j
  unfold first
  by_cases h1 : j = k
  · subst h1; simp [h]
  · by_cases h2 : j < k
    · simp [h2, show j < k + 1 by omega]
    · simp [h2, show ¬ j < k + 1 by omega]
theorem pushed_first0 (Ls : Nat → List Du) (m : Nat) : pushed Ls (first Ls 0) m = [] := by
  unfold pushed
  rw [List.flatMap_eq_nil_iff]
  intro i _
  simp [first]
theorem next_below {w w' : World} {B pl pa g ph b : Nat} {v : Value} {a : Option Addr} {m cap : Nat} {A : Nat → Nat} {X : List Du} (h : AllMem w B pl pa g ph b v a m cap A X) (hk : Kept (g :: b :: rowOf v) w w') (hB : B ≤ w.heap.size) : Below B w w' :=
  hk.below hB (fun x hx => by
    have hge := h.ge
    simp at hge hx
    rcases hx with rfl | rfl | hx
    · exact hge.2.2.1
    · exact hge.2.2.2.2
    · have := (h.heap.rows x hx).1; omega)
theorem AllMem.act {w0 w4 : World} {B pl pa g ph b : Nat} {v v4 : Value} {a : Option Addr} {m cap : Nat} {A : Nat → Nat} {X X' : List Du} (hM : AllMem w0 B pl pa g ph b v a m cap A X) (hK : Kept (b :: rowOf v) w0 w4) (hS : HS w4 b v4 X')
    (hr : ∀ x ∈ rowOf v4, x ∈ rowOf v ∨ w0.heap.size ≤ x) : AllMem w4 B pl pa g ph b v4 a m cap A X' := by
  obtain ⟨n1, n2, n3, n4, n5, n6, n7⟩ := hM.ne
  have hap := hM.apart
  simp at hap
  have hl := hM.blocks
  have no : ∀ k, k ≠ b → k ∉ rowOf v → k ∉ b :: rowOf v := fun k h1 h2 h3 => by
    rcases List.mem_cons.1 h3 with h | h
    · exact h1 h
    · exact h2 h
  refine ⟨hM.l.kept hK (no _ n2 hap.1), hM.at_.kept hK (no _ n4 hap.2.1), hM.row.kept hK (no _ n7 hap.2.2.1), hM.h.kept hK (no _ n6 hap.2.2.2), hS, hM.ge, hM.ne, fun y hy h => ?_⟩
  rcases hr y h with h1 | h1
  · exact hM.apart y hy h1
  · simp at hy; rcases hy with rfl | rfl | rfl | rfl <;> omega
theorem src_d (w : World) (n : Nat) (hn : n = w.heap.size) (d : Du) : Src (w.alloc (.cells #[.int .i64 d.st, .int .u32 d.bl, .int .i64 d.at_] 30)) (some ⟨n, 0, none⟩) 1 1 3 (dc d) := by
  subst hn
  refine ⟨by simp [dc], Nat.le_refl _, by unfold maxLen; omega, (fun h => nomatch h), (fun a ha => by injection ha with ha; subst ha; rfl), fun a ha j u hu => ?_⟩
  injection ha with ha; subst ha
  rw [add_plain, (Blk.new w _ _).cell]
  match j, hu with
  | 0, hu => exact hu
  | 1, hu => exact hu
  | 2, hu => exact hu
theorem d_one (d : Du) : ∀ u ∈ dc d, u.oneCell' = true := by
  intro u hu
  simp [dc] at hu
  rcases hu with rfl | rfl | rfl <;> rfl
/-- memory in the outer loop: out is given, X waits -/
structure OutMem (w : World) (B pl pa g ph b : Nat) (v : Value) (a : Option Addr) (m cap : Nat) (A : Nat → Nat) (X out : List Du) (gv : Value) : Prop where
  mem : AllMem w B pl pa g ph b v a m cap A X
  own : w.ownsRow B 30 3 gv out.length (dl out)
  ap : ∀ x ∈ rowOf gv, x ∉ [pl, pa, g, ph, b] ∧ x ∉ rowOf v
def AllPost (W : World) (m : Nat) (Ls : Nat → List Du) (e : Ending) (w' : World) : Prop :=
  ∃ p n cap out, e = .returned (.tuple #[.slice p n cap, .int .i64 0]) ∧ n = out.length ∧ Src w' p n cap 3 (dl out) ∧ out.Perm ((List.range m).flatMap Ls) ∧ Srt out ∧ (∀ a, p = some a → a.block < w'.heap.size) ∧ Below W.heap.size W w'
set_option maxRecDepth 100000 in
set_option maxHeartbeats 8000000 in
theorem all_ok (a : Option Addr) (m cap bl off : Nat) (R : Nat → Option Addr × Nat) (Ls : Nat → List Du) (hc : cap ≤ maxLen) (hlc : m ≤ cap) (hm : m ≤ 256) (ht : tot Ls m ≤ 900) (w : World) (hL : Lists w w.heap.size a m bl off R Ls) (hn : ∀ i, i < m → risB (Ls i) (Ls i).length) :
    Calls Try.prog 6 #[.slice a m cap] w (AllPost w m Ls) := by
  unfold maxLen at hc
  obtain ⟨i0, hi0, hz0, hz1, hz2⟩ := info_parts d_info
  have HN := Lib.hid hn
  have HL := Lib.hid hL
  have HT := Lib.hid ht
  have hmk := make_ints m (by omega)
  clear hn hL ht
  go_enter Try.func6, Try.ntmps6
  go_wp2_with fail
  go_step3
  go_wp2_with fail
  generalize hw1 : w.alloc _ = w1
  have hb1 : Below w.heap.size w w1 := by rw [← hw1]; exact (Below.refl _ _).alloc (Nat.le_refl _) _
  have hL1 : Blk w1 w.heap.size #[.slice a m cap] 22 := by rw [← hw1]; exact Blk.new _ _ _
  have HB1 := Lib.hid hb1
  have HL1 := Lib.hid hL1
  have hz1' : w1.heap.size = w.heap.size + 1 := by rw [← hw1]; simp
  have c1 := hL1.one
  clear hw1 hb1 hL1
  go_wp2_with fail
  go_loopw [19] (fun iv wr => ∃ i : Nat, iv = .int .i64 (i : Int) ∧ i ≤ m ∧ Below (w.heap.size + 1) w1 wr) (fun iv _ => m - (intOf iv).toNat)
  case atStart => exact ⟨0, rfl, Nat.zero_le _, Below.refl _ _⟩
  case round =>
    obtain ⟨i, rfl, hi, hb⟩ := hrel
    have HB := Lib.hid hb
    by_cases him : i < m
    · have hbe : Below w.heap.size w wr := HB1.out.trans (hb.mono (by omega))
      have hL2 := HL.out.below hbe
      have c2 := hL2.cell i him
      have ha := hL2.at_ (by omega)
      subst ha
      have HR := Lib.hid (mrises_any hL2 hbe.size i him)
      have HBE := Lib.hid hbe
      clear hb hbe hL2 hmk
      generalize (R i).1 = rp at *
      generalize (R i).2 = rc at *
      generalize hgn : (Ls i).length = rn at *
      have HGN := Lib.hid hgn
      clear hgn
      go_wp2_with fail
      refine HR.out.mono ?_
      rintro e w3 ⟨r, rfl, hr, hb3⟩
      have hb4 : Below (w.heap.size + 1) w1 w3 := HB.out.trans (hb3.mono (by have := HB.out.size; omega))
      cases r with
      | false =>
        have h9 := hr.2 (HN.out i him)
        cases h9
      | true =>
        clear hr
        go_wp2_with fail
        go_roundw
        case rel => exact ⟨i + 1, by go_num, by omega, hb4⟩
        case measure => simp [intOf]; omega
    · have him2 : m = i := by omega
      subst him2
      have hbe : Below w.heap.size w wr := HB1.out.trans (hb.mono (by omega))
      have hzr := hb.size
      have HLB := Lib.hid (HL1.out.below hb (by omega))
      have cl := HLB.out.one
      have HBE := Lib.hid hbe
      clear hb hbe
      go_wp2_with fail
      refine (hnew _).mono ?_
      rintro e w2 ⟨rfl, hH2, hB2⟩
      have hS2 : HS w2 wr.heap.size (.slice none 0 0) [] := ⟨[], hH2, fun j h1 h2 => by simp at h2, List.Perm.refl _, List.Pairwise.nil⟩
      have hbe2 : Below w.heap.size w w2 := HBE.out.trans (hB2.mono HBE.out.size)
      have cl2 := kbelow hB2 (by show w.heap.size < _; omega) cl
      have hlb2 := HLB.out.below hB2 (by omega)
      have hsz2 : wr.heap.size < w2.heap.size := hH2.blk.lt
      obtain ⟨b, hbW⟩ : ∃ b, b = wr.heap.size := ⟨_, rfl⟩
      rw [← hbW] at hS2 hsz2 ⊢
      have hbW1 : w.heap.size < b := by omega
      have HX := Lib.hid (And.intro hS2 (And.intro hbe2 hlb2))
      clear hbW hH2 hB2 cl HLB HBE HB hS2 hbe2 hlb2 HB1 HL1 hz1' c1
      have cl3 : ∀ o1, (w2.alloc o1).cell? ⟨w.heap.size, 0, none⟩ = some (.slice a m cap) := fun o1 => kalloc cl2 _
      have cl5 : ∀ o1 o2 o3, (((w2.alloc o1).alloc o2).alloc o3).cell? ⟨w.heap.size, 0, none⟩ = some (.slice a m cap) := fun o1 o2 o3 => kalloc (kalloc (kalloc cl2 _) _) _
      go_wp2_with fail
      clear cl3 cl5 hmk
      generalize hw3 : ((w2.alloc _).alloc _).alloc _ = w3
      obtain ⟨pl, hpl⟩ : ∃ pl, pl = w.heap.size := ⟨_, rfl⟩
      obtain ⟨ph, hph⟩ : ∃ ph, ph = w2.heap.size := ⟨_, rfl⟩
      rw [← hph]
      obtain ⟨g, hg⟩ : ∃ g, g = ph + 1 := ⟨_, rfl⟩
      rw [← hg]
      obtain ⟨pa, hpa⟩ : ∃ pa, pa = g + 1 := ⟨_, rfl⟩
      rw [← hpa, ← hpl]
      have hM3 : AllMem w3 w.heap.size pl pa g ph b (.slice none 0 0) a m cap (first Ls 0) [] := by
        obtain ⟨h1, h2, h3⟩ := HX.out
        have hk : Kept [] w2 w3 := by rw [← hw3]; exact (((Kept.refl _ _).alloc _).alloc _).alloc _
        refine ⟨(show Blk w2 pl _ _ by rw [hpl]; exact h3).kept hk (by simp), ?_, ?_, ?_, h1.kept hk (by simp) (by simp [rowOf, Value.ownBlock]), ?_, ?_, ?_⟩
        · rw [← hw3, hpa, hg, hph]; exact Blk.new' (by simp)
        · refine (irow_row (n := m) ?_).congr (fun j hj => by simp [first])
          rw [← hw3, hg, hph]
          exact (Blk.new' (by simp)).alloc _
        · rw [← hw3, hph]
          exact ((Blk.new _ _ _).alloc _).alloc _
        · intro x hx; simp at hx; rcases hx with rfl | rfl | rfl | rfl | rfl <;> omega
        · omega
        · intro x hx; simp [rowOf, Value.ownBlock]
      have hb3 : Below w.heap.size w w3 := by
        rw [← hw3]
        have h2 := HX.out.2.1
        have hz := h2.size
        exact ((h2.alloc hz _).alloc (by simp; omega) _).alloc (by simp; omega) _
      clear hw3 hpl hph hg hpa HX cl2 hsz2 hbW1 hzr
      go_wp2_with fail
      go_loopw [34] (fun iv wr => ∃ (i : Nat) (v : Value) (X : List Du), iv = .int .i64 (i : Int) ∧ i ≤ m ∧ AllMem wr w.heap.size pl pa g ph b v a m cap (first Ls i) X ∧ X.Perm (pushed Ls (first Ls i) m) ∧ Below w.heap.size w wr) (fun iv _ => m - (intOf iv).toNat)
      case atStart => exact ⟨0, _, [], rfl, Nat.zero_le _, hM3, by rw [pushed_first0], hb3⟩
      case round =>
        clear hM3 hb3
        obtain ⟨i, v, X, rfl, hi, hM, hP, hb⟩ := hrel
        have HM := Lib.hid hM
        have HP := Lib.hid hP
        have HB := Lib.hid hb
        by_cases him : i < m
        · have hL2 := HL.out.below hb
          by_cases h0 : 0 < (Ls i).length
          · have e0 : first Ls i i = 0 := by unfold first; simp
            have hXl : X.length ≤ 900 := by rw [hP.length_eq]; exact Nat.le_trans (take_le _ _ _) HT.out
            have HC := Lib.hid (next_some w.heap.size pl pa g ph b v a m cap (first Ls i) X bl off R Ls hm hlc i him (by rw [e0]; exact h0) (by have := len_tot Ls m i him; have := HT.out; omega) (by omega) wr hb.size hM hL2)
            have H0 := Lib.hid h0
            clear hM hP hb hL2 h0 e0
            go_wp2_with fail
            refine HC.out.mono ?_
            rintro e w4 ⟨rfl, v4, X4, hP4, hS4, hM4, hK4, hr4⟩
            have hb4 : Below w.heap.size w w4 := HB.out.trans (next_below HM.out hK4 HB.out.size)
            have hP5 : X4.Perm (pushed Ls (first Ls (i + 1)) m) := by
              rw [← inc_first H0.out]
              exact hP4.trans ((HP.out.cons _).trans (pushed_inc Ls _ m i him (by unfold first; simp; exact H0.out)).symm)
            rw [inc_first H0.out] at hM4
            have HR := Lib.hid (And.intro hM4 (And.intro hP5 hb4))
            clear hP4 hS4 hM4 hK4 hr4 hb4 hP5 HC HM HP HB
            go_wp2_with fail
            go_roundw
            case rel => exact ⟨i + 1, v4, X4, by go_num, by omega, HR.out.1, HR.out.2.1, HR.out.2.2⟩
            case measure => simp [intOf]; omega
          · have HC := Lib.hid (next_none w.heap.size pl pa g ph b v a m cap (first Ls i) X bl off R Ls hm hlc i him (by omega) (by unfold first; simp) wr hM hL2)
            have hf : first Ls i = first Ls (i + 1) := first_same (by omega)
            rw [hf] at hM hP
            replace HM := Lib.hid hM
            replace HP := Lib.hid hP
            clear hM hP hb hL2 hf h0
            go_wp2_with fail
            refine HC.out.mono ?_
            rintro e w4 ⟨rfl, q, rfl⟩
            clear HC
            go_wp2_with fail
            go_roundw
            case rel => exact ⟨i + 1, v, X, by go_num, by omega, HM.out.kept ((Kept.refl [] _).drewN _) (by simp) (by simp), HP.out, bdrewN HB.out _⟩
            case measure => simp [intOf]; omega
        · have him2 : m = i := by omega
          subst him2
          clear hM hP hb
          go_wp2_with fail
          have hs0 : Srt X := by obtain ⟨M, _, _, _, h⟩ := HM.out.heap; exact h
          have HS0 := Lib.hid (MInv.start hs0 HP.out)
          clear hs0
          go_step3
          go_wp2_with fail
          go_loopg [10] (tot Ls m) (fun k ov wr => ∃ (v : Value) (A : Nat → Nat) (X out : List Du), k + out.length = tot Ls m ∧ OutMem wr w.heap.size pl pa g ph b v a m cap A X out ov ∧ MInv Ls m A out X ∧ Below w.heap.size w wr)
          case atStart => exact ⟨v, _, X, [], by simp, ⟨HM.out, World.ownsRow_nil _ _ _ _, by simp [rowOf, Value.ownBlock]⟩, HS0.out, HB.out⟩
          case round =>
            clear HS0 HM HP HB v X
            obtain ⟨v, A, X, out, hk, hO, hI, hb⟩ := hrel
            have c5 := hO.mem.h.one
            have HK := Lib.hid hk
            have HO := Lib.hid hO
            have HI := Lib.hid hI
            have HB := Lib.hid hb
            cases X with
            | nil =>
              obtain ⟨op, oc, hov, hsrc⟩ := Src.of_own hO.own
              have HP := Lib.hid (spop_none b v _ hO.mem.heap)
              have HR := Lib.hid (own_lt hO.own)
              have HS := Lib.hid hsrc
              clear hk hO hI hb hsrc
              go_wp2_with fail
              refine HP.out.mono ?_
              rintro e w4 ⟨rfl, hb4⟩
              unfold z3 dv
              go_wp2_with fail
              try rw [Exit.noGoto_ret]
              go_returns
              have hk5 : Kept [] wr (w4.alloc (.cells #[.int .i64 0, .int .u32 0, .int .i64 0] 30)) := (Kept.of_below hb4 []).alloc _
              refine ⟨op, out.length, oc, out, rfl, rfl, HS.out.kept hk5 (by simp), HI.out.whole, HI.out.so, fun a ha => ?_, HB.out.trans ((hb4.mono HB.out.size).alloc (by have := HB.out.size; have := hb4.size; omega) _)⟩
              have := (HR.out a.block (by rw [hov, ha]; simp [rowOf, Value.ownBlock])).2
              have := hk5.size
              omega
            | cons d X =>
              have HP := Lib.hid (spop b v d X _ hO.mem.heap)
              have hol : out.length < 900 := by
                have h1 := hI.pm.length_eq
                rw [List.length_append] at h1
                simp at h1
                have h2 := take_le Ls A m
                have h3 := HT.out
                omega
              have hgk : 0 < gk := by
                have h1 := hI.pm.length_eq
                rw [List.length_append] at h1
                simp at h1
                have h2 := take_le Ls A m
                omega
              clear hk hO hI hb
              go_wp2_with fail
              refine HP.out.mono ?_
              rintro e w4 ⟨rfl, v4, hS4, hK4, hr4⟩
              have hM4 := HO.out.mem.act hK4 hS4 hr4
              have hx4 : OutMem w4 w.heap.size pl pa g ph b v4 a m cap A X out u10 := by
                refine ⟨hM4, own_kept HO.out.own hK4 (fun x hx hm => ?_), fun x hx => ⟨(HO.out.ap x hx).1, fun hm => ?_⟩⟩
                · rcases List.mem_cons.1 hm with h | h
                  · exact (HO.out.ap x hx).1 (by simp [h])
                  · exact (HO.out.ap x hx).2 h
                · rcases hr4 x hm with h | h
                  · exact (HO.out.ap x hx).2 h
                  · have := (own_lt HO.out.own x hx).2; omega
              have hb4 : Below w.heap.size w w4 := HB.out.trans (hK4.below HB.out.size (fun x hx => by
                rcases List.mem_cons.1 hx with h | h
                · rw [h]; exact HO.out.mem.ge b (by simp)
                · have := (HO.out.mem.heap.rows x h).1
                  have := HO.out.mem.ge b (by simp)
                  omega))
              have HX := Lib.hid hx4
              have HO4 := Lib.hid hx4.own
              have HB4 := Lib.hid hb4
              have hsz4 := hb4.size
              clear hS4 hK4 hr4 hM4 hx4 hb4 HP HO HB c5
              unfold dv
              go_wp2_with (at_builtin; refine wpList_append_src _ rfl (.tmp 49) (.tmp 51) 24 rfl w.heap.size 30 i0 (.agg #[.int .i64 0, .int .u32 0, .int .i64 0]) 3 24 Try.underlying24 hi0 hz0 hz1 hz2 rfl (by decide) _ out.length _ rfl ((HO4.out.alloc _).alloc _) _ 1 1 rfl _ (src_d _ _ (by simp) d) (d_one d) (by unfold maxLen; omega) (by omega) (by simp; omega) ?_)
              intro gv2 w5 hown5 hg5 hat5
              have hk5 : Kept (rowOf u10) w4 w5 := (((Kept.refl _ _).alloc _).alloc _).grown hg5 (fun x hx => .inl (mem_rowOf hx))
              have hrw := rowOf_new hat5
              have hD5 : Blk w5 w4.heap.size #[.int .i64 d.st, .int .u32 d.bl, .int .i64 d.at_] 30 := by
                refine ((Blk.new w4 _ _).alloc _).grown hg5 (fun h => ?_)
                have := (own_lt HO4.out _ (mem_rowOf h.symm)).2
                omega
              have hx5 : OutMem w5 w.heap.size pl pa g ph b v4 a m cap A X (out ++ [d]) gv2 := by
                refine ⟨HX.out.mem.kept hk5 (fun x hx hm => (HX.out.ap x hm).1 hx) (fun x hx hm => (HX.out.ap x hm).2 hx), ?_, fun x hx => ?_⟩
                · rw [dl_app, List.length_append]
                  simpa [dl] using hown5
                · have hl := HX.out.mem.blocks
                  rcases hrw x hx with h | h
                  · exact HX.out.ap x h
                  · have h2 : w4.heap.size ≤ x := by first | omega | (simp at h; omega)
                    refine ⟨fun hm => ?_, fun hm => ?_⟩
                    · simp at hm; rcases hm with rfl | rfl | rfl | rfl | rfl <;> omega
                    · have := (HX.out.mem.heap.rows x hm).2; omega
              have hb5 : Below w.heap.size w w5 := HB4.out.trans (hk5.below HB4.out.size (fun x hx => (own_lt HO4.out x hx).1))
              have x0 := hD5.cell 0
              have x1 := hD5.cell 1
              have x2 := hD5.cell 2
              simp at x0 x1 x2
              have c2 := hx5.mem.l.one
              obtain ⟨bd, hbd⟩ : ∃ n, n = w4.heap.size := ⟨_, rfl⟩
              rw [← hbd] at x0 x1 x2 ⊢
              have hbd5 : bd < w5.heap.size := by rw [hbd]; exact hD5.lt
              replace HX := Lib.hid hx5
              have HB5 := Lib.hid hb5
              clear hown5 hg5 hat5 hk5 hrw hD5 hx5 hb5 HO4 HB4 hbd hsz4
              go_wp2_with fail
              obtain ⟨go, hgo⟩ : ∃ go, gk = go + 1 := ⟨gk - 1, by omega⟩
              subst hgo
              clear hgk
              go_loopg [55] m (fun k iv wx => ∃ i q : Nat, iv = .int .i64 (i : Int) ∧ k + i = m ∧ (∀ j, j < i → isOpen Ls A j → lastD Ls A j ≠ d) ∧ wx = w5.drewN q)
              case atStart => exact ⟨0, 0, rfl, rfl, fun j hj => absurd hj (Nat.not_lt_zero _), rfl⟩
              case round =>
                obtain ⟨i, q, rfl, hik, hj, rfl⟩ := hrel
                have HJ := Lib.hid hj
                clear hj
                by_cases him : i < m
                · have c1 := HX.out.mem.at_.one
                  have c4 := HX.out.mem.row.cell him
                  have hL5 := HL.out.below HB5.out
                  have c3 := hL5.cell i him
                  have ha := hL5.at_ (by omega)
                  subst ha
                  have q1 : (0 : Int) ≤ (i : Int) := by omega
                  have q2 : (i : Int) < (m : Int) := by omega
                  by_cases h0 : 0 < A i
                  · by_cases h1 : A i < (Ls i).length
                    · have hop : isOpen Ls A i := ⟨h0, h1⟩
                      obtain ⟨y, hy⟩ : ∃ y, A i = y + 1 := ⟨A i - 1, by omega⟩
                      have hla : lastD Ls A i = ga (Ls i) y := by unfold lastD; rw [hy]; rfl
                      have hs := hL5.src i him (by omega)
                      have hlt := len_tot Ls m i him
                      have htt := HT.out
                      have hXl : X.length < 5000 := by
                        have h1 := HI.out.pm.length_eq
                        rw [List.length_append] at h1
                        simp at h1
                        have h2 := take_le Ls A m
                        omega
                      have HC := Lib.hid (fun q => next_some w.heap.size pl pa g ph b v4 (some ⟨bl, off, none⟩) m cap A X bl off R Ls hm hlc i him h1 (by omega) hXl (w5.drewN q) (by exact HB5.out.size) (HX.out.mem.kept ((Kept.refl [] _).drewN q) (by simp) (by simp)) (hL5.below (bdrewN (Below.refl _ _) q)))
                      obtain ⟨lb, lo, hp⟩ := hs.of_pos (by have := hs.fits; omega)
                      rw [hp] at hs c3
                      have y0 := hs.at_ (y * 3) _ (by have := dl_get (Ls i) y 0 (by omega) (by omega); simpa [dc] using this)
                      have y1 := hs.at_ (y * 3 + 1) _ (by have := dl_get (Ls i) y 1 (by omega) (by omega); simpa [dc] using this)
                      have y2 := hs.at_ (y * 3 + 2) _ (by have := dl_get (Ls i) y 2 (by omega) (by omega); simpa [dc] using this)
                      rw [← Nat.add_assoc] at y1 y2
                      simp only [hy] at c4
                      push_cast at c4
                      rw [hy] at h1
                      generalize (R i).2 = rc at *
                      obtain ⟨n, hn⟩ : ∃ n, n = (Ls i).length := ⟨_, rfl⟩
                      rw [← hn] at c3 h1 hlt
                      have HO := Lib.hid hop
                      have HLA := Lib.hid hla
                      have HY := Lib.hid hy
                      have HNN := Lib.hid hn
                      clear hop hla hs hL5 h0 hp hy hn hXl
                      have r0 : decide ((0 : Int) < (y : Int) + 1) = true := by rw [decide_eq_true_iff]; omega
                      have r1 : decide ((y : Int) + 1 < (n : Int)) = true := by rw [decide_eq_true_iff]; omega
                      have r2 : (y : Int) + 1 - 1 = (y : Int) := by omega
                      have r3 : IntKind.i64.wrap (y : Int) = (y : Int) := IntWalk.i64_in _ (by omega)
                      have r4 : (0 : Int) ≤ (y : Int) := by omega
                      have r5 : (y : Int) < (n : Int) := by omega
                      by_cases hd : ga (Ls i) y = d
                      · have e1 := due_eq_same d
                        have e2 := due_guard .eql (.inr rfl) d.st d.bl d.at_ d.st d.bl d.at_
                        have HD := Lib.hid hd
                        rw [hd] at y0 y1 y2
                        clear hd
                        go_wp2_with fail
                        go_quiet (fail)
                        go_wp2_with fail
                        refine (HC.out _).mono ?_
                        rintro e w7 ⟨rfl, v7, X7, hP7, hS7, hM7, hK7, hr7⟩
                        have hm6 := HX.out.mem.kept ((Kept.refl [] w5).drewN (q + nq)) (by simp) (by simp)
                        have hb7 : Below w.heap.size w w7 := (bdrewN HB5.out (q + nq)).trans (next_below hm6 hK7 (by exact HB5.out.size))
                        have ho7 : OutMem w7 w.heap.size pl pa g ph b v7 (some ⟨bl, off, none⟩) m cap (inc A i) X7 (out ++ [d]) gv2 := by
                          have hno : ∀ x ∈ rowOf gv2, x ∉ g :: b :: rowOf v4 := fun x hx hm => by
                            have h1 := (HX.out.ap x hx).1
                            have h2 := (HX.out.ap x hx).2
                            simp at hm h1
                            rcases hm with rfl | rfl | hm
                            · exact h1.2.2.1 rfl
                            · exact h1.2.2.2.2 rfl
                            · exact h2 hm
                          refine ⟨hM7, own_kept (own_kept HX.out.own ((Kept.refl [] w5).drewN (q + nq)) (by simp)) hK7 hno, fun x hx => ⟨(HX.out.ap x hx).1, fun hm => ?_⟩⟩
                          rcases hr7 x hm with h | h
                          · exact (HX.out.ap x hx).2 h
                          · have h2 := (own_lt HX.out.own x hx).2
                            have h3 : (w5.drewN (q + nq)).heap.size = w5.heap.size := rfl
                            omega
                        have hi7 : MInv Ls m (inc A i) (out ++ [d]) X7 := by
                          refine HI.out.pop1 him HO.out (HLA.out.trans HD.out) ?_ hP7 hS7
                          rw [HY.out]
                          have := HN.out i him y (by have := HNN.out; omega) (by have := HNN.out; omega)
                          rw [HD.out] at this
                          exact this
                        have HE := Lib.hid (And.intro ho7 (And.intro hi7 hb7))
                        clear hP7 hS7 hM7 hK7 hr7 hm6 hb7 ho7 hi7 HC HX HB5 HI c1 c2 c3 c4 x0 x1 x2 y0 y1 y2 e1 e2
                        go_wp2_with fail
                        go_roundg go
                        case measure => omega
                        case rel => exact ⟨v7, inc A i, X7, out ++ [d], by have := HK.out; rw [List.length_append]; simp; omega, HE.out.1, HE.out.2.1, HE.out.2.2⟩
                      · have e1 := due_eq_not (ga (Ls i) y) d hd
                        have e2 := due_guard .eql (.inr rfl) (ga (Ls i) y).st (ga (Ls i) y).bl (ga (Ls i) y).at_ d.st d.bl d.at_
                        have HD := Lib.hid hd
                        clear hd HC
                        go_wp2_with fail
                        go_quiet (fail)
                        go_wp2_with fail
                        go_roundg (gk - 1)
                        case measure => omega
                        case rel => exact ⟨i + 1, q + nq, by go_num, by omega, fun j h1 h2 => by (rcases Nat.lt_or_ge j i with h | h); exact HJ.out j h h2; (obtain rfl : j = i := by omega); rw [HLA.out]; exact HD.out, rfl⟩
                    · obtain ⟨x, hx⟩ : ∃ x, x + 1 = A i := ⟨A i - 1, by omega⟩
                      obtain ⟨n, hn⟩ : ∃ n, n = (Ls i).length := ⟨_, rfl⟩
                      obtain ⟨rp, hrp⟩ : ∃ n, n = (R i).1 := ⟨_, rfl⟩
                      obtain ⟨rc, hrc⟩ : ∃ n, n = (R i).2 := ⟨_, rfl⟩
                      rw [← hn, ← hrp, ← hrc] at c3
                      simp only [← hx] at c4
                      push_cast at c4
                      have HNO : Hid (¬ isOpen Ls A i) := Lib.hid (fun h => h1 h.2)
                      rw [← hx] at h0 h1
                      rw [← hn] at h1
                      have r0 : decide ((0 : Int) < (x : Int) + 1) = true := by rw [decide_eq_true_iff]; omega
                      have r1 : decide ((x : Int) + 1 < (n : Int)) = false := by rw [decide_eq_false_iff_not]; omega
                      clear hx hn hrp hrc hL5 h0 h1
                      go_wp2_with fail
                      go_quiet (fail)
                      go_wp2_with fail
                      go_roundg (gk - 1)
                      case measure => omega
                      case rel => exact ⟨i + 1, q + nq, by go_num, by omega, fun j h1 h2 => by (rcases Nat.lt_or_ge j i with h | h); exact HJ.out j h h2; (obtain rfl : j = i := by omega); exact absurd h2 HNO.out, rfl⟩
                  · obtain ⟨x, hx⟩ : ∃ x, x = A i := ⟨_, rfl⟩
                    simp only [← hx] at c4
                    have HNO : Hid (¬ isOpen Ls A i) := Lib.hid (fun h => h0 h.1)
                    rw [← hx] at h0
                    obtain rfl : x = 0 := by omega
                    have c4' : w5.cell? ⟨g, i, none⟩ = some (.int .i64 0) := by simpa using c4
                    clear hx hL5 h0 c4 c3
                    go_wp2_with fail
                    go_quiet (fail)
                    go_wp2_with fail
                    go_roundg (gk - 1)
                    case measure => omega
                    case rel => exact ⟨i + 1, q + nq, by go_num, by omega, fun j h1 h2 => by (rcases Nat.lt_or_ge j i with h | h); exact HJ.out j h h2; (obtain rfl : j = i := by omega); exact absurd h2 HNO.out, rfl⟩
                · have him2 : m = i := by omega
                  subst him2
                  have hi7 : MInv Ls m A (out ++ [d]) X := HI.out.pop0 HJ.out
                  have HE := Lib.hid (And.intro (HX.out.mem.kept ((Kept.refl [] w5).drewN q) (by simp) (by simp)) (And.intro hi7 (bdrewN HB5.out q)))
                  have ho7 : OutMem (w5.drewN q) w.heap.size pl pa g ph b v4 a m cap A X (out ++ [d]) gv2 := ⟨HE.out.1, own_kept HX.out.own ((Kept.refl [] w5).drewN q) (by simp), HX.out.ap⟩
                  have HO7 := Lib.hid ho7
                  clear hi7 ho7
                  go_wp2_with fail
                  go_roundg go
                  case measure => omega
                  case rel => exact ⟨v4, A, X, out ++ [d], by have := HK.out; rw [List.length_append]; simp; omega, HO7.out, HE.out.2.1, HE.out.2.2⟩
end Go.Proofs.Ytplgcnlnhboneaa
