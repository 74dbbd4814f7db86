/- lightshiplaw48: put. -/
import Derived.Test.YtijefclhcfdpgaaHeap5
namespace Go.Proofs.Ytijefclhcfdpgaa
open Go.ChangeShapes Go.WideShapes Go.ChangeAt Go.RowKit
set_option linter.unusedVariables false

theorem Src.one (w : World) (d : Du) : Src (w.alloc (.cells #[.int .i64 d.st, .int .u32 d.bl, .int .i64 d.at_] 31)) (some ⟨w.heap.size, 0, none⟩) 1 1 3 (dc d) :=
  ⟨by simp [dc], Nat.le_refl _, by unfold maxLen; omega, (fun h => nomatch h), (fun a ha => by injection ha with ha; subst ha; rfl), fun a ha j u hu => by injection ha with ha; subst ha; exact dc_new w d _ j u hu⟩
def InsPost (W : World) (L : List Du) (d : Du) (e : Ending) (w' : World) : Prop :=
  ∃ v' M, e = .returned v' ∧ w'.ownsRow W.heap.size 31 3 v' M.length (dl M) ∧ M.Perm (d :: L) ∧ (Srt L → Srt M) ∧ Below W.heap.size W w'
theorem ins_done {W w' : World} {L : List Du} {d : Du} {v' : Value} {i : Nat} {m : Nat} {xs : List Value} (hi : i ≤ L.length) (h1 : ∀ j, j < i → d.lt (ga L j) = false) (h2 : i = L.length ∨ d.lt (ga L i) = true) (ho : w'.ownsRow W.heap.size 31 3 v' m xs) (hm : m = L.length + 1) (hx : xs = dl (L.take i) ++ dc d ++ dl (L.drop i)) (hb : Below W.heap.size W w') : InsPost W L d (.returned v') w' := by
  refine ⟨v', L.take i ++ d :: L.drop i, rfl, ?_, perm_ins L d i, fun hs => srt_ins hs hi h1 h2, hb⟩
  have hl : (L.take i ++ d :: L.drop i).length = m := by rw [(perm_ins L d i).length_eq, hm]; simp
  have e : dl (L.take i ++ d :: L.drop i) = xs := by rw [hx, dl_app, dl_cons, List.append_assoc]
  rw [hl, e]
  exact ho
set_option maxRecDepth 100000 in
set_option maxHeartbeats 4000000 in
theorem lput (p : Option Addr) (cap : Nat) (L : List Du) (d : Du) (hL : L.length ≤ 1000) (w : World) (hs : Src w p L.length cap 3 (dl L)) (hpb : ∀ a, p = some a → a.block < w.heap.size) : Calls Try.prog 9 #[.slice p L.length cap, dv d] w (InsPost w L d) := by
  show Calls Try.prog 9 #[.slice p L.length cap, .agg #[.int .i64 d.st, .int .u32 d.bl, .int .i64 d.at_]] w _
  obtain ⟨i0, hi, hz0, hz1, hz2⟩ := info_parts d_info
  obtain ⟨n, hn⟩ : ∃ n, n = L.length := ⟨_, rfl⟩
  rw [← hn] at hs hL ⊢
  have HN := Lib.hid hn
  clear hn
  have hcap := hs.fits
  have hmax := hs.big
  unfold maxLen at hmax
  go_enter Try.func9, Try.ntmps9
  go_wp2_with fail
  generalize hw2 : w.alloc _ = wb
  have hB2 : Blk wb w.heap.size #[.int .i64 d.st, .int .u32 d.bl, .int .i64 d.at_] 31 := by rw [← hw2]; exact Blk.new _ _ _
  have hk2 : Kept [] w wb := by rw [← hw2]; exact (Kept.refl _ _).alloc _
  have hS2 := hs.kept hk2 (by simp)
  have hsz2 := hB2.lt
  have HS := Lib.hid hS2
  have HB := Lib.hid hB2
  have HKW := Lib.hid hk2
  clear hw2 hs hS2 hB2 hk2
  go_loopw [5] (fun iv wr => ∃ i : Nat, iv = .int .i64 (i : Int) ∧ i ≤ n ∧ (∀ j, j < i → d.lt (ga L j) = false) ∧ Kept [] wb wr) (fun iv _ => n - (intOf iv).toNat)
  case atStart => exact ⟨0, rfl, Nat.zero_le _, fun j hj => absurd hj (Nat.not_lt_zero _), Kept.refl _ _⟩
  case round =>
    obtain ⟨i, rfl, hin, hj, hb⟩ := hrel
    have HJ := Lib.hid hj
    have HD := Lib.hid (HB.out.kept hb (by simp))
    have HSR := Lib.hid (HS.out.kept hb (by simp))
    have hszr := hb.size
    clear hj
    by_cases hlt : i < n
    · obtain ⟨lb, off, rfl⟩ := HSR.out.of_pos (by omega)
      have x0 := HD.out.cell 0
      have x1 := HD.out.cell 1
      have x2 := HD.out.cell 2
      simp at x0 x1 x2
      have y0 := HSR.out.at_ (i * 3) _ (by have := dl_get L i 0 (by rw [← HN.out]; exact hlt) (by omega); simpa [dc] using this)
      have y1 := HSR.out.at_ (i * 3 + 1) _ (by have := dl_get L i 1 (by rw [← HN.out]; exact hlt) (by omega); simpa [dc] using this)
      have y2 := HSR.out.at_ (i * 3 + 2) _ (by have := dl_get L i 2 (by rw [← HN.out]; exact hlt) (by omega); simpa [dc] using this)
      rw [← Nat.add_assoc] at y1 y2
      have hlb := hpb _ rfl
      have hlb2 : lb < wr.heap.size := by simp at hlb; omega
      have hdb : w.heap.size < wr.heap.size := by omega
      have HLS := Lib.hid (fun w => lless d (ga L i) w)
      have d0 : decide ((i : Int) < (n : Int)) = true := by rw [decide_eq_true_iff]; omega
      have d1 : decide (i < n) = true := by rw [decide_eq_true_iff]; omega
      have q4 : (0 : Int) ≤ (i : Int) := by omega
      have q5 : (i : Int) < (n : Int) := by omega
      go_wp2_with fail
      go_region_held3 (fun w' => w'.cell? ⟨w.heap.size, 0, none⟩ = some (.int .i64 d.st) ∧ w'.cell? ⟨w.heap.size, 1, none⟩ = some (.int .u32 d.bl) ∧ w'.cell? ⟨w.heap.size, 2, none⟩ = some (.int .i64 d.at_) ∧ w'.cell? ⟨lb, off + i * 3, none⟩ = some (.int .i64 (ga L i).st) ∧ w'.cell? ⟨lb, off + i * 3 + 1, none⟩ = some (.int .u32 (ga L i).bl) ∧ w'.cell? ⟨lb, off + i * 3 + 2, none⟩ = some (.int .i64 (ga L i).at_)) (first | exact ⟨x0, x1, x2, y0, y1, y2⟩ | exact ⟨kbelow hb4 (by exact hdb) x0, kbelow hb4 (by exact hdb) x1, kbelow hb4 (by exact hdb) x2, kbelow hb4 (by exact hlb2) y0, kbelow hb4 (by exact hlb2) y1, kbelow hb4 (by exact hlb2) y2⟩) ((go_at_call 16; refine (HLS.out _).mono ?_; rintro e we ⟨rfl, hb4⟩))
      rename_i hHeld
      have hke : Kept [] wb we := hb.drew.trans (Kept.of_below hb4 []) (fun x hx => .inl hx)
      clear hb4 hb x0 x1 x2 y0 y1 y2 HSR HD d0 d1 HLS hHeld
      cases hlt2 : d.lt (ga L i) with
      | false =>
        have HLT := Lib.hid hlt2
        clear hlt2
        go_wp2_with fail
        go_roundw
        case rel => exact ⟨i + 1, by go_num, by omega, fun j hj => by (rcases Nat.lt_or_ge j i with h | h); exact HJ.out j h; (obtain rfl : j = i := by omega); exact HLT.out, hke⟩
        case measure => simp [intOf]; omega
      | true =>
        have HLT := Lib.hid hlt2
        clear hlt2
        have HSe := Lib.hid (HS.out.kept hke (by simp))
        have hDe := HB.out.kept hke (by simp)
        obtain ⟨hhead, ao, hcut, hsc, hsb⟩ := HSe.out.cuts 26 (by kernel_rfl) (by intro w; kernel_rfl) i hin
        have HSC := Lib.hid hsc
        have HSH := Lib.hid (HSe.out.head i hin)
        have hWe : w.heap.size ≤ we.heap.size := by have := hke.size; omega
        have HKE := Lib.hid hke
        have HDE := Lib.hid hDe
        clear hsc hsb hke hDe
        go_wp2_with (at_builtin; refine wpList_append_src _ rfl (.tmp 22) (.tmp 25) 26 rfl w.heap.size 31 i0 (.agg #[.int .i64 0, .int .u32 0, .int .i64 0]) 3 24 Try.underlying26 hi hz0 hz1 hz2 rfl (by decide) _ 0 [] rfl (World.ownsRow_nil _ _ _ _) _ i cap rfl _ HSH.out (fun u hu => dl_one _ _ (List.mem_of_mem_take hu)) (by unfold maxLen; omega) (by omega) hWe ?_)
        intro v1 w1 hown1 hg1 hat1
        have hk1 : Kept [] we w1 := (Kept.refl [] _).grown hg1 (fun x hx => by simp [Value.ownBlock] at hx)
        have hD1 := HDE.out.kept hk1 (by simp)
        have z0 := hD1.cell 0
        have z1 := hD1.cell 1
        have z2 := hD1.cell 2
        simp at z0 z1 z2
        have hs1 : we.heap.size ≤ w1.heap.size := hk1.size
        have hr1 : ∀ x ∈ rowOf v1, we.heap.size ≤ x := fun x hx => by
          rcases rowOf_new hat1 x hx with h | h
          · simp [rowOf, Value.ownBlock] at h
          · exact h
        have HO1 := Lib.hid hown1
        have HR1 := Lib.hid hr1
        have HK1 := Lib.hid hk1
        clear hown1 hg1 hat1 hk1 hD1 hr1 hhead
        go_wp2_with (at_builtin; refine wpList_append_src _ rfl (.tmp 27) (.tmp 29) 26 rfl w.heap.size 31 i0 (.agg #[.int .i64 0, .int .u32 0, .int .i64 0]) 3 24 Try.underlying26 hi hz0 hz1 hz2 rfl (by decide) _ _ _ rfl (HO1.out.alloc _) _ 1 1 rfl _ (Src.one w1 d) (dc_one d) (by unfold maxLen; omega) (by omega) (by simp; omega) ?_)
        intro v2 w2 hown2 hg2 hat2
        have hk2 : Kept [] we w2 := (HK1.out.alloc _).grown hg2 (fun x hx => .inr (HR1.out x (mem_rowOf hx)))
        have hr2 : ∀ x ∈ rowOf v2, we.heap.size ≤ x := fun x hx => by
          rcases rowOf_new hat2 x hx with h | h
          · exact HR1.out x h
          · first | omega | (simp at h; omega)
        have HSC2 := Lib.hid (HSC.out.kept hk2 (by simp))
        have hs2 : we.heap.size ≤ w2.heap.size := hk2.size
        have HO2 := Lib.hid hown2
        have HR2 := Lib.hid hr2
        have HK2 := Lib.hid hk2
        clear hown2 hg2 hat2 hk2 hr2 z0 z1 z2
        go_wp2_with (at_builtin; refine wpList_append_src _ rfl (.tmp 31) (.tmp 34) 26 rfl w.heap.size 31 i0 (.agg #[.int .i64 0, .int .u32 0, .int .i64 0]) 3 24 Try.underlying26 hi hz0 hz1 hz2 rfl (by decide) _ _ _ rfl HO2.out _ (n - i) (cap - i) rfl _ HSC2.out (fun u hu => dl_one _ _ (List.mem_of_mem_drop hu)) (by unfold maxLen; omega) (by omega) (by omega) ?_)
        intro v3 w3 hown3 hg3 hat3
        have hk3 : Kept [] we w3 := HK2.out.grown hg3 (fun x hx => .inr (HR2.out x (mem_rowOf hx)))
        have HO3 := Lib.hid hown3
        have hb3 : Below w.heap.size w w3 := ((HKW.out.trans HKE.out (fun x hx => .inl hx)).trans hk3 (fun x hx => .inl hx)).below (Nat.le_refl _) (by simp)
        clear hown3 hg3 hat3 hcut
        go_wp2
        go_ret
        exact ins_done (by rw [← HN.out]; exact hin) HJ.out (.inr HLT.out) HO3.out (by have := HN.out; omega) (by simp [dl_take, dl_drop]) hb3
    · have hin2 : i = n := by omega
      have d0 : decide ((i : Int) < (n : Int)) = false := by rw [decide_eq_false_iff_not]; omega
      have d1 : decide (i < n) = false := by rw [decide_eq_false_iff_not]; omega
      have HIN := Lib.hid hin2
      clear hin2
      go_wp2_with fail
      go_quiet (fail)
      generalize hwe : wr.drewN nq = we
      have hke : Kept [] wb we := by rw [← hwe]; exact hb.drewN _
      clear hwe hb HSR HD d0 d1
      have HSe := Lib.hid (HS.out.kept hke (by simp))
      have hDe := HB.out.kept hke (by simp)
      obtain ⟨hhead, ao, hcut, hsc, hsb⟩ := HSe.out.cuts 26 (by kernel_rfl) (by intro w; kernel_rfl) i hin
      have HSC := Lib.hid hsc
      have HSH := Lib.hid (HSe.out.head i hin)
      have hWe : w.heap.size ≤ we.heap.size := by have := hke.size; omega
      have HKE := Lib.hid hke
      have HDE := Lib.hid hDe
      clear hsc hsb hke hDe
      go_wp2_with (at_builtin; refine wpList_append_src _ rfl (.tmp 22) (.tmp 25) 26 rfl w.heap.size 31 i0 (.agg #[.int .i64 0, .int .u32 0, .int .i64 0]) 3 24 Try.underlying26 hi hz0 hz1 hz2 rfl (by decide) _ 0 [] rfl (World.ownsRow_nil _ _ _ _) _ i cap rfl _ HSH.out (fun u hu => dl_one _ _ (List.mem_of_mem_take hu)) (by unfold maxLen; omega) (by omega) hWe ?_)
      intro v1 w1 hown1 hg1 hat1
      have hk1 : Kept [] we w1 := (Kept.refl [] _).grown hg1 (fun x hx => by simp [Value.ownBlock] at hx)
      have hD1 := HDE.out.kept hk1 (by simp)
      have z0 := hD1.cell 0
      have z1 := hD1.cell 1
      have z2 := hD1.cell 2
      simp at z0 z1 z2
      have hs1 : we.heap.size ≤ w1.heap.size := hk1.size
      have hr1 : ∀ x ∈ rowOf v1, we.heap.size ≤ x := fun x hx => by
        rcases rowOf_new hat1 x hx with h | h
        · simp [rowOf, Value.ownBlock] at h
        · exact h
      have HO1 := Lib.hid hown1
      have HR1 := Lib.hid hr1
      have HK1 := Lib.hid hk1
      clear hown1 hg1 hat1 hk1 hD1 hr1 hhead
      go_wp2_with (at_builtin; refine wpList_append_src _ rfl (.tmp 27) (.tmp 29) 26 rfl w.heap.size 31 i0 (.agg #[.int .i64 0, .int .u32 0, .int .i64 0]) 3 24 Try.underlying26 hi hz0 hz1 hz2 rfl (by decide) _ _ _ rfl (HO1.out.alloc _) _ 1 1 rfl _ (Src.one w1 d) (dc_one d) (by unfold maxLen; omega) (by omega) (by simp; omega) ?_)
      intro v2 w2 hown2 hg2 hat2
      have hk2 : Kept [] we w2 := (HK1.out.alloc _).grown hg2 (fun x hx => .inr (HR1.out x (mem_rowOf hx)))
      have hr2 : ∀ x ∈ rowOf v2, we.heap.size ≤ x := fun x hx => by
        rcases rowOf_new hat2 x hx with h | h
        · exact HR1.out x h
        · first | omega | (simp at h; omega)
      have HSC2 := Lib.hid (HSC.out.kept hk2 (by simp))
      have hs2 : we.heap.size ≤ w2.heap.size := hk2.size
      have HO2 := Lib.hid hown2
      have HR2 := Lib.hid hr2
      have HK2 := Lib.hid hk2
      clear hown2 hg2 hat2 hk2 hr2 z0 z1 z2
      go_wp2_with (at_builtin; refine wpList_append_src _ rfl (.tmp 31) (.tmp 34) 26 rfl w.heap.size 31 i0 (.agg #[.int .i64 0, .int .u32 0, .int .i64 0]) 3 24 Try.underlying26 hi hz0 hz1 hz2 rfl (by decide) _ _ _ rfl HO2.out _ (n - i) (cap - i) rfl _ HSC2.out (fun u hu => dl_one _ _ (List.mem_of_mem_drop hu)) (by unfold maxLen; omega) (by omega) (by omega) ?_)
      intro v3 w3 hown3 hg3 hat3
      have hk3 : Kept [] we w3 := HK2.out.grown hg3 (fun x hx => .inr (HR2.out x (mem_rowOf hx)))
      have HO3 := Lib.hid hown3
      have hb3 : Below w.heap.size w w3 := ((HKW.out.trans HKE.out (fun x hx => .inl hx)).trans hk3 (fun x hx => .inl hx)).below (Nat.le_refl _) (by simp)
      clear hown3 hg3 hat3 hcut
      go_wp2
      go_ret
      exact ins_done (by rw [← HN.out]; exact hin) HJ.out (.inl (by rw [← HN.out]; exact HIN.out)) HO3.out (by have := HN.out; omega) (by simp [dl_take, dl_drop]) hb3
end Go.Proofs.Ytijefclhcfdpgaa
