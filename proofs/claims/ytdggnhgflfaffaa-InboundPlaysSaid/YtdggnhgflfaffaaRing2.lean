/- Contracts of package ring: Peek, Take. -/
import Derived.Test.YtdggnhgflfaffaaRing
set_option maxRecDepth 20000
namespace Go.Proofs.Ytdggnhgflfaffaa
open Go.ChangeShapes Go.WideShapes Go.ChangeAt Go.RowKit
set_option linter.unusedVariables false

theorem Ring.kept {w w' : World} {b g most : Nat} {s : ByteArray} {r : List Nat} (h : Ring w b g most s) (hk : Kept r w w') (h1 : b ∉ r) (h2 : g ∉ r) : Ring w' b g most s := by
  obtain ⟨cap, fr, f, h⟩ := h
  exact ⟨cap, fr, f, h.kept hk h1 h2⟩
theorem Ring.drewN {w : World} {b g most : Nat} {s : ByteArray} (h : Ring w b g most s) (n : Nat) : Ring (w.drewN n) b g most s := h.kept ((Kept.refl [] w).drewN n) (by simp) (by simp)
theorem Ring.below {w w' : World} {b g most B : Nat} {s : ByteArray} (h : Ring w b g most s) (hb : Below B w w') (h1 : b < B) (h2 : g < B) : Ring w' b g most s := by
  obtain ⟨cap, fr, f, h⟩ := h
  exact ⟨cap, fr, f, h.blk.below hb h1, h.row.below hb h2, h.ne, h.fc, h.sc, h.cm, h.mm, h.at_⟩
theorem Ring.lt {w : World} {b g most : Nat} {s : ByteArray} (h : Ring w b g most s) : b < w.heap.size ∧ g < w.heap.size ∧ b ≠ g ∧ s.size ≤ most ∧ most ≤ 1048576 := by
  obtain ⟨cap, fr, f, h⟩ := h
  exact ⟨h.blk.lt, h.row.lt, h.ne, Nat.le_trans h.sc h.cm, h.mm⟩
theorem peek_nil (n : Int) (w : World) : Calls Try.prog 64 #[.pointer none, .int .i64 n] w fun e w' => e = .returned (.string ⟨#[]⟩) ∧ w = w' := by
  go_enter Try.func64, Try.ntmps64
  go_wp2
  go_ret
  exact ⟨rfl, rfl⟩
def PeekPost (W : World) (t : ByteArray) (e : Ending) (w' : World) : Prop := e = .returned (.string t) ∧ ∃ k, w' = W.drewN k
set_option maxRecDepth 100000 in
set_option maxHeartbeats 2000000 in
theorem peek_any (b g most : Nat) (s : ByteArray) (n : Int) (m : Nat) (hm : max 0 (min n (s.size : Int)) = (m : Int)) (w : World) (h : Ring w b g most s) : Calls Try.prog 64 #[.pointer (some ⟨b, 0, none⟩), .int .i64 n] w (PeekPost w (s.extract 0 m)) := by
  obtain ⟨cap, fr, f, h⟩ := h
  obtain ⟨c0, c1, c2, c3⟩ := h.cells
  have h1 := h.sc
  have h2 := h.cm
  have h3 := h.mm
  have h4 := h.fc
  have hms : m ≤ s.size := by omega
  obtain ⟨k, hk⟩ : ∃ k : Nat, min (m : Int) ((cap : Int) - (fr : Int)) = (k : Int) := ⟨min m (cap - fr), by omega⟩
  have hkm : k ≤ m := by omega
  have hkc : fr + k ≤ cap := by omega
  have hlow : m - k ≤ fr := by omega
  have q1 : IntKind.i64.wrap ((cap : Int) - (fr : Int)) = (cap : Int) - (fr : Int) := IntWalk.i64_in _ (by omega)
  have q2 : IntKind.i64.wrap ((fr : Int) + (k : Int)) = (fr : Int) + (k : Int) := IntWalk.i64_in _ (by omega)
  have q3 : IntKind.i64.wrap ((m : Int) - (k : Int)) = (m : Int) - (k : Int) := IntWalk.i64_in _ (by omega)
  have p1 : (0 : Int) ≤ (fr : Int) := by omega
  have p2 : (fr : Int) ≤ (fr : Int) + (k : Int) := by omega
  have p3 : (fr : Int) + (k : Int) ≤ (cap : Int) := by omega
  have p4 : (0 : Int) ≤ (m : Int) - (k : Int) := by omega
  have p5 : (m : Int) - (k : Int) ≤ (cap : Int) := by omega
  have s1 := fun N => (h.row.drewN N).part fr k (cap - fr) hkc
  have s2 : ∀ N, (convert 97 9 (.slice (some ⟨g, 0, none⟩) (m - k) cap)).run Try.prog (w.drewN N) = .ok (.string (sof (m - k) f)) (w.drewN N) := fun N => by
    have := (h.row.drewN N).part 0 (m - k) cap (by omega)
    simpa only [Nat.zero_add] using this
  have z1 := sof_size k (fun i => f (fr + i))
  have z2 := sof_size (m - k) f
  have hne : ¬ cap = fr := by omega
  have H := Lib.hid h
  have hres : sof k (fun i => f (fr + i)) ++ sof (m - k) f = s.extract 0 m := by
    have hfit : ∀ i, i < m → f ((fr + i) % cap) = bt s i := fun i hi => h.at_ i (by omega)
    refine bt_ext ?_ fun p hp => ?_
    · rw [ByteArray.size_append, z1, z2, size_extract _ _ _ hms]; omega
    · rw [ByteArray.size_append, z1, z2] at hp
      rw [bt_extract _ _ _ _ hms (by omega), bt_app, z1, Nat.zero_add, ← hfit p (by omega)]
      by_cases hpk : p < k
      · rw [if_pos hpk, sof_bt _ _ _ hpk, Nat.mod_eq_of_lt (by omega)]
      · rw [if_neg hpk, sof_bt _ _ _ (by omega), Nat.mod_eq_sub_mod (by omega), Nat.mod_eq_of_lt (by omega)]
        congr 1; omega
  have t1 : ((fr : Int) + (k : Int)).toNat = fr + k := by omega
  have t2 : ((m : Int) - (k : Int)).toNat = m - k := by omega
  have HRES := Lib.hid hres
  clear h hres
  go_enter Try.func64, Try.ntmps64
  go_wp2
  go_quiet (fail)
  go_wp2
  go_quiet (fail)
  go_wp2
  go_ret
  refine ⟨?_, _, World.drewN_drewN _ _ _⟩
  rw [← HRES.out]
  rfl
theorem take_nil (n : Int) (w : World) : Calls Try.prog 43 #[.pointer none, .int .i64 n] w fun e w' => e = .returned (.string ⟨#[]⟩) ∧ w = w' := by
  go_enter Try.func43, Try.ntmps43
  go_wp2_with (go_at_call 64; refine (peek_nil _ _).mono ?_; rintro e w' ⟨rfl, rfl⟩)
  go_ret
  exact ⟨rfl, rfl⟩
theorem extract_all (s : ByteArray) : s.extract 0 s.size = s := bt_ext (by rw [size_extract _ _ _ (Nat.le_refl _)]; omega) (fun p hp => by rw [size_extract _ _ _ (Nat.le_refl _)] at hp; rw [bt_extract _ _ _ _ (Nat.le_refl _) hp, Nat.zero_add])
set_option maxRecDepth 100000 in
set_option maxHeartbeats 2000000 in
theorem take_any (b g most : Nat) (s : ByteArray) (n : Int) (m : Nat) (hm : max 0 (min n (s.size : Int)) = (m : Int)) (w : World) (h : Ring w b g most s) : Calls Try.prog 43 #[.pointer (some ⟨b, 0, none⟩), .int .i64 n] w (ActPost w b g most (s.extract m s.size) (.string (s.extract 0 m))) := by
  have hms : m ≤ s.size := by omega
  have z1 := size_extract s 0 m hms
  rw [Nat.sub_zero] at z1
  have HP := Lib.hid (peek_any b g most s n m hm w h)
  clear hm
  rcases Nat.eq_zero_or_pos m with h0 | h0
  · subst h0
    have hsame : s.extract 0 s.size = s := extract_all s
    have H := Lib.hid h
    have HS := Lib.hid hsame
    clear h hsame
    go_enter Try.func43, Try.ntmps43
    go_wp2_with (go_at_call 64; refine (HP.out).mono ?_; rintro e w' ⟨rfl, nq, rfl⟩)
    go_ret
    refine ⟨ret_val (show Value.string ByteArray.empty = _ from by simp), g, ?_, (Kept.refl _ _).drewN _, .inl rfl⟩
    rw [HS.out]; exact H.out.drewN _
  · obtain ⟨cap, fr, f, h⟩ := h
    obtain ⟨c0, c1, c2, c3⟩ := h.cells
    have f1 := h.blk.free 1
    have f2 := h.blk.free 2
    have h1 := h.sc
    have h2 := h.cm
    have h3 := h.mm
    have h4 := h.fc
    have k1 : IntKind.i64.wrap ((fr : Int) + (m : Int)) = (fr : Int) + (m : Int) := IntWalk.i64_in _ (by omega)
    have H := Lib.hid h
    clear h
    go_enter Try.func43, Try.ntmps43
    go_wp2_with (go_at_call 64; refine (HP.out).mono ?_; rintro e w' ⟨rfl, nq, rfl⟩)
    go_region
    go_wp2
    go_ret
    refine ⟨rfl, g, ⟨cap, (fr + m) % cap, f, ?_, ?_, H.out.ne, Nat.mod_lt _ (by omega), ?_, H.out.cm, H.out.mm, fun i hi => ?_⟩, ?_, .inl rfl⟩
    · have hb1 := ((Blk.set (w := w.drewN (nq + 1)) H.out.blk 1 (.int .i64 (((fr : Int) + (m : Int)) % (cap : Int)))).set 2 (.int .i64 ((s.size : Int) - (m : Int))))
      have e : ((ringC g cap fr s.size most).setIfInBounds 1 (.int .i64 (((fr : Int) + (m : Int)) % (cap : Int)))).setIfInBounds 2 (.int .i64 ((s.size : Int) - (m : Int))) = ringC g cap ((fr + m) % cap) (s.extract m s.size).size most := by
        rw [size_extract _ _ _ (Nat.le_refl _)]
        simp [ringC]; omega
      rw [e] at hb1
      exact hb1
    · have hr0 : RowF (w.drewN (nq + 1)) g cap f := H.out.row
      exact (hr0.other _ (fun e => H.out.ne e.symm) _).other _ (fun e => H.out.ne e.symm) _
    · rw [size_extract _ _ _ (Nat.le_refl _)]; omega
    · rw [size_extract _ _ _ (Nat.le_refl _)] at hi
      rw [bt_extract _ _ _ _ (Nat.le_refl _) hi, ← H.out.at_ (m + i) (by omega)]
      congr 1
      rw [Nat.mod_add_mod, Nat.add_assoc]
    · exact (((Kept.refl _ _).drewN _).set _ (.inl (by simp)) _).set _ (.inl (by simp)) _
end Go.Proofs.Ytdggnhgflfaffaa
