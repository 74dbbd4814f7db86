/- Contracts of package rto and of its reference lightshipref14. -/
import Derived.Test.YtebhdefeggiihaaMem
import Derived.Outline
import Derived.Handy
import Derived.Deep.RegionHeld3
namespace Go.Proofs.Ytebhdefeggiihaa
open Go.ChangeShapes Go.WideShapes Go.ChangeAt Go.RowKit
set_option linter.unusedVariables false

/-- may the number be? -/
def good (x : Int) : Bool := decide (0 ≤ x) && decide (x ≤ 1073741824)
theorem good_t {x : Int} (h0 : 0 ≤ x) (h1 : x ≤ 1073741824) : good x = true := by simp [good, h0, h1]
theorem good_f {x : Int} (h : x < 0 ∨ 1073741824 < x) : good x = false := by simp [good]; omega
theorem good_iff {x : Int} : good x = true ↔ 0 ≤ x ∧ x ≤ 1073741824 := by simp [good]

theorem bad3 (b : Nat) (x y z : Int) (w : World) (hb : Blk w b #[.int .i64 x, .int .i64 y, .int .i64 z] 3) :
    Calls Try.prog 13 #[.slice (some ⟨b, 0, none⟩) 3 3] w fun e w' => e = .returned (.bool (!(good x && good y && good z))) ∧ w = w' := by
  have c0 := hb.cell 0
  have c1 := hb.cell 1
  have c2 := hb.cell 2
  simp at c0 c1 c2
  go_enter Try.func13, Try.ntmps13
  go_wp2
  go_rounds 4
  all_goals go_ret
  all_goals exact ⟨ret_bool (by unfold good; rw [Bool.eq_iff_iff]; simp; omega), rfl⟩

theorem cap_any (x : Int) (w : World) : Calls Try.prog 14 #[.int .i64 x] w fun e w' => e = .returned (.int .i64 (min x 1073741824)) ∧ w = w' := by
  by_cases h : x ≤ 1073741824
  · have e : min x 1073741824 = x := Int.min_eq_left h
    rw [e]
    go_enter Try.func14, Try.ntmps14
    go_wp2
    go_ret
    exact ⟨rfl, rfl⟩
  · have e : min x 1073741824 = 1073741824 := Int.min_eq_right (by omega)
    rw [e]
    go_enter Try.func14, Try.ntmps14
    go_wp2
    go_ret
    exact ⟨rfl, rfl⟩

def TakePost (W : World) (m v n err : Int) (e : Ending) (w' : World) : Prop :=
  e = .returned (.tuple #[.agg #[.int .i64 m, .int .i64 v, .int .i64 n], .int .i64 err]) ∧ Below W.heap.size W w'

theorem res_take (tm : Array Value) (w : World) (b : Nat) (m v n e : Value) (h : Blk w b #[m, v, n] 23) (h4 : tm.getD 4 undef = .pointer (some ⟨b, 0, none⟩)) (h5 : tm.getD 5 undef = e) :
    (results Try.f6 tm).run Try.prog w = .ok (.tuple #[.agg #[m, v, n], e]) w := by
  have c0 := h.cell 0
  have c1 := h.cell 1
  have c2 := h.cell 2
  simp at c0 c1 c2
  simp only [Array.getD_eq_getD_getElem?] at h4 h5
  simp [results, Try.results6, go_sem, h4, h5, c0, c1, c2]

set_option maxRecDepth 100000 in
set_option maxHeartbeats 4000000 in
theorem take_next (m v n s : Int) (h1 : 0 ≤ m ∧ m ≤ 1073741824) (h2 : 0 ≤ v ∧ v ≤ 1073741824) (h3 : 0 ≤ s ∧ s ≤ 1073741824) (h4 : 0 < n) (h5 : n ≤ 9223372036854775807) (w : World) :
    Calls Try.prog 6 #[.agg #[.int .i64 m, .int .i64 v, .int .i64 n], .int .i64 s] w (TakePost w (min (m + (s - m / 8)) 1073741824) (min (v + max (s - m / 8) (-(s - m / 8)) - v / 4) 1073741824) (min n 1073741823 + 1) 0) := by
  have g1 := good_t h1.1 h1.2
  have g2 := good_t h2.1 h2.2
  have g3 := good_t h3.1 h3.2
  have k0 : (n == 0) = false := by simp; omega
  by_cases c1 : s - m / 8 < 0
  · by_cases c2 : n ≤ 1073741823
    ·
      have e1 : max (s - m / 8) (-(s - m / 8)) = -(s - m / 8) := by omega
      have e2 : min n 1073741823 = n := by omega
      rw [e1, e2]
      clear e1 e2
      go_enter Try.func6, Try.ntmps6
      go_wp2_with fail
      refine (bad3 _ s m v _ (by refine Blk.new' ?_; simp)).mono ?_
      rintro e w1 ⟨rfl, rfl⟩
      go_wp2_with fail
      generalize hw3 : World.alloc _ _ = w3
      have C0 : Blk w3 w.heap.size #[.int .i64 m, .int .i64 v, .int .i64 n] 23 := by rw [← hw3]; exact ((Blk.new _ _ _).alloc _).alloc _
      have C1 : Blk w3 (w.heap.size + 1) #[.int .i64 0, .int .i64 0, .int .i64 0] 23 := by rw [← hw3]; refine Blk.alloc (Blk.new' ?_) _; simp
      have hb3 : Below w.heap.size w w3 := by rw [← hw3]; exact (((Below.refl _ _).alloc (Nat.le_refl _) _).alloc (by simp) _).alloc (by simp; omega) _
      have hsz : w3.heap.size = w.heap.size + 3 := by rw [← hw3]; simp
      clear hw3
      have c0 := C0.cell 0
      have c1 := C0.cell 1
      have c2 := C0.cell 2
      have d0 := C1.cell 0
      have d1 := C1.cell 1
      have d2 := C1.cell 2
      have f0 := C1.free 0
      have f1 := C1.free 1
      have f2 := C1.free 2
      simp at c0 c1 c2 d0 d1 d2
      have i1 : IntKind.i64.wrap (m + (s - m / 8)) = m + (s - m / 8) := IntWalk.i64_in _ (by omega)
      have i2 : IntKind.i64.wrap (v + (-(s - m / 8))) = v + (-(s - m / 8)) := IntWalk.i64_in _ (by omega)
      have i3 : IntKind.i64.wrap (v + (-(s - m / 8)) - v / 4) = v + (-(s - m / 8)) - v / 4 := IntWalk.i64_in _ (by omega)
      have i4 : IntKind.i64.wrap (n + 1) = n + 1 := IntWalk.i64_in _ (by omega)
      have i5 : IntKind.i64.wrap (v.tdiv 4) = v / 4 := by rw [Int.tdiv_eq_ediv_of_nonneg h2.1]; exact IntWalk.i64_in _ (by omega)
      go_region_held3 (fun w' => w'.cell? ⟨w.heap.size, 0, none⟩ = some (.int .i64 m) ∧ w'.cell? ⟨w.heap.size, 1, none⟩ = some (.int .i64 v) ∧ w'.cell? ⟨w.heap.size, 2, none⟩ = some (.int .i64 n)) (first | exact ⟨c0, c1, c2⟩ | (simp [c0, c1, c2, World.cell?_setCell_far])) (first | (go_at_call 14; refine (cap_any _ _).mono ?_; rintro e w' ⟨rfl, rfl⟩))
      all_goals go_wp2
      all_goals
        refine bodyPost_ret (res_take _ _ _ _ _ _ _ (((C1.set 0 _).set 1 _).set 2 _) rfl rfl) rfl ⟨rfl, ?_⟩
        go_grown
    ·
      have e1 : max (s - m / 8) (-(s - m / 8)) = -(s - m / 8) := by omega
      have e2 : min n 1073741823 = 1073741823 := by omega
      rw [e1, e2]
      clear e1 e2
      go_enter Try.func6, Try.ntmps6
      go_wp2_with fail
      refine (bad3 _ s m v _ (by refine Blk.new' ?_; simp)).mono ?_
      rintro e w1 ⟨rfl, rfl⟩
      go_wp2_with fail
      generalize hw3 : World.alloc _ _ = w3
      have C0 : Blk w3 w.heap.size #[.int .i64 m, .int .i64 v, .int .i64 n] 23 := by rw [← hw3]; exact ((Blk.new _ _ _).alloc _).alloc _
      have C1 : Blk w3 (w.heap.size + 1) #[.int .i64 0, .int .i64 0, .int .i64 0] 23 := by rw [← hw3]; refine Blk.alloc (Blk.new' ?_) _; simp
      have hb3 : Below w.heap.size w w3 := by rw [← hw3]; exact (((Below.refl _ _).alloc (Nat.le_refl _) _).alloc (by simp) _).alloc (by simp; omega) _
      have hsz : w3.heap.size = w.heap.size + 3 := by rw [← hw3]; simp
      clear hw3
      have c0 := C0.cell 0
      have c1 := C0.cell 1
      have c2 := C0.cell 2
      have d0 := C1.cell 0
      have d1 := C1.cell 1
      have d2 := C1.cell 2
      have f0 := C1.free 0
      have f1 := C1.free 1
      have f2 := C1.free 2
      simp at c0 c1 c2 d0 d1 d2
      have i1 : IntKind.i64.wrap (m + (s - m / 8)) = m + (s - m / 8) := IntWalk.i64_in _ (by omega)
      have i2 : IntKind.i64.wrap (v + (-(s - m / 8))) = v + (-(s - m / 8)) := IntWalk.i64_in _ (by omega)
      have i3 : IntKind.i64.wrap (v + (-(s - m / 8)) - v / 4) = v + (-(s - m / 8)) - v / 4 := IntWalk.i64_in _ (by omega)
      have i4 : IntKind.i64.wrap (1073741823 + 1) = 1073741823 + 1 := IntWalk.i64_in _ (by omega)
      have i5 : IntKind.i64.wrap (v.tdiv 4) = v / 4 := by rw [Int.tdiv_eq_ediv_of_nonneg h2.1]; exact IntWalk.i64_in _ (by omega)
      go_region_held3 (fun w' => w'.cell? ⟨w.heap.size, 0, none⟩ = some (.int .i64 m) ∧ w'.cell? ⟨w.heap.size, 1, none⟩ = some (.int .i64 v) ∧ w'.cell? ⟨w.heap.size, 2, none⟩ = some (.int .i64 n)) (first | exact ⟨c0, c1, c2⟩ | (simp [c0, c1, c2, World.cell?_setCell_far])) (first | (go_at_call 14; refine (cap_any _ _).mono ?_; rintro e w' ⟨rfl, rfl⟩))
      all_goals go_wp2
      all_goals
        refine bodyPost_ret (res_take _ _ _ _ _ _ _ (((C1.set 0 _).set 1 _).set 2 _) rfl rfl) rfl ⟨rfl, ?_⟩
        go_grown
  · by_cases c2 : n ≤ 1073741823
    ·
      have e1 : max (s - m / 8) (-(s - m / 8)) = s - m / 8 := by omega
      have e2 : min n 1073741823 = n := by omega
      rw [e1, e2]
      clear e1 e2
      go_enter Try.func6, Try.ntmps6
      go_wp2_with fail
      refine (bad3 _ s m v _ (by refine Blk.new' ?_; simp)).mono ?_
      rintro e w1 ⟨rfl, rfl⟩
      go_wp2_with fail
      generalize hw3 : World.alloc _ _ = w3
      have C0 : Blk w3 w.heap.size #[.int .i64 m, .int .i64 v, .int .i64 n] 23 := by rw [← hw3]; exact ((Blk.new _ _ _).alloc _).alloc _
      have C1 : Blk w3 (w.heap.size + 1) #[.int .i64 0, .int .i64 0, .int .i64 0] 23 := by rw [← hw3]; refine Blk.alloc (Blk.new' ?_) _; simp
      have hb3 : Below w.heap.size w w3 := by rw [← hw3]; exact (((Below.refl _ _).alloc (Nat.le_refl _) _).alloc (by simp) _).alloc (by simp; omega) _
      have hsz : w3.heap.size = w.heap.size + 3 := by rw [← hw3]; simp
      clear hw3
      have c0 := C0.cell 0
      have c1 := C0.cell 1
      have c2 := C0.cell 2
      have d0 := C1.cell 0
      have d1 := C1.cell 1
      have d2 := C1.cell 2
      have f0 := C1.free 0
      have f1 := C1.free 1
      have f2 := C1.free 2
      simp at c0 c1 c2 d0 d1 d2
      have i1 : IntKind.i64.wrap (m + (s - m / 8)) = m + (s - m / 8) := IntWalk.i64_in _ (by omega)
      have i2 : IntKind.i64.wrap (v + (s - m / 8)) = v + (s - m / 8) := IntWalk.i64_in _ (by omega)
      have i3 : IntKind.i64.wrap (v + (s - m / 8) - v / 4) = v + (s - m / 8) - v / 4 := IntWalk.i64_in _ (by omega)
      have i4 : IntKind.i64.wrap (n + 1) = n + 1 := IntWalk.i64_in _ (by omega)
      have i5 : IntKind.i64.wrap (v.tdiv 4) = v / 4 := by rw [Int.tdiv_eq_ediv_of_nonneg h2.1]; exact IntWalk.i64_in _ (by omega)
      go_region_held3 (fun w' => w'.cell? ⟨w.heap.size, 0, none⟩ = some (.int .i64 m) ∧ w'.cell? ⟨w.heap.size, 1, none⟩ = some (.int .i64 v) ∧ w'.cell? ⟨w.heap.size, 2, none⟩ = some (.int .i64 n)) (first | exact ⟨c0, c1, c2⟩ | (simp [c0, c1, c2, World.cell?_setCell_far])) (first | (go_at_call 14; refine (cap_any _ _).mono ?_; rintro e w' ⟨rfl, rfl⟩))
      all_goals go_wp2
      all_goals
        refine bodyPost_ret (res_take _ _ _ _ _ _ _ (((C1.set 0 _).set 1 _).set 2 _) rfl rfl) rfl ⟨rfl, ?_⟩
        go_grown
    ·
      have e1 : max (s - m / 8) (-(s - m / 8)) = s - m / 8 := by omega
      have e2 : min n 1073741823 = 1073741823 := by omega
      rw [e1, e2]
      clear e1 e2
      go_enter Try.func6, Try.ntmps6
      go_wp2_with fail
      refine (bad3 _ s m v _ (by refine Blk.new' ?_; simp)).mono ?_
      rintro e w1 ⟨rfl, rfl⟩
      go_wp2_with fail
      generalize hw3 : World.alloc _ _ = w3
      have C0 : Blk w3 w.heap.size #[.int .i64 m, .int .i64 v, .int .i64 n] 23 := by rw [← hw3]; exact ((Blk.new _ _ _).alloc _).alloc _
      have C1 : Blk w3 (w.heap.size + 1) #[.int .i64 0, .int .i64 0, .int .i64 0] 23 := by rw [← hw3]; refine Blk.alloc (Blk.new' ?_) _; simp
      have hb3 : Below w.heap.size w w3 := by rw [← hw3]; exact (((Below.refl _ _).alloc (Nat.le_refl _) _).alloc (by simp) _).alloc (by simp; omega) _
      have hsz : w3.heap.size = w.heap.size + 3 := by rw [← hw3]; simp
      clear hw3
      have c0 := C0.cell 0
      have c1 := C0.cell 1
      have c2 := C0.cell 2
      have d0 := C1.cell 0
      have d1 := C1.cell 1
      have d2 := C1.cell 2
      have f0 := C1.free 0
      have f1 := C1.free 1
      have f2 := C1.free 2
      simp at c0 c1 c2 d0 d1 d2
      have i1 : IntKind.i64.wrap (m + (s - m / 8)) = m + (s - m / 8) := IntWalk.i64_in _ (by omega)
      have i2 : IntKind.i64.wrap (v + (s - m / 8)) = v + (s - m / 8) := IntWalk.i64_in _ (by omega)
      have i3 : IntKind.i64.wrap (v + (s - m / 8) - v / 4) = v + (s - m / 8) - v / 4 := IntWalk.i64_in _ (by omega)
      have i4 : IntKind.i64.wrap (1073741823 + 1) = 1073741823 + 1 := IntWalk.i64_in _ (by omega)
      have i5 : IntKind.i64.wrap (v.tdiv 4) = v / 4 := by rw [Int.tdiv_eq_ediv_of_nonneg h2.1]; exact IntWalk.i64_in _ (by omega)
      go_region_held3 (fun w' => w'.cell? ⟨w.heap.size, 0, none⟩ = some (.int .i64 m) ∧ w'.cell? ⟨w.heap.size, 1, none⟩ = some (.int .i64 v) ∧ w'.cell? ⟨w.heap.size, 2, none⟩ = some (.int .i64 n)) (first | exact ⟨c0, c1, c2⟩ | (simp [c0, c1, c2, World.cell?_setCell_far])) (first | (go_at_call 14; refine (cap_any _ _).mono ?_; rintro e w' ⟨rfl, rfl⟩))
      all_goals go_wp2
      all_goals
        refine bodyPost_ret (res_take _ _ _ _ _ _ _ (((C1.set 0 _).set 1 _).set 2 _) rfl rfl) rfl ⟨rfl, ?_⟩
        go_grown

set_option maxRecDepth 100000 in
set_option maxHeartbeats 1000000 in
theorem take_first (m v n s : Int) (h1 : 0 ≤ m ∧ m ≤ 1073741824) (h2 : 0 ≤ v ∧ v ≤ 1073741824) (h3 : 0 ≤ s ∧ s ≤ 1073741824) (w : World) :
    Calls Try.prog 6 #[.agg #[.int .i64 m, .int .i64 v, .int .i64 0], .int .i64 s] w (TakePost w (min (8 * s) 1073741824) (min (2 * s) 1073741824) 1 0) := by
  have g1 := good_t h1.1 h1.2
  have g2 := good_t h2.1 h2.2
  have g3 := good_t h3.1 h3.2
  go_enter Try.func6, Try.ntmps6
  go_wp2_with fail
  refine (bad3 _ s m v _ (by refine Blk.new' ?_; simp)).mono ?_
  rintro e w1 ⟨rfl, rfl⟩
  go_wp2_with fail
  go_wp2_with (go_at_call 14; refine (cap_any _ _).mono ?_; rintro e w' ⟨rfl, rfl⟩)
  refine bodyPost_ret (res_take _ _ (w.heap.size + 1) _ _ _ _ (by refine Blk.alloc (Blk.new' ?_) _; simp) rfl rfl) rfl ⟨rfl, ?_⟩
  go_grown
set_option maxRecDepth 100000 in
set_option maxHeartbeats 1000000 in
theorem take_bad (m v n s : Int) (h : (good s && good m && good v && decide (0 ≤ n)) = false) (w : World) :
    Calls Try.prog 6 #[.agg #[.int .i64 m, .int .i64 v, .int .i64 n], .int .i64 s] w (TakePost w 0 0 0 2) := by
  by_cases hg : (good s && good m && good v) = true
  · have hn : n < 0 := by simp [hg] at h; exact h
    clear h
    go_enter Try.func6, Try.ntmps6
    go_wp2_with fail
    refine (bad3 _ s m v _ (by refine Blk.new' ?_; simp)).mono ?_
    rintro e w1 ⟨rfl, rfl⟩
    go_wp2_with fail
    refine bodyPost_ret (res_take _ _ (w.heap.size + 1) _ _ _ _ (by refine Blk.alloc (Blk.new' ?_) _; simp) rfl rfl) rfl ⟨rfl, ?_⟩
    go_grown
  · have hg : (good s && good m && good v) = false := by simpa using hg
    clear h
    go_enter Try.func6, Try.ntmps6
    go_wp2_with fail
    refine (bad3 _ s m v _ (by refine Blk.new' ?_; simp)).mono ?_
    rintro e w1 ⟨rfl, rfl⟩
    go_wp2_with fail
    refine bodyPost_ret (res_take _ _ (w.heap.size + 1) _ _ _ _ (by refine Blk.alloc (Blk.new' ?_) _; simp) rfl rfl) rfl ⟨rfl, ?_⟩
    go_grown

/-- what is known behind a sample, and the error -/
def okT (m v n s : Int) : Bool := good s && good m && good v && decide (0 ≤ n)
def tM (m v n s : Int) : Int := if okT m v n s then (if n = 0 then min (8 * s) 1073741824 else min (m + (s - m / 8)) 1073741824) else 0
def tV (m v n s : Int) : Int := if okT m v n s then (if n = 0 then min (2 * s) 1073741824 else min (v + max (s - m / 8) (-(s - m / 8)) - v / 4) 1073741824) else 0
def tN (m v n s : Int) : Int := if okT m v n s then (if n = 0 then 1 else min n 1073741823 + 1) else 0
def tE (m v n s : Int) : Int := if okT m v n s then 0 else 2
theorem okT_iff {m v n s : Int} : okT m v n s = true ↔ (0 ≤ m ∧ m ≤ 1073741824) ∧ (0 ≤ v ∧ v ≤ 1073741824) ∧ (0 ≤ s ∧ s ≤ 1073741824) ∧ 0 ≤ n := by
  simp [okT, good_iff]; omega
theorem take_any (m v n s : Int) (hn : n ≤ 9223372036854775807) (w : World) :
    Calls Try.prog 6 #[.agg #[.int .i64 m, .int .i64 v, .int .i64 n], .int .i64 s] w (TakePost w (tM m v n s) (tV m v n s) (tN m v n s) (tE m v n s)) := by
  cases hk : okT m v n s with
  | false =>
    simp only [tM, tV, tN, tE, hk]
    exact take_bad m v n s hk w
  | true =>
    obtain ⟨h1, h2, h3, h4⟩ := okT_iff.1 hk
    by_cases h0 : n = 0
    · subst h0
      simp only [tM, tV, tN, tE, hk]
      exact take_first m v 0 s h1 h2 h3 w
    · simp only [tM, tV, tN, tE, hk, h0]
      exact take_next m v n s h1 h2 h3 (by omega) hn w
end Go.Proofs.Ytebhdefeggiihaa
