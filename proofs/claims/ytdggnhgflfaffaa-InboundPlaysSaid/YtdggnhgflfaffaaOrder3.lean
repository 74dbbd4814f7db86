/- Contracts of package order: Put, Next. -/
import Derived.Test.YtdggnhgflfaffaaOrder2
set_option maxRecDepth 20000
namespace Go.Proofs.Ytdggnhgflfaffaa
open Go.ChangeShapes Go.WideShapes Go.ChangeAt Go.RowKit
set_option linter.unusedVariables false

theorem oempty_str (s : ByteArray) (h : s.size = 0) : s = ⟨#[]⟩ := by
  obtain ⟨a⟩ := s
  congr 1
  exact Array.eq_empty_of_size_eq_zero h
theorem ofull_list (s : ByteArray) (h : s.size ≠ 0) : s.toList.isEmpty = false := by
  rw [ByteArray.toList_eq]
  have : s.data.toList ≠ [] := by
    intro e; apply h
    have : s.data.toList.length = 0 := by rw [e]; rfl
    simpa using this
  simpa using this
theorem oput_nil (x : Int) (body : ByteArray) (w : World) : Calls Try.prog 47 #[.pointer none, .int .u32 x, .string body] w fun e w' => e = .returned (.int .i64 4) ∧ w = w' := by
  go_enter Try.func47, Try.ntmps47
  go_wp2
  go_ret
  exact ⟨rfl, rfl⟩
/-- the answer of Put -/
def putR (base win x : Nat) (h : Nat → Bool) (body : ByteArray) : Int := if lessB x base then 0 else if !keyIn base win x then 1 else if h (x % 64) then 2 else if body.size = 0 then 4 else 3
theorem oput_less (b g1 g2 base win n : Nat) (f : Nat → ByteArray) (h : Nat → Bool) (x : Nat) (body : ByteArray) (hx : x < 4294967296) (k1 : lessB x base = true) (w : World) (o : OrdAt w b g1 g2 base win n f h) :
    Calls Try.prog 47 #[.pointer (some ⟨b, 0, none⟩), .int .u32 (x : Int), .string body] w (SameD w (.int .i64 0)) := by
  obtain ⟨c0, c1, c2, c3, c4⟩ := o.cells
  have hi64 : x % 64 < 64 := Nat.mod_lt _ (by omega)
  have b0 := o.has.cell hi64
  have hA := Lib.hid (fun w o => sat_any b g1 g2 base win n f h x (x % 64) hx rfl w o)
  have hbb := o.bb
  have HL := Lib.hid (fun w => serialLess (x : Int) (base : Int) (by omega) (by omega) (by omega) (by omega) w)
  have HW := Lib.hid (fun w => serialWithin (x : Int) (base : Int) (win : Int) (by omega) (by omega) (by omega) (by omega) w)
  have O := Lib.hid o
  rw [k1] at HL
  clear k1 o
  go_enter Try.func47, Try.ntmps47
  go_wp2_with (go_at_call 38; refine (HL.out _).mono ?_; rintro e w' ⟨rfl, rfl⟩)
  go_ret
  exact ⟨rfl, 0, rfl⟩
theorem oput_far (b g1 g2 base win n : Nat) (f : Nat → ByteArray) (h : Nat → Bool) (x : Nat) (body : ByteArray) (hx : x < 4294967296) (k1 : lessB x base = false) (k2 : keyIn base win x = false) (w : World) (o : OrdAt w b g1 g2 base win n f h) :
    Calls Try.prog 47 #[.pointer (some ⟨b, 0, none⟩), .int .u32 (x : Int), .string body] w (SameD w (.int .i64 1)) := by
  obtain ⟨c0, c1, c2, c3, c4⟩ := o.cells
  have hi64 : x % 64 < 64 := Nat.mod_lt _ (by omega)
  have b0 := o.has.cell hi64
  have hA := Lib.hid (fun w o => sat_any b g1 g2 base win n f h x (x % 64) hx rfl w o)
  have hbb := o.bb
  have HL := Lib.hid (fun w => serialLess (x : Int) (base : Int) (by omega) (by omega) (by omega) (by omega) w)
  have HW := Lib.hid (fun w => serialWithin (x : Int) (base : Int) (win : Int) (by omega) (by omega) (by omega) (by omega) w)
  have O := Lib.hid o
  unfold keyIn at k2
  rw [k1] at HL
  rw [k2] at HW
  clear k1 k2 o
  go_enter Try.func47, Try.ntmps47
  go_wp2_with (go_at_call 38; refine (HL.out _).mono ?_; rintro e w' ⟨rfl, rfl⟩)
  go_quiet (first | (go_at_call 44; refine (HW.out _).mono fun e w1 h => ⟨h.1, _, h.2.symm⟩) | (go_at_call 62; refine (hA.out _ (O.out.drewN _)).mono fun e w1 h => ⟨h.1, _, h.2.symm⟩))
  go_wp2
  go_ret
  exact ⟨rfl, _, rfl⟩
theorem oput_twice (b g1 g2 base win n : Nat) (f : Nat → ByteArray) (h : Nat → Bool) (x : Nat) (body : ByteArray) (hx : x < 4294967296) (k1 : lessB x base = false) (k2 : keyIn base win x = true) (k3 : h (x % 64) = true) (w : World) (o : OrdAt w b g1 g2 base win n f h) :
    Calls Try.prog 47 #[.pointer (some ⟨b, 0, none⟩), .int .u32 (x : Int), .string body] w (SameD w (.int .i64 2)) := by
  obtain ⟨c0, c1, c2, c3, c4⟩ := o.cells
  have hi64 : x % 64 < 64 := Nat.mod_lt _ (by omega)
  have b0 := o.has.cell hi64
  have hA := Lib.hid (fun w o => sat_any b g1 g2 base win n f h x (x % 64) hx rfl w o)
  have hbb := o.bb
  have HL := Lib.hid (fun w => serialLess (x : Int) (base : Int) (by omega) (by omega) (by omega) (by omega) w)
  have HW := Lib.hid (fun w => serialWithin (x : Int) (base : Int) (win : Int) (by omega) (by omega) (by omega) (by omega) w)
  have O := Lib.hid o
  unfold keyIn at k2
  rw [k1] at HL
  rw [k2] at HW
  rw [k3] at b0
  clear k1 k2 k3 o
  generalize x % 64 = i at *
  have q1 : (0 : Int) ≤ (i : Int) := by omega
  have q2 : (i : Int) < 64 := by omega
  go_enter Try.func47, Try.ntmps47
  go_wp2_with (go_at_call 38; refine (HL.out _).mono ?_; rintro e w' ⟨rfl, rfl⟩)
  go_quiet (first | (go_at_call 44; refine (HW.out _).mono fun e w1 h => ⟨h.1, _, h.2.symm⟩) | (go_at_call 62; refine (hA.out _ (O.out.drewN _)).mono fun e w1 h => ⟨h.1, _, h.2.symm⟩))
  go_wp2
  go_quiet (first | (go_at_call 44; refine (HW.out _).mono fun e w1 h => ⟨h.1, _, h.2.symm⟩) | (go_at_call 62; refine (hA.out _ (O.out.drewN _)).mono fun e w1 h => ⟨h.1, _, h.2.symm⟩))
  go_wp2
  go_ret
  exact ⟨rfl, _, World.drewN_drewN ..⟩
theorem oput_blank (b g1 g2 base win n : Nat) (f : Nat → ByteArray) (h : Nat → Bool) (x : Nat) (hx : x < 4294967296) (k1 : lessB x base = false) (k2 : keyIn base win x = true) (k3 : h (x % 64) = false) (w : World) (o : OrdAt w b g1 g2 base win n f h) :
    Calls Try.prog 47 #[.pointer (some ⟨b, 0, none⟩), .int .u32 (x : Int), .string ⟨#[]⟩] w (SameD w (.int .i64 4)) := by
  obtain ⟨c0, c1, c2, c3, c4⟩ := o.cells
  have hi64 : x % 64 < 64 := Nat.mod_lt _ (by omega)
  have b0 := o.has.cell hi64
  have hA := Lib.hid (fun w o => sat_any b g1 g2 base win n f h x (x % 64) hx rfl w o)
  have hbb := o.bb
  have HL := Lib.hid (fun w => serialLess (x : Int) (base : Int) (by omega) (by omega) (by omega) (by omega) w)
  have HW := Lib.hid (fun w => serialWithin (x : Int) (base : Int) (win : Int) (by omega) (by omega) (by omega) (by omega) w)
  have O := Lib.hid o
  unfold keyIn at k2
  rw [k1] at HL
  rw [k2] at HW
  rw [k3] at b0
  clear k1 k2 k3 o
  generalize x % 64 = i at *
  have q1 : (0 : Int) ≤ (i : Int) := by omega
  have q2 : (i : Int) < 64 := by omega
  go_enter Try.func47, Try.ntmps47
  go_wp2_with (go_at_call 38; refine (HL.out _).mono ?_; rintro e w' ⟨rfl, rfl⟩)
  go_quiet (first | (go_at_call 44; refine (HW.out _).mono fun e w1 h => ⟨h.1, _, h.2.symm⟩) | (go_at_call 62; refine (hA.out _ (O.out.drewN _)).mono fun e w1 h => ⟨h.1, _, h.2.symm⟩))
  go_wp2
  go_quiet (first | (go_at_call 44; refine (HW.out _).mono fun e w1 h => ⟨h.1, _, h.2.symm⟩) | (go_at_call 62; refine (hA.out _ (O.out.drewN _)).mono fun e w1 h => ⟨h.1, _, h.2.symm⟩))
  go_wp2
  go_ret
  exact ⟨rfl, _, rfl⟩
theorem oput_fresh (b g1 g2 base win n : Nat) (f : Nat → ByteArray) (h : Nat → Bool) (x : Nat) (body : ByteArray) (hx : x < 4294967296) (hn : n < 64) (k1 : lessB x base = false) (k2 : keyIn base win x = true) (k3 : h (x % 64) = false) (k4 : body.size ≠ 0) (w : World) (o : OrdAt w b g1 g2 base win n f h) :
    Calls Try.prog 47 #[.pointer (some ⟨b, 0, none⟩), .int .u32 (x : Int), .string body] w (OPost w b g1 g2 base win (n + 1) (upd f (x % 64) body) (upd h (x % 64) true) (.int .i64 3)) := by
  have HP := Lib.hid (fun w o => sput b g1 g2 base win n f h x (x % 64) body hx rfl hn w o)
  obtain ⟨c0, c1, c2, c3, c4⟩ := o.cells
  have hi64 : x % 64 < 64 := Nat.mod_lt _ (by omega)
  have b0 := o.has.cell hi64
  have hA := Lib.hid (fun w o => sat_any b g1 g2 base win n f h x (x % 64) hx rfl w o)
  have hbb := o.bb
  have HL := Lib.hid (fun w => serialLess (x : Int) (base : Int) (by omega) (by omega) (by omega) (by omega) w)
  have HW := Lib.hid (fun w => serialWithin (x : Int) (base : Int) (win : Int) (by omega) (by omega) (by omega) (by omega) w)
  have O := Lib.hid o
  unfold keyIn at k2
  rw [k1] at HL
  rw [k2] at HW
  rw [k3] at b0
  have k5 := ofull_list body k4
  clear k1 k2 k3 o
  generalize x % 64 = i at *
  have q1 : (0 : Int) ≤ (i : Int) := by omega
  have q2 : (i : Int) < 64 := by omega
  go_enter Try.func47, Try.ntmps47
  go_wp2_with (go_at_call 38; refine (HL.out _).mono ?_; rintro e w' ⟨rfl, rfl⟩)
  go_quiet (first | (go_at_call 44; refine (HW.out _).mono fun e w1 h => ⟨h.1, _, h.2.symm⟩) | (go_at_call 62; refine (hA.out _ (O.out.drewN _)).mono fun e w1 h => ⟨h.1, _, h.2.symm⟩))
  go_wp2
  go_quiet (first | (go_at_call 44; refine (HW.out _).mono fun e w1 h => ⟨h.1, _, h.2.symm⟩) | (go_at_call 62; refine (hA.out _ (O.out.drewN _)).mono fun e w1 h => ⟨h.1, _, h.2.symm⟩))
  go_wp2_with (go_at_call 65; refine (HP.out _ (by exact O.out.drewN _)).mono ?_; rintro e w9 ⟨rfl, o9, k9⟩)
  go_ret
  exact ⟨rfl, o9, ((Kept.refl _ _).drewN _).trans k9 (fun x hx => .inl hx)⟩
def NextNo (W : World) (e : Ending) (w' : World) : Prop := e = .returned (.tuple #[.string ⟨#[]⟩, .bool false]) ∧ ∃ q, w' = W.drewN q
theorem onext_nil (room : Int) (w : World) : Calls Try.prog 50 #[.pointer none, .int .i64 room] w (NextNo w) := by
  have hH := Lib.hid (fun w => ohas_nil 0 w)
  go_enter Try.func50, Try.ntmps50
  go_wp2
  go_quiet (first | (go_at_call 36; refine (obase_nil _).mono fun e w1 h => ⟨h.1, _, h.2.symm⟩) | (go_at_call 39; refine Calls.quiet_of (hH.out _)))
  go_wp2
  go_ret2
  exact ⟨rfl, _, rfl⟩
theorem onext_none (b g1 g2 base win n : Nat) (f : Nat → ByteArray) (h : Nat → Bool) (room : Int) (k1 : hasB base win base h = false) (w : World) (o : OrdAt w b g1 g2 base win n f h) :
    Calls Try.prog 50 #[.pointer (some ⟨b, 0, none⟩), .int .i64 room] w (NextNo w) := by
  obtain ⟨c0, c1, c2, c3, c4⟩ := o.cells
  have hi64 : base % 64 < 64 := Nat.mod_lt _ (by omega)
  have a0 := o.l.cell hi64
  have hbb := o.bb
  have hA := Lib.hid (fun w o => sat_any b g1 g2 base win n f h base (base % 64) hbb rfl w o)
  have hB := Lib.hid (fun w o => obase_any b g1 g2 base win n f h w o)
  have hH := Lib.hid (fun w o => ohas_any b g1 g2 base win n f h base hbb _ k1.symm w o)
  have hT := Lib.hid (fun hn w o => stake b g1 g2 base win n f h base (base % 64) hbb rfl hn w o)
  have f0 := o.blk.free 0
  have n1 := o.ne1
  have n2 := o.ne2
  have n3 := o.ne3
  have O := Lib.hid o
  clear o k1
  clear hT
  go_enter Try.func50, Try.ntmps50
  go_wp2
  go_quiet (first | (go_at_call 36; refine (hB.out _ (O.out.drewN _)).mono fun e w1 h => ⟨h.1, _, h.2.symm⟩) | (go_at_call 62; refine (hA.out _ (O.out.drewN _)).mono fun e w1 h => ⟨h.1, _, h.2.symm⟩) | (go_at_call 39; exact Calls.quiet_of (hH.out _ (by first | exact O.out.drewN _ | exact O.out))))
  go_wp2
  go_ret2
  exact ⟨rfl, _, rfl⟩
theorem onext_big (b g1 g2 base win n : Nat) (f : Nat → ByteArray) (h : Nat → Bool) (room : Int) (k1 : hasB base win base h = true) (k2 : room < ((f (base % 64)).size : Int)) (w : World) (o : OrdAt w b g1 g2 base win n f h) :
    Calls Try.prog 50 #[.pointer (some ⟨b, 0, none⟩), .int .i64 room] w (NextNo w) := by
  obtain ⟨c0, c1, c2, c3, c4⟩ := o.cells
  have hi64 : base % 64 < 64 := Nat.mod_lt _ (by omega)
  have a0 := o.l.cell hi64
  have hbb := o.bb
  have hA := Lib.hid (fun w o => sat_any b g1 g2 base win n f h base (base % 64) hbb rfl w o)
  have hB := Lib.hid (fun w o => obase_any b g1 g2 base win n f h w o)
  have hH := Lib.hid (fun w o => ohas_any b g1 g2 base win n f h base hbb _ k1.symm w o)
  have hT := Lib.hid (fun hn w o => stake b g1 g2 base win n f h base (base % 64) hbb rfl hn w o)
  have f0 := o.blk.free 0
  have n1 := o.ne1
  have n2 := o.ne2
  have n3 := o.ne3
  have O := Lib.hid o
  clear o k1
  clear hT
  generalize f (base % 64) = body at *
  generalize base % 64 = i at *
  have q1 : (0 : Int) ≤ (i : Int) := by omega
  have q2 : (i : Int) < 64 := by omega
  have q3 : decide (room < (body.size : Int)) = true := by rw [decide_eq_true_iff]; exact k2
  go_enter Try.func50, Try.ntmps50
  go_wp2
  go_quiet (first | (go_at_call 36; refine (hB.out _ (O.out.drewN _)).mono fun e w1 h => ⟨h.1, _, h.2.symm⟩) | (go_at_call 62; refine (hA.out _ (O.out.drewN _)).mono fun e w1 h => ⟨h.1, _, h.2.symm⟩) | (go_at_call 39; exact Calls.quiet_of (hH.out _ (by first | exact O.out.drewN _ | exact O.out))))
  go_wp2
  go_ret2
  exact ⟨rfl, _, rfl⟩
def NextYes (W : World) (b g1 g2 base win n : Nat) (f : Nat → ByteArray) (h : Nat → Bool) (r : Value) (e : Ending) (w' : World) : Prop := e = .returned r ∧ OrdAt w' b g1 g2 base win n f h ∧ Kept [b, g1, g2] W w'
theorem OrdAt.rebase {w : World} {b g1 g2 base win n : Nat} {f : Nat → ByteArray} {h : Nat → Bool} (o : OrdAt w b g1 g2 base win n f h) (base' : Nat) (hb : base' < 4294967296) : OrdAt (w.setCell ⟨b, 0, none⟩ (.int .u32 (base' : Int))) b g1 g2 base' win n f h :=
  ⟨o.blk.set 0 _, o.l.kept (r := [b]) ((Kept.refl _ _).set _ (.inl (by simp)) _) (by simp; exact fun e => o.ne1 e.symm), o.has.kept (r := [b]) ((Kept.refl _ _).set _ (.inl (by simp)) _) (by simp; exact fun e => o.ne2 e.symm), o.ne1, o.ne2, o.ne3, hb, o.w1, o.w2, o.nn⟩
set_option maxRecDepth 100000 in
set_option maxHeartbeats 2000000 in
theorem onext_some (b g1 g2 base win n : Nat) (f : Nat → ByteArray) (h : Nat → Bool) (room : Int) (k1 : hasB base win base h = true) (k2 : ((f (base % 64)).size : Int) ≤ room) (hn : 0 < n) (w : World) (o : OrdAt w b g1 g2 base win n f h) :
    Calls Try.prog 50 #[.pointer (some ⟨b, 0, none⟩), .int .i64 room] w (NextYes w b g1 g2 ((base + 1) % 4294967296) win (n - 1) (upd f (base % 64) ⟨#[]⟩) (upd h (base % 64) false) (.tuple #[.string (f (base % 64)), .bool true])) := by
  obtain ⟨c0, c1, c2, c3, c4⟩ := o.cells
  have hi64 : base % 64 < 64 := Nat.mod_lt _ (by omega)
  have a0 := o.l.cell hi64
  have hbb := o.bb
  have hA := Lib.hid (fun w o => sat_any b g1 g2 base win n f h base (base % 64) hbb rfl w o)
  have hB := Lib.hid (fun w o => obase_any b g1 g2 base win n f h w o)
  have hH := Lib.hid (fun w o => ohas_any b g1 g2 base win n f h base hbb _ k1.symm w o)
  have hT := Lib.hid (fun hn w o => stake b g1 g2 base win n f h base (base % 64) hbb rfl hn w o)
  have f0 := o.blk.free 0
  have n1 := o.ne1
  have n2 := o.ne2
  have n3 := o.ne3
  have O := Lib.hid o
  clear o k1
  generalize f (base % 64) = body at *
  generalize base % 64 = i at *
  have q1 : (0 : Int) ≤ (i : Int) := by omega
  have q2 : (i : Int) < 64 := by omega
  have q3 : decide (room < (body.size : Int)) = false := by rw [decide_eq_false_iff_not]; omega
  go_enter Try.func50, Try.ntmps50
  go_wp2
  go_quiet (first | (go_at_call 36; refine (hB.out _ (O.out.drewN _)).mono fun e w1 h => ⟨h.1, _, h.2.symm⟩) | (go_at_call 62; refine (hA.out _ (O.out.drewN _)).mono fun e w1 h => ⟨h.1, _, h.2.symm⟩) | (go_at_call 39; exact Calls.quiet_of (hH.out _ (by first | exact O.out.drewN _ | exact O.out))))
  go_wp2
  go_region_with (go_at_call 67; refine (hT.out hn _ (by first | exact O.out.drewN _ | exact O.out)).mono ?_; rintro e w2 ⟨rfl, o2, k4⟩)
  obtain ⟨d0, d1, d2, d3, d4⟩ := o2.cells
  have e0 := o2.blk.free 0
  have hm : (base + 1) % 4294967296 < 4294967296 := Nat.mod_lt _ (by omega)
  have O3 := Lib.hid (o2.rebase ((base + 1) % 4294967296) hm)
  have hk : Hid (Kept [b, g1, g2] w (w2.setCell ⟨b, 0, none⟩ (.int .u32 (((base + 1) % 4294967296 : Nat) : Int)))) := Lib.hid ((((Kept.refl _ _).drewN _).trans k4 (fun x hx => .inl hx)).set _ (.inl (by simp)) _)
  have e : Hid ((((base : Int) + 1) % 4294967296) = (((base + 1) % 4294967296 : Nat) : Int)) := Lib.hid (by omega)
  clear o2 k4 c0 c1 c2 c3 c4 f0 a0
  go_wp2
  go_ret2
  rw [← e.out] at O3 hk
  exact ⟨rfl, O3.out, hk.out⟩
end Go.Proofs.Ytdggnhgflfaffaa
