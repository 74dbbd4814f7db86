/- Package fifo at large: Do's write and read; Do as one law. -/
import Derived.Test.YtpojophpbggkcaaGf4
import Derived.Test.YtpojophpbggkcaaLin4
namespace Go.Proofs.Ytpojophpbggkcaa
open Go.ChangeShapes Go.WideShapes Go.ChangeAt Go.RowKit
set_option linter.unusedVariables false

set_option maxRecDepth 100000 in
set_option maxHeartbeats 4000000 in
theorem gdo_write (B N b bq bb c : Nat) (el : Nat → Nat → Option Nat) (m : Mq) (a s0 : Nat) (ha : a < 2) (hs0 : s0 < 256) (hc : c < 100000) (n an : Int) (body ab : ByteArray) (hbs : body.size ≤ 1000000) (hss : (m.q a s0).1.size ≤ 1000000) (w : World) (h : FG w B N b bq bb c el m) (hN : N ≤ w.heap.size) :
    Calls Try.prog 24 #[.pointer (some ⟨b, 0, none⟩), .int .i64 (a : Int), .agg #[.int .i64 2, .int .i64 (s0 : Int), .int .i64 n, .string body], .agg #[.int .i64 an, .string ab, .int .i64 0]] w (GDo w B N b bq bb c (m.put a s0 (wrS (m.q a s0) body an)) (wrK (m.q a s0) body an)) := by
  have HBAD := Lib.hid (fun w => gbad_no a s0 ha hs0 w)
  have HAT := Lib.hid (fun w h hN => gat_is B N b bq bb c el a s0 ha hs0 hc m w h hN)
  have HWR := Lib.hid (fun q w h => gwrite q (m.q a s0) 2 s0 n an body ab 0 hbs hss w h)
  have HNE : Hid (bq ≠ w.heap.size ∧ bq ≠ w.heap.size + 1) := Lib.hid (by have := h.lt; omega)
  go_enter Try.func24, Try.ntmps24
  go_wp2_with (go_at_call 31; refine (HBAD.out _).mono ?_; rintro e w' ⟨rfl, rfl⟩)
  generalize hw0 : (w.alloc _).alloc _ = w0
  have hk0 : Kept [] w w0 := by rw [← hw0]; exact ((Kept.refl _ _).alloc _).alloc _
  have hA0 : Blk w0 w.heap.size #[.int .i64 (2), .int .i64 (s0 : Int), .int .i64 n, .string body] 36 := by rw [← hw0]; exact Blk.alloc (Blk.new _ _ _) _
  have hA1 : Blk w0 (w.heap.size + 1) #[.int .i64 an, .string ab, .int .i64 (0)] 38 := by rw [← hw0]; exact Blk.new' (by simp)
  have hF0 := h.kept hk0
  have p0 := hA0.cell 0
  have p1 := hA0.cell 1
  have p2 := hA0.cell 2
  have p3 := hA0.cell 3
  have r0 := hA1.cell 0
  have r1 := hA1.cell 1
  have r2 := hA1.cell 2
  simp at p0 p1 p2 p3 r0 r1 r2
  have HA0 := Lib.hid hA0
  have HA1 := Lib.hid hA1
  have HF0 := Lib.hid hF0
  have HK0 := Lib.hid hk0
  have hN0 : N ≤ w0.heap.size := Nat.le_trans hN hk0.size
  clear hw0 hk0 hA0 hA1 hF0 h
  generalize wrK (m.q a s0) body an = kk at *
  generalize wrS (m.q a s0) body an = vv at *
  go_region_held3 (fun w' => w'.cell? ⟨w.heap.size, 0, none⟩ = some (.int .i64 2) ∧ w'.cell? ⟨w.heap.size, 1, none⟩ = some (.int .i64 (s0 : Int)) ∧ w'.cell? ⟨w.heap.size, 2, none⟩ = some (.int .i64 n) ∧ w'.cell? ⟨w.heap.size, 3, none⟩ = some (.string body) ∧ w'.cell? ⟨w.heap.size + 1, 0, none⟩ = some (.int .i64 an) ∧ w'.cell? ⟨w.heap.size + 1, 1, none⟩ = some (.string ab) ∧ w'.cell? ⟨w.heap.size + 1, 2, none⟩ = some (.int .i64 0))    (repeat' (first | (with_reducible assumption) | refine ⟨?_, ?_⟩ | refine kset ?_ (by with_reducible assumption) | refine kalloc ?_ _ | refine kdrew ?_))    (first | (go_at_call 33; refine (HAT.out _ (HF0.out.kept (Kept.refl [] w0).drew) (by exact hN0)).mono ?_; rintro e w2 ⟨q', el', rfl, hF2, hel, hk2⟩; have hk02 : Kept [bq] w0 w2 := Kept.trans (w := _) ((Kept.refl [bq] w0).drew) hk2 (fun x hx => .inl hx); have hbq := hF2.blk; have hnq := HNE.out; have A2 := HA0.out.kept hk02 (by simp; omega); have A3 := HA1.out.kept hk02 (by simp; omega); have g0 := A2.cell 0; have g1 := A2.cell 1; have g2 := A2.cell 2; have g3 := A2.cell 3; have g4 := A3.cell 0; have g5 := A3.cell 1; have g6 := A3.cell 2; simp at g0 g1 g2 g3 g4 g5 g6; have hQ2 := hF2.qs a s0 q' ha hs0 hel) | (go_at_call 34; refine (HWR.out _ _ hQ2).mono ?_; rintro e w3 ⟨rfl, hQ3, hK3⟩; have A4 := A2.kept hK3 (by have := gblk_ne A2 hQ2 (by decide); simp; omega); have A5 := A3.kept hK3 (by have := gblk_ne A3 hQ2 (by decide); simp; omega); have j0 := A4.cell 0; have j1 := A4.cell 1; have j2 := A4.cell 2; have j3 := A4.cell 3; have j4 := A5.cell 0; have j5 := A5.cell 1; have j6 := A5.cell 2; simp at j0 j1 j2 j3 j4 j5 j6))
  have HR := Lib.hid (GDo.mk (r := kk) ha hs0 (HK0.out.drewN 1) (by exact hk2) hF2 hel hQ3 hK3)
  clear hk02 hk2 hF2 A2 A3 A4 A5 hQ2 hQ3 hK3 hbq hel
  go_wp2
  go_ret
  exact HR.out
set_option maxRecDepth 100000 in
set_option maxHeartbeats 4000000 in
theorem gdo_read (B N b bq bb c : Nat) (el : Nat → Nat → Option Nat) (m : Mq) (a a' s0 : Nat) (ha : a < 2) (haa : a + a' = 1) (hs0 : s0 < 256) (hc : c < 100000) (n an : Int) (body ab : ByteArray) (hbs : ab.size ≤ 1000000) (w : World) (h : FG w B N b bq bb c el m) (hN : N ≤ w.heap.size) :
    Calls Try.prog 24 #[.pointer (some ⟨b, 0, none⟩), .int .i64 (a : Int), .agg #[.int .i64 3, .int .i64 (s0 : Int), .int .i64 n, .string body], .agg #[.int .i64 an, .string ab, .int .i64 0]] w (GDo w B N b bq bb c (m.put a' s0 (rdS (m.q a' s0).1 ab n, (m.q a' s0).2)) (rdK (m.q a' s0).1 ab n)) := by
  obtain ⟨kk, hkk⟩ : ∃ kk, kk = rdK (m.q a' s0).1 ab n := ⟨_, rfl⟩
  obtain ⟨vv, hvv⟩ : ∃ vv : ByteArray × Bool, vv = (rdS (m.q a' s0).1 ab n, (m.q a' s0).2) := ⟨_, rfl⟩
  have HW0 : ∀ q w, Blk w q #[.string (m.q a' s0).1, .bool (m.q a' s0).2] 73 → Calls Try.prog 35 #[.pointer (some ⟨q, 0, none⟩), .agg #[.int .i64 3, .int .i64 (s0 : Int), .int .i64 n, .string body], .agg #[.int .i64 an, .string ab, .int .i64 0], .bool (m.br s0)] w (QPost w q vv.1 vv.2 kk) := fun q w h => by
    rw [hkk, hvv]; exact qread_any q (m.q a' s0).1 (m.q a' s0).2 (m.br s0) 3 s0 n body ab an hbs w h
  rw [← hkk, ← hvv]
  clear hkk hvv
  have HBAD := Lib.hid (fun w => gbad_no a s0 ha hs0 w)
  have HAT := Lib.hid (fun w h hN => gat_is B N b bq bb c el a' s0 (show a' < 2 by omega) hs0 hc m w h hN)
  have HWR := Lib.hid (fun q w h => HW0 q w h)
  have HNE : Hid (bq ≠ w.heap.size ∧ bq ≠ w.heap.size + 1) := Lib.hid (by have := h.lt; omega)
  have HBM := Lib.hid (show ∀ w', Kept [] w w' → (Instr.lookup 66 (.map (some bb)) (.int .i64 (s0 : Int)) false).run Try.prog w' = .ok (.bool (m.br s0)) w' from fun w' hk => (h.kept hk).bm.look s0 hs0)
  have HBC := Lib.hid (show ∀ w', Kept [] w w' → w'.cell? ⟨b, 1, none⟩ = some (.map (some bb)) from fun w' hk => (h.kept hk).blk.cell 1)
  have hw1 : IntKind.i64.wrap (1 - (a : Int)) = (a' : Int) := by rw [show (1 - (a : Int)) = (a' : Int) by omega]; exact IntWalk.i64_in _ (by omega)
  have hw2 : (1 - (a : Int)) = (a' : Int) := by omega
  have hw3 : IntKind.i64.wrap (a' : Int) = (a' : Int) := IntWalk.i64_in _ (by omega)
  go_enter Try.func24, Try.ntmps24
  go_wp2_with (go_at_call 31; refine (HBAD.out _).mono ?_; rintro e w' ⟨rfl, rfl⟩)
  generalize hw0 : (w.alloc _).alloc _ = w0
  have hk0 : Kept [] w w0 := by rw [← hw0]; exact ((Kept.refl _ _).alloc _).alloc _
  have hA0 : Blk w0 w.heap.size #[.int .i64 (3), .int .i64 (s0 : Int), .int .i64 n, .string body] 36 := by rw [← hw0]; exact Blk.alloc (Blk.new _ _ _) _
  have hA1 : Blk w0 (w.heap.size + 1) #[.int .i64 an, .string ab, .int .i64 (0)] 38 := by rw [← hw0]; exact Blk.new' (by simp)
  have hF0 := h.kept hk0
  have p0 := hA0.cell 0
  have p1 := hA0.cell 1
  have p2 := hA0.cell 2
  have p3 := hA0.cell 3
  have r0 := hA1.cell 0
  have r1 := hA1.cell 1
  have r2 := hA1.cell 2
  simp at p0 p1 p2 p3 r0 r1 r2
  have HA0 := Lib.hid hA0
  have HA1 := Lib.hid hA1
  have HF0 := Lib.hid hF0
  have HK0 := Lib.hid hk0
  have hN0 : N ≤ w0.heap.size := Nat.le_trans hN hk0.size
  clear hw0 hk0 hA0 hA1 hF0 h
  have hl1 := HBM.out w0.drew (HK0.out.drew)
  have bc1 := HBC.out w0 HK0.out
  clear HW0
  go_region_held3 (fun w' => w'.cell? ⟨w.heap.size, 0, none⟩ = some (.int .i64 3) ∧ w'.cell? ⟨w.heap.size, 1, none⟩ = some (.int .i64 (s0 : Int)) ∧ w'.cell? ⟨w.heap.size, 2, none⟩ = some (.int .i64 n) ∧ w'.cell? ⟨w.heap.size, 3, none⟩ = some (.string body) ∧ w'.cell? ⟨w.heap.size + 1, 0, none⟩ = some (.int .i64 an) ∧ w'.cell? ⟨w.heap.size + 1, 1, none⟩ = some (.string ab) ∧ w'.cell? ⟨w.heap.size + 1, 2, none⟩ = some (.int .i64 (0)) ∧ w'.cell? ⟨b, 1, none⟩ = some (.map (some bb)))  (repeat' (first | (with_reducible assumption) | refine ⟨?_, ?_⟩ | refine kset ?_ (by with_reducible assumption) | refine kalloc ?_ _ | refine kdrew ?_))  (first | (go_at_call 33; refine (HAT.out _ (HF0.out.kept (Kept.refl [] w0).drew) (by exact hN0)).mono ?_; rintro e w2 ⟨q', el', rfl, hF2, hel, hk2⟩; have hk02 : Kept [bq] w0 w2 := Kept.trans (w := _) ((Kept.refl [bq] w0).drew) hk2 (fun x hx => .inl hx); have hbq := hF2.blk; have hnq := HNE.out; have A2 := HA0.out.kept hk02 (by simp; omega); have A3 := HA1.out.kept hk02 (by simp; omega); have g0 := A2.cell 0; have g1 := A2.cell 1; have g2 := A2.cell 2; have g3 := A2.cell 3; have g4 := A3.cell 0; have g5 := A3.cell 1; have g6 := A3.cell 2; simp at g0 g1 g2 g3 g4 g5 g6; have hQ2 := hF2.qs a' s0 q' (show a' < 2 by omega) hs0 hel; have hl2 := hF2.bm.look s0 hs0; have bc2 := hF2.blk.cell 1; simp at bc2) | (go_at_call 35; refine (HWR.out _ _ hQ2).mono ?_; rintro e w3 ⟨rfl, hQ3, hK3⟩; have A4 := A2.kept hK3 (by have := gblk_ne A2 hQ2 (by decide); simp; omega); have A5 := A3.kept hK3 (by have := gblk_ne A3 hQ2 (by decide); simp; omega); have j0 := A4.cell 0; have j1 := A4.cell 1; have j2 := A4.cell 2; have j3 := A4.cell 3; have j4 := A5.cell 0; have j5 := A5.cell 1; have j6 := A5.cell 2; simp at j0 j1 j2 j3 j4 j5 j6; have bc3 := Kept.cell hK3 bc2 (by have := (hF2.nq a' s0 q' (show a' < 2 by omega) hs0 hel).2.1; simp; exact fun e => this e.symm)))
  all_goals
    have HR := Lib.hid (GDo.mk (r := kk) (show a' < 2 by omega) hs0 (HK0.out.drewN 1) (by exact hk2) hF2 hel (v := vv) hQ3 hK3)
    clear hk02 hk2 hF2 A2 A3 A4 A5 hQ2 hQ3 hK3 hbq hel
    go_wp2
    go_ret
    exact HR.out
set_option maxRecDepth 100000 in
set_option maxHeartbeats 4000000 in
theorem gdo_eof (B N b bq bb c : Nat) (el : Nat → Nat → Option Nat) (m : Mq) (a a' s0 : Nat) (ha : a < 2) (haa : a + a' = 1) (hs0 : s0 < 256) (hc : c < 100000) (n an : Int) (body ab : ByteArray) (w : World) (h : FG w B N b bq bb c el m) (hN : N ≤ w.heap.size) :
    Calls Try.prog 24 #[.pointer (some ⟨b, 0, none⟩), .int .i64 (a : Int), .agg #[.int .i64 3, .int .i64 (s0 : Int), .int .i64 n, .string body], .agg #[.int .i64 an, .string ab, .int .i64 13]] w (GDo w B N b bq bb c m (enK (m.q a' s0) (m.br s0))) := by
  obtain ⟨kk, hkk⟩ : ∃ kk, kk = enK (m.q a' s0) (m.br s0) := ⟨_, rfl⟩
  obtain ⟨vv, hvv⟩ : ∃ vv : ByteArray × Bool, vv = m.q a' s0 := ⟨_, rfl⟩
  have HW0 : ∀ q w, Blk w q #[.string (m.q a' s0).1, .bool (m.q a' s0).2] 73 → Calls Try.prog 35 #[.pointer (some ⟨q, 0, none⟩), .agg #[.int .i64 3, .int .i64 (s0 : Int), .int .i64 n, .string body], .agg #[.int .i64 an, .string ab, .int .i64 13], .bool (m.br s0)] w (QPost w q vv.1 vv.2 kk) := fun q w h => by
    rw [hkk, hvv]; exact geof q (m.q a' s0) (m.br s0) 3 s0 n body ab an w h
  rw [← hkk, show GDo w B N b bq bb c m kk = GDo w B N b bq bb c (m.put a' s0 vv) kk by rw [hvv, Mq.put_same]]
  clear hkk hvv
  have HBAD := Lib.hid (fun w => gbad_no a s0 ha hs0 w)
  have HAT := Lib.hid (fun w h hN => gat_is B N b bq bb c el a' s0 (show a' < 2 by omega) hs0 hc m w h hN)
  have HWR := Lib.hid (fun q w h => HW0 q w h)
  have HNE : Hid (bq ≠ w.heap.size ∧ bq ≠ w.heap.size + 1) := Lib.hid (by have := h.lt; omega)
  have HBM := Lib.hid (show ∀ w', Kept [] w w' → (Instr.lookup 66 (.map (some bb)) (.int .i64 (s0 : Int)) false).run Try.prog w' = .ok (.bool (m.br s0)) w' from fun w' hk => (h.kept hk).bm.look s0 hs0)
  have HBC := Lib.hid (show ∀ w', Kept [] w w' → w'.cell? ⟨b, 1, none⟩ = some (.map (some bb)) from fun w' hk => (h.kept hk).blk.cell 1)
  have hw1 : IntKind.i64.wrap (1 - (a : Int)) = (a' : Int) := by rw [show (1 - (a : Int)) = (a' : Int) by omega]; exact IntWalk.i64_in _ (by omega)
  have hw2 : (1 - (a : Int)) = (a' : Int) := by omega
  have hw3 : IntKind.i64.wrap (a' : Int) = (a' : Int) := IntWalk.i64_in _ (by omega)
  go_enter Try.func24, Try.ntmps24
  go_wp2_with (go_at_call 31; refine (HBAD.out _).mono ?_; rintro e w' ⟨rfl, rfl⟩)
  generalize hw0 : (w.alloc _).alloc _ = w0
  have hk0 : Kept [] w w0 := by rw [← hw0]; exact ((Kept.refl _ _).alloc _).alloc _
  have hA0 : Blk w0 w.heap.size #[.int .i64 (3), .int .i64 (s0 : Int), .int .i64 n, .string body] 36 := by rw [← hw0]; exact Blk.alloc (Blk.new _ _ _) _
  have hA1 : Blk w0 (w.heap.size + 1) #[.int .i64 an, .string ab, .int .i64 (13)] 38 := by rw [← hw0]; exact Blk.new' (by simp)
  have hF0 := h.kept hk0
  have p0 := hA0.cell 0
  have p1 := hA0.cell 1
  have p2 := hA0.cell 2
  have p3 := hA0.cell 3
  have r0 := hA1.cell 0
  have r1 := hA1.cell 1
  have r2 := hA1.cell 2
  simp at p0 p1 p2 p3 r0 r1 r2
  have HA0 := Lib.hid hA0
  have HA1 := Lib.hid hA1
  have HF0 := Lib.hid hF0
  have HK0 := Lib.hid hk0
  have hN0 : N ≤ w0.heap.size := Nat.le_trans hN hk0.size
  clear hw0 hk0 hA0 hA1 hF0 h
  have hl1 := HBM.out w0.drew (HK0.out.drew)
  have bc1 := HBC.out w0 HK0.out
  clear HW0
  go_region_held3 (fun w' => w'.cell? ⟨w.heap.size, 0, none⟩ = some (.int .i64 3) ∧ w'.cell? ⟨w.heap.size, 1, none⟩ = some (.int .i64 (s0 : Int)) ∧ w'.cell? ⟨w.heap.size, 2, none⟩ = some (.int .i64 n) ∧ w'.cell? ⟨w.heap.size, 3, none⟩ = some (.string body) ∧ w'.cell? ⟨w.heap.size + 1, 0, none⟩ = some (.int .i64 an) ∧ w'.cell? ⟨w.heap.size + 1, 1, none⟩ = some (.string ab) ∧ w'.cell? ⟨w.heap.size + 1, 2, none⟩ = some (.int .i64 (13)) ∧ w'.cell? ⟨b, 1, none⟩ = some (.map (some bb)))  (repeat' (first | (with_reducible assumption) | refine ⟨?_, ?_⟩ | refine kset ?_ (by with_reducible assumption) | refine kalloc ?_ _ | refine kdrew ?_))  (first | (go_at_call 33; refine (HAT.out _ (HF0.out.kept (Kept.refl [] w0).drew) (by exact hN0)).mono ?_; rintro e w2 ⟨q', el', rfl, hF2, hel, hk2⟩; have hk02 : Kept [bq] w0 w2 := Kept.trans (w := _) ((Kept.refl [bq] w0).drew) hk2 (fun x hx => .inl hx); have hbq := hF2.blk; have hnq := HNE.out; have A2 := HA0.out.kept hk02 (by simp; omega); have A3 := HA1.out.kept hk02 (by simp; omega); have g0 := A2.cell 0; have g1 := A2.cell 1; have g2 := A2.cell 2; have g3 := A2.cell 3; have g4 := A3.cell 0; have g5 := A3.cell 1; have g6 := A3.cell 2; simp at g0 g1 g2 g3 g4 g5 g6; have hQ2 := hF2.qs a' s0 q' (show a' < 2 by omega) hs0 hel; have hl2 := hF2.bm.look s0 hs0; have bc2 := hF2.blk.cell 1; simp at bc2) | (go_at_call 35; refine (HWR.out _ _ hQ2).mono ?_; rintro e w3 ⟨rfl, hQ3, hK3⟩; have A4 := A2.kept hK3 (by have := gblk_ne A2 hQ2 (by decide); simp; omega); have A5 := A3.kept hK3 (by have := gblk_ne A3 hQ2 (by decide); simp; omega); have j0 := A4.cell 0; have j1 := A4.cell 1; have j2 := A4.cell 2; have j3 := A4.cell 3; have j4 := A5.cell 0; have j5 := A5.cell 1; have j6 := A5.cell 2; simp at j0 j1 j2 j3 j4 j5 j6; have bc3 := Kept.cell hK3 bc2 (by have := (hF2.nq a' s0 q' (show a' < 2 by omega) hs0 hel).2.1; simp; exact fun e => this e.symm)))
  all_goals
    have HR := Lib.hid (GDo.mk (r := kk) (show a' < 2 by omega) hs0 (HK0.out.drewN 1) (by exact hk2) hF2 hel (v := vv) hQ3 hK3)
    clear hk02 hk2 hF2 A2 A3 A4 A5 hQ2 hQ3 hK3 hbq hel
    go_wp2
    go_ret
    exact HR.out
/-- an answered call -/
def doM (m : Mq) (e : Ev) : Int × Mq :=
  if e.side < 0 ∨ 1 < e.side ∨ e.stream < 0 ∨ 255 < e.stream then (1, m)
  else if e.kind = 4 then (0, if closesB e.err = true then m.put e.side.toNat e.stream.toNat ((m.q e.side.toNat e.stream.toNat).1, true) else m)
  else if e.err ≠ 0 ∧ (e.kind ≠ 3 ∨ e.err ≠ 13) then (0, m)
  else if e.kind = 2 then (wrK (m.q e.side.toNat e.stream.toNat) e.body e.an, m.put e.side.toNat e.stream.toNat (wrS (m.q e.side.toNat e.stream.toNat) e.body e.an))
  else if e.kind = 3 then
    if e.err = 13 then (enK (m.q (1 - e.side.toNat) e.stream.toNat) (m.br e.stream.toNat), m)
    else (rdK (m.q (1 - e.side.toNat) e.stream.toNat).1 e.ab e.n, m.put (1 - e.side.toNat) e.stream.toNat (rdS (m.q (1 - e.side.toNat) e.stream.toNat).1 e.ab e.n, (m.q (1 - e.side.toNat) e.stream.toNat).2))
  else if e.kind = 5 then (0, ⟨m.q, updB m.br e.stream.toNat⟩)
  else (0, m)
theorem gdo_is (B N b bq bb c : Nat) (el : Nat → Nat → Option Nat) (m : Mq) (e : Ev) (hc : c < 100000) (hb1 : e.body.size ≤ 1000000) (hb2 : e.ab.size ≤ 1000000) (hm : ∀ a s, (m.q a s).1.size ≤ 1000000) (w : World) (h : FG w B N b bq bb c el m) (hN : N ≤ w.heap.size) :
    Calls Try.prog 24 #[.pointer (some ⟨b, 0, none⟩), .int .i64 e.side, .agg #[.int .i64 e.kind, .int .i64 e.stream, .int .i64 e.n, .string e.body], .agg #[.int .i64 e.an, .string e.ab, .int .i64 e.err]] w (GDo w B N b bq bb c (doM m e).2 (doM m e).1) := by
  obtain ⟨i0, side, kind, stream, n, body, an, ab, err, beg, fin⟩ := e
  dsimp only at hb1 hb2 ⊢
  by_cases hbad : side < 0 ∨ 1 < side ∨ stream < 0 ∨ 255 < stream
  · have e : doM m ⟨i0, side, kind, stream, n, body, an, ab, err, beg, fin⟩ = (1, m) := by unfold doM; rw [if_pos hbad]
    rw [e]
    exact gdo_bad B N b bq bb c el m side kind stream n an err body ab hbad w h
  · obtain ⟨a, rfl⟩ : ∃ a : Nat, side = (a : Int) := ⟨side.toNat, by omega⟩
    obtain ⟨s0, rfl⟩ : ∃ s : Nat, stream = (s : Int) := ⟨stream.toNat, by omega⟩
    have ha : a < 2 := by omega
    have hs : s0 < 256 := by omega
    by_cases h4 : kind = 4
    · subst h4
      have e : doM m ⟨i0, (a : Int), 4, (s0 : Int), n, body, an, ab, err, beg, fin⟩ = (0, if closesB err = true then m.put a s0 ((m.q a s0).1, true) else m) := by
        unfold doM; rw [if_neg hbad, if_pos rfl]; simp
      rw [e]
      exact gdo_close B N b bq bb c el m a s0 ha hs hc n an err body ab w h hN
    · by_cases hi : err ≠ 0 ∧ (kind ≠ 3 ∨ err ≠ 13)
      · have e : doM m ⟨i0, (a : Int), kind, (s0 : Int), n, body, an, ab, err, beg, fin⟩ = (0, m) := by
          unfold doM; rw [if_neg hbad, if_neg h4, if_pos hi]
        rw [e]
        exact gdo_ign B N b bq bb c el m a s0 ha hs kind n an err body ab h4 hi.1 hi.2 w h
      · by_cases h2 : kind = 2
        · subst h2
          have he0 : err = 0 := by omega
          subst he0
          have e : doM m ⟨i0, (a : Int), 2, (s0 : Int), n, body, an, ab, 0, beg, fin⟩ = (wrK (m.q a s0) body an, m.put a s0 (wrS (m.q a s0) body an)) := by
            unfold doM; rw [if_neg hbad, if_neg h4, if_neg hi, if_pos rfl]; simp
          rw [e]
          exact gdo_write B N b bq bb c el m a s0 ha hs hc n an body ab hb1 (hm a s0) w h hN
        · by_cases h3 : kind = 3
          · subst h3
            by_cases h13 : err = 13
            · subst h13
              have e : doM m ⟨i0, (a : Int), 3, (s0 : Int), n, body, an, ab, 13, beg, fin⟩ = (enK (m.q (1 - a) s0) (m.br s0), m) := by
                unfold doM; rw [if_neg hbad, if_neg h4, if_neg hi, if_neg h2, if_pos rfl, if_pos rfl]; simp
              rw [e]
              exact gdo_eof B N b bq bb c el m a (1 - a) s0 ha (by omega) hs hc n an body ab w h hN
            · have he0 : err = 0 := by omega
              subst he0
              have e : doM m ⟨i0, (a : Int), 3, (s0 : Int), n, body, an, ab, 0, beg, fin⟩ = (rdK (m.q (1 - a) s0).1 ab n, m.put (1 - a) s0 (rdS (m.q (1 - a) s0).1 ab n, (m.q (1 - a) s0).2)) := by
                unfold doM; rw [if_neg hbad, if_neg h4, if_neg hi, if_neg h2, if_pos rfl, if_neg h13]; simp
              rw [e]
              exact gdo_read B N b bq bb c el m a (1 - a) s0 ha (by omega) hs hc n an body ab hb2 w h hN
          · have he0 : err = 0 := by omega
            subst he0
            by_cases h5 : kind = 5
            · subst h5
              have e : doM m ⟨i0, (a : Int), 5, (s0 : Int), n, body, an, ab, 0, beg, fin⟩ = (0, ⟨m.q, updB m.br s0⟩) := by
                unfold doM; rw [if_neg hbad, if_neg h4, if_neg hi, if_neg h2, if_neg h3, if_pos rfl]; simp
              rw [e]
              exact gdo_abort B N b bq bb c el m a s0 ha hs hc n an body ab w h
            · have e : doM m ⟨i0, (a : Int), kind, (s0 : Int), n, body, an, ab, 0, beg, fin⟩ = (0, m) := by
                unfold doM; rw [if_neg hbad, if_neg h4, if_neg hi, if_neg h2, if_neg h3, if_neg h5]
              rw [e]
              exact gdo_else B N b bq bb c el m a s0 ha hs kind n an body ab h2 h3 h4 h5 w h
end Go.Proofs.Ytpojophpbggkcaa
