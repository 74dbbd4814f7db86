/- Contracts of package fifo: Do; with what lies elsewhere kept. -/
import Derived.Test.YtpefcmmfocamdaaFifo2
import Derived.RangeFuncOwn
namespace Go.Proofs.Ytpefcmmfocamdaa
open Go.ChangeShapes Go.WideShapes Go.ChangeAt Go.RowKit
set_option linter.unusedVariables false

theorem blk_ne {w : World} {a b : Nat} {c d : Array Value} {T U : TypeId} (h : Blk w a c T) (k : Blk w b d U) (hT : T ≠ U) : a ≠ b := by
  intro e
  subst e
  unfold Blk at h k
  rw [h] at k
  injection k with k
  injection k with _ k _
  exact hT k
/-- a model of whose queues one alone is used, which lies from N on, if it is there -/
def FQ (w : World) (B N b bq bb : Nat) (kl : Lit) (s : ByteArray) (c : Bool) : Prop := ∃ q there, Fm w B b bq bb q kl there s c ∧ (there = true → N ≤ q)
theorem FQ.kept {w w' : World} {B N b bq bb : Nat} {kl : Lit} {s : ByteArray} {c : Bool} (h : FQ w B N b bq bb kl s c) (hk : Kept [] w w') : FQ w' B N b bq bb kl s c := by
  obtain ⟨q, t, h, hq⟩ := h
  exact ⟨q, t, h.kept hk, hq⟩
def FAtP (W : World) (B N b bq bb : Nat) (kl : Lit) (s : ByteArray) (c : Bool) (e : Ending) (w' : World) : Prop :=
  ∃ q', e = .returned (.pointer (some ⟨q', 0, none⟩)) ∧ (Fm w' B b bq bb q' kl true s c ∧ N ≤ q') ∧ Kept [bq] W w'
theorem fat_is (B N b bq bb : Nat) (s0 : Int) (kl : Lit) (s : ByteArray) (c : Bool) (hkey : keyOf Try.prog 68 (fkey s0) = some kl) (w : World) (h : FQ w B N b bq bb kl s c) (hB : B ≤ w.heap.size) (hN : N ≤ w.heap.size) :
    Calls Try.prog 26 #[.pointer (some ⟨b, 0, none⟩), .int .i64 0, .int .i64 s0] w (FAtP w B N b bq bb kl s c) := by
  obtain ⟨q, t, h, hq⟩ := h
  cases t with
  | true => exact (fat_there B b bq bb q s0 kl s c hkey w h).mono fun e w' hp => by obtain ⟨q', h1, h2, h4, _, h3⟩ := hp; exact ⟨q', h1, ⟨h2, by rw [h4 rfl]; exact hq rfl⟩, h3⟩
  | false => exact (fat_none B b bq bb q s0 kl s c hkey w h hB).mono fun e w' hp => by obtain ⟨q', h1, h2, _, h4, h3⟩ := hp; exact ⟨q', h1, ⟨h2, Nat.le_trans hN (h4 rfl)⟩, h3⟩
theorem Fm.qset {w w' : World} {B N b bq bb q : Nat} {kl : Lit} {s s' : ByteArray} {c c' : Bool} (h : Fm w B b bq bb q kl true s c) (hN : N ≤ q) (hb : Blk w' q #[.string s', .bool c'] 60) (hk : Kept [q] w w') : FQ w' B N b bq bb kl s' c' := by
  have hn := h.nq rfl
  exact ⟨q, true, ⟨h.blk.kept hk (by simp; exact fun e => hn.1 e.symm), ⟨fun _ => (h.qm.1 rfl).kept hk (by simp; exact fun e => hn.2.1 e.symm), fun e => (nomatch e)⟩, h.bm.kept hk (by simp; exact fun e => hn.2.2.1 e.symm), fun _ => hb, fun e => (nomatch e), h.ne, h.nq, h.B0⟩, fun _ => hN⟩
/-- what is no cells, and is not block bq, lies as it lay -/
def NC (bq : Nat) (W w' : World) : Prop := ∀ (k : Nat) (o : Obj), k ≠ bq → W.heap[k]? = some o → o.isCells = false → w'.heap[k]? = some o
def FAct (W : World) (B N b bq bb : Nat) (kl : Lit) (s : ByteArray) (c : Bool) (r : Value) (e : Ending) (w' : World) : Prop := e = .returned r ∧ FQ w' B N b bq bb kl s c ∧ (∃ q, N ≤ q ∧ Kept [bq, q] W w') ∧ NC bq W w'
/-- from the call on: boxes, 'at', a deed at the queue -/
theorem FAct.mk {W w1 w2 w3 : World} {B N b bq bb q : Nat} {kl : Lit} {s s' : ByteArray} {c c' : Bool} {r : Value} (hk1 : Kept [] W w1) (hk2 : Kept [bq] w1 w2) (hF : Fm w2 B b bq bb q kl true s c) (hN : N ≤ q) (hb : Blk w3 q #[.string s', .bool c'] 60) (hk3 : Kept [q] w2 w3) : FQ w3 B N b bq bb kl s' c' ∧ (∃ q, N ≤ q ∧ Kept [bq, q] W w3) ∧ NC bq W w3 := by
  refine ⟨hF.qset hN hb hk3, ⟨q, hN, ((hk1.mono (r' := [bq, q]) (by simp)).trans hk2 (by simp)).trans hk3 (by simp)⟩, fun k o hk ho hc => ?_⟩
  have l0 : k < W.heap.size := (Array.getElem?_eq_some_iff.1 ho).1
  have h1 : w1.heap[k]? = some o := (hk1.block k l0 (by simp)).trans ho
  have h2 : w2.heap[k]? = some o := (hk2.block k (Nat.lt_of_lt_of_le l0 hk1.size) (by simpa using hk)).trans h1
  have hq : k ≠ q := by
    rintro rfl
    have := hF.qb rfl
    unfold Blk at this
    rw [this] at h2
    injection h2 with h2
    subst h2
    cases hc
  exact (hk3.block k (Nat.lt_of_lt_of_le l0 (Nat.le_trans hk1.size hk2.size)) (by simpa using hq)).trans h2
set_option maxRecDepth 100000 in
set_option maxHeartbeats 4000000 in
theorem fdo_write (B NN b bq bb : Nat) (s0 n : Int) (kl : Lit) (s body ab : ByteArray) (N : Nat) (hs0 : 0 ≤ s0 ∧ s0 ≤ 255) (hN : N ≤ body.size) (hbs : body.size ≤ 1000000) (hss : s.size ≤ 1000000) (hkey : keyOf Try.prog 68 (fkey s0) = some kl) (w : World) (h : FQ w B NN b bq bb kl s false) (hB : B ≤ w.heap.size) (hNw : NN ≤ w.heap.size) :
    Calls Try.prog 20 #[.pointer (some ⟨b, 0, none⟩), .int .i64 0, .agg #[.int .i64 2, .int .i64 s0, .int .i64 n, .string body], .agg #[.int .i64 (N : Int), .string ab, .int .i64 0]] w (FAct w B NN b bq bb kl (s ++ body.extract 0 N) false (.int .i64 0)) := by
  have HBAD := Lib.hid (fun w => fbad_no 0 s0 (by omega) hs0 w)
  have HAT := Lib.hid (fun w h hB hN => fat_is B NN b bq bb s0 kl s false hkey w h hB hN)
  have HWR := Lib.hid (fun q w h => qwrite_ok q s 2 s0 n body ab N 0 hN hbs hss w h)
  have HNE : Hid (bq ≠ w.heap.size ∧ bq ≠ w.heap.size + 1) := Lib.hid (by obtain ⟨q, t, h', _⟩ := h; have := h'.lt; omega)
  clear hkey
  go_enter Try.func20, Try.ntmps20
  go_wp2_with (go_at_call 24; refine (HBAD.out _).mono ?_; rintro e w' ⟨rfl, rfl⟩)
  generalize hw0 : (w.alloc _).alloc _ = w0
  have hk0 : Kept [] w w0 := by rw [← hw0]; exact ((Kept.refl _ _).alloc _).alloc _
  have hA0 : Blk w0 w.heap.size #[.int .i64 (2), .int .i64 s0, .int .i64 n, .string body] 30 := by rw [← hw0]; exact Blk.alloc (Blk.new _ _ _) _
  have hA1 : Blk w0 (w.heap.size + 1) #[.int .i64 ((N : Int)), .string ab, .int .i64 (0)] 32 := by rw [← hw0]; exact Blk.new' (by simp)
  have hF0 := h.kept hk0
  have p0 := hA0.cell 0
  have p1 := hA0.cell 1
  have p2 := hA0.cell 2
  have p3 := hA0.cell 3
  have r0 := hA1.cell 0
  have r1 := hA1.cell 1
  have r2 := hA1.cell 2
  simp at p0 p1 p2 p3 r0 r1 r2
  have HA0 := Lib.hid hA0
  have HA1 := Lib.hid hA1
  have HF0 := Lib.hid hF0
  have HK0 := Lib.hid hk0
  have hB0 : B ≤ w0.heap.size := Nat.le_trans hB hk0.size
  have hN0 : NN ≤ w0.heap.size := Nat.le_trans hNw hk0.size
  clear hw0 hk0 hA0 hA1 hF0 h
  go_region_held3 (fun w' => w'.cell? ⟨w.heap.size, 0, none⟩ = some (.int .i64 2) ∧ w'.cell? ⟨w.heap.size, 1, none⟩ = some (.int .i64 s0) ∧ w'.cell? ⟨w.heap.size, 2, none⟩ = some (.int .i64 n) ∧ w'.cell? ⟨w.heap.size, 3, none⟩ = some (.string body) ∧ w'.cell? ⟨w.heap.size + 1, 0, none⟩ = some (.int .i64 (N : Int)) ∧ w'.cell? ⟨w.heap.size + 1, 1, none⟩ = some (.string ab) ∧ w'.cell? ⟨w.heap.size + 1, 2, none⟩ = some (.int .i64 0))    (repeat' (first | (with_reducible assumption) | refine ⟨?_, ?_⟩ | refine kset ?_ (by with_reducible assumption) | refine kalloc ?_ _ | refine kdrew ?_))    (first | (go_at_call 26; refine (HAT.out _ (HF0.out.kept (Kept.refl [] w0).drew) (by exact hB0) (by exact hN0)).mono ?_; rintro e w2 ⟨q', rfl, ⟨hF2, hNq⟩, hk2⟩; have hk02 : Kept [bq] w0 w2 := Kept.trans (w := _) ((Kept.refl [bq] w0).drew) hk2 (fun x hx => .inl hx); have hbq := hF2.blk; have hnq := HNE.out; have A2 := HA0.out.kept hk02 (by simp; omega); have A3 := HA1.out.kept hk02 (by simp; omega); have g0 := A2.cell 0; have g1 := A2.cell 1; have g2 := A2.cell 2; have g3 := A2.cell 3; have g4 := A3.cell 0; have g5 := A3.cell 1; have g6 := A3.cell 2; simp at g0 g1 g2 g3 g4 g5 g6; have hQ2 := hF2.qb rfl) | (go_at_call 27; refine (HWR.out _ _ hQ2).mono ?_; rintro e w3 ⟨rfl, hQ3, hK3⟩; have A4 := A2.kept hK3 (by have := blk_ne A2 hQ2 (by decide); simp; omega); have A5 := A3.kept hK3 (by have := blk_ne A3 hQ2 (by decide); simp; omega); have j0 := A4.cell 0; have j1 := A4.cell 1; have j2 := A4.cell 2; have j3 := A4.cell 3; have j4 := A5.cell 0; have j5 := A5.cell 1; have j6 := A5.cell 2; simp at j0 j1 j2 j3 j4 j5 j6))
  have HR := Lib.hid (FAct.mk (r := .int .i64 0) (HK0.out.drewN 1) (by exact hk2) hF2 hNq hQ3 hK3)
  clear hk02 hk2 hF2 A2 A3 A4 A5 hQ2 hQ3 hK3 hbq
  go_wp2
  go_ret
  exact ⟨rfl, HR.out.1, HR.out.2⟩
set_option maxRecDepth 100000 in
set_option maxHeartbeats 4000000 in
theorem fdo_read (B NN b bq bb : Nat) (s0 n : Int) (kl : Lit) (s body ab : ByteArray) (c : Bool) (N : Int) (hbs : ab.size ≤ 1000000) (hs0 : 0 ≤ s0 ∧ s0 ≤ 255) (hkey : keyOf Try.prog 68 (fkey s0) = some kl) (w : World) (h : FQ w B NN b bq bb kl s c) (hB : B ≤ w.heap.size) (hNw : NN ≤ w.heap.size) :
    Calls Try.prog 20 #[.pointer (some ⟨b, 0, none⟩), .int .i64 1, .agg #[.int .i64 3, .int .i64 s0, .int .i64 n, .string body], .agg #[.int .i64 N, .string ab, .int .i64 0]] w (FAct w B NN b bq bb kl (rdS s ab n) c (.int .i64 (rdK s ab n))) := by
  have HBAD := Lib.hid (fun w => fbad_no 1 s0 (by omega) hs0 w)
  have HAT := Lib.hid (fun w h hB hN => fat_is B NN b bq bb s0 kl s c hkey w h hB hN)
  have HWR := Lib.hid (fun q w h => qread_any q s c false 3 s0 n body ab N hbs w h)
  have HNE : Hid (bq ≠ w.heap.size ∧ bq ≠ w.heap.size + 1) := Lib.hid (by obtain ⟨q, t, h', _⟩ := h; have := h'.lt; omega)
  have HBM := Lib.hid (show ∀ w', Kept [] w w' → (Instr.lookup 53 (.map (some bb)) (.int .i64 s0) false).run Try.prog w' = .ok (.bool false) w' from by
    obtain ⟨q, t, h', _⟩ := h
    exact fun w' hk => (h'.kept hk).bm.look s0 hs0)
  have HBC := Lib.hid (show ∀ w', Kept [] w w' → w'.cell? ⟨b, 1, none⟩ = some (.map (some bb)) from by
    obtain ⟨q, t, h', _⟩ := h
    exact fun w' hk => (h'.kept hk).blk.cell 1)
  clear hkey
  go_enter Try.func20, Try.ntmps20
  go_wp2_with (go_at_call 24; refine (HBAD.out _).mono ?_; rintro e w' ⟨rfl, rfl⟩)
  generalize hw0 : (w.alloc _).alloc _ = w0
  have hk0 : Kept [] w w0 := by rw [← hw0]; exact ((Kept.refl _ _).alloc _).alloc _
  have hA0 : Blk w0 w.heap.size #[.int .i64 (3), .int .i64 s0, .int .i64 n, .string body] 30 := by rw [← hw0]; exact Blk.alloc (Blk.new _ _ _) _
  have hA1 : Blk w0 (w.heap.size + 1) #[.int .i64 (N), .string ab, .int .i64 (0)] 32 := by rw [← hw0]; exact Blk.new' (by simp)
  have hF0 := h.kept hk0
  have p0 := hA0.cell 0
  have p1 := hA0.cell 1
  have p2 := hA0.cell 2
  have p3 := hA0.cell 3
  have r0 := hA1.cell 0
  have r1 := hA1.cell 1
  have r2 := hA1.cell 2
  simp at p0 p1 p2 p3 r0 r1 r2
  have HA0 := Lib.hid hA0
  have HA1 := Lib.hid hA1
  have HF0 := Lib.hid hF0
  have HK0 := Lib.hid hk0
  have hB0 : B ≤ w0.heap.size := Nat.le_trans hB hk0.size
  have hN0 : NN ≤ w0.heap.size := Nat.le_trans hNw hk0.size
  clear hw0 hk0 hA0 hA1 hF0 h
  have hl1 := HBM.out w0.drew (HK0.out.drew)
  have bc1 := HBC.out w0 HK0.out
  generalize hkk : rdK s ab n = kk at *
  generalize hss : rdS s ab n = ss at *
  clear hkk hss
  go_region_held3 (fun w' => w'.cell? ⟨w.heap.size, 0, none⟩ = some (.int .i64 3) ∧ w'.cell? ⟨w.heap.size, 1, none⟩ = some (.int .i64 s0) ∧ w'.cell? ⟨w.heap.size, 2, none⟩ = some (.int .i64 n) ∧ w'.cell? ⟨w.heap.size, 3, none⟩ = some (.string body) ∧ w'.cell? ⟨w.heap.size + 1, 0, none⟩ = some (.int .i64 (N)) ∧ w'.cell? ⟨w.heap.size + 1, 1, none⟩ = some (.string ab) ∧ w'.cell? ⟨w.heap.size + 1, 2, none⟩ = some (.int .i64 0) ∧ w'.cell? ⟨b, 1, none⟩ = some (.map (some bb)))    (repeat' (first | (with_reducible assumption) | refine ⟨?_, ?_⟩ | refine kset ?_ (by with_reducible assumption) | refine kalloc ?_ _ | refine kdrew ?_))    (first | (go_at_call 26; refine (HAT.out _ (HF0.out.kept (Kept.refl [] w0).drew) (by exact hB0) (by exact hN0)).mono ?_; rintro e w2 ⟨q', rfl, ⟨hF2, hNq⟩, hk2⟩; have hk02 : Kept [bq] w0 w2 := Kept.trans (w := _) ((Kept.refl [bq] w0).drew) hk2 (fun x hx => .inl hx); have hbq := hF2.blk; have hnq := HNE.out; have A2 := HA0.out.kept hk02 (by simp; omega); have A3 := HA1.out.kept hk02 (by simp; omega); have g0 := A2.cell 0; have g1 := A2.cell 1; have g2 := A2.cell 2; have g3 := A2.cell 3; have g4 := A3.cell 0; have g5 := A3.cell 1; have g6 := A3.cell 2; simp at g0 g1 g2 g3 g4 g5 g6; have hQ2 := hF2.qb rfl; have hl2 := hF2.bm.look s0 hs0; have bc2 := hF2.blk.cell 1; simp at bc2) | (go_at_call 28; refine (HWR.out _ _ hQ2).mono ?_; rintro e w3 ⟨rfl, hQ3, hK3⟩; have A4 := A2.kept hK3 (by have := blk_ne A2 hQ2 (by decide); simp; omega); have A5 := A3.kept hK3 (by have := blk_ne A3 hQ2 (by decide); simp; omega); have j0 := A4.cell 0; have j1 := A4.cell 1; have j2 := A4.cell 2; have j3 := A4.cell 3; have j4 := A5.cell 0; have j5 := A5.cell 1; have j6 := A5.cell 2; simp at j0 j1 j2 j3 j4 j5 j6; have bc3 := Kept.cell hK3 bc2 (by have := (hF2.nq rfl).1; simp; exact fun e => this e.symm)))
  all_goals
    have HR := Lib.hid (FAct.mk (r := .int .i64 0) (HK0.out.drewN 1) (by exact hk2) hF2 hNq hQ3 hK3)
    clear hk02 hk2 hF2 A2 A3 A4 A5 hQ2 hQ3 hK3 hbq
    go_wp2
    go_ret
    exact ⟨rfl, HR.out.1, HR.out.2⟩
theorem FQ.new {w : World} {B b bq bb : Nat} {kl : Lit} (h : Fm w B b bq bb 0 kl false ⟨#[]⟩ false) (N : Nat) : FQ w B N b bq bb kl ⟨#[]⟩ false := ⟨0, false, h, fun e => nomatch e⟩
end Go.Proofs.Ytpefcmmfocamdaa
