/- Contracts of package fifo, at streams of which one end is used. -/
import Derived.Test.YtpojophpbggkcaaKeep
import Derived.Test.YtpojophpbggkcaaOwn
import Derived.Maps.OwnSet
import Derived.DeepKeys4
import Derived.Outline
import Derived.Handy
import Derived.BigRegion
import Derived.BigQuiet
import Derived.Deep.QuietTactic
import Derived.Deep.RegionHeld3
import Derived.IntWalk
namespace Go.Proofs.Ytpojophpbggkcaa
open Go.ChangeShapes Go.WideShapes Go.ChangeAt Go.RowKit
open Go.Maps (Keyed)
set_option linter.unusedVariables false

theorem flaid : laidOutB Try.prog = true := by kernel_rfl
theorem fend_law : Keyed Try.prog 84 := Keyed.of_law (deep_law_laid flaid (m := 2) (by omega) (of_decide_eq_true (by kernel_rfl)) (by kernel_rfl) (by kernel_rfl))
def fkey (s : Int) : Value := .agg #[.int .i64 0, .int .i64 s]
theorem fkey0 : ∃ kl, keyOf Try.prog 84 (fkey 0) = some kl := Option.isSome_iff_exists.1 (by kernel_rfl)
theorem fkey3 : ∃ kl, keyOf Try.prog 84 (fkey 3) = some kl := Option.isSome_iff_exists.1 (by kernel_rfl)
/-- how a queue's pointer reads: is it there? -/
def ptrR (q : Nat) : Value → Option (DataW Unit × List MemPlace)
  | .pointer none => some (.lit (.bool false), [])
  | .pointer (some ⟨b, off, none⟩) => if b = q ∧ off = 0 then some (.lit (.bool true), []) else none
  | _ => none
theorem ptrR_inv {q : Nat} {v : Value} {x : Bool} {ps : List MemPlace} (h : ptrR q v = some (.lit (.bool x), ps)) : v = .pointer (if x then some ⟨q, 0, none⟩ else none) := by
  unfold ptrR at h
  split at h
  · injection h with h; injection h with h _; injection h with h; injection h with h; subst h; rfl
  · split at h
    · rename_i e
      obtain ⟨rfl, rfl⟩ := e
      injection h with h; injection h with h _; injection h with h; injection h with h; subst h; rfl
    · cases h
  · cases h
theorem zqueue (w : World) : (zeroValue 74).run Try.prog w = .ok (.pointer none) w := by kernel_rfl
theorem fzbool (w : World) : (zeroValue 4).run Try.prog w = .ok (.bool false) w := by kernel_rfl
/-- the queues' map: nothing, or one -/
def QMap (w : World) (bm q : Nat) (kl : Lit) (there : Bool) : Prop :=
  ∃ D : DataW Unit, w.ownsMap Try.prog 84 (ptrR q) bm 1 D ∧ (there = false → w.ownsMap Try.prog 84 (ptrR q) bm 0 D) ∧ D.atKey kl (.lit (.bool false)) = .lit (.bool there)
theorem QMap.kept {w w' : World} {bm q : Nat} {kl : Lit} {there : Bool} {r : List Nat} (h : QMap w bm q kl there) (hk : Kept r w w') (hr : bm ∉ r) : QMap w' bm q kl there := by
  obtain ⟨D, h1, h0, h2⟩ := h
  have hlt := h1.lt
  have tr : ∀ n, w.ownsMap Try.prog 84 (ptrR q) bm n D → w'.ownsMap Try.prog 84 (ptrR q) bm n D := fun n h => by
    obtain ⟨es, clock, hb, F, hs, hD⟩ := h
    exact ⟨es, clock, (hk.block bm hlt hr).trans hb, F, hs, hD⟩
  exact ⟨D, tr 1 h1, fun e => tr 0 (h0 e), h2⟩
theorem QMap.lt {w : World} {bm q : Nat} {kl : Lit} {there : Bool} (h : QMap w bm q kl there) : bm < w.heap.size := by obtain ⟨D, h1, _⟩ := h; exact h1.lt
theorem QMap.look {w : World} {bm q : Nat} {s : Int} {kl : Lit} {there : Bool} (hkey : keyOf Try.prog 84 (fkey s) = some kl) (h : QMap w bm q kl there) : (Instr.lookup 65 (.map (some bm)) (.agg #[.int .i64 0, .int .i64 s]) false).run Try.prog w = .ok (.pointer (if there then some ⟨q, 0, none⟩ else none)) w := by
  obtain ⟨D, h1, _, h2⟩ := h
  obtain ⟨v, ps, hrun, hv⟩ := h1.lookup fend_law Try.underlying65 (zqueue w) (zd := .lit (.bool false)) (zp := []) rfl hkey
  rw [h2] at hv
  rw [ptrR_inv hv] at hrun
  exact hrun
theorem QMap.store {w : World} {bm : Nat} {s : Int} {kl : Lit} (hkey : keyOf Try.prog 84 (fkey s) = some kl) (h : ∀ q, QMap w bm q kl false) (q : Nat) : ∃ w', (Instr.mapUpdate 65 (.map (some bm)) (.agg #[.int .i64 0, .int .i64 s]) (.pointer (some ⟨q, 0, none⟩))).run Try.prog w = .ok () w' ∧ QMap w' bm q kl true ∧ Kept [bm] w w' := by
  obtain ⟨D, _, h1, h2⟩ := h q
  have h1 := h1 rfl
  have hi := h1.isMap
  have hkl : Go.WideAt.IsKeyLit kl := fend_law.key hkey
  obtain ⟨w', hr, h3, h4⟩ := h1.update fend_law Try.underlying65 (by unfold maxLen; omega) hkey (val := .pointer (some ⟨q, 0, none⟩)) (d := .lit (.bool true)) (ps := []) (by simp [ptrR])
  refine ⟨w', hr, ⟨_, h3, fun e => (nomatch e), ?_⟩, (Kept.refl _ _).grown h4 (fun z hz => by simp at hz; simp [hz])⟩
  rw [Maps.atKey_put_same hi hkl]
theorem QMap.made (w : World) (kl : Lit) (q : Nat) : QMap (w.alloc (.map #[] 0)) w.heap.size q kl false :=
  ⟨_, (World.ownsMap_made w _ _ _).mono (by omega), fun _ => World.ownsMap_made w _ _ _, rfl⟩
/-- no stream is broken -/
def BMap (w : World) (bb : Nat) : Prop := w.ownsMap (H := Unit) Try.prog 3 (plainElem Try.prog 4) bb 0 (.map [])
theorem fint_law : Keyed Try.prog 3 := Go.Maps.int_keyed Try.underlying3
theorem BMap.look {w : World} {bb : Nat} (h : BMap w bb) (s : Int) (hs : 0 ≤ s ∧ s ≤ 255) : (Instr.lookup 66 (.map (some bb)) (.int .i64 s) false).run Try.prog w = .ok (.bool false) w := by
  obtain ⟨v, ps, hrun, hv⟩ := World.ownsMap.lookup h fint_law Try.underlying66 (fzbool w) (plainElem_bool Try.underlying4 false) (Go.Maps.keyOf_int_mk (q := .i64) (a := s) Try.underlying3 (by simp [Lit.wf, IntKind.min, IntKind.max, IntKind.signed, IntKind.bits]; omega))
  have e : (DataW.map [] : DataW Unit).atKey (.int .i64 s) (.lit (.bool false)) = .lit (.bool false) := rfl
  rw [e] at hv
  unfold plainElem at hv
  rw [Try.underlying4] at hv
  cases v <;> simp at hv
  rw [hrun, hv.1]
theorem BMap.kept {w w' : World} {bb : Nat} {r : List Nat} (h : BMap w bb) (hk : Kept r w w') (hr : bb ∉ r) : BMap w' bb := by
  have hlt := World.ownsMap.lt h
  obtain ⟨es, clock, hb, F, hs, hD⟩ := h
  exact ⟨es, clock, (hk.block bb hlt hr).trans hb, F, hs, hD⟩
theorem BMap.lt {w : World} {bb : Nat} (h : BMap w bb) : bb < w.heap.size := World.ownsMap.lt h
/-- a model of whose queues one alone is used: the stream's key kl, block q -/
structure Fm (w : World) (B b bq bb q : Nat) (kl : Lit) (there : Bool) (s : ByteArray) (c : Bool) : Prop where
  blk : Blk w b #[.map (some bq), .map (some bb)] 68
  qm : (there = true → QMap w bq q kl true) ∧ (there = false → ∀ q, QMap w bq q kl false)
  bm : BMap w bb
  qb : there = true → Blk w q #[.string s, .bool c] 73
  no : there = false → s = ⟨#[]⟩ ∧ c = false
  ne : b ≠ bq ∧ b ≠ bb ∧ bq ≠ bb
  nq : there = true → q ≠ b ∧ q ≠ bq ∧ q ≠ bb ∧ B ≤ q
  B0 : B ≤ b ∧ B ≤ bq ∧ B ≤ bb
/-- its blocks -/
def frow (b bq bb q : Nat) (there : Bool) : List Nat := if there then [b, bq, bb, q] else [b, bq, bb]
theorem Fm.kept {w w' : World} {B b bq bb q : Nat} {kl : Lit} {there : Bool} {s : ByteArray} {c : Bool} (h : Fm w B b bq bb q kl there s c) (hk : Kept [] w w') : Fm w' B b bq bb q kl there s c :=
  ⟨h.blk.kept hk (by simp), ⟨fun e => (h.qm.1 e).kept hk (by simp), fun e q => (h.qm.2 e q).kept hk (by simp)⟩, h.bm.kept hk (by simp), fun e => (h.qb e).kept hk (by simp), h.no, h.ne, h.nq, h.B0⟩
theorem Fm.lt {w : World} {B b bq bb q : Nat} {kl : Lit} {there : Bool} {s : ByteArray} {c : Bool} (h : Fm w B b bq bb q kl there s c) : b < w.heap.size ∧ bq < w.heap.size ∧ bb < w.heap.size := by
  refine ⟨h.blk.lt, ?_, h.bm.lt⟩
  cases there with
  | true => exact (h.qm.1 rfl).lt
  | false => exact (h.qm.2 rfl 0).lt
def FNewPost (W : World) (kl : Lit) (e : Ending) (w' : World) : Prop := ∃ b bq bb, e = .returned (.pointer (some ⟨b, 0, none⟩)) ∧ Fm w' W.heap.size b bq bb 0 kl false ⟨#[]⟩ false ∧ Below W.heap.size W w'
theorem fnew (kl : Lit) (w : World) : Calls Try.prog 22 #[] w (FNewPost w kl) := by
  have hmm := @run_makeMap Try.prog
  go_enter Try.func22, Try.ntmps22
  go_wp2
  go_ret
  refine ⟨w.heap.size + 2, w.heap.size, w.heap.size + 1, rfl, ⟨Blk.new' (by simp), ⟨fun e => (nomatch e), fun _ q => ((QMap.made w kl q).kept ((Kept.refl [] _).alloc _) (by simp)).kept ((Kept.refl [] _).alloc _) (by simp)⟩, ?_, fun e => (nomatch e), fun _ => ⟨rfl, rfl⟩, by omega, fun e => (nomatch e), by omega⟩, ((((Kept.refl [] w).alloc _).alloc _).alloc _).below (Nat.le_refl _) (by simp)⟩
  have h : BMap ((w.alloc (.map #[] 0)).alloc (.map #[] 0)) (w.heap.size + 1) := by
    have := World.ownsMap_made (H := Unit) (w.alloc (.map #[] 0)) Try.prog 3 (plainElem Try.prog 4)
    simpa [BMap] using this
  exact h.kept ((Kept.refl [] _).alloc _) (by simp)
def FAtPost (W : World) (B b bq bb q : Nat) (kl : Lit) (there : Bool) (s : ByteArray) (c : Bool) (e : Ending) (w' : World) : Prop :=
  ∃ q', e = .returned (.pointer (some ⟨q', 0, none⟩)) ∧ Fm w' B b bq bb q' kl true s c ∧ (there = true → q' = q) ∧ (there = false → W.heap.size ≤ q') ∧ Kept [bq] W w'
set_option maxRecDepth 100000 in
set_option maxHeartbeats 2000000 in
theorem fat_there (B b bq bb q : Nat) (s0 : Int) (kl : Lit) (s : ByteArray) (c : Bool) (hkey : keyOf Try.prog 84 (fkey s0) = some kl) (w : World) (h : Fm w B b bq bb q kl true s c) :
    Calls Try.prog 33 #[.pointer (some ⟨b, 0, none⟩), .int .i64 0, .int .i64 s0] w (FAtPost w B b bq bb q kl true s c) := by
  have hlk : ∀ w', Kept [] w w' → (Instr.lookup 65 (.map (some bq)) (.agg #[.int .i64 0, .int .i64 s0]) false).run Try.prog w' = .ok (.pointer (some ⟨q, 0, none⟩)) w' := fun w' hk => ((h.qm.1 rfl).kept hk (by simp)).look hkey
  have HLK := Lib.hid hlk
  clear hlk hkey
  go_enter Try.func33, Try.ntmps33
  go_wp2_with fail
  generalize hw0 : World.alloc w _ = w0
  have hk0 : Kept [] w w0 := by rw [← hw0]; exact (Kept.refl _ _).alloc _
  have hB0 : Blk w0 w.heap.size #[.int .i64 0, .int .i64 s0] 84 := by rw [← hw0]; exact Blk.new _ _ _
  have h0 := h.kept hk0
  have k0 := hB0.cell 0
  have k1 := hB0.cell 1
  simp at k0 k1
  have c0 := h0.blk.cell 0
  simp at c0
  have hsz0 : w.heap.size < w0.heap.size := hB0.lt
  have H0 := Lib.hid h0
  have HK0 := Lib.hid hk0
  have hl := fun n => HLK.out (w0.drewN n) (HK0.out.drewN n)
  clear h0 hB0 h hw0 hk0
  go_quiet (fail)
  go_wp2
  go_quiet (fail)
  go_wp2
  go_ret
  exact ⟨q, rfl, (H0.out.kept ((Kept.refl [] _).drewN _)).kept ((Kept.refl [] _).drewN _), fun _ => rfl, fun e => (nomatch e), (((HK0.out.drewN _).drewN _).mono (fun x hx => by simp at hx))⟩
set_option maxRecDepth 100000 in
set_option maxHeartbeats 2000000 in
theorem fat_none (B b bq bb q : Nat) (s0 : Int) (kl : Lit) (s : ByteArray) (c : Bool) (hkey : keyOf Try.prog 84 (fkey s0) = some kl) (w : World) (h : Fm w B b bq bb q kl false s c) (hB : B ≤ w.heap.size) :
    Calls Try.prog 33 #[.pointer (some ⟨b, 0, none⟩), .int .i64 0, .int .i64 s0] w (FAtPost w B b bq bb q kl false s c) := by
  have HKEY := Lib.hid hkey
  have hlk : ∀ w', Kept [] w w' → (Instr.lookup 65 (.map (some bq)) (.agg #[.int .i64 0, .int .i64 s0]) false).run Try.prog w' = .ok (.pointer none) w' := fun w' hk => ((h.qm.2 rfl 0).kept hk (by simp)).look hkey
  have HLK := Lib.hid hlk
  clear hlk hkey
  go_enter Try.func33, Try.ntmps33
  go_wp2_with fail
  generalize hw0 : World.alloc w _ = w0
  have hk0 : Kept [] w w0 := by rw [← hw0]; exact (Kept.refl _ _).alloc _
  have hB0 : Blk w0 w.heap.size #[.int .i64 0, .int .i64 s0] 84 := by rw [← hw0]; exact Blk.new _ _ _
  have h0 := h.kept hk0
  have k0 := hB0.cell 0
  have k1 := hB0.cell 1
  simp at k0 k1
  have c0 := h0.blk.cell 0
  simp at c0
  have hsz0 : w.heap.size < w0.heap.size := hB0.lt
  have H0 := Lib.hid h0
  have HK0 := Lib.hid hk0
  have hl := fun n => HLK.out (w0.drewN n) (HK0.out.drewN n)
  have H := Lib.hid h
  have hB0' := Lib.hid hB0
  clear h0 hB0 h hw0 hk0
  go_quiet (fail)
  generalize hw1 : w0.drewN nq = w1
  have hk1 : Kept [] w w1 := by rw [← hw1]; exact HK0.out.drewN _
  have hB1 := hB0'.out.kept (r := []) (w' := w1) (by rw [← hw1]; exact (Kept.refl _ _).drewN _) (by simp)
  have h1 := H.out.kept hk1
  have hsz1 : w.heap.size < w1.heap.size := hB1.lt
  clear hl k0 k1 c0 hw1
  have k0 := hB1.cell 0
  have k1 := hB1.cell 1
  have c0 := h1.blk.cell 0
  simp at k0 k1 c0
  obtain ⟨w5, hrun, hq5, hk5⟩ := QMap.store (w := (w1.alloc (.cells #[.string ⟨#[]⟩, .bool false] 73)).drew) HKEY.out (fun q => (h1.qm.2 rfl q).kept ((Kept.refl [] _).alloc _).drew (by simp)) w1.heap.size
  have hsz5 : w1.heap.size < w5.heap.size := by have := hk5.size; simp at this; omega
  have hq1 : Blk w5 w1.heap.size #[.string ⟨#[]⟩, .bool false] 73 := (Blk.drew (Blk.new w1 _ _)).kept hk5 (by simp; have := h1.lt.2.1; omega)
  have hk15 : Kept [bq] w1 w5 := Kept.trans (w := (w1.alloc (.cells #[.string ⟨#[]⟩, .bool false] 73)).drew) (((Kept.refl _ _).alloc _).drew) hk5 (fun x hx => .inl hx)
  have hne := h1.ne
  have hB5 := hB1.kept hk15 (by have := H.out.lt.2.1; simp; omega)
  have hbl := h1.lt
  have hF : Fm w5 B b bq bb w1.heap.size kl true s c := by
    have hno := h1.no rfl
    obtain ⟨e1, e2⟩ := hno
    subst e1 e2
    exact ⟨h1.blk.kept hk15 (by simp; exact hne.1), ⟨fun _ => hq5, fun e => (nomatch e)⟩, h1.bm.kept hk15 (by simp; exact fun e => hne.2.2 e.symm), fun _ => hq1, fun e => (nomatch e), hne, fun _ => by omega, h1.B0⟩
  have hl5 : ∀ n, (Instr.lookup 65 (.map (some bq)) (.agg #[.int .i64 0, .int .i64 s0]) false).run Try.prog (w5.drewN n) = .ok (.pointer (some ⟨w1.heap.size, 0, none⟩)) (w5.drewN n) := fun n => (hq5.kept (r := []) ((Kept.refl _ _).drewN n) (by simp)).look HKEY.out
  have d0 := hB5.cell 0
  have d1 := hB5.cell 1
  have e0 := hF.blk.cell 0
  simp at d0 d1 e0
  have HF := Lib.hid hF
  have HK15 := Lib.hid hk15
  have HK1 := Lib.hid hk1
  have hgt : w.heap.size ≤ w1.heap.size := by omega
  clear hB5 hF hk15 hk5 hq5 hq1 hB1 h1 hk1 H H0 HK0 hB0'
  go_wp2
  go_region
  go_wp2
  go_quiet (fail)
  go_wp2
  go_ret
  exact ⟨w1.heap.size, rfl, HF.out.kept ((Kept.refl [] _).drewN _), fun e => (nomatch e), fun _ => hgt, ((HK1.out.mono (fun x hx => by simp at hx)).trans HK15.out (fun x hx => .inl hx)).drewN _⟩
end Go.Proofs.Ytpojophpbggkcaa
