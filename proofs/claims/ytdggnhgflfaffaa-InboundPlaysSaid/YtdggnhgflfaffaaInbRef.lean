/- lightshipref28: the value of a stream; behind, Ended, Ack, Held. -/
import Derived.Test.YtdggnhgflfaffaaNew28
namespace Go.Proofs.Ytdggnhgflfaffaa
set_option maxRecDepth 20000
open Go.ChangeShapes Go.WideShapes Go.ChangeAt Go.RowKit
set_option linter.unusedVariables false

theorem cells18 {w : World} {b : Nat} {a0 a1 a2 a3 a4 a5 a6 a7 a8 a9 a10 a11 a12 a13 a14 a15 a16 a17 : Value} {T : TypeId} (h : Blk w b #[a0, a1, a2, a3, a4, a5, a6, a7, a8, a9, a10, a11, a12, a13, a14, a15, a16, a17] T) :
    w.cell? ⟨b, 0, none⟩ = some a0 ∧ w.cell? ⟨b, 1, none⟩ = some a1 ∧ w.cell? ⟨b, 2, none⟩ = some a2 ∧ w.cell? ⟨b, 3, none⟩ = some a3 ∧ w.cell? ⟨b, 4, none⟩ = some a4 ∧ w.cell? ⟨b, 5, none⟩ = some a5 ∧ w.cell? ⟨b, 6, none⟩ = some a6 ∧ w.cell? ⟨b, 7, none⟩ = some a7 ∧ w.cell? ⟨b, 8, none⟩ = some a8 ∧ w.cell? ⟨b, 9, none⟩ = some a9 ∧ w.cell? ⟨b, 10, none⟩ = some a10 ∧ w.cell? ⟨b, 11, none⟩ = some a11 ∧ w.cell? ⟨b, 12, none⟩ = some a12 ∧ w.cell? ⟨b, 13, none⟩ = some a13 ∧ w.cell? ⟨b, 14, none⟩ = some a14 ∧ w.cell? ⟨b, 15, none⟩ = some a15 ∧ w.cell? ⟨b, 16, none⟩ = some a16 ∧ w.cell? ⟨b, 17, none⟩ = some a17 :=
  ⟨h.cell 0, h.cell 1, h.cell 2, h.cell 3, h.cell 4, h.cell 5, h.cell 6, h.cell 7, h.cell 8, h.cell 9, h.cell 10, h.cell 11, h.cell 12, h.cell 13, h.cell 14, h.cell 15, h.cell 16, h.cell 17⟩
/-- the document's stream, as a value -/
def rC (C : Nat → Int) (win : Nat) (x : Ist) (p : Option Addr) (cap : Nat) (q : Option Addr) (cap2 : Nat) : Array Value :=
  #[.int .i64 (C 0), .int .i64 (C 1), .int .i64 (C 2), .int .i64 (C 3), .int .i64 (C 4), .int .i64 (C 5), .int .i64 (C 6), .int .i64 (C 7), .int .i64 (C 8), .int .i64 (C 9), .int .i64 (C 10),
    .int .u32 (x.base : Int), .int .i64 (win : Int), .slice p x.L.length cap, .slice q x.S.length cap2, .string x.s, .int .u32 (x.fin : Int), .bool x.known]
theorem rGet (C : Nat → Int) (win : Nat) (x : Ist) (p : Option Addr) (cap : Nat) (q : Option Addr) (cap2 : Nat) :
    (rC C win x p cap q cap2)[0]? = some (.int .i64 (C 0)) ∧ (rC C win x p cap q cap2)[1]? = some (.int .i64 (C 1)) ∧ (rC C win x p cap q cap2)[2]? = some (.int .i64 (C 2)) ∧ (rC C win x p cap q cap2)[3]? = some (.int .i64 (C 3)) ∧ (rC C win x p cap q cap2)[4]? = some (.int .i64 (C 4)) ∧ (rC C win x p cap q cap2)[5]? = some (.int .i64 (C 5)) ∧ (rC C win x p cap q cap2)[6]? = some (.int .i64 (C 6)) ∧ (rC C win x p cap q cap2)[7]? = some (.int .i64 (C 7)) ∧ (rC C win x p cap q cap2)[8]? = some (.int .i64 (C 8)) ∧ (rC C win x p cap q cap2)[9]? = some (.int .i64 (C 9)) ∧ (rC C win x p cap q cap2)[10]? = some (.int .i64 (C 10)) ∧ (rC C win x p cap q cap2)[11]? = some (.int .u32 (x.base : Int)) ∧ (rC C win x p cap q cap2)[12]? = some (.int .i64 (win : Int)) ∧ (rC C win x p cap q cap2)[13]? = some (.slice p x.L.length cap) ∧ (rC C win x p cap q cap2)[14]? = some (.slice q x.S.length cap2) ∧ (rC C win x p cap q cap2)[15]? = some (.string x.s) ∧ (rC C win x p cap q cap2)[16]? = some (.int .u32 (x.fin : Int)) ∧ (rC C win x p cap q cap2)[17]? = some (.bool x.known) :=
  ⟨rfl, rfl, rfl, rfl, rfl, rfl, rfl, rfl, rfl, rfl, rfl, rfl, rfl, rfl, rfl, rfl, rfl, rfl⟩
structure RefAt (w : World) (x : Ist) (p : Option Addr) (cap : Nat) (q : Option Addr) (cap2 : Nat) : Prop where
  ro : RO w p cap x.L
  ru : RU w q cap2 x.S
theorem RefAt.kept {w w' : World} {x : Ist} {p q : Option Addr} {cap cap2 : Nat} {r : List Nat} (h : RefAt w x p cap q cap2) (hk : Kept r w w') (h1 : ∀ a, p = some a → a.block ∉ r) (h2 : ∀ a, q = some a → a.block ∉ r) : RefAt w' x p cap q cap2 :=
  ⟨h.ro.kept hk h1, h.ru.kept hk h2⟩
def rZ : Array Value :=
  #[.int .i64 0, .int .i64 0, .int .i64 0, .int .i64 0, .int .i64 0, .int .i64 0, .int .i64 0, .int .i64 0, .int .i64 0, .int .i64 0, .int .i64 0,
    .int .u32 0, .int .i64 0, .slice none 0 0, .slice none 0 0, .string ⟨#[]⟩, .int .u32 0, .bool false]
def Near (W : World) (p p' : Option Addr) : Prop := ∀ a, p' = some a → W.heap.size ≤ a.block ∨ ∃ a0, p = some a0 ∧ a0.block = a.block
theorem Near.same (W : World) (p : Option Addr) : Near W p p := fun a ha => .inr ⟨a, ha, rfl⟩
def RPost (W : World) (C : Nat → Int) (win : Nat) (x' : Ist) (p q : Option Addr) (f : Value → Value) (e : Ending) (w' : World) : Prop :=
  ∃ p' cap' q' cap2', e = .returned (f (.agg (rC C win x' p' cap' q' cap2'))) ∧ RefAt w' x' p' cap' q' cap2' ∧ Near W p p' ∧ Near W q q' ∧ Below W.heap.size W w'
theorem Kept.setRow {r : List Nat} {a w : World} (h : Kept r a w) (g : Nat) (hg : g ∈ r ∨ a.heap.size ≤ g) (cs : Array Value) : Kept r a (w.setRow g cs) := by
  refine ⟨h.os, h.tape, h.output, by simpa using h.size, fun k hk hne => ?_⟩
  rw [setRow_other _ _ _ _ (by rintro rfl; rcases hg with hg | hg; exact hne hg; omega)]
  exact h.block k hk hne
theorem rbehind (C : Nat → Int) (win : Nat) (x : Ist) (p : Option Addr) (cap : Nat) (q : Option Addr) (cap2 block : Nat) (hx : block < 4294967296) (hfin : x.fin < 4294967296) (w : World) :
    Calls Try.prog 58 #[.agg (rC C win x p cap q cap2), .int .u32 (block : Int)] w fun e w' => e = .returned (.bool (behB x block)) ∧ w' = w.alloc (.cells (rC C win x p cap q cap2) 38) := by
  have HL := Lib.hid (fun w => refLess (block : Int) (x.fin : Int) (by omega) (by omega) (by omega) (by omega) w)
  obtain ⟨c0, c1, c2, c3, c4, c5, c6, c7, c8, c9, c10, c11, c12, c13, c14, c15, c16, c17⟩ := rGet C win x p cap q cap2
  clear c0 c1 c2 c3 c4 c5 c6 c7 c8 c9 c10 c11 c12 c13 c14 c15
  unfold behB
  generalize lessB (block : Int) (x.fin : Int) = l at *
  generalize rC C win x p cap q cap2 = cv at *
  cases hk : x.known with
  | false =>
    rw [hk] at c17
    go_enter Try.func58, Try.ntmps58
    go_wp2_with fail
    go_ret
    exact ⟨rfl, rfl⟩
  | true =>
    rw [hk] at c17
    go_enter Try.func58, Try.ntmps58
    go_wp2_with (go_at_call 56; refine (HL.out _).mono ?_; rintro e w' ⟨rfl, rfl⟩)
    go_ret
    exact ⟨rfl, rfl⟩
theorem rC_one (C : Nat → Int) (win : Nat) (x : Ist) (p : Option Addr) (cap : Nat) (q : Option Addr) (cap2 : Nat) : (rC C win x p cap q cap2).all (·.oneCell') = true := by
  simp [rC, Value.oneCell']
theorem load_I {w : World} {g : Nat} {cs : Array Value} (hg : Blk w g cs 38) (hz : cs.size = 18) : (loadVar 38 ⟨g, 0, none⟩).run Try.prog w = .ok (.agg cs) w :=
  run_loadVar_row w g _ _ cs (0, 0) _ hg Try.underlying38 rfl (by rw [hz]; kernel_rfl)
theorem results_I {fn : Func} {p : Tmp} (h : fn.results = #[.cell p 38]) (tmps : Array Value) {w : World} {g : Nat} {cs : Array Value}
    (hp : tmps.getD p undef = .pointer (some ⟨g, 0, none⟩)) (hg : Blk w g cs 38) (hz : cs.size = 18) : (results fn tmps).run Try.prog w = .ok (.agg cs) w := by
  have hp' : tmps[p]?.getD undef = .pointer (some ⟨g, 0, none⟩) := by simpa using hp
  simp [results, h, hp', asAddr, load_I hg hz]
theorem results_I2 {fn : Func} {p s : Tmp} (h : fn.results = #[.cell p 38, .tmp s]) (tmps : Array Value) {w : World} {g : Nat} {cs : Array Value} (v : Value)
    (hp : tmps.getD p undef = .pointer (some ⟨g, 0, none⟩)) (hv : tmps.getD s undef = v) (hg : Blk w g cs 38) (hz : cs.size = 18) : (results fn tmps).run Try.prog w = .ok (.tuple #[.agg cs, v]) w := by
  have hp' : tmps[p]?.getD undef = .pointer (some ⟨g, 0, none⟩) := by simpa using hp
  have hv' : tmps[s]?.getD undef = v := by simpa using hv
  simp [results, h, hp', hv', asAddr, load_I hg hz]
theorem results_I3 {fn : Func} {p s s2 : Tmp} (h : fn.results = #[.cell p 38, .tmp s, .tmp s2]) (tmps : Array Value) {w : World} {g : Nat} {cs : Array Value} (v v2 : Value)
    (hp : tmps.getD p undef = .pointer (some ⟨g, 0, none⟩)) (hv : tmps.getD s undef = v) (hv2 : tmps.getD s2 undef = v2) (hg : Blk w g cs 38) (hz : cs.size = 18) : (results fn tmps).run Try.prog w = .ok (.tuple #[.agg cs, v, v2]) w := by
  have hp' : tmps[p]?.getD undef = .pointer (some ⟨g, 0, none⟩) := by simpa using hp
  have hv' : tmps[s]?.getD undef = v := by simpa using hv
  have hv2' : tmps[s2]?.getD undef = v2 := by simpa using hv2
  simp [results, h, hp', hv', hv2', asAddr, load_I hg hz]
theorem Blk.row {w : World} {g : Nat} {old : Array Value} {T : TypeId} (h : Blk w g old T) (cs : Array Value) : Blk (w.setRow g cs) g cs T := setRow_heap _ _ old _ _ _ h
theorem RefAt.below {w w' : World} {x : Ist} {p q : Option Addr} {cap cap2 : Nat} (h : RefAt w x p cap q cap2) (hb : Below w.heap.size w w') : RefAt w' x p cap q cap2 := h.kept (Kept.of_below hb []) (by simp) (by simp)
theorem rpost_same {W wb : World} {x : Ist} {C : Nat → Int} {win : Nat} {p q : Option Addr} {cap cap2 : Nat} (H : RefAt W x p cap q cap2) (hb : Below W.heap.size W wb) (f : Value → Value) (g : Nat) (hg : W.heap.size ≤ g) (cs : Array Value) : RPost W C win x p q f (.returned (f (.agg (rC C win x p cap q cap2)))) (wb.setRow g cs) := by
  have hk : Kept [] W (wb.setRow g cs) := (Kept.of_below hb []).setRow g (.inr hg) cs
  exact ⟨p, cap, q, cap2, rfl, H.kept hk (by simp) (by simp), Near.same _ _, Near.same _ _, hk.below (Nat.le_refl _) (by simp)⟩
theorem Near.trans {W W2 : World} {p p' p'' : Option Addr} (h1 : Near W p p') (h2 : Near W2 p' p'') (hs : W.heap.size ≤ W2.heap.size) : Near W p p'' := by
  intro a ha
  rcases h2 a ha with h | ⟨a0, e1, e2⟩
  · exact .inl (by omega)
  · rcases h1 a0 e1 with h | ⟨a1, e3, e4⟩
    · exact .inl (by omega)
    · exact .inr ⟨a1, e3, e4.trans e2⟩
theorem refat_gen {W W3 w4 wf : World} {x x' : Ist} {p q p' q' : Option Addr} {cap cap2 cap' cap2' : Nat} {r : List Nat} (H : RefAt W x p cap q cap2) (hra : RefAt w4 x' p' cap' q' cap2') (hn1 : Near W3 p p') (hn2 : Near W3 q q') (hr : ∀ y ∈ r, W.heap.size ≤ y ∧ y < W3.heap.size) (hk : Kept r w4 wf) : RefAt wf x' p' cap' q' cap2' := by
  refine hra.kept hk (fun a ha hm => ?_) (fun a ha hm => ?_)
  · have hm := hr _ hm
    rcases hn1 a ha with h | ⟨a0, h1, h2⟩
    · omega
    · have := H.ro.lt a0 h1; omega
  · have hm := hr _ hm
    rcases hn2 a ha with h | ⟨a0, h1, h2⟩
    · omega
    · have := H.ru.lt a0 h1; omega
theorem rpost_gen {W W3 w4 wf : World} {x x' : Ist} {C : Nat → Int} {win : Nat} {p q p' q' : Option Addr} {cap cap2 cap' cap2' : Nat} {r : List Nat} (H : RefAt W x p cap q cap2) (hs : W.heap.size ≤ W3.heap.size) (hra : RefAt w4 x' p' cap' q' cap2') (hn1 : Near W3 p p') (hn2 : Near W3 q q') (f : Value → Value) (hr : ∀ y ∈ r, W.heap.size ≤ y ∧ y < W3.heap.size) (hk : Kept r w4 wf) (hbf : Below W.heap.size W wf) :
    RPost W C win x' p q f (.returned (f (.agg (rC C win x' p' cap' q' cap2')))) wf :=
  ⟨p', cap', q', cap2', rfl, refat_gen H hra hn1 hn2 hr hk, fun a ha => (hn1 a ha).imp (fun h => by omega) id, fun a ha => (hn2 a ha).imp (fun h => by omega) id, hbf⟩
theorem Blk.rowO {w : World} {g g' : Nat} {c : Array Value} {T : TypeId} (h : Blk w g c T) (hne : g ≠ g') (cs : Array Value) : Blk (w.setRow g' cs) g c T := by
  unfold Blk at *
  rw [setRow_other _ _ _ _ hne]; exact h
theorem rpost_new {W W3 w4 : World} {x x' : Ist} {C : Nat → Int} {win : Nat} {p q p' q' : Option Addr} {cap cap2 cap' cap2' : Nat} (H : RefAt W x p cap q cap2) (hb3 : Below W.heap.size W W3) (hra : RefAt w4 x' p' cap' q' cap2') (hn1 : Near W3 p p') (hn2 : Near W3 q q') (hb4 : Below W3.heap.size W3 w4) (f : Value → Value) (g : Nat) (hg : W.heap.size ≤ g) (hg3 : g < W3.heap.size) (cs : Array Value) :
    RPost W C win x' p q f (.returned (f (.agg (rC C win x' p' cap' q' cap2')))) (w4.setRow g cs) := by
  have hk5 : Kept [g] w4 (w4.setRow g cs) := (Kept.refl _ _).setRow _ (.inl (by simp)) _
  have hs := hb3.size
  refine ⟨p', cap', q', cap2', rfl, hra.kept hk5 (fun a ha hm => ?_) (fun a ha hm => ?_), fun a ha => ?_, fun a ha => ?_, ?_⟩
  · simp at hm
    rcases hn1 a ha with h | ⟨a0, h1, h2⟩
    · omega
    · have := H.ro.lt a0 h1; omega
  · simp at hm
    rcases hn2 a ha with h | ⟨a0, h1, h2⟩
    · omega
    · have := H.ru.lt a0 h1; omega
  · exact (hn1 a ha).imp (fun h => by omega) id
  · exact (hn2 a ha).imp (fun h => by omega) id
  · have h4 : Below W.heap.size W w4 := hb3.trans (hb4.mono hs)
    exact ((Kept.of_below h4 []).trans hk5 (fun y hy => .inr (by simp at hy; omega))).below (Nat.le_refl _) (by simp)
end Go.Proofs.Ytdggnhgflfaffaa
