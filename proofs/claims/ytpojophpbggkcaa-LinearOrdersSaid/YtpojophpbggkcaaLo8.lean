/- linear.real, at any order. -/
import Derived.Test.YtpojophpbggkcaaLo7
namespace Go.Proofs.Ytpojophpbggkcaa
open Go.ChangeShapes Go.WideShapes Go.ChangeAt Go.RowKit Go.Shelf
set_option linter.unusedVariables false
attribute [local go_sem] Oper.semAt_some

/-- places as they are read: m of them -/
structure OS (w : World) (po : Option Addr) (g oo m : Nat) (A : Nat → Nat) : Prop where
  ptr : 0 < m → po = some ⟨g, oo, none⟩
  lt : 0 < m → g < w.heap.size
  at_ : ∀ j, j < m → w.cell? ⟨g, oo + j, none⟩ = some (.int .i64 ((A j : Nat) : Int))
theorem OS.below {w w' : World} {po : Option Addr} {g oo m : Nat} {A : Nat → Nat} (h : OS w po g oo m A) (hb : Below w.heap.size w w') : OS w' po g oo m A :=
  ⟨h.ptr, fun h0 => Nat.lt_of_lt_of_le (h.lt h0) hb.size, fun j hj => (hb.cell (p := ⟨g, oo + j, none⟩) (h.lt (by omega))).trans (h.at_ j hj)⟩
/-- the events in an order -/
def xsA (m : Nat) (A : Nat → Nat) (E : Nat → Ev) : List Ev := uptoF (fun k => E (A k)) m
theorem along_stops {α : Type} (encs : α → Array Value) (f : Nat → α) (F : Fence) (n : Nat) (hF : F.fn 30) (hro : F.round = none) (hn : 1 ≤ n) (Bo Bl n₀ b off ln cap g oo m oc : Nat) (p po : Option Addr) (hp : 0 < ln → p = some ⟨b, off, none⟩) (A : Nat → Nat) (E : Nat → Ev) (hm : m ≤ 1000) (hf : ∀ k, k < m → encs (f k) = #[.agg (evV (E (A k)))])
    (w : World) (hb0 : 0 < m → b < n₀) (hg0 : 0 < m → g < n₀) (hBo0 : Bo < n₀) (hBl0 : Bl < n₀) (r : List Nat) (hrb : 0 < m → b ∉ r) (hrg : 0 < m → g ∉ r) (hrBo : Bo ∉ r) (hrBl : Bl ∉ r) (hn0 : n₀ ≤ w.heap.size) (hA : ∀ k, k < m → A k < ln)
    (hBo : w.cell? ⟨Bo, 0, none⟩ = some (.slice po m oc)) (hBl : w.cell? ⟨Bl, 0, none⟩ = some (.slice p ln cap)) (hr : OS w po g oo m A) (hes : ES w b off ln E) :
    SeqStopsK F n Try.prog 30 #[.pointer (some ⟨Bo, 0, none⟩), .pointer (some ⟨Bl, 0, none⟩)] encs (KpE n₀ r) (fun ys => ys = uptoF f m) (fun pre => ∃ k, k ≤ m ∧ pre = uptoF f k) m w := fun l J Jx W hW _ _ hY h0 =>
  along1_in encs f F n hF hro hn l Bo Bl n₀ b off ln cap g oo m oc p po hp hr.ptr A E hm hf hb0 hg0 hBo0 hBl0 r hrb hrg hrBo hrBl hA J Jx hY W
    ((hW.cell (p := ⟨Bo, 0, none⟩) (by show Bo < w.heap.size; omega)).trans hBo) ((hW.cell (p := ⟨Bl, 0, none⟩) (by show Bl < w.heap.size; omega)).trans hBl)
    (hr.below hW).at_ (fun i hi => (hes.ev i hi).below hW) h0
/-- one more event: what began last; none: it was answered ahead of that -/
def realS (o : Option Int) (e : Ev) : Option Int := match o with
  | none => none
  | some b => if e.fin < b then none else some (max b e.beg)
def realF (l : List Ev) : Option Int := l.foldl realS (some (-9223372036854775808))
theorem realF_snoc (l : List Ev) (e : Ev) : realF (l ++ [e]) = realS (realF l) e := by simp [realF]
theorem realS_none (t : List Ev) : t.foldl realS none = none := by
  induction t with
  | nil => rfl
  | cons x t ih => exact ih
theorem realF_pre {l m : List Ev} (h : l <+: m) (h0 : realF l = none) : realF m = none := by
  obtain ⟨t, rfl⟩ := h
  unfold realF at h0 ⊢
  rw [List.foldl_append, h0, realS_none]
/-- whoever was answered ahead of another one's beginning stands ahead of it -/
def RealP (l : List Ev) : Prop := l.Pairwise fun a b => ¬ b.fin < a.beg
theorem real_iff (l : List Ev) (b : Int) : (l.foldl realS (some b)).isSome = true ↔ (∀ e ∈ l, ¬ e.fin < b) ∧ RealP l := by
  induction l generalizing b with
  | nil => simp [RealP]
  | cons e l ih =>
    simp only [List.foldl_cons, realS]
    by_cases h : e.fin < b
    · rw [if_pos h, realS_none]
      simp only [Option.isSome_none, Bool.false_eq_true, false_iff]
      exact fun k => k.1 e (by simp) h
    · rw [if_neg h, ih]
      unfold RealP
      rw [List.pairwise_cons]
      constructor
      · rintro ⟨h1, h2⟩
        exact ⟨fun x hx => (List.mem_cons.1 hx).elim (fun e2 => by subst e2; exact h) (fun hx => by have := h1 x hx; omega), fun x hx => by have := h1 x hx; omega, h2⟩
      · rintro ⟨h1, h2, h3⟩
        exact ⟨fun x hx => by have a1 := h1 x (by simp [hx]); have a2 := h2 x hx; omega, h3⟩
def FitE (E : Nat → Ev) (n : Nat) : Prop := ∀ i, i < n → -9223372036854775808 ≤ (E i).fin
theorem realF_iff (n m : Nat) (A : Nat → Nat) (E : Nat → Ev) (hE : FitE E n) (hA : ∀ k, k < m → A k < n) : (realF (xsA m A E)).isSome = true ↔ RealP (xsA m A E) := by
  unfold realF
  rw [real_iff]
  refine ⟨fun h => h.2, fun h => ⟨fun e he => ?_, h⟩⟩
  unfold xsA uptoF at he
  obtain ⟨k, hk, rfl⟩ := List.mem_map.1 he
  have := hE _ (hA k (List.mem_range.1 hk))
  omega
set_option maxRecDepth 100000 in
set_option maxHeartbeats 4000000 in
theorem real_is (p po : Option Addr) (bl off n cap g oo m oc : Nat) (A : Nat → Nat) (E : Nat → Ev) (hm : m ≤ 1000) (hA : ∀ k, k < m → A k < n) (hp : 0 < n → p = some ⟨bl, off, none⟩) (w : World) (hes : ES w bl off n E) (hr : OS w po g oo m A) :
    Calls Try.prog 21 #[.slice p n cap, .slice po m oc] w fun e w' => e = .returned (.bool (realF (xsA m A E)).isSome) ∧ Below w.heap.size w w' := by
  refine (callsIn_wide (n := 6)).1 ?_
  have h1 : 1 ≤ 6 := by omega
  refine callsIn_of_wp_marks Try.func21 rfl trivial ?_ rfl
  simp only [Try.ntmps21, List.size_toArray, List.length_cons, List.length_nil, Nat.reduceAdd, Nat.reduceSub, Array.replicate_succ, Array.replicate_zero, List.push_toArray, List.append_toArray, List.nil_append, List.cons_append]
  gi_wp2_with (refine ⟨trivial, ?_⟩; gi_at_call 23; refine (callsIn_wide.2 (along_is _ _ _ _ _ _ _)).mono ?_; rintro e w' ⟨rfl, rfl⟩)
  have bR := ((((Blk.new w #[.bool false] 4).alloc (.cells #[.int .i64 (-9223372036854775808)] 3)).alloc (.cells #[.slice p n cap] 22)).alloc (.cells #[.slice po m oc] 23))
  have bB := (((Blk.new (w.alloc (.cells #[.bool false] 4)) #[.int .i64 (-9223372036854775808)] 3).alloc (.cells #[.slice p n cap] 22)).alloc (.cells #[.slice po m oc] 23))
  have bL := ((Blk.new ((w.alloc (.cells #[.bool false] 4)).alloc (.cells #[.int .i64 (-9223372036854775808)] 3)) #[.slice p n cap] 22).alloc (.cells #[.slice po m oc] 23))
  have bO := (Blk.new (((w.alloc (.cells #[.bool false] 4)).alloc (.cells #[.int .i64 (-9223372036854775808)] 3)).alloc (.cells #[.slice p n cap] 22)) #[.slice po m oc] 23)
  have hB0 : Below w.heap.size w ((((w.alloc (.cells #[.bool false] 4)).alloc (.cells #[.int .i64 (-9223372036854775808)] 3)).alloc (.cells #[.slice p n cap] 22)).alloc (.cells #[.slice po m oc] 23)) := Grow.alloc (Grow.alloc (Grow.alloc (Grow.alloc (Grow.rfl' w) _) _) _) _
  have hsz : ((((w.alloc (.cells #[.bool false] 4)).alloc (.cells #[.int .i64 (-9223372036854775808)] 3)).alloc (.cells #[.slice p n cap] 22)).alloc (.cells #[.slice po m oc] 23)).heap.size = w.heap.size + 4 := by simp
  simp only [World.size_alloc] at bB bL bO
  generalize ((((w.alloc (.cells #[.bool false] 4)).alloc (.cells #[.int .i64 (-9223372036854775808)] 3)).alloc (.cells #[.slice p n cap] 22)).alloc (.cells #[.slice po m oc] 23)) = W0 at *
  have hgl := hr.lt
  have hbl := hes.lt
  have HA' : Hid (∀ x y : Ev, x = y → x = y) := Lib.hid (fun _ _ h => h)
  refine wpIn_rangeFunc_ownH rfl h1 (gf := 30) (lb := #[.pointer (some ⟨w.heap.size + 1 + 1 + 1, 0, none⟩), .pointer (some ⟨w.heap.size + 1 + 1, 0, none⟩)]) rfl trivial (enters_of Try.func30 (by kernel_rfl) rfl)
    (along_stops (fun e : Ev => #[.agg (evV e)]) (fun k => E (A k)) Fence.wide 5 trivial rfl (by omega) (w.heap.size + 1 + 1 + 1) (w.heap.size + 1 + 1) (w.heap.size + 4) bl off n cap g oo m oc p po hp A E hm (fun k hk => rfl) W0 (fun h => by have := hbl (by have := hA 0 h; omega); omega) (fun h => by have := hgl h; omega) (by omega) (by omega) [w.heap.size, w.heap.size + 1] (fun h => by have := hbl (by have := hA 0 h; omega); simp; omega) (fun h => by have := hgl h; simp; omega) (by simp; omega) (by simp; omega) (by omega) hA bO.one bL.one (hr.below hB0) (hes.below hB0))
    KpE.trans (KpE.put (by omega)) (Below.refl _ _) (fun _ => rfl)
    (fun pre W => ∃ s, realF pre = some s ∧ (Boxed W w.heap.size 4 (.bool false) ∧ Boxed W (w.heap.size + 1) 3 (.int .i64 s)) ∧ Below w.heap.size w W ∧ w.heap.size + 4 ≤ W.heap.size)
    (fun c pre W => c = .ret ∧ realF pre = none ∧ Boxed W w.heap.size 4 (.bool false) ∧ Below w.heap.size w W)
    (fun s A B row hs hg hr => by
      obtain ⟨x, h1, ⟨h2, h3⟩, h4, h5⟩ := hs
      exact ⟨x, h1, ⟨boxed_own w.heap.size 4 (fun (_ : Unit) => Value.bool false) () A B row h2 hg (fun r e => (hr r e).2), boxed_own (w.heap.size + 1) 3 (fun (_ : Unit) => Value.int .i64 x) () A B row h3 hg (fun r e => (hr r e).2)⟩, h4.grown hg h4.size (fun k e => by have := (hr k e).1; omega), Nat.le_trans h5 hg.size⟩)
    (fun c s A B row hs hg hr => by
      obtain ⟨h1, h2, h3, h4⟩ := hs
      exact ⟨h1, h2, boxed_own w.heap.size 4 (fun (_ : Unit) => Value.bool false) () A B row h3 hg (fun r e => (hr r e).2), h4.grown hg h4.size (fun k e => by have := (hr k e).1; omega)⟩)
    ⟨_, rfl, ⟨bR, bB⟩, hB0, by omega⟩
    (fun x a' W => ∃ Bx, w.heap.size + 3 < Bx ∧ Blk W Bx (evV x) 40 ∧ a' = { tmps := #[.slice p n cap, .slice po m oc, undef, undef, .pointer (some ⟨w.heap.size, 0, none⟩), .pointer (some ⟨w.heap.size + 1, 0, none⟩), .pointer (some ⟨Bx, 0, none⟩), .slice p n cap, .slice po m oc, .func (.func 30) #[] #[.pointer (some ⟨w.heap.size + 1 + 1 + 1, 0, none⟩), .pointer (some ⟨w.heap.size + 1 + 1, 0, none⟩)], .agg (evV x), undef, undef, undef, undef, undef, undef, undef, undef], defers := [] })
    (fun x a' _ X Y row hs hg hr => by
      obtain ⟨Bx, h1, h2, h3⟩ := hs
      exact ⟨Bx, h1, h2.grown hg (fun e => by obtain ⟨_, o, ho, hc⟩ := hr Bx e.symm; unfold Blk at h2; rw [h2] at ho; cases ho; cases hc), h3⟩)
    ?assign ?body ?done ?stop
  case assign =>
    rintro l pre x W K ⟨s, hs, ⟨bS1, bB1⟩, hB1, h4⟩ hK
    unfold evV
    gi_wp2
    exact hK _ _ ((KeepsOthers.alloc _ _).from _) (KpE.of_kept ((Kept.refl [] W).alloc _) (by simp) h4) ⟨s, hs, ⟨bS1.alloc _, bB1.alloc _⟩, hB1.alloc hB1.size _, by simp; omega⟩ ⟨W.heap.size, by omega, Blk.new W _ _, rfl⟩
  case body =>
    rintro l pre x a' W hl ⟨r, hr⟩ ⟨s, hs, ⟨bS1, bB1⟩, hB1, h4⟩ ⟨Bx, hBx, bX, rfl⟩ hlt
    have cR := bS1.cell
    have fR := bS1.frozen
    have cB := bB1.cell
    have fB := bB1.frozen
    have c9 := bX.cell 9
    have c10 := bX.cell 10
    have hsn := realF_snoc pre x
    rw [hs] at hsn
    have e9 : (evV x)[9]? = some (.int .i64 x.beg) := rfl
    have e10 : (evV x)[10]? = some (.int .i64 x.fin) := rfl
    rw [e9] at c9
    rw [e10] at c10
    unfold realS at hsn
    dsimp only at hsn
    have HSN := Lib.hid hsn
    have HB1 := Lib.hid hB1
    have bS' := Lib.hid bS1
    have bB' := Lib.hid bB1
    clear e9 e10 hsn hs bX hB1 bS1 bB1
    by_cases hlt2 : x.fin < s
    · gi_wp2
      refine ⟨(KeepsOthers.setCell _ _ _).from _, rfl, by rw [HSN.out, if_pos hlt2], ?_, ?_⟩
      · exact bS'.out.set _
      · exact HB1.out.setCell (p := ⟨w.heap.size, 0, none⟩) (Nat.le_refl _) _
    · gi_wp2
      all_goals
        refine ⟨(KeepsOthers.setCell _ _ _).from _, KpE.of_kept ((Kept.refl [w.heap.size, w.heap.size + 1] W).set ⟨w.heap.size + 1, 0, none⟩ (.inl (by simp)) _) (fun y hy => hy) h4, ?_⟩
        refine ⟨_, ?_, ⟨bS'.out.other (by omega) _, bB'.out.set _⟩, HB1.out.setCell (p := ⟨w.heap.size + 1, 0, none⟩) (by simp) _, by simpa [World.setCell] using h4⟩
        rw [HSN.out, if_neg (by omega)]
        congr 1
        omega
  case done =>
    rintro D zs W hD rfl ⟨s, hs, ⟨bS1, bB1⟩, hB1, h4⟩ hK
    have cR := bS1.cell
    have fR := bS1.frozen
    have hs : realF (xsA m A E) = some s := hs
    have HS := Lib.hid hs
    clear hs
    gi_wp2
    have hK' := (KeepsOthers.setCell W ⟨w.heap.size, 0, none⟩ (.bool true)).same D _ hK rfl
    refine ⟨by simp, .inl ⟨_, _, rfl, run_takeDeferred hK', ?_⟩⟩
    have hc5 := cell_kept (World.cell?_setCell_same' W ⟨w.heap.size, 0, none⟩ (.bool true) (by rw [cR]; rfl)) (grownBy_putObj' _ D (.deferred none)) (fun r e => by cases e; exact ⟨_, hK', rfl⟩)
    refine ⟨.bool true, ?_, by rw [HS.out]; rfl, (hB1.setCell (p := ⟨w.heap.size, 0, none⟩) (Nat.le_refl _) _).trans (belowK_b (w := w) (Nat.le_refl _) _ D _ _ (by omega) hK' rfl rfl)⟩
    simp [results, Try.f21, go_sem, hc5]
  case stop =>
    rintro D c pre W hD ⟨k, hk, rfl⟩ ⟨rfl, hs, bS1, hB1⟩ hK
    have cR := bS1.cell
    have fR := bS1.frozen
    have hs2 := realF_pre (uptoF_pre _ _ _ hk) hs
    have hs2 : realF (xsA m A E) = none := hs2
    have HS := Lib.hid hs2
    clear hs hs2
    gi_wp2
    refine ⟨by simp, .inl ⟨_, _, rfl, run_takeDeferred hK, ?_⟩⟩
    have hc5 := cell_kept cR (grownBy_putObj' _ D (.deferred none)) (fun r e => by cases e; exact ⟨_, hK, rfl⟩)
    refine ⟨.bool false, ?_, by rw [HS.out]; rfl, hB1.trans (belowK_b (w := w) (Nat.le_refl _) W D _ _ (by omega) hK rfl rfl)⟩
    simp [results, Try.f21, go_sem, hc5]
end Go.Proofs.Ytpojophpbggkcaa
