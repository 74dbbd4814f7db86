/- linear.Legal, of reads and writes on one stream. -/
import Derived.Test.YtpefcmmfocamdaaLin9
import Derived.Test.YtpefcmmfocamdaaFifoK
namespace Go.Proofs.Ytpefcmmfocamdaa
open Go.ChangeShapes Go.WideShapes Go.ChangeAt Go.RowKit Go.Shelf
set_option linter.unusedVariables false
attribute [local go_sem] Oper.semAt_some

/-- a write of side 0, a read of side 1, on stream 0 -/
def OkE (e : Ev) : Prop := e.stream = 0 ∧ e.err = 0 ∧ ((e.kind = 2 ∧ e.side = 0 ∧ ∃ N : Nat, e.an = N ∧ N ≤ e.body.size ∧ e.body.size ≤ 200) ∨ (e.kind = 3 ∧ e.side = 1 ∧ e.ab.size ≤ 200))
/-- one more event: what the queue has then -/
def stepL (o : Option ByteArray) (e : Ev) : Option ByteArray := match o with
  | none => none
  | some s => if e.kind = 2 then some (s ++ e.body.extract 0 e.an.toNat) else if rdK s e.ab e.n = 0 then some (rdS s e.ab e.n) else none
def foldL (l : List Ev) : Option ByteArray := l.foldl stepL (some ⟨#[]⟩)
theorem foldL_snoc (l : List Ev) (e : Ev) : foldL (l ++ [e]) = stepL (foldL l) e := by simp [foldL]
theorem foldL_pre {l m : List Ev} (h : l <+: m) (h0 : foldL l = none) : foldL m = none := by
  obtain ⟨t, rfl⟩ := h
  have hn : ∀ t : List Ev, t.foldl stepL none = none := by
    intro t
    induction t with
    | nil => rfl
    | cons x t ih => exact ih
  unfold foldL at h0 ⊢
  rw [List.foldl_append, h0, hn]
def FDo (W : World) (B N b bq bb : Nat) (kl : Lit) (o : Option ByteArray) (e : Ending) (w' : World) : Prop :=
  ∃ (k : Int) (s' : ByteArray), e = .returned (.int .i64 k) ∧ (o = some s' ∧ k = 0 ∨ o = none ∧ k ≠ 0) ∧ FQ w' B N b bq bb kl s' false ∧ (∃ q, N ≤ q ∧ Kept [bq, q] W w') ∧ NC bq W w'
theorem fdo_is (B NN b bq bb : Nat) (kl : Lit) (s : ByteArray) (e : Ev) (he : OkE e) (hs : s.size ≤ 1000000) (hkey : keyOf Try.prog 68 (fkey 0) = some kl) (w : World) (h : FQ w B NN b bq bb kl s false) (hB : B ≤ w.heap.size) (hN : NN ≤ w.heap.size) :
    Calls Try.prog 20 #[.pointer (some ⟨b, 0, none⟩), .int .i64 e.side, .agg #[.int .i64 e.kind, .int .i64 e.stream, .int .i64 e.n, .string e.body], .agg #[.int .i64 e.an, .string e.ab, .int .i64 e.err]] w (FDo w B NN b bq bb kl (stepL (some s) e)) := by
  obtain ⟨i0, side, kind, stream, n, body, an, ab, err, beg, fin⟩ := e
  obtain ⟨h1, h2, h3⟩ := he
  dsimp only at h1 h2 h3 ⊢
  subst h1 h2
  rcases h3 with ⟨rfl, rfl, N, rfl, hN0, hb⟩ | ⟨rfl, rfl, hb⟩
  · refine (fdo_write B NN b bq bb 0 n kl s body ab N (by omega) hN0 (by omega) hs hkey w h hB hN).mono ?_
    rintro e w' ⟨rfl, hF, hb, hc⟩
    exact ⟨0, _, rfl, .inl ⟨by simp [stepL], rfl⟩, hF, hb, hc⟩
  · refine (fdo_read B NN b bq bb 0 n kl s body ab false an (by omega) (by omega) hkey w h hB hN).mono ?_
    rintro e w' ⟨rfl, hF, hb, hc⟩
    refine ⟨_, _, rfl, ?_, hF, hb, hc⟩
    by_cases h0 : rdK s ab n = 0
    · exact .inl ⟨by simp [stepL, h0], h0⟩
    · exact .inr ⟨by simp [stepL, h0], h0⟩
theorem stepL_size {s s' : ByteArray} {e : Ev} (he : OkE e) (h : stepL (some s) e = some s') : s'.size ≤ s.size + 200 := by
  unfold stepL at h
  dsimp only at h
  obtain ⟨_, _, h3⟩ := he
  split at h
  · rename_i hk
    rcases h3 with ⟨_, _, N, hN, h4, h5⟩ | ⟨h4, _⟩
    · injection h with h
      rw [← h, ByteArray.size_append, hN]
      simp
      omega
    · omega
  · split at h
    · injection h with h
      rw [← h]
      unfold rdS
      split
      · simp; omega
      · omega
    · cases h
theorem FQ.grown {w w' : World} {B N b bq bb : Nat} {kl : Lit} {s : ByteArray} {c : Bool} (h : FQ w B N b bq bb kl s c) {row : Option Nat} (hg : w.grownBy w' row) (hr : ∀ r, row = some r → r ≠ bq ∧ r ≠ bb ∧ ∃ o : Obj, w.heap[r]? = some o ∧ o.isCells = false) : FQ w' B N b bq bb kl s c := by
  obtain ⟨q, t, h, hq⟩ := h
  have hk : Kept row.toList w w' := (Kept.refl _ _).grown hg (fun x hx => .inl (by rw [hx]; simp))
  have nc : ∀ (g : Nat) (cs : Array Value) (T : TypeId), Blk w g cs T → g ∉ row.toList := fun g cs T hb hm => by
    simp at hm
    obtain ⟨_, _, o, ho, hc⟩ := hr g hm
    unfold Blk at hb
    rw [hb] at ho; cases ho; cases hc
  have nm : bq ∉ row.toList := fun hm => by simp at hm; exact (hr bq hm).1 rfl
  have nb : bb ∉ row.toList := fun hm => by simp at hm; exact (hr bb hm).2.1 rfl
  exact ⟨q, t, ⟨h.blk.kept hk (nc _ _ _ h.blk), ⟨fun e => (h.qm.1 e).kept hk nm, fun e q => (h.qm.2 e q).kept hk nm⟩, h.bm.kept hk nb, fun e => (h.qb e).kept hk (nc _ _ _ (h.qb e)), h.no, h.ne, h.nq, h.B0⟩, hq⟩
theorem NC.from {bq B : Nat} {W W' : World} (h : NC bq W W') (hs : W.heap.size ≤ W'.heap.size) (hB : bq < B) : KeepsFrom B W W' := ⟨hs, fun k o hk ho hc => h k o (by omega) ho hc⟩
abbrev OEv := { e : Ev // OkE e }
def evs (l : List OEv) : List Ev := l.map (·.1)
theorem evs_snoc (l : List OEv) (e : OEv) : evs (l ++ [e]) = evs l ++ [e.1] := by simp [evs]
theorem evs_upto (A : List Nat) (E : Nat → Ev) (hE : ∀ i, OkE (E i)) (k : Nat) : evs (uptoF (fun k => (⟨E (gi A k), hE _⟩ : OEv)) k) = uptoF (fun k => E (gi A k)) k := by simp [evs, uptoF]
set_option maxRecDepth 100000 in
set_option maxHeartbeats 4000000 in
theorem legal_is (bl off n cap g oc : Nat) (A : List Nat) (E : Nat → Ev) (hE : ∀ i, OkE (E i)) (hl : A.length = n) (hm : n ≤ 20) (hn : A.Nodup) (hA : ∀ k, k < n → gi A k < n) (w : World) (hbl : bl < w.heap.size) (hes : ES w bl off n E) (hr : RowV w g n (iv A)) :
    Calls Try.prog 9 #[.slice (some ⟨bl, off, none⟩) n cap, .slice (some ⟨g, 0, none⟩) n oc] w fun e w' => e = .returned (.bool ((realF (xsOf A E)).isSome && (foldL (xsOf A E)).isSome)) ∧ Below w.heap.size w w' := by
  obtain ⟨kl, hkl⟩ := fkey0
  have HKL := Lib.hid hkl
  have HE := Lib.hid (fun w hr => each_true g oc n A hn hl (by omega) hA w hr)
  have HR : Hid (∀ w, bl < w.heap.size → ES w bl off n E → RowV w g n (iv A) → Calls Try.prog 17 #[.slice (some ⟨bl, off, none⟩) n cap, .slice (some ⟨g, 0, none⟩) n oc] w fun e w' => e = .returned (.bool (realF (xsOf A E)).isSome) ∧ Below w.heap.size w w') := Lib.hid (fun w hbl hes hr => by
    have h := real_is bl off n cap g oc A E (by omega) (by rw [hl]; exact hA) w hbl hes (by rw [hl]; exact hr)
    rw [hl] at h
    exact h)
  have HES := Lib.hid hes
  have HRV := Lib.hid hr
  have HL := Lib.hid hl
  have HA := Lib.hid hA
  have hgl := hr.1
  clear hkl hes hr hl hn hA
  refine (callsIn_wide (n := 6)).1 ?_
  have h1 : 1 ≤ 6 := by omega
  refine callsIn_of_wp_marks Try.func9 rfl trivial ?_ rfl
  simp only [Try.ntmps9, List.size_toArray, List.length_cons, List.length_nil, Nat.reduceAdd, Nat.reduceSub, Array.replicate_succ, Array.replicate_zero, List.push_toArray, List.append_toArray, List.nil_append, List.cons_append]
  gi_wp2_with fail
  refine ⟨trivial, ?_⟩
  have hb1 : Grow w (w.alloc (.cells #[.bool false] 4)) := (Grow.rfl' w).alloc _
  refine (callsIn_wide.2 (HE.out _ (HRV.out.kept (Kept.of_below hb1 []) (by simp)))).mono ?_
  rintro e w2 ⟨rfl, hb2⟩
  have bR2 := (Blk.new w #[.bool false] 4).below hb2 (by simp)
  have hB2 := hb1.next hb2
  have HB2 := Lib.hid hB2
  have BR2 := Lib.hid bR2
  clear hb1 hb2 hB2 bR2 HE
  gi_wp2_with fail
  refine ⟨trivial, ?_⟩
  refine (callsIn_wide.2 (HR.out w2 (Nat.lt_of_lt_of_le hbl HB2.out.size) (HES.out.below HB2.out) (HRV.out.kept (Kept.of_below HB2.out []) (by simp)))).mono ?_
  rintro e w3 ⟨rfl, hb3⟩
  have HB3 := Lib.hid (HB2.out.next hb3)
  have BR3 := Lib.hid (BR2.out.below hb3 BR2.out.lt)
  have hrl3 := BR3.out.lt
  clear hb3 HB2 BR2 HR
  have cR : w3.cell? ⟨w.heap.size, 0, none⟩ = some (.bool false) := BR3.out.cell 0
  have fR := BR3.out.free 0
  cases hrf : realF (xsOf A E) with
  | none =>
    simp only [Option.isSome_none]
    have HRF := Lib.hid hrf
    clear hrf
    gi_wp2_with fail
    refine ⟨.bool false, ?_, by rw [HRF.out]; rfl, HB3.out.setCell (p := ⟨w.heap.size, 0, none⟩) (Nat.le_refl _) _⟩
    have hc5 := World.cell?_setCell_same' w3 ⟨w.heap.size, 0, none⟩ (.bool false) (by rw [cR]; rfl)
    simp [results, Try.f9, go_sem, hc5]
  | some rs =>
    simp only [Option.isSome_some]
    have HRF := Lib.hid hrf
    clear hrf
    gi_wp2_with fail
    refine ⟨trivial, ?_⟩
    refine (callsIn_wide.2 (fnew kl _)).mono ?_
    rintro e w4 ⟨b, bq, bb, rfl, hN, hB4⟩
    have hF4 := FQ.new hN (w4.heap.size + 3)
    have hlt4 := hN.lt
    have hB0 := hN.B0
    clear hN cR fR
    have hs34 := hB4.size
    have bR4 := (BR3.out.below hB4 hrl3)
    have hBw4 := HB3.out.next hB4
    have hw34 := HB3.out.size
    gi_wp2_with fail
    refine ⟨trivial, ?_⟩
    refine (callsIn_wide.2 (along_is _ _ _ _ _ _ _)).mono ?_
    rintro e w5 ⟨rfl, rfl⟩
    gi_wp2_with fail
    have kA : Kept [] w4 (((w4.alloc (.cells #[.pointer (some ⟨b, 0, none⟩)] 43)).alloc (.cells #[.slice (some ⟨bl, off, none⟩) n cap] 22)).alloc (.cells #[.slice (some ⟨g, 0, none⟩) n oc] 25)) := (((Kept.refl [] w4).alloc _).alloc _).alloc _
    have bR := bR4.kept kA (by simp)
    have bM := ((Blk.new w4 #[.pointer (some ⟨b, 0, none⟩)] 43).alloc (.cells #[.slice (some ⟨bl, off, none⟩) n cap] 22)).alloc (.cells #[.slice (some ⟨g, 0, none⟩) n oc] 25)
    have bL := (Blk.new (w4.alloc (.cells #[.pointer (some ⟨b, 0, none⟩)] 43)) #[.slice (some ⟨bl, off, none⟩) n cap] 22).alloc (.cells #[.slice (some ⟨g, 0, none⟩) n oc] 25)
    have bO := Blk.new ((w4.alloc (.cells #[.pointer (some ⟨b, 0, none⟩)] 43)).alloc (.cells #[.slice (some ⟨bl, off, none⟩) n cap] 22)) #[.slice (some ⟨g, 0, none⟩) n oc] 25
    have hF := hF4.kept kA
    have hBw : Below w.heap.size w _ := hBw4.trans (kA.below (B := w.heap.size) (by omega) (by simp))
    have hsz : (((w4.alloc (.cells #[.pointer (some ⟨b, 0, none⟩)] 43)).alloc (.cells #[.slice (some ⟨bl, off, none⟩) n cap] 22)).alloc (.cells #[.slice (some ⟨g, 0, none⟩) n oc] 25)).heap.size = w4.heap.size + 3 := by simp
    simp only [World.size_alloc] at bM bL bO
    clear kA hF4 bR4 hBw4 hB4 HB3 BR3
    generalize (((w4.alloc (.cells #[.pointer (some ⟨b, 0, none⟩)] 43)).alloc (.cells #[.slice (some ⟨bl, off, none⟩) n cap] 22)).alloc (.cells #[.slice (some ⟨g, 0, none⟩) n oc] 25)) = W0 at *
    generalize hW4 : w4.heap.size = z at *
    clear hW4
    have hStops := along_stops (fun e : OEv => #[.agg (evV e.1)]) (fun k => (⟨E (gi A k), hE _⟩ : OEv)) Fence.wide 5 trivial rfl (by omega) (z + 1 + 1) (z + 1) (z + 3) bl off n cap g oc A E (by have := HL.out; omega) (fun k hk => rfl) W0 (by omega) (by omega) (by omega) (by omega) [bq] (by simp; omega) (by simp; omega) (by simp; omega) (by simp; omega) (by omega) (by rw [HL.out]; exact HA.out) (by rw [HL.out]; exact bO.one) bL.one (by rw [HL.out]; exact HRV.out.kept (Kept.of_below hBw []) (by simp)) (HES.out.below hBw)
    refine wpIn_rangeFunc_ownH rfl h1 (gf := 23) (lb := #[.pointer (some ⟨z + 1 + 1, 0, none⟩), .pointer (some ⟨z + 1, 0, none⟩)]) rfl trivial (enters_of Try.func23 (by kernel_rfl) rfl) hStops
      KpE.trans (KpE.put (by omega)) (Below.refl _ _) (fun _ => rfl)
      (fun pre W => ∃ s, foldL (evs pre) = some s ∧ s.size ≤ 200 * pre.length ∧ FQ W w3.heap.size (z + 3) b bq bb kl s false ∧ (Boxed W w.heap.size 4 (.bool false) ∧ Boxed W z 43 (.pointer (some ⟨b, 0, none⟩))) ∧ Below w.heap.size w W ∧ z + 3 ≤ W.heap.size)
      (fun c pre W => c = .ret ∧ foldL (evs pre) = none ∧ Boxed W w.heap.size 4 (.bool false) ∧ Below w.heap.size w W)
      (fun s A B row hs hg hr => by
        obtain ⟨x, h1, h2, h3, ⟨h4, h5⟩, h6, h7⟩ := hs
        exact ⟨x, h1, h2, h3.grown hg (fun r e => by have := (hr r e).1; exact ⟨by omega, by omega, (hr r e).2⟩), ⟨boxed_own w.heap.size 4 (fun (_ : Unit) => Value.bool false) () A B row h4 hg (fun r e => (hr r e).2), boxed_own z 43 (fun (_ : Unit) => Value.pointer (some ⟨b, 0, none⟩)) () A B row h5 hg (fun r e => (hr r e).2)⟩, h6.grown hg h6.size (fun k e => by have := (hr k e).1; omega), Nat.le_trans h7 hg.size⟩)
      (fun c s A B row hs hg hr => by
        obtain ⟨h1, h2, h3, h4⟩ := hs
        exact ⟨h1, h2, boxed_own w.heap.size 4 (fun (_ : Unit) => Value.bool false) () A B row h3 hg (fun r e => (hr r e).2), h4.grown hg h4.size (fun k e => by have := (hr k e).1; omega)⟩)
      ⟨_, rfl, (by exact Nat.le_refl 0), hF, ⟨bR, bM⟩, hBw, by omega⟩
      (fun x a' W => ∃ Bx, z + 3 ≤ Bx ∧ Blk W Bx (evV x.1) 34 ∧ a' = { tmps := #[.slice (some ⟨bl, off, none⟩) n cap, .slice (some ⟨g, 0, none⟩) n oc, undef, undef, .pointer (some ⟨w.heap.size, 0, none⟩), .pointer (some ⟨z, 0, none⟩), .pointer (some ⟨Bx, 0, none⟩), .slice (some ⟨g, 0, none⟩) n oc, .slice (some ⟨bl, off, none⟩) n cap, .int .i64 (n : Int), .bool true, .bool false, .bool false, .slice (some ⟨bl, off, none⟩) n cap, .slice (some ⟨g, 0, none⟩) n oc, .bool true, .bool false, .bool false, .pointer (some ⟨b, 0, none⟩), .slice (some ⟨bl, off, none⟩) n cap, .slice (some ⟨g, 0, none⟩) n oc, .func (.func 23) #[] #[.pointer (some ⟨z + 1 + 1, 0, none⟩), .pointer (some ⟨z + 1, 0, none⟩)], .agg (evV x.1), undef, undef, undef, undef, undef, undef, undef, undef, undef], defers := [] })
      (fun x a' _ X Y row hs hg hr => by
        obtain ⟨Bx, h1, h2, h3⟩ := hs
        exact ⟨Bx, h1, h2.grown hg (fun e => by obtain ⟨_, o, ho, hc⟩ := hr Bx e.symm; unfold Blk at h2; rw [h2] at ho; cases ho; cases hc), h3⟩)
      ?assign ?body ?done ?stop
    case assign =>
      rintro l pre x W K ⟨s, hs, hs2, hF1, ⟨bS1, bM1⟩, hB1, h4⟩ hK
      unfold evV
      gi_wp2
      exact hK _ _ ((KeepsOthers.alloc _ _).from _) (KpE.of_kept ((Kept.refl [] W).alloc _) (by simp) h4) ⟨s, hs, hs2, hF1.kept ((Kept.refl [] W).alloc _), ⟨bS1.alloc _, bM1.alloc _⟩, hB1.alloc hB1.size _, by simp; omega⟩ ⟨W.heap.size, h4, Blk.new W _ _, rfl⟩
    case body =>
      rintro l pre x a' W hl ⟨r, hr⟩ ⟨s, hs, hs2, hF1, ⟨bS1, bM1⟩, hB1, h4⟩ ⟨Bx, hBx, bX, rfl⟩ hlt
      obtain ⟨x, hx⟩ := x
      have HDO := Lib.hid (fdo_is w3.heap.size (z + 3) b bq bb kl s x hx (by have := HL.out; omega) HKL.out W hF1 (by omega) h4)
      have HSN : Hid (foldL (evs (pre ++ [⟨x, hx⟩])) = stepL (some s) x) := Lib.hid (by rw [evs_snoc, foldL_snoc, hs])
      have HSZ : Hid (∀ s', stepL (some s) x = some s' → s'.size ≤ 200 * (pre ++ [(⟨x, hx⟩ : OEv)]).length) := Lib.hid (fun s' h => by have := stepL_size hx h; simp; omega)
      have BS := Lib.hid bS1
      have BM := Lib.hid bM1
      have HB1 := Lib.hid hB1
      have cM := bM1.cell
      have cR := bS1.cell
      have e : ∀ j, W.cell? ⟨Bx, j, none⟩ = (evV x)[j]? := fun j => bX.cell j
      have c1 : W.cell? ⟨Bx, 1, none⟩ = some (.int .i64 x.side) := e 1
      have c2 : W.cell? ⟨Bx, 2, none⟩ = some (.int .i64 x.kind) := e 2
      have c3 : W.cell? ⟨Bx, 2 + 1, none⟩ = some (.int .i64 x.stream) := e 3
      have c4 : W.cell? ⟨Bx, 2 + 2, none⟩ = some (.int .i64 x.n) := e 4
      have c5 : W.cell? ⟨Bx, 2 + 3, none⟩ = some (.string x.body) := e 5
      have c6 : W.cell? ⟨Bx, 6, none⟩ = some (.int .i64 x.an) := e 6
      have c7 : W.cell? ⟨Bx, 6 + 1, none⟩ = some (.string x.ab) := e 7
      have c8 : W.cell? ⟨Bx, 6 + 2, none⟩ = some (.int .i64 x.err) := e 8
      clear e bX bS1 bM1 hB1 hs hs2 hF1 hStops
      gi_wp2_with fail
      refine ⟨trivial, ?_⟩
      refine (CallsIn.inRound l (callsIn_wide.2 HDO.out)).mono ?_
      rintro e w6 ⟨k, s', rfl, hcase, hF6, ⟨q, hq, hk⟩, hnc⟩
      have HKF : Hid (KeepsFrom W0.heap.size W w6) := Lib.hid (hnc.from hk.size (by omega))
      have HKP : Hid (KpE (z + 3) [bq] W w6) := Lib.hid ⟨hk.size, fun i hi hm => hk.block i (by omega) (by simp at hm ⊢; omega)⟩
      have HBW : Hid (Below w.heap.size w w6) := Lib.hid (HB1.out.trans (hk.below HB1.out.size (fun y hy => by simp at hy; omega)))
      have HBS : Hid (Boxed w6 w.heap.size 4 (.bool false)) := Lib.hid (Blk.kept BS.out hk (by simp; omega))
      have HBM : Hid (Boxed w6 z 43 (.pointer (some ⟨b, 0, none⟩))) := Lib.hid (Blk.kept BM.out hk (by simp; omega))
      have HF6 := Lib.hid hF6
      have hsz6 : z + 3 ≤ w6.heap.size := Nat.le_trans h4 hk.size
      have cR6 := HBS.out.cell
      have fR6 := HBS.out.frozen
      clear hF6 hk hnc HDO cM cR c1 c2 c3 c4 c5 c6 c7 c8
      rcases hcase with ⟨hst, rfl⟩ | ⟨hst, hk0⟩
      · have HST := Lib.hid hst
        clear hst
        gi_wp2_with fail
        exact ⟨HKF.out, HKP.out, s', by rw [HSN.out, HST.out], HSZ.out s' HST.out, HF6.out, ⟨HBS.out, HBM.out⟩, HBW.out, hsz6⟩
      · have HST := Lib.hid hst
        have hkb : (k != 0) = true := by simpa using hk0
        clear hst hk0
        gi_wp2_with fail
        refine ⟨HKF.out.trans ((KeepsOthers.setCell _ _ _).from _), rfl, by rw [HSN.out, HST.out], HBS.out.set _, HBW.out.setCell (p := ⟨w.heap.size, 0, none⟩) (Nat.le_refl _) _⟩
    case done =>
      rintro D zs W hD rfl ⟨s, hs, hs2, hF1, ⟨bS1, bM1⟩, hB1, h4⟩ hK
      have cR := bS1.cell
      have fR := bS1.frozen
      rw [evs_upto, uptoF_all] at hs
      have HS := Lib.hid hs
      clear hs hStops
      gi_wp2
      have hK' := (KeepsOthers.setCell W ⟨w.heap.size, 0, none⟩ (.bool true)).same D _ hK rfl
      refine ⟨by simp, .inl ⟨_, _, rfl, run_takeDeferred hK', ?_⟩⟩
      have hc5 := cell_kept (World.cell?_setCell_same' W ⟨w.heap.size, 0, none⟩ (.bool true) (by rw [cR]; rfl)) (grownBy_putObj' _ D (.deferred none)) (fun r e => by cases e; exact ⟨_, hK', rfl⟩)
      refine ⟨.bool true, ?_, by rw [HS.out, HRF.out]; rfl, (hB1.setCell (p := ⟨w.heap.size, 0, none⟩) (Nat.le_refl _) _).trans (belowK_b (w := w) (Nat.le_refl _) _ D _ _ (by omega) hK' rfl rfl)⟩
      simp [results, Try.f9, go_sem, hc5]
    case stop =>
      rintro D c pre W hD ⟨k, hk, rfl⟩ ⟨rfl, hs, bS1, hB1⟩ hK
      have cR := bS1.cell
      have fR := bS1.frozen
      rw [evs_upto] at hs
      have hs2 := foldL_pre (uptoF_pre _ _ _ hk) hs
      rw [uptoF_all] at hs2
      have HS := Lib.hid hs2
      clear hs hs2 hStops
      gi_wp2
      refine ⟨by simp, .inl ⟨_, _, rfl, run_takeDeferred hK, ?_⟩⟩
      have hc5 := cell_kept cR (grownBy_putObj' _ D (.deferred none)) (fun r e => by cases e; exact ⟨_, hK, rfl⟩)
      refine ⟨.bool false, ?_, by rw [HS.out, HRF.out]; rfl, hB1.trans (belowK_b (w := w) (Nat.le_refl _) W D _ _ (by omega) hK rfl rfl)⟩
      simp [results, Try.f9, go_sem, hc5]
end Go.Proofs.Ytpefcmmfocamdaa
