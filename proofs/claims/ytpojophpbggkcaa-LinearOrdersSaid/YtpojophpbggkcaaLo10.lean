/- linear.Legal, at any order. -/
import Derived.Test.YtpojophpbggkcaaLo9
import Derived.Test.YtpojophpbggkcaaGf5
namespace Go.Proofs.Ytpojophpbggkcaa
open Go.ChangeShapes Go.WideShapes Go.ChangeAt Go.RowKit Go.Shelf
set_option linter.unusedVariables false
attribute [local go_sem] Oper.semAt_some

/-- one more call: what a model has then; none: it has an error -/
def stepM (o : Option Mq) (e : Ev) : Option Mq := match o with
  | none => none
  | some m => if (doM m e).1 = 0 then some (doM m e).2 else none
def foldM (l : List Ev) : Option Mq := l.foldl stepM (some mq0)
theorem foldM_snoc (l : List Ev) (e : Ev) : foldM (l ++ [e]) = stepM (foldM l) e := by simp [foldM]
theorem foldM_pre {l m : List Ev} (h : l <+: m) (h0 : foldM l = none) : foldM m = none := by
  obtain ⟨t, rfl⟩ := h
  have hn : ∀ t : List Ev, t.foldl stepM none = none := by
    intro t
    induction t with
    | nil => rfl
    | cons x t ih => exact ih
  unfold foldM at h0 ⊢
  rw [List.foldl_append, h0, hn]
def ShortE (e : Ev) : Prop := e.body.size ≤ 200 ∧ e.ab.size ≤ 200
def Small (m : Mq) (k : Nat) : Prop := ∀ a s, (m.q a s).1.size ≤ k
theorem small_put {m : Mq} {k : Nat} (h : Small m k) (a s : Nat) (v : ByteArray × Bool) (hv : v.1.size ≤ k) : Small (m.put a s v) k := by
  intro b t
  simp only [Mq.put]
  split
  · exact hv
  · exact h b t
theorem Small.mono {m : Mq} {k k' : Nat} (h : Small m k) (hk : k ≤ k') : Small m k' := fun a s => Nat.le_trans (h a s) hk
theorem doM_small {m : Mq} {e : Ev} {k : Nat} (h : Small m k) (he : ShortE e) : Small (doM m e).2 (k + 200) := by
  have h0 : Small m (k + 200) := h.mono (by omega)
  unfold doM
  split
  · exact h0
  · split
    · dsimp only
      split
      · exact small_put h0 _ _ _ (h0 _ _)
      · exact h0
    · split
      · exact h0
      · split
        · refine small_put h0 _ _ _ ?_
          unfold wrS
          split
          · have := h e.side.toNat e.stream.toNat
            have := he.1
            dsimp only
            rw [ByteArray.size_append]
            simp
            omega
          · exact h0 _ _
        · split
          · split
            · exact h0
            · refine small_put h0 _ _ _ ?_
              dsimp only
              unfold rdS
              split
              · have := h0 (1 - e.side.toNat) e.stream.toNat
                simp; omega
              · exact h0 _ _
          · split
            · exact h0
            · exact h0
theorem FG.grown {w w' : World} {B N b bq bb c : Nat} {el : Nat → Nat → Option Nat} {m : Mq} (h : FG w B N b bq bb c el m) {row : Option Nat} (hg : w.grownBy w' row) (hr : ∀ r, row = some r → r ≠ bq ∧ r ≠ bb ∧ ∃ o : Obj, w.heap[r]? = some o ∧ o.isCells = false) : FG w' B N b bq bb c el m := by
  have hk : Kept row.toList w w' := (Kept.refl _ _).grown hg (fun x hx => .inl (by rw [hx]; simp))
  have nc : ∀ (g : Nat) (cs : Array Value) (T : TypeId), Blk w g cs T → g ∉ row.toList := fun g cs T hb hm => by
    simp at hm
    obtain ⟨_, _, o, ho, hc⟩ := hr g hm
    unfold Blk at hb
    rw [hb] at ho; cases ho; cases hc
  have nm : bq ∉ row.toList := fun hm => by simp at hm; exact (hr bq hm).1 rfl
  have nb : bb ∉ row.toList := fun hm => by simp at hm; exact (hr bb hm).2.1 rfl
  exact ⟨h.blk.kept hk (nc _ _ _ h.blk), h.qm.kept hk nm, h.bm.kept hk nb, fun a s q ha hs e => (h.qs a s q ha hs e).kept hk (nc _ _ _ (h.qs a s q ha hs e)), h.no, h.inj, h.ne, h.nq, h.B0⟩
theorem NC2.from {bq bb B : Nat} {W W' : World} (h : NC2 bq bb W W') (hs : W.heap.size ≤ W'.heap.size) (hB : bq < B ∧ bb < B) : KeepsFrom B W W' := ⟨hs, fun k o hk ho hc => h k o (by omega) (by omega) ho hc⟩
abbrev OEv := { e : Ev // ShortE e }
def evs (l : List OEv) : List Ev := l.map (·.1)
theorem evs_snoc (l : List OEv) (e : OEv) : evs (l ++ [e]) = evs l ++ [e.1] := by simp [evs]
def natO (O : Nat → Int) (k : Nat) : Nat := (O k).toNat
theorem evs_upto (A : Nat → Nat) (E : Nat → Ev) (hE : ∀ i, ShortE (E i)) (k : Nat) : evs (uptoF (fun k => (⟨E (A k), hE _⟩ : OEv)) k) = uptoF (fun k => E (A k)) k := by simp [evs, uptoF]
/-- may all be, in this order -/
def LegalP (n m : Nat) (E : Nat → Ev) (O : Nat → Int) : Prop := EachP n m O ∧ RealP (xsA m (natO O) E) ∧ (foldM (xsA m (natO O) E)).isSome = true
theorem OI.os {w : World} {po : Option Addr} {g oo m n : Nat} {O : Nat → Int} (h : OI w po g oo m O) (he : EachTo n m O) : OS w po g oo m (natO O) :=
  ⟨h.ptr, h.lt, fun j hj => by rw [h.at_ j hj]; unfold natO; have := (he j hj).1; congr 2; omega⟩
theorem natO_lt {n m : Nat} {O : Nat → Int} (he : EachTo n m O) (k : Nat) (hk : k < m) : natO O k < n := by unfold natO; have := he k hk; omega
set_option maxRecDepth 100000 in
set_option maxHeartbeats 4000000 in
theorem legal_is (p po : Option Addr) (bl off n cap g oo m oc : Nat) (O : Nat → Int) (E : Nat → Ev) (hE : ∀ i, ShortE (E i)) (hF : FitE E n) (hm : m ≤ 1000) (hn : n ≤ 20) (hp : 0 < n → p = some ⟨bl, off, none⟩) (w : World) (hes : ES w bl off n E) (hr : OI w po g oo m O) :
    Calls Try.prog 9 #[.slice p n cap, .slice po m oc] w (ISays w (LegalP n m E O)) := by
  have HE := Lib.hid (fun w hr => each_is po g oo m oc n O hm (by omega) w hr)
  have HES := Lib.hid hes
  have HRV := Lib.hid hr
  have HP := Lib.hid hp
  have HFT := Lib.hid hF
  have hgl := hr.lt
  have hbl := hes.lt
  clear hes hr hp hF
  refine (callsIn_wide (n := 6)).1 ?_
  have h1 : 1 ≤ 6 := by omega
  refine callsIn_of_wp_marks Try.func9 rfl trivial ?_ rfl
  simp only [Try.ntmps9, List.size_toArray, List.length_cons, List.length_nil, Nat.reduceAdd, Nat.reduceSub, Array.replicate_succ, Array.replicate_zero, List.push_toArray, List.append_toArray, List.nil_append, List.cons_append]
  gi_wp2_with fail
  refine ⟨trivial, ?_⟩
  have hb1 : Grow w (w.alloc (.cells #[.bool false] 4)) := (Grow.rfl' w).alloc _
  refine (callsIn_wide.2 (HE.out _ (HRV.out.below hb1))).mono ?_
  rintro e w2 ⟨re, rfl, hre, hb2⟩
  have bR2 := (Blk.new w #[.bool false] 4).below hb2 (by simp)
  have hB2 := hb1.next hb2
  have HB2 := Lib.hid hB2
  have BR2 := Lib.hid bR2
  have HRE := Lib.hid hre
  clear hb1 hb2 hB2 bR2 HE hre
  cases re with
  | false =>
  have HX : Hid (IsR false (LegalP n m E O)) := Lib.hid (by have h := HRE.out; unfold IsR LegalP at *; simp only [Bool.false_eq_true, false_iff] at h ⊢; exact fun k => h k.1)
  have cR : w2.cell? ⟨w.heap.size, 0, none⟩ = some (.bool false) := BR2.out.cell 0
  have fR := BR2.out.free 0
  gi_wp2_with fail
  refine ⟨trivial, ?_⟩
  gi_wp2_with fail
  refine ⟨.bool false, ?_, ⟨false, rfl, HX.out, HB2.out.setCell (p := ⟨w.heap.size, 0, none⟩) (Nat.le_refl _) _⟩⟩
  have hc5 := World.cell?_setCell_same' w2 ⟨w.heap.size, 0, none⟩ (.bool false) (by rw [cR]; rfl)
  simp [results, Try.f9, go_sem, hc5]
  | true =>
  have HET : Hid (EachP n m O) := Lib.hid (HRE.out.1 rfl)
  have HR := Lib.hid (fun w hes hr => real_is p po bl off n cap g oo m oc (natO O) E (by omega) (natO_lt HET.out.2) HP.out w hes hr)
  have HRI := Lib.hid (realF_iff n m (natO O) E HFT.out (natO_lt HET.out.2))
  gi_wp2_with fail
  refine ⟨trivial, ?_⟩
  refine (callsIn_wide.2 (HR.out w2 (HES.out.below HB2.out) ((HRV.out.below HB2.out).os HET.out.2))).mono ?_
  rintro e w3 ⟨rfl, hb3⟩
  have HB3 := Lib.hid (HB2.out.next hb3)
  have BR3 := Lib.hid (BR2.out.below hb3 BR2.out.lt)
  have hrl3 := BR3.out.lt
  clear hb3 HB2 BR2 HR
  have cR : w3.cell? ⟨w.heap.size, 0, none⟩ = some (.bool false) := BR3.out.cell 0
  have fR := BR3.out.free 0
  cases hrf : realF (xsA m (natO O) E) with
  | none =>
    simp only [Option.isSome_none]
    have HRF := Lib.hid hrf
    clear hrf
    gi_wp2_with fail
    have HX : Hid (IsR false (LegalP n m E O)) := Lib.hid (by
      have h := HRI.out
      rw [HRF.out] at h
      unfold IsR LegalP
      simp only [Option.isSome_none, Bool.false_eq_true, false_iff] at h ⊢
      exact fun k => h k.2.1)
    refine ⟨.bool false, ?_, ⟨false, rfl, HX.out, HB3.out.setCell (p := ⟨w.heap.size, 0, none⟩) (Nat.le_refl _) _⟩⟩
    have hc5 := World.cell?_setCell_same' w3 ⟨w.heap.size, 0, none⟩ (.bool false) (by rw [cR]; rfl)
    simp [results, Try.f9, go_sem, hc5]
  | some rs =>
    simp only [Option.isSome_some]
    have HRF := Lib.hid hrf
    clear hrf
    gi_wp2_with fail
    refine ⟨trivial, ?_⟩
    refine (callsIn_wide.2 (gnew _)).mono ?_
    rintro e w4 ⟨b, bq, bb, rfl, hN, hB4⟩
    have hF4 := hN (w4.heap.size + 3)
    have hlt4 := (hN 0).lt
    have hB0 := (hN 0).B0
    clear hN cR fR
    have hs34 := hB4.size
    have bR4 := (BR3.out.below hB4 hrl3)
    have hBw4 := HB3.out.next hB4
    have hw34 := HB3.out.size
    gi_wp2_with fail
    refine ⟨trivial, ?_⟩
    refine (callsIn_wide.2 (along_is _ _ _ _ _ _ _)).mono ?_
    rintro e w5 ⟨rfl, rfl⟩
    gi_wp2_with fail
    have kA : Kept [] w4 (((w4.alloc (.cells #[.pointer (some ⟨b, 0, none⟩)] 47)).alloc (.cells #[.slice p n cap] 22)).alloc (.cells #[.slice po m oc] 23)) := (((Kept.refl [] w4).alloc _).alloc _).alloc _
    have bR := bR4.kept kA (by simp)
    have bM := ((Blk.new w4 #[.pointer (some ⟨b, 0, none⟩)] 47).alloc (.cells #[.slice p n cap] 22)).alloc (.cells #[.slice po m oc] 23)
    have bL := (Blk.new (w4.alloc (.cells #[.pointer (some ⟨b, 0, none⟩)] 47)) #[.slice p n cap] 22).alloc (.cells #[.slice po m oc] 23)
    have bO := Blk.new ((w4.alloc (.cells #[.pointer (some ⟨b, 0, none⟩)] 47)).alloc (.cells #[.slice p n cap] 22)) #[.slice po m oc] 23
    have hF := hF4.kept kA
    have hBw : Below w.heap.size w _ := hBw4.trans (kA.below (B := w.heap.size) (by omega) (by simp))
    have hsz : (((w4.alloc (.cells #[.pointer (some ⟨b, 0, none⟩)] 47)).alloc (.cells #[.slice p n cap] 22)).alloc (.cells #[.slice po m oc] 23)).heap.size = w4.heap.size + 3 := by simp
    simp only [World.size_alloc] at bM bL bO
    clear kA hF4 bR4 hBw4 hB4 HB3 BR3
    generalize (((w4.alloc (.cells #[.pointer (some ⟨b, 0, none⟩)] 47)).alloc (.cells #[.slice p n cap] 22)).alloc (.cells #[.slice po m oc] 23)) = W0 at *
    generalize hW4 : w4.heap.size = z at *
    clear hW4
    have hStops := along_stops (fun e : OEv => #[.agg (evV e.1)]) (fun k => (⟨E (natO O k), hE _⟩ : OEv)) Fence.wide 5 trivial rfl (by omega) (z + 1 + 1) (z + 1) (z + 3) bl off n cap g oo m oc p po HP.out (natO O) E (by omega) (fun k hk => rfl) W0 (fun h => by have := hbl (by have := natO_lt HET.out.2 0 h; omega); omega) (fun h => by have := hgl h; omega) (by omega) (by omega) [bq, bb] (fun h => by have := hbl (by have := natO_lt HET.out.2 0 h; omega); simp; omega) (fun h => by have := hgl h; simp; omega) (by simp; omega) (by simp; omega) (by omega) (natO_lt HET.out.2) bO.one bL.one ((HRV.out.below hBw).os HET.out.2) (HES.out.below hBw)
    refine wpIn_rangeFunc_ownH rfl h1 (gf := 30) (lb := #[.pointer (some ⟨z + 1 + 1, 0, none⟩), .pointer (some ⟨z + 1, 0, none⟩)]) rfl trivial (enters_of Try.func30 (by kernel_rfl) rfl) hStops
      KpE.trans (KpE.put (by omega)) (Below.refl _ _) (fun _ => rfl)
      (fun pre W => ∃ s, foldM (evs pre) = some s ∧ Small s (200 * pre.length) ∧ (∃ el, FG W w3.heap.size (z + 3) b bq bb pre.length el s) ∧ (Boxed W w.heap.size 4 (.bool false) ∧ Boxed W z 47 (.pointer (some ⟨b, 0, none⟩))) ∧ Below w.heap.size w W ∧ z + 3 ≤ W.heap.size)
      (fun c pre W => c = .ret ∧ foldM (evs pre) = none ∧ Boxed W w.heap.size 4 (.bool false) ∧ Below w.heap.size w W)
      (fun s A B row hs hg hr => by
        obtain ⟨x, h1, h2, ⟨el, h3⟩, ⟨h4, h5⟩, h6, h7⟩ := hs
        exact ⟨x, h1, h2, ⟨el, h3.grown hg (fun r e => by have := (hr r e).1; exact ⟨by omega, by omega, (hr r e).2⟩)⟩, ⟨boxed_own w.heap.size 4 (fun (_ : Unit) => Value.bool false) () A B row h4 hg (fun r e => (hr r e).2), boxed_own z 47 (fun (_ : Unit) => Value.pointer (some ⟨b, 0, none⟩)) () A B row h5 hg (fun r e => (hr r e).2)⟩, h6.grown hg h6.size (fun k e => by have := (hr k e).1; omega), Nat.le_trans h7 hg.size⟩)
      (fun c s A B row hs hg hr => by
        obtain ⟨h1, h2, h3, h4⟩ := hs
        exact ⟨h1, h2, boxed_own w.heap.size 4 (fun (_ : Unit) => Value.bool false) () A B row h3 hg (fun r e => (hr r e).2), h4.grown hg h4.size (fun k e => by have := (hr k e).1; omega)⟩)
      ⟨_, rfl, (fun a s => Nat.le_refl 0), ⟨_, hF⟩, ⟨bR, bM⟩, hBw, by omega⟩
      (fun x a' W => ∃ Bx, z + 3 ≤ Bx ∧ Blk W Bx (evV x.1) 40 ∧ a' = { tmps := #[.slice p n cap, .slice po m oc, undef, undef, .pointer (some ⟨w.heap.size, 0, none⟩), .pointer (some ⟨z, 0, none⟩), .pointer (some ⟨Bx, 0, none⟩), .slice po m oc, .slice p n cap, .int .i64 (n : Int), .bool true, .bool false, .bool false, .slice p n cap, .slice po m oc, .bool true, .bool false, .bool false, .pointer (some ⟨b, 0, none⟩), .slice p n cap, .slice po m oc, .func (.func 30) #[] #[.pointer (some ⟨z + 1 + 1, 0, none⟩), .pointer (some ⟨z + 1, 0, none⟩)], .agg (evV x.1), undef, undef, undef, undef, undef, undef, undef, undef, undef], defers := [] })
      (fun x a' _ X Y row hs hg hr => by
        obtain ⟨Bx, h1, h2, h3⟩ := hs
        exact ⟨Bx, h1, h2.grown hg (fun e => by obtain ⟨_, o, ho, hc⟩ := hr Bx e.symm; unfold Blk at h2; rw [h2] at ho; cases ho; cases hc), h3⟩)
      ?assign ?body ?done ?stop
    case assign =>
      rintro l pre x W K ⟨s, hs, hs2, ⟨el, hF1⟩, ⟨bS1, bM1⟩, hB1, h4⟩ hK
      unfold evV
      gi_wp2
      exact hK _ _ ((KeepsOthers.alloc _ _).from _) (KpE.of_kept ((Kept.refl [] W).alloc _) (by simp) h4) ⟨s, hs, hs2, ⟨el, hF1.kept ((Kept.refl [] W).alloc _)⟩, ⟨bS1.alloc _, bM1.alloc _⟩, hB1.alloc hB1.size _, by simp; omega⟩ ⟨W.heap.size, h4, Blk.new W _ _, rfl⟩
    case body =>
      rintro l pre x a' W hl ⟨r, hr⟩ ⟨s, hs, hs2, ⟨el, hF1⟩, ⟨bS1, bM1⟩, hB1, h4⟩ ⟨Bx, hBx, bX, rfl⟩ hlt
      obtain ⟨x, hx⟩ := x
      have HDO := Lib.hid (gdo_is w3.heap.size (z + 3) b bq bb pre.length el s x (by omega) (by have := hx.1; omega) (by have := hx.2; omega) (fun a s' => by have := hs2 a s'; omega) W hF1 h4)
      have HSN : Hid (foldM (evs (pre ++ [⟨x, hx⟩])) = stepM (some s) x) := Lib.hid (by rw [evs_snoc, foldM_snoc, hs])
      have HSZ : Hid (Small (doM s x).2 (200 * (pre ++ [(⟨x, hx⟩ : OEv)]).length)) := Lib.hid ((doM_small hs2 hx).mono (by simp; omega))
      have BS := Lib.hid bS1
      have BM := Lib.hid bM1
      have HB1 := Lib.hid hB1
      have cM := bM1.cell
      have cR := bS1.cell
      have e : ∀ j, W.cell? ⟨Bx, j, none⟩ = (evV x)[j]? := fun j => bX.cell j
      have c1 : W.cell? ⟨Bx, 1, none⟩ = some (.int .i64 x.side) := e 1
      have c2 : W.cell? ⟨Bx, 2, none⟩ = some (.int .i64 x.kind) := e 2
      have c3 : W.cell? ⟨Bx, 2 + 1, none⟩ = some (.int .i64 x.stream) := e 3
      have c4 : W.cell? ⟨Bx, 2 + 2, none⟩ = some (.int .i64 x.n) := e 4
      have c5 : W.cell? ⟨Bx, 2 + 3, none⟩ = some (.string x.body) := e 5
      have c6 : W.cell? ⟨Bx, 6, none⟩ = some (.int .i64 x.an) := e 6
      have c7 : W.cell? ⟨Bx, 6 + 1, none⟩ = some (.string x.ab) := e 7
      have c8 : W.cell? ⟨Bx, 6 + 2, none⟩ = some (.int .i64 x.err) := e 8
      clear e bX bS1 bM1 hB1 hs hs2 hF1 hStops
      gi_wp2_with fail
      refine ⟨trivial, ?_⟩
      refine (CallsIn.inRound l (callsIn_wide.2 HDO.out)).mono ?_
      rintro e w6 ⟨el6, rfl, hF6, ⟨q, hq, hk⟩, hnc⟩
      obtain ⟨k, hkv⟩ : ∃ k, k = (doM s x).1 := ⟨_, rfl⟩
      rw [← hkv]
      have HKV := Lib.hid hkv
      clear hkv
      have HKF : Hid (KeepsFrom W0.heap.size W w6) := Lib.hid (hnc.from hk.size (by omega))
      have HKP : Hid (KpE (z + 3) [bq, bb] W w6) := Lib.hid ⟨hk.size, fun i hi hm => hk.block i (by omega) (by simp at hm ⊢; omega)⟩
      have HBW : Hid (Below w.heap.size w w6) := Lib.hid (HB1.out.trans (hk.below HB1.out.size (fun y hy => by simp at hy; omega)))
      have HBS : Hid (Boxed w6 w.heap.size 4 (.bool false)) := Lib.hid (Blk.kept BS.out hk (by simp; omega))
      have HBM : Hid (Boxed w6 z 47 (.pointer (some ⟨b, 0, none⟩))) := Lib.hid (Blk.kept BM.out hk (by simp; omega))
      have HF6 := Lib.hid hF6
      have hsz6 : z + 3 ≤ w6.heap.size := Nat.le_trans h4 hk.size
      have cR6 := HBS.out.cell
      have fR6 := HBS.out.frozen
      clear hF6 hk hnc HDO cM cR c1 c2 c3 c4 c5 c6 c7 c8
      by_cases hk0 : k = 0
      · have HST : Hid (stepM (some s) x = some (doM s x).2) := Lib.hid (by unfold stepM; dsimp only; rw [← HKV.out, if_pos hk0])
        have HF7 : Hid (∃ el, FG w6 w3.heap.size (z + 3) b bq bb (pre ++ [(⟨x, hx⟩ : OEv)]).length el (doM s x).2) := Lib.hid ⟨el6, by have := HF6.out; simpa using this⟩
        clear HF6
        subst hk0
        gi_wp2_with fail
        exact ⟨HKF.out, HKP.out, _, by rw [HSN.out, HST.out], HSZ.out, HF7.out, ⟨HBS.out, HBM.out⟩, HBW.out, hsz6⟩
      · have HST : Hid (stepM (some s) x = none) := Lib.hid (by unfold stepM; dsimp only; rw [← HKV.out, if_neg hk0])
        have hkb : (k != 0) = true := by simpa using hk0
        clear hk0 HF6
        gi_wp2_with fail
        refine ⟨HKF.out.trans ((KeepsOthers.setCell _ _ _).from _), rfl, by rw [HSN.out, HST.out], HBS.out.set _, HBW.out.setCell (p := ⟨w.heap.size, 0, none⟩) (Nat.le_refl _) _⟩
    case done =>
      rintro D zs W hD rfl ⟨s, hs, hs2, ⟨el, hF1⟩, ⟨bS1, bM1⟩, hB1, h4⟩ hK
      have cR := bS1.cell
      have fR := bS1.frozen
      rw [evs_upto] at hs
      have HS := Lib.hid hs
      clear hs hStops
      gi_wp2
      have hK' := (KeepsOthers.setCell W ⟨w.heap.size, 0, none⟩ (.bool true)).same D _ hK rfl
      refine ⟨by simp, .inl ⟨_, _, rfl, run_takeDeferred hK', ?_⟩⟩
      have hc5 := cell_kept (World.cell?_setCell_same' W ⟨w.heap.size, 0, none⟩ (.bool true) (by rw [cR]; rfl)) (grownBy_putObj' _ D (.deferred none)) (fun r e => by cases e; exact ⟨_, hK', rfl⟩)
      have HX : IsR true (LegalP n m E O) := ⟨fun _ => ⟨HET.out, HRI.out.1 (by rw [HRF.out]; rfl), by unfold xsA; rw [HS.out]; rfl⟩, fun _ => rfl⟩
      refine ⟨.bool true, ?_, true, rfl, HX, (hB1.setCell (p := ⟨w.heap.size, 0, none⟩) (Nat.le_refl _) _).trans (belowK_b (w := w) (Nat.le_refl _) _ D _ _ (by omega) hK' rfl rfl)⟩
      simp [results, Try.f9, go_sem, hc5]
    case stop =>
      rintro D c pre W hD ⟨k, hk, rfl⟩ ⟨rfl, hs, bS1, hB1⟩ hK
      have cR := bS1.cell
      have fR := bS1.frozen
      rw [evs_upto] at hs
      have hs2 := foldM_pre (uptoF_pre _ _ _ hk) hs
      have HS := Lib.hid hs2
      clear hs hs2 hStops
      gi_wp2
      refine ⟨by simp, .inl ⟨_, _, rfl, run_takeDeferred hK, ?_⟩⟩
      have hc5 := cell_kept cR (grownBy_putObj' _ D (.deferred none)) (fun r e => by cases e; exact ⟨_, hK, rfl⟩)
      have HX : IsR false (LegalP n m E O) := by
        unfold IsR LegalP xsA
        rw [HS.out]
        simp
      refine ⟨.bool false, ?_, false, rfl, HX, hB1.trans (belowK_b (w := w) (Nat.le_refl _) W D _ _ (by omega) hK rfl rfl)⟩
      simp [results, Try.f9, go_sem, hc5]
end Go.Proofs.Ytpojophpbggkcaa
