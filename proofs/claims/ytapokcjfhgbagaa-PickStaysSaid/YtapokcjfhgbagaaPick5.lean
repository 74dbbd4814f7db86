/- A map from texts to counts; pick.Share. -/
import Derived.Test.YtapokcjfhgbagaaPick4
import Derived.Maps.OwnSet
import Derived.StringKeys
import Derived.Carry
namespace Go.Proofs.Ytapokcjfhgbagaa
open Go.ChangeShapes Go.WideShapes Go.ChangeAt Go.RowKit
open Go.Maps (Keyed)
set_option linter.unusedVariables false

theorem sklaw : Keyed Try.prog 9 := Go.Maps.string_keyed Try.underlying9
theorem shkey (s : ByteArray) (h : s.size ≤ maxLen) : keyOf Try.prog 9 (.string s) = some (.string s.data.toList) := Go.WideMaps.keyOf_string_mk Try.underlying9 h
/-- the map of the block holds the counts of m -/
def SMap (w : World) (bm c : Nat) (m : ByteArray → Nat) : Prop :=
  ∃ D : DataW Unit, w.ownsMap Try.prog 9 (plainElem Try.prog 3) bm c D ∧ ∀ s : ByteArray, s.size ≤ maxLen → D.atKey (.string s.data.toList) (.lit (.int .i64 0)) = .lit (.int .i64 (m s : Int))
section
variable {w w' : World} {bm c : Nat} {m : ByteArray → Nat}
theorem SMap.lt (h : SMap w bm c m) : bm < w.heap.size := by obtain ⟨D, h1, _⟩ := h; exact h1.lt
theorem SMap.mono (h : SMap w bm c m) {c' : Nat} (hc : c ≤ c') : SMap w bm c' m := by obtain ⟨D, h1, h2⟩ := h; exact ⟨D, h1.mono hc, h2⟩
theorem SMap.congr (h : SMap w bm c m) {m' : ByteArray → Nat} (hm : ∀ x, m x = m' x) : SMap w bm c m' := by
  obtain rfl : m = m' := funext hm
  exact h
theorem SMap.kept {r : List Nat} (h : SMap w bm c m) (hk : Kept r w w') (hr : bm ∉ r) : SMap w' bm c m := by
  obtain ⟨D, h1, h2⟩ := h
  have hlt := h1.lt
  obtain ⟨es, clock, hb, F, hs, hD⟩ := h1
  exact ⟨D, ⟨es, clock, (hk.block bm hlt hr).trans hb, F, hs, hD⟩, h2⟩
theorem SMap.made (w : World) : SMap (w.alloc (.map #[] 0)) w.heap.size 0 (fun _ => 0) :=
  ⟨_, World.ownsMap_made w _ _ _, fun x hx => rfl⟩
theorem zint (w : World) : (zeroValue 3).run Try.prog w = .ok (.int .i64 0) w := by kernel_rfl
theorem int_wf (x : Nat) (h : x ≤ 1000) : (Lit.int .i64 (x : Int)).wf = true := by simp [Lit.wf, IntKind.min, IntKind.max, IntKind.signed, IntKind.bits]; omega
theorem SMap.look (h : SMap w bm c m) (s : ByteArray) (hs : s.size ≤ maxLen) : (Instr.lookup 40 (.map (some bm)) (.string s) false).run Try.prog w = .ok (.int .i64 (m s : Int)) w := by
  obtain ⟨D, h1, h2⟩ := h
  obtain ⟨v, ps, hrun, hv⟩ := h1.lookup sklaw Try.underlying40 (zint w) (plainElem_int Try.underlying3 (by decide)) (shkey s hs)
  obtain ⟨a, rfl, hz, _⟩ := plainElem_int_inv Try.underlying3 hv
  rw [h2 s hs] at hz
  injection hz with hz _
  injection hz with hz
  injection hz with _ hz
  rw [hrun, hz]
def setN (m : ByteArray → Nat) (s : ByteArray) (k : Nat) (t : ByteArray) : Nat := if t = s then k else m t
theorem slit_ne {x y : ByteArray} (h : y ≠ x) : Lit.string y.data.toList ≠ Lit.string x.data.toList := by
  intro e; injection e with e; exact h (ByteArray.ext (Array.toList_inj.1 e))
theorem SMap.store (h : SMap w bm c m) (s : ByteArray) (hs : s.size ≤ maxLen) (k : Nat) (hk : k ≤ 1000) (hc : c < maxLen) : ∃ w', (Instr.mapUpdate 40 (.map (some bm)) (.string s) (.int .i64 (k : Int))).run Try.prog w = .ok () w' ∧ SMap w' bm (c + 1) (setN m s k) ∧ Kept [bm] w w' := by
  obtain ⟨D, h1, h2⟩ := h
  have hi := h1.isMap
  obtain ⟨w', hr, h3, h4⟩ := h1.update sklaw Try.underlying40 hc (shkey s hs) (plainElem_int Try.underlying3 (int_wf k hk))
  refine ⟨w', hr, ⟨_, h3, fun t ht => ?_⟩, (Kept.refl _ _).grown h4 (fun z hz => by simp at hz; simp [hz])⟩
  unfold setN
  by_cases e : t = s
  · subst e
    rw [if_pos rfl, Maps.atKey_put_same hi (by simp [Go.WideAt.IsKeyLit])]
  · rw [if_neg e, Maps.atKey_put_other (slit_ne e)]
    exact h2 t ht
end
theorem pint_info : (Try.prog.info? 3).map (fun i => (i.zero, i.size, i.bytes)) = some (some (.int .i64 0), 1, 8) := by kernel_rfl
def irow (n : Nat) : Array Value := Array.replicate n (.int .i64 0)
theorem make_ints (n : Nat) (hn : n ≤ 1048576) (w : World) : (Instr.makeSlice 32 (.int .i64 (n : Int)) (.int .i64 (n : Int))).run Try.prog w = .ok (.slice (some ⟨w.heap.size, 0, none⟩) n n) (w.alloc (.cells (irow n) 3)) := by
  obtain ⟨i0, hi, hz0, hz1, hz2⟩ := info_parts pint_info
  have hb : (i0.bytes : Int) * (n : Int) ≤ 281474976710656 := by rw [hz2]; omega
  have hr := run_make (P := Try.prog) w 32 3 i0 (.int .i64 0) Try.underlying32 hi hz0 .i64 .i64 n n (by omega) (by omega) hb (by omega)
  simp only [Int.toNat_natCast] at hr
  rw [hr]
  congr 3
  rw [hz1, Nat.mul_one]
  apply Array.ext'
  rw [show (Value.int .i64 0).cells = #[Value.int .i64 0] from rfl, toList_madeCells_one]
  simp [irow]
theorem irow_row {w : World} {g n : Nat} (h : Blk w g (irow n) 3) : RowV w g n (fun _ => .int .i64 0) :=
  RowV.of_blk _ _ h (fun j hj => by simp [irow, hj])
/-- of how many of the first i keys s is -/
noncomputable def cntTo (K N : List ByteArray) (s : ByteArray) : Nat → Nat
  | 0 => 0
  | i + 1 => cntTo K N s i + if kmin (gi K i) N = s then 1 else 0
theorem cntTo_le (K N : List ByteArray) (s : ByteArray) (i : Nat) : cntTo K N s i ≤ i := by
  induction i with
  | zero => exact Nat.le_refl _
  | succ i ih => simp only [cntTo]; split <;> omega
theorem cnt_set (K N : List ByteArray) (i : Nat) (t : ByteArray) : setN (fun s => cntTo K N s i) (kmin (gi K i) N) (cntTo K N (kmin (gi K i) N) i + 1) t = cntTo K N t (i + 1) := by
  unfold setN
  simp only [cntTo]
  by_cases h : t = kmin (gi K i) N
  · rw [if_pos h, h, if_pos rfl]
  · rw [if_neg h, if_neg (fun e => h e.symm)]; rfl
theorem kmin_fit {N : List ByteArray} (hf : Fit N) (h0 : 0 < N.length) (k : ByteArray) : (kmin k N).size ≤ maxLen := by
  obtain ⟨j, hj, e⟩ := List.mem_iff_getElem.1 (kmin_is k N h0).1
  rw [← e, ← gi_at N j hj]; exact hf j
noncomputable def shareRow (K N : List ByteArray) (n : Nat) (j : Nat) : Value := .int .i64 (cntTo K N (gi N j) n : Int)
def SharePost (W : World) (K N : List ByteArray) (e : Ending) (w' : World) : Prop :=
  ∃ g, e = .returned (.slice (some ⟨g, 0, none⟩) N.length N.length) ∧ RowV w' g N.length (shareRow K N K.length) ∧ W.heap.size ≤ g ∧ Below W.heap.size W w'
set_option maxRecDepth 100000 in
set_option maxHeartbeats 2000000 in
theorem share_is (pk pn : Option Addr) (kc nc : Nat) (K N : List ByteArray) (hfk : Fit K) (hfn : Fit N) (hK : K.length ≤ 20) (hN : N.length ≤ 20) (h0 : 0 < N.length) (hkf : K.length ≤ kc) (w : World) (hk : 0 < K.length → RS w pk kc K) (hs : RS w pn nc N) :
    Calls Try.prog 12 #[.slice pk K.length kc, .slice pn N.length nc] w (SharePost w K N) := by
  unfold SharePost
  have HO := Lib.hid (fun i w hs => of_is (gi K i) pn nc N (hfk i) hfn h0 (by omega) w hs)
  obtain ⟨k, hkn⟩ : ∃ n, n = K.length := ⟨_, rfl⟩
  obtain ⟨n, hn⟩ : ∃ n, n = N.length := ⟨_, rfl⟩
  rw [← hkn] at hK hkf ⊢
  rw [← hn] at hN h0 HO ⊢
  have HKN := Lib.hid hkn
  have HNN := Lib.hid hn
  have HK := Lib.hid hk
  have HS := Lib.hid hs
  have HFN := Lib.hid hfn
  have hsz := make_ints n (by omega)
  have hmm := @run_makeMap Try.prog
  have hsf := hs.src.fits
  rw [← hn] at hsf
  clear hk hs hfk hfn hkn hn
  go_enter Try.func12, Try.ntmps12
  go_wp2_with fail
  go_loopw [16] (fun iv wr => ∃ (i c : Nat), iv = .int .i64 (i : Int) ∧ i ≤ k ∧ c ≤ i ∧ SMap wr w.heap.size c (fun s => cntTo K N s i) ∧ Below w.heap.size w wr) (fun iv _ => k - (intOf iv).toNat)
  case atStart => exact ⟨0, 0, rfl, Nat.zero_le _, Nat.le_refl _, (SMap.made w).congr (fun x => rfl), (Below.refl _ _).alloc (Nat.le_refl _) _⟩
  case round =>
    obtain ⟨i, c, rfl, hi, hc, hm, hb⟩ := hrel
    have HM := Lib.hid hm
    have HB := Lib.hid hb
    clear hm hb
    by_cases hik : i < k
    · have HK := Lib.hid (HK.out (by rw [← HKN.out]; omega))
      obtain ⟨lb, off, rfl⟩ := HK.out.src.of_pos (by have := HK.out.src.fits; omega)
      have ci := ((HK.out.src.below HB.out HK.out.lt).at_ i _ (sl_at K i (by rw [← HKN.out]; exact hik)))
      have hsw := Lib.hid (HS.out.kept (Kept.of_below HB.out []) (by simp))
      have HOI := Lib.hid (HO.out i)
      have hmk := Lib.hid (kmin_fit HFN.out (by rw [← HNN.out]; exact h0) (gi K i))
      have q1 : (0 : Int) ≤ (i : Int) := by omega
      have q2 : (i : Int) < (k : Int) := by omega
      obtain ⟨x, hx⟩ : ∃ x, x = gi K i := ⟨_, rfl⟩
      obtain ⟨y, hy⟩ : ∃ y, y = kmin (gi K i) N := ⟨_, rfl⟩
      rw [← hy] at HOI hmk
      rw [← hx] at ci HOI
      have HX := Lib.hid hx
      have HY := Lib.hid hy
      clear hx hy
      go_wp2_with fail
      refine (HOI.out _ hsw.out).mono ?_
      rintro e w2 ⟨rfl, hb2⟩
      have hm2 := HM.out.kept (Kept.of_below hb2 []) (by simp)
      have HB2 := Lib.hid (HB.out.trans (hb2.mono HB.out.size))
      have hlk := hm2.look y hmk.out
      obtain ⟨q, hq⟩ : ∃ q, q = cntTo K N y i := ⟨_, rfl⟩
      have hql := cntTo_le K N y i
      rw [← hq] at hlk hql
      obtain ⟨w3, hst, hm3, hk3⟩ := hm2.store y hmk.out (q + 1) (by omega) (by unfold maxLen; omega)
      have HM3 := Lib.hid hm3
      have HB3 := Lib.hid (HB2.out.trans (hk3.below HB2.out.size (fun x hx => by simp at hx; omega)))
      have HQ := Lib.hid hq
      push_cast at hst
      clear hm3 hk3 hm2 hb2 HOI hmk hsw hq
      go_wp2_with fail
      go_roundw
      case rel => exact ⟨i + 1, c + 1, by go_num, by omega, by omega, HM3.out.congr (fun t => by rw [HQ.out, HY.out]; exact cnt_set K N i t), HB3.out⟩
      case measure => simp [intOf]; omega
    · have hik2 : i = k := by omega
      subst hik2
      have hbg : w.heap.size < wr.heap.size := HM.out.lt
      have HM1 := Lib.hid (HM.out.kept ((Kept.refl [] wr).alloc (.cells (irow n) 3)) (by simp))
      have HR1 := Lib.hid (irow_row (Blk.new wr (irow n) 3))
      have HB1 := Lib.hid (HB.out.alloc HB.out.size (.cells (irow n) 3))
      have hsz1 := HB.out.size
      go_wp2_with fail
      generalize hw1 : wr.alloc _ = w1 at *
      obtain ⟨g, hg⟩ : ∃ g, g = wr.heap.size := ⟨_, rfl⟩
      rw [← hg] at HR1 hbg hsz1 ⊢
      clear hw1 HM HB hsz
      go_loopw [38] (fun iv wr2 => ∃ j : Nat, iv = .int .i64 (j : Int) ∧ j ≤ n ∧ RowV wr2 g n (fun p => if p < j then shareRow K N i p else .int .i64 0) ∧ SMap wr2 w.heap.size c (fun s => cntTo K N s i) ∧ Below w.heap.size w wr2) (fun iv _ => n - (intOf iv).toNat)
      case atStart => exact ⟨0, rfl, Nat.zero_le _, HR1.out.congr (fun p _ => by simp), HM1.out, HB1.out⟩
      case round =>
        clear HM1 HR1 HB1
        obtain ⟨j, rfl, hj, hr, hm, hb⟩ := hrel
        have HM := Lib.hid hm
        have HB := Lib.hid hb
        have HR := Lib.hid hr
        by_cases hjn : j < n
        · obtain ⟨lb, off, rfl⟩ := HS.out.src.of_pos (by omega)
          have ci := ((HS.out.src.below HB.out HS.out.lt).at_ j _ (sl_at N j (by rw [← HNN.out]; exact hjn)))
          have hlk := hm.look (gi N j) (HFN.out j)
          have cg := hr.cell hjn
          have fg := hr.free hjn
          have HR2 : Hid (RowV (wr.setCell ⟨g, j, none⟩ (.int .i64 (cntTo K N (gi N j) i : Int))) g n (fun p => if p < j + 1 then shareRow K N i p else .int .i64 0)) := Lib.hid ((hr.set j hjn _).congr (fun p hp => by
            unfold upd
            by_cases e : p = j
            · rw [if_pos e, if_pos (by omega), e]; rfl
            · rw [if_neg e]
              show (if p < j then _ else _) = _
              by_cases e2 : p < j
              · rw [if_pos e2, if_pos (by omega)]
              · rw [if_neg e2, if_neg (by omega)]))
          have HM2 := Lib.hid (hm.kept ((Kept.refl [g] wr).set ⟨g, j, none⟩ (.inl (by simp)) (.int .i64 (cntTo K N (gi N j) i : Int))) (by simp; omega))
          have HB2 := Lib.hid (hb.trans (((Kept.refl [g] wr).set ⟨g, j, none⟩ (.inl (by simp)) (.int .i64 (cntTo K N (gi N j) i : Int))).below hb.size (fun x hx => by simp at hx; omega)))
          have q1 : (0 : Int) ≤ (j : Int) := by omega
          have q2 : (j : Int) < (n : Int) := by omega
          rw [if_neg (Nat.lt_irrefl j)] at cg
          clear hr hm hb
          generalize cntTo K N (gi N j) i = q at *
          generalize gi N j = x at *
          rw [hg] at cg fg
          go_wp2_with fail
          go_roundw
          case rel => rw [← hg]; exact ⟨j + 1, by go_num, by omega, HR2.out, HM2.out, HB2.out⟩
          case measure => simp [intOf]; omega
        · have hjn2 : j = n := by omega
          subst hjn2
          have HR2 := Lib.hid (hr.congr (V' := shareRow K N i) (fun p hp => by rw [if_pos hp]))
          clear hr hm hb
          go_wp2_with fail
          go_ret
          exact ⟨g, by rw [hg]; rfl, HR2.out, hsz1, HB.out⟩
set_option maxRecDepth 100000 in
set_option maxHeartbeats 1000000 in
theorem share_none (pk pn : Option Addr) (kc nc : Nat) (K : List ByteArray) (hK : K.length ≤ 20) (hkf : K.length ≤ kc) (w : World) (hk : 0 < K.length → RS w pk kc K) :
    Calls Try.prog 12 #[.slice pk K.length kc, .slice pn 0 nc] w fun e w' => ∃ g, e = .returned (.slice (some ⟨g, 0, none⟩) 0 0) ∧ Below w.heap.size w w' := by
  obtain ⟨k, hkn⟩ : ∃ n, n = K.length := ⟨_, rfl⟩
  rw [← hkn] at hK hkf ⊢
  have HKN := Lib.hid hkn
  have HK := Lib.hid hk
  have hsz := make_ints 0 (by omega)
  have hmm := @run_makeMap Try.prog
  clear hk hkn
  go_enter Try.func12, Try.ntmps12
  go_wp2_with fail
  go_loopw [16] (fun iv wr => ∃ (i : Nat), iv = .int .i64 (i : Int) ∧ i ≤ k ∧ Below w.heap.size w wr) (fun iv _ => k - (intOf iv).toNat)
  case atStart => exact ⟨0, rfl, Nat.zero_le _, (Below.refl _ _).alloc (Nat.le_refl _) _⟩
  case round =>
    obtain ⟨i, rfl, hi, hb⟩ := hrel
    have HB := Lib.hid hb
    by_cases hik : i < k
    · have HK := Lib.hid (HK.out (by rw [← HKN.out]; omega))
      obtain ⟨lb, off, rfl⟩ := HK.out.src.of_pos (by omega)
      have ci := ((HK.out.src.below hb HK.out.lt).at_ i _ (sl_at K i (by rw [← HKN.out]; exact hik)))
      have q1 : (0 : Int) ≤ (i : Int) := by omega
      have q2 : (i : Int) < (k : Int) := by omega
      clear hb
      generalize gi K i = x at *
      go_wp2_with (go_at_call 9; refine (of_none x _ _ _).mono ?_; rintro e w2 ⟨rfl, rfl⟩)
      go_roundw
      case rel => exact ⟨i + 1, by go_num, by omega, HB.out⟩
      case measure => simp [intOf]; omega
    · have hik2 : i = k := by omega
      subst hik2
      have HB1 := Lib.hid (hb.alloc hb.size (.cells (irow 0) 3))
      clear hb
      have hsz0 : ∀ w, (Instr.makeSlice 32 (.int .i64 0) (.int .i64 0)).run Try.prog w = .ok (.slice (some ⟨w.heap.size, 0, none⟩) 0 0) (w.alloc (.cells (irow 0) 3)) := hsz
      go_wp2_with fail
      generalize hw1 : wr.alloc _ = w1 at *
      obtain ⟨g, hg⟩ : ∃ g, g = wr.heap.size := ⟨_, rfl⟩
      rw [← hg]
      go_loopw [38] (fun iv wr2 => iv = .int .i64 0 ∧ wr2 = w1) (fun iv _ => 0)
      case atStart => exact ⟨rfl, rfl⟩
      case round =>
        obtain ⟨rfl, rfl⟩ := hrel
        go_wp2_with fail
        go_ret
        exact ⟨g, by rw [hg]; rfl, HB1.out⟩
end Go.Proofs.Ytapokcjfhgbagaa
