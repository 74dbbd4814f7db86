/- Order, Ints, Check, few: as laws on whatever events. -/
import Derived.Test.YtpojophpbggkcaaLo19
import Derived.Test.YtpojophpbggkcaaLin4
import Derived.Test.YtpojophpbggkcaaLin5
namespace Go.Proofs.Ytpojophpbggkcaa
open Go.ChangeShapes Go.WideShapes Go.ChangeAt Go.RowKit
set_option linter.unusedVariables false

def go_ (M : List Nat) (j : Nat) : Int := ((gi M j : Nat) : Int)
/-- what an order of n events is told to be -/
def OrdP (n : Nat) (E : Nat → Ev) (d : Int) (m : Nat) (O : Nat → Int) : Prop :=
  ((∃ i, i < n ∧ badE (E i)) ∧ d = 1 ∧ m = 0) ∨ ((∀ i, i < n → ¬ badE (E i)) ∧ d = 0 ∧ m = n ∧ ∃ M, Sorted E n M ∧ O = go_ M)
theorem OrdP.same {n : Nat} {E : Nat → Ev} {d d' : Int} {m m' : Nat} {O O' : Nat → Int} (h : OrdP n E d m O) (k : OrdP n E d' m' O') : d = d' ∧ m = m' ∧ ∀ j, j < m → O j = O' j := by
  rcases h with ⟨⟨i, hi, hb⟩, rfl, rfl⟩ | ⟨hg, rfl, rfl, M, hM, rfl⟩
  · rcases k with ⟨_, rfl, rfl⟩ | ⟨hg, _⟩
    · exact ⟨rfl, rfl, fun j hj => by omega⟩
    · exact absurd hb (hg i hi)
  · rcases k with ⟨⟨i, hi, hb⟩, _⟩ | ⟨_, rfl, rfl, M', hM', rfl⟩
    · exact absurd hb (hg i hi)
    · obtain rfl := hM.eq hM'
      exact ⟨rfl, rfl, fun j hj => rfl⟩
theorem OrdP.le {n : Nat} {E : Nat → Ev} {d : Int} {m : Nat} {O : Nat → Int} (h : OrdP n E d m O) : m ≤ n := by
  rcases h with ⟨_, _, rfl⟩ | ⟨_, _, rfl, _⟩ <;> omega
def OrdSays (W : World) (n : Nat) (E : Nat → Ev) (e : Ending) (w' : World) : Prop :=
  ∃ d po g oo cap m O, e = .returned (.tuple #[.slice po m cap, .int .i64 d]) ∧ OI w' po g oo m O ∧ OrdP n E d m O ∧ Below W.heap.size W w'
theorem oi_none (w : World) (O : Nat → Int) : OI w none 0 0 0 O := ⟨fun h => by omega, fun h => by omega, fun j hj => by omega⟩
theorem oi_row {w : World} {g n : Nat} {M : List Nat} (h : RowV w g n (iv M)) : OI w (some ⟨g, 0, none⟩) g 0 n (go_ M) :=
  ⟨fun _ => rfl, fun _ => h.1, fun j hj => by rw [Nat.zero_add]; exact h.cell hj⟩
theorem lorder_says (E : Nat → Ev) (p : Option Addr) (bl off n cap : Nat) (hn : n ≤ 20) (hp : 0 < n → p = some ⟨bl, off, none⟩) (w : World) (hes : ES w bl off n E) :
    Calls Try.prog 6 #[.slice p n cap] w (OrdSays w n E) := by
  have HO : Calls Try.prog 6 #[.slice p n cap] w (OrdPost w n E) := by
    by_cases h0 : n = 0
    · subst h0; exact order_zero E p cap w
    · rw [hp (by omega)]; exact order_is E bl off n cap (by omega) hn w hes
  refine HO.mono ?_
  rintro e w' (⟨hb, rfl, h⟩ | ⟨hg, g, M, rfl, _, hM, hr, h⟩)
  · exact ⟨1, none, 0, 0, 0, 0, fun _ => 0, rfl, oi_none _ _, .inl ⟨hb, rfl, rfl⟩, h⟩
  · exact ⟨0, _, g, 0, n, n, go_ M, rfl, oi_row hr, .inr ⟨hg, rfl, rfl, M, hM, rfl⟩, h⟩
theorem oi_own {w : World} {base n : Nat} {v : Value} {M : List Nat} (h : w.ownsRow base 3 1 v M.length (il M)) (hn : M.length = n) : ∃ po g cap, v = .slice po n cap ∧ OI w po g 0 n (go_ M) := by
  subst hn
  have hc := fun g => h.cells (g := g)
  rcases h.2 with ⟨rfl, h0⟩ | ⟨g, cap, cur, rfl, hb, hg, hnc, hcm, hcs, ht⟩
  · exact ⟨none, 0, 0, by rw [h0], by rw [h0]; exact ⟨fun h => by omega, fun h => by omega, fun j hj => by omega⟩⟩
  · refine ⟨_, g, cap, rfl, fun _ => rfl, fun _ => (Array.getElem?_eq_some_iff.1 hg).1, fun j hj => ?_⟩
    have h2 := hc g rfl j _ (il_at M j hj)
    simp [Addr.add] at h2
    rw [Nat.zero_add]
    by_cases e : j = 0
    · subst e; simpa [go_] using h2
    · rw [if_neg e] at h2; exact h2
theorem rorder_says (E : Nat → Ev) (p : Option Addr) (bl off n cap : Nat) (hn : n ≤ 20) (hp : 0 < n → p = some ⟨bl, off, none⟩) (w : World) (hes : ES w bl off n E) :
    Calls Try.prog 7 #[.slice p n cap] w (OrdSays w n E) := by
  refine (rorder_is E p bl off n cap hn hp w hes).mono ?_
  rintro e w' (⟨hb, rfl, h⟩ | ⟨hg, v, M, rfl, hM, hr, h⟩)
  · exact ⟨1, none, 0, 0, 0, 0, fun _ => 0, rfl, oi_none _ _, .inl ⟨hb, rfl, rfl⟩, h⟩
  · obtain ⟨po, g, c, rfl, ho⟩ := oi_own hr hM.len
    exact ⟨0, po, g, 0, c, n, go_ M, rfl, ho, .inr ⟨hg, rfl, rfl, M, hM, rfl⟩, h⟩
/-- only the first m are asked for -/
theorem legalP_congr {n m : Nat} {E : Nat → Ev} {O O' : Nat → Int} (h : ∀ j, j < m → O j = O' j) : LegalP n m E O ↔ LegalP n m E O' := by
  have hx : xsA m (natO O) E = xsA m (natO O') E := by
    unfold xsA uptoF
    apply List.map_congr_left
    intro j hj
    have := h j (List.mem_range.1 hj)
    unfold natO
    rw [this]
  have he : EachP n m O ↔ EachP n m O' := by
    unfold EachP EachTo
    constructor
    · rintro ⟨h1, h2⟩
      refine ⟨h1, fun i hi => ?_⟩
      have := h2 i hi
      rw [h i hi] at this
      exact ⟨this.1, this.2.1, fun k hk => by rw [← h k (by omega)]; exact this.2.2 k hk⟩
    · rintro ⟨h1, h2⟩
      refine ⟨h1, fun i hi => ?_⟩
      have := h2 i hi
      rw [h i hi]
      exact ⟨this.1, this.2.1, fun k hk => by rw [h k (by omega)]; exact this.2.2 k hk⟩
  unfold LegalP
  rw [hx, he]
set_option maxRecDepth 100000 in
set_option maxHeartbeats 4000000 in
theorem ints_oi (po po2 : Option Addr) (g g2 oo oo2 m oc oc2 : Nat) (O O2 : Nat → Int) (hn : m ≤ 1000) (hO : ∀ j, j < m → O j = O2 j) (w : World) (hr : OI w po g oo m O) (hr2 : OI w po2 g2 oo2 m O2) :
    Calls Try.prog 8 #[.slice po m oc, .slice po2 m oc2] w fun e w' => e = .returned (.bool true) ∧ Below w.heap.size w w' := by
  have HR := Lib.hid hr
  have HR2 := Lib.hid hr2
  have HO := Lib.hid hO
  clear hr hr2 hO
  go_enter Try.func8, Try.ntmps8
  go_wp2_with fail
  go_loopw [5] (fun iv' wr => ∃ i : Nat, iv' = .int .i64 (i : Int) ∧ i ≤ m ∧ Kept [] w wr) (fun iv' _ => m - (intOf iv').toNat)
  case atStart => exact ⟨0, rfl, by omega, Kept.refl _ _⟩
  case round =>
    obtain ⟨i, rfl, hi, hk⟩ := hrel
    have HK := Lib.hid hk
    clear hk
    by_cases hin : i < m
    · obtain rfl := HR.out.ptr (by omega)
      obtain rfl := HR2.out.ptr (by omega)
      have ci := (HR.out.kept HK.out).at_ i hin
      have ck := (HR2.out.kept HK.out).at_ i hin
      rw [← HO.out i hin] at ck
      generalize O i = x at *
      have q1 : (0 : Int) ≤ (i : Int) := by omega
      have q2 : (i : Int) < (m : Int) := by omega
      have d1 : (x != x) = false := by simp
      go_wp2_with fail
      go_quiet (fail)
      go_wp2_with fail
      go_roundw
      case rel => exact ⟨i + 1, by go_num, by omega, HK.out.drewN _⟩
      case measure => simp [intOf]; omega
    · obtain rfl : i = m := by omega
      go_wp2_with fail
      go_ret
      exact ⟨rfl, HK.out.below (Nat.le_refl _) (by simp)⟩
/-- what Check says -/
def ChkP (n : Nat) (E : Nat → Ev) (r : Int) : Prop := ∃ d m O, OrdP n E d m O ∧ (d ≠ 0 ∧ r = d ∨ d = 0 ∧ ¬ LegalP n m E O ∧ r = 10 ∨ d = 0 ∧ LegalP n m E O ∧ r = 0)
theorem ChkP.same {n : Nat} {E : Nat → Ev} {r r' : Int} (h : ChkP n E r) (k : ChkP n E r') : r = r' := by
  obtain ⟨d, m, O, h1, h2⟩ := h
  obtain ⟨d', m', O', k1, k2⟩ := k
  obtain ⟨rfl, rfl, ho⟩ := h1.same k1
  have hc := legalP_congr (n := n) (E := E) ho
  rcases h2 with ⟨h2, rfl⟩ | ⟨h2, h3, rfl⟩ | ⟨h2, h3, rfl⟩ <;> rcases k2 with ⟨k2, rfl⟩ | ⟨k2, k3, rfl⟩ | ⟨k2, k3, rfl⟩ <;> first | rfl | (exact absurd k2 h2) | (exact absurd h2 k2) | (exact absurd (hc.1 h3) k3) | (exact absurd (hc.2 k3) h3)
def ChkSays (W : World) (n : Nat) (E : Nat → Ev) (e : Ending) (w' : World) : Prop := ∃ r, e = .returned (.int .i64 r) ∧ ChkP n E r ∧ Below W.heap.size W w'
set_option maxRecDepth 100000 in
set_option maxHeartbeats 2000000 in
theorem lcheck_says (E : Nat → Ev) (hE : ∀ i, ShortE (E i)) (p : Option Addr) (bl off n cap : Nat) (hF : FitE E n) (hn : n ≤ 20) (hp : 0 < n → p = some ⟨bl, off, none⟩) (w : World) (hes : ES w bl off n E) :
    Calls Try.prog 11 #[.slice p n cap] w (ChkSays w n E) := by
  have HO := Lib.hid (lorder_says E p bl off n cap hn hp w hes)
  have HL := Lib.hid (fun po g oo m oc O hm w hes hr => (legal_is p po bl off n cap g oo m oc O E hE hF hm hn hp w hes hr))
  have HES := Lib.hid hes
  clear hes hE
  go_enter Try.func11, Try.ntmps11
  go_wp2_with fail
  refine HO.out.mono ?_
  rintro e w2 ⟨d, po, g, oo, oc, m, O, rfl, ho, hp2, hb⟩
  have HB := Lib.hid hb
  have HP2 := Lib.hid hp2
  have hmn := hp2.le
  have hes2 := HES.out.below hb
  by_cases hd : d = 0
  · subst hd
    have HL2 := Lib.hid (HL.out po g oo m oc O (by omega) w2 hes2 ho)
    clear hb hp2 HL HO ho hes2
    go_wp2_with fail
    refine HL2.out.mono ?_
    rintro e w3 ⟨r, rfl, hr, hb3⟩
    have HR := Lib.hid hr
    have HB3 := Lib.hid (Grow.next HB.out hb3)
    clear hr hb3 HL2
    cases r with
    | true =>
      go_wp2_with fail
      go_ret
      exact ⟨0, rfl, ⟨0, m, O, HP2.out, .inr (.inr ⟨rfl, HR.out.1 rfl, rfl⟩)⟩, HB3.out⟩
    | false =>
      go_wp2_with fail
      go_ret
      exact ⟨10, rfl, ⟨0, m, O, HP2.out, .inr (.inl ⟨rfl, (fun h => by have := HR.out.2 h; cases this), rfl⟩)⟩, HB3.out⟩
  · have hdb : (d != 0) = true := by simpa using hd
    have HD := Lib.hid hd
    clear hb hp2 HL HO ho hes2 hd
    go_wp2_with fail
    go_ret
    exact ⟨d, rfl, ⟨d, m, O, HP2.out, .inl ⟨HD.out, rfl⟩⟩, HB.out⟩
set_option maxRecDepth 100000 in
set_option maxHeartbeats 2000000 in
theorem rcheck_says (E : Nat → Ev) (hE : ∀ i, ShortE (E i)) (p : Option Addr) (bl off n cap : Nat) (hn : n ≤ 20) (hp : 0 < n → p = some ⟨bl, off, none⟩) (w : World) (hes : ES w bl off n E) :
    Calls Try.prog 12 #[.slice p n cap] w (ChkSays w n E) := by
  have HO := Lib.hid (rorder_says E p bl off n cap hn hp w hes)
  have HL := Lib.hid (fun po g oo m oc O hm w hes hr => (rlegal_is p po bl off n cap g oo m oc O E hE hm hn hp w hes hr))
  have HES := Lib.hid hes
  clear hes hE
  go_enter Try.func12, Try.ntmps12
  go_wp2_with fail
  refine HO.out.mono ?_
  rintro e w2 ⟨d, po, g, oo, oc, m, O, rfl, ho, hp2, hb⟩
  have HB := Lib.hid hb
  have HP2 := Lib.hid hp2
  have hmn := hp2.le
  have hes2 := HES.out.below hb
  by_cases hd : d = 0
  · subst hd
    have HL2 := Lib.hid (HL.out po g oo m oc O (by omega) w2 hes2 ho)
    clear hb hp2 HL HO ho hes2
    go_wp2_with fail
    refine HL2.out.mono ?_
    rintro e w3 ⟨r, rfl, hr, hb3⟩
    have HR := Lib.hid hr
    have HB3 := Lib.hid (Grow.next HB.out hb3)
    clear hr hb3 HL2
    cases r with
    | true =>
      go_wp2_with fail
      go_ret
      exact ⟨0, rfl, ⟨0, m, O, HP2.out, .inr (.inr ⟨rfl, HR.out.1 rfl, rfl⟩)⟩, HB3.out⟩
    | false =>
      go_wp2_with fail
      go_ret
      exact ⟨10, rfl, ⟨0, m, O, HP2.out, .inr (.inl ⟨rfl, (fun h => by have := HR.out.2 h; cases this), rfl⟩)⟩, HB3.out⟩
  · have hdb : (d != 0) = true := by simpa using hd
    have HD := Lib.hid hd
    clear hb hp2 HL HO ho hes2 hd
    go_wp2_with fail
    go_ret
    exact ⟨d, rfl, ⟨d, m, O, HP2.out, .inl ⟨HD.out, rfl⟩⟩, HB.out⟩
end Go.Proofs.Ytpojophpbggkcaa
