/- Windows: Missing. -/
import Derived.Test.YtappolgfkioihaaWin2
import Derived.LoopTactic
namespace Go.Proofs.Ytappolgfkioihaa
open Go.ChangeShapes Go.WideShapes Go.ChangeAt Go.RowKit
set_option linter.unusedVariables false

section
variable {P : Program} (w : World) {ops : Array Oper} {rest : List Oper} {o : Oper} {a : Act} {Q : Exit → Act → World → Prop}
theorem wpList_next_ub (hg : o.guard = none) (it : Operand) (hop : o.op = Op.next it false)
    (b r n : Nat) (D : DataW Unit) (left : Lit → Bool) (cnt : Nat) (hit : a.eval it = .pointer (some ⟨r, 0, none⟩)) (h : w.ranges Try.prog 22 (plainElem Try.prog 4) b r n D left cnt)
    (hDone : (∀ kl, left kl = false) → wpList Try.prog ops Q rest (a.put o.dst (.tuple #[.bool false])) w)
    (hMore : ∀ (x : Nat) (c : Value) (w' : World) (cnt' : Nat), x < 4294967296 → left (.int .u32 (x : Int)) = true → w'.ranges Try.prog 22 (plainElem Try.prog 4) b r n D (fun z => left z && !z.sameKey (.int .u32 (x : Int))) cnt' → cnt' < cnt →
      w.grownBy w' (some r) → (Instr.entry (.pointer (some ⟨r, 0, none⟩))).run Try.prog w' = .ok (.tuple #[.int .u32 (x : Int), c]) w' → wpList Try.prog ops Q rest (a.put o.dst (.tuple #[.bool true, .int .u32 (x : Int), c])) w') :
    wpList Try.prog ops Q (o :: rest) a w :=
  wpList_next_ranges w hg it hop 22 klaw (plainElem Try.prog 4) (fun x : Int => Value.int .u32 x) (fun v : Value => v) (fun key kl hkey => by obtain ⟨x, rfl, _⟩ := Maps.keyOf_int_inv Try.underlying22 hkey; exact ⟨x, rfl⟩) (fun v y hv => ⟨v, rfl⟩)
    b r n D left cnt hit h (fun _ => hDone) (fun x c kl y w' cnt' hkey hlk hv hat hrg hlt hgr hsz hen => by
      obtain ⟨x', ex, rfl, hwx⟩ := Maps.keyOf_int_inv Try.underlying22 hkey
      cases ex
      have hx : 0 ≤ x ∧ x < 4294967296 := by
        simp [Lit.wf, IntKind.min, IntKind.max, IntKind.signed, IntKind.bits] at hwx; omega
      obtain ⟨y', rfl⟩ : ∃ y : Nat, x = (y : Int) := ⟨x.toNat, by omega⟩
      exact hMore y' c w' cnt' (by omega) hlk hrg hlt hgr hen)
end
/-- the greatest way ahead of those in the list, or none -/
def IsLast (base : Nat) (L : List Nat) (k : Nat) : Prop := (∀ x ∈ L, ahead base x ≤ k) ∧ (k = 0 ∨ ∃ x ∈ L, ahead base x = k)
def missL (base : Nat) (L : List Nat) (k : Nat) : List Nat := ((List.range k).map (fun i => (base + i) % 4294967296)).filter (fun x => !inL L x)
theorem missL_zero (base : Nat) (L : List Nat) : missL base L 0 = [] := rfl
theorem missL_succ (base : Nat) (L : List Nat) (k : Nat) : missL base L (k + 1) = missL base L k ++ (if inL L ((base + k) % 4294967296) then [] else [(base + k) % 4294967296]) := by
  unfold missL
  rw [List.range_succ, List.map_append, List.filter_append]
  congr 1
  simp only [List.map_cons, List.map_nil, List.filter_cons, List.filter_nil]
  cases inL L ((base + k) % 4294967296) <;> rfl
theorem missL_len (base : Nat) (L : List Nat) (k : Nat) : (missL base L k).length ≤ k := by
  unfold missL
  refine Nat.le_trans (List.length_filter_le _ _) ?_
  simp
theorem st1 {D : DataW Unit} {L : List Nat} (hD : ∀ x : Nat, x < 4294967296 → D.atKey (.int .u32 (x : Int)) (.lit (.bool false)) = .lit (.bool (inL L x)) ∧ Maps.has D (.int .u32 (x : Int)) = inL L x) : ∀ x : Nat, x < 4294967296 → Maps.has D (.int .u32 (x : Int)) = true → x ∈ L :=
  fun x hx hl => inL_iff.1 (by rw [← (hD x hx).2]; exact hl)
theorem st2 {w : World} {b bm base n c k : Nat} {D : DataW Unit} {L : List Nat} (h : WinL w b bm base n c L) (hD : ∀ x : Nat, x < 4294967296 → D.atKey (.int .u32 (x : Int)) (.lit (.bool false)) = .lit (.bool (inL L x)) ∧ Maps.has D (.int .u32 (x : Int)) = inL L x) : ∀ x ∈ L, Maps.has D (.int .u32 (x : Int)) = false → ahead base x ≤ k := by
  intro x hx hl
  rw [(hD x (h.inw x hx).1).2, inL_iff.2 hx] at hl
  cases hl
theorem left_or {left : Lit → Bool} {x y : Nat} (h : (left (.int .u32 (y : Int)) && !(Lit.int .u32 (y : Int)).sameKey (.int .u32 (x : Int))) = false) : left (.int .u32 (y : Int)) = false ∨ y = x := by
  rcases Bool.eq_false_or_eq_true (left (.int .u32 (y : Int))) with h1 | h1
  · rw [h1] at h
    right
    have h2 : (Lit.int .u32 (y : Int)).sameKey (.int .u32 (x : Int)) = true := by simpa using h
    have := Go.WideAt.sameKey_eq h2
    injection this with _ this
    omega
  · exact .inl h1
def MissPost (W : World) (base : Nat) (L : List Nat) (e : Ending) (w' : World) : Prop := ∃ k p cap, IsLast base L k ∧ k ≤ 64 ∧ e = .returned (.slice p (missL base L k).length cap) ∧ RU w' p cap (missL base L k) ∧ (∀ a, p = some a → W.heap.size ≤ a.block) ∧ Below W.heap.size W w'
theorem own_from {w : World} {base n size cap : Nat} {e : TypeId} {a : Addr} {xs : List Value} (h : w.ownsRow base e size (.slice (some a) n cap) n xs) : base ≤ a.block := by
  rcases h.2 with ⟨h0, _⟩ | ⟨g, cap8, cur, hv8, hg8, _⟩
  · cases h0
  · injection hv8 with hv8 _ _
    injection hv8 with hv8
    subst hv8
    exact hg8
theorem wmiss_nil (w : World) : Calls Try.prog 16 #[.pointer none] w fun e w' => e = .returned (.slice none 0 0) ∧ w = w' := by
  go_enter Try.func16, Try.ntmps16
  go_wp2
  go_ret
  exact ⟨rfl, rfl⟩
theorem clip_any (p : Option Addr) (n cap : Nat) (hn : n ≤ cap) (hc : cap ≤ maxLen) (w : World) : Calls Try.prog 23 #[.slice p n cap] w fun e w' => e = .returned (.slice p n n) ∧ w = w' := by
  unfold maxLen at hc
  go_enter Try.func23, Try.ntmps23
  go_wp2
  go_ret
  exact ⟨rfl, rfl⟩
set_option maxRecDepth 100000 in
set_option maxHeartbeats 4000000 in
theorem wmiss_is (b bm base n c : Nat) (L : List Nat) (w : World) (h : WinL w b bm base n c L) :
    Calls Try.prog 16 #[.pointer (some ⟨b, 0, none⟩)] w (MissPost w base L) := by
  obtain ⟨i0, hi, hz0, hz1, hz2⟩ := info_parts u_info
  have H := Lib.hid h
  have hbb := h.at_.bb
  have hn2 := h.at_.n2
  have hblt := h.at_.lt
  obtain ⟨D, hown, hD⟩ := h.at_.mp
  obtain ⟨c0, c1, c2⟩ := h.at_.cells
  have HO := Lib.hid hown
  have HD := Lib.hid hD
  clear h hown hD
  go_enter Try.func16, Try.ntmps16
  go_wp2_with (first | (at_range; refine wpList_range_own _ rfl _ 48 rfl 22 4 klaw Try.underlying48 _ bm c D rfl HO.out ?_; intro w0 hrg0 hg0 hs0))
  go_frame
  have hk0 : Kept [] w w0 := (Kept.refl _ _).grown hg0 (fun x hx => by cases hx)
  clear c0 c1 c2
  go_loopw [3] (fun lv wr => ∃ (k : Nat) (left : Lit → Bool) (cnt : Nat), lv = .int .i64 (k : Int) ∧ wr.ranges Try.prog 22 (plainElem Try.prog 4) bm w.heap.size c D left cnt ∧ Kept [] w wr ∧ (∀ x : Nat, x < 4294967296 → left (.int .u32 (x : Int)) = true → x ∈ L) ∧ (∀ x ∈ L, left (.int .u32 (x : Int)) = false → ahead base x ≤ k) ∧ (k = 0 ∨ ∃ x ∈ L, ahead base x = k)) (fun _ wr => wr.rangeLeft bm w.heap.size)
  case atStart => exact ⟨0, _, _, rfl, hrg0, hk0, st1 HD.out, st2 H.out HD.out, .inl rfl⟩
  case round =>
    obtain ⟨k, left, cnt, rfl, hrg, hk, r1, r2, r3⟩ := hrel
    have HRG := Lib.hid hrg
    have HK := Lib.hid hk
    have R1 := Lib.hid r1
    have R2 := Lib.hid r2
    have R3 := Lib.hid r3
    have hk64 : k < 64 := by
      rcases r3 with h | ⟨x, hx, he⟩
      · omega
      · have := (H.out.inw x hx).2; rw [key_iff] at this; omega
    clear hrg hk r1 r2 r3
    go_wp2_with (first | (at_next; refine wpList_next_ub _ rfl _ rfl bm w.heap.size c D left cnt rfl HRG.out ?_ ?_))
    · intro hl0
      have hLast : IsLast base L k := ⟨fun x hx => R2.out x hx (hl0 _), R3.out⟩
      have HL := Lib.hid hLast
      clear hl0 hLast
      go_wp2_with fail
      go_loopw [5, 28] (fun ov iv wq => ∃ (i : Nat) (v : Value), iv = .int .i64 (i : Int) ∧ i ≤ k ∧ ov = v ∧ wq.ownsRow w.heap.size 22 1 v (missL base L i).length (ul (missL base L i)) ∧ Kept [] w wq) (fun _ iv _ => k - (intOf iv).toNat)
      case atStart => exact ⟨0, _, rfl, Nat.zero_le _, rfl, World.ownsRow_nil _ _ _ _, HK.out⟩
      case round =>
        obtain ⟨i, v, rfl, hik, rfl, hown, hkq⟩ := hrel
        obtain ⟨p, cap, hv, hru⟩ := RU.of_own hown
        subst hv
        have hml := missL_len base L i
        have hWq := H.out.kept hkq (by simp) (by simp)
        obtain ⟨c0, c1, c2⟩ := hWq.at_.cells
        have hszq := hkq.size
        have HOW := Lib.hid hown
        have HKQ := Lib.hid hkq
        by_cases hlt : i < k
        · have hx : (base + i) % 4294967296 < 4294967296 := Nat.mod_lt _ (by omega)
          have hl := hWq.at_.mp.look ((base + i) % 4294967296) hx
          have e1 : ((base : Int) + (i : Int)) % 4294967296 = (((base + i) % 4294967296 : Nat) : Int) := by omega
          have e2 : (i : Int) % 4294967296 = (i : Int) := by omega
          have hsc := Lib.hid (missL_succ base L i)
          generalize (base + i) % 4294967296 = x at *
          have dd : decide ((i : Int) < (k : Int)) = true := by rw [decide_eq_true_iff]; omega
          cases hin : inL L x with
          | true =>
            rw [hin] at hl hsc
            simp only [if_true, List.append_nil] at hsc
            clear hin hWq hown hkq hru
            go_wp2_with fail
            go_roundw
            case rel => exact ⟨i + 1, _, by go_num, by omega, rfl, by rw [hsc.out]; exact HOW.out, HKQ.out⟩
            case measure => simp [intOf]; omega
          | false =>
            rw [hin] at hl hsc
            simp only [Bool.false_eq_true, if_false] at hsc
            clear hin hWq hown hkq hru
            go_wp2_with (at_builtin; refine wpList_append_src _ rfl (.tmp 45) (.tmp 47) 29 rfl w.heap.size 22 i0 (.int .u32 0) 1 4 Try.underlying29 hi hz0 hz1 hz2 rfl (by decide) _ _ _ rfl (HOW.out.alloc _) _ 1 1 rfl _ (src_u wr _ _) (fun u hu => by simp at hu; subst hu; rfl) (by unfold maxLen; omega) (by omega) (by simp; omega) ?_)
            intro v2 w2 hown2 hg2 hat2
            have hk2 : Kept [] w w2 := (HKQ.out.alloc _).grown hg2 (fun z hz => .inr (own_lt HOW.out z (mem_rowOf hz)).1)
            have HO2 := Lib.hid hown2
            have HK2 := Lib.hid hk2
            clear hown2 hk2 hg2 hat2 c0 c1 c2 hl
            go_wp2_with fail
            go_roundw
            case rel => exact ⟨i + 1, _, by go_num, by omega, rfl, by rw [hsc.out, ul_app, List.length_append]; exact HO2.out, HK2.out⟩
            case measure => simp [intOf]; omega
        · have hik2 : i = k := by omega
          subst hik2
          have dd : decide ((i : Int) < (i : Int)) = false := by rw [decide_eq_false_iff_not]; omega
          have hfit := hru.src.fits
          have hbig := hru.src.big
          have HC := Lib.hid (fun w => clip_any p (missL base L i).length cap hfit hbig w)
          have HRU := Lib.hid hru
          clear hown hru hWq hkq hbig
          go_wp2_with (go_at_call 23; refine (HC.out _).mono ?_; rintro e w' ⟨rfl, rfl⟩)
          go_ret
          refine ⟨i, p, _, HL.out, by omega, rfl, ?_, (fun a ha => own_from (by subst ha; exact HOW.out)), HKQ.out.below (Nat.le_refl _) (by simp)⟩
          exact ⟨⟨HRU.out.src.len, Nat.le_refl _, Nat.le_trans hfit HRU.out.src.big, fun h => by have := HRU.out.src.nil h; omega, HRU.out.src.spot, HRU.out.src.cell⟩, HRU.out.lt⟩
    · intro x cc w1 cnt1 hx hlx hrg1 hlt1 hg1 hen
      have hk1 : Kept [] w w1 := HK.out.grown hg1 (fun z hz => by simp at hz; right; omega)
      have hW1 := H.out.kept hk1 (by simp) (by simp)
      obtain ⟨c0, c1, c2⟩ := hW1.at_.cells
      have hxL := R1.out x hx hlx
      have hin := (H.out.inw x hxL).2
      rw [key_iff] at hin
      have HA := Lib.hid (fun w => serialAhead (base : Int) (x : Int) (by omega) (by omega) (by omega) (by omega) w)
      obtain ⟨d, hd⟩ : ∃ d : Nat, ahead base x = (d : Int) := ⟨(ahead base x).toNat, by omega⟩
      rw [hd] at HA hin
      have hd64 : d < 64 := by omega
      have hd0 : (-2147483648 : Int) ≤ (d : Int) := by omega
      have HDd := Lib.hid hd
      have HRG1 := Lib.hid hrg1
      have HK1 := Lib.hid hk1
      clear hin hd hrg1 hk1 hg1 hW1
      go_wp2_with (go_at_call 22; refine (HA.out _).mono ?_; rintro e w' ⟨rfl, rfl⟩)
      go_roundw
      case rel => exact ⟨max k d, _, cnt1, by first | rfl | (congr 1; omega), HRG1.out, HK1.out, fun y hy hly => R1.out y hy (by simp at hly; exact hly.1), fun y hy hly => by
        have h1 := HDd.out
        rcases left_or hly with h2 | h2
        · have := R2.out y hy h2; omega
        · subst h2; omega, by
        have h1 := HDd.out
        rcases R3.out with h2 | ⟨y, hy, he⟩
        · rcases Nat.eq_zero_or_pos d with h3 | h3
          · left; omega
          · right; exact ⟨x, hxL, by omega⟩
        · right
          rcases Nat.le_total k d with h3 | h3
          · exact ⟨x, hxL, by omega⟩
          · exact ⟨y, hy, by omega⟩⟩
      case measure => rw [HRG1.out.left_eq, HRG.out.left_eq]; omega
end Go.Proofs.Ytappolgfkioihaa
