/- lightshipref35.Order. -/
import Derived.Test.YtpojophpbggkcaaLo11
namespace Go.Proofs.Ytpojophpbggkcaa
open Go.ChangeShapes Go.WideShapes Go.ChangeAt Go.RowKit
set_option linter.unusedVariables false

def il (L : List Nat) : List Value := L.map fun (a : Nat) => Value.int .i64 ((a : Nat) : Int)
theorem il_len (L : List Nat) : (il L).length = L.length := by simp [il]
theorem il_app (L M : List Nat) : il (L ++ M) = il L ++ il M := by simp [il]
theorem il_at (L : List Nat) (j : Nat) (h : j < L.length) : (il L)[j]? = some (.int .i64 ((gi L j : Nat) : Int)) := by rw [gi_at L j h]; simp [il, h]
theorem il_one (L : List Nat) : ∀ u ∈ il L, u.oneCell' = true := by
  intro u hu
  simp only [il, List.mem_map] at hu
  obtain ⟨x, _, rfl⟩ := hu; rfl
theorem il_take (L : List Nat) (k : Nat) : il (L.take k) = (il L).take (k * 1) := by simp [il, List.map_take]
theorem il_drop (L : List Nat) (k : Nat) : il (L.drop k) = (il L).drop (k * 1) := by simp [il, List.map_drop]
theorem src_i (w : World) (n : Nat) (hn : n = w.heap.size) (d : Int) : Src (w.alloc (.cells #[.int .i64 d] 3)) (some ⟨n, 0, none⟩) 1 1 1 [.int .i64 d] := by
  subst hn
  refine ⟨rfl, Nat.le_refl _, by unfold maxLen; omega, (fun h => nomatch h), (fun a ha => by injection ha with ha; subst ha; rfl), fun a ha j u hu => ?_⟩
  injection ha with ha; subst ha
  rw [add_plain, (Blk.new w _ _).cell]
  match j, hu with
  | 0, hu => exact hu
def ROrdPost (W : World) (n : Nat) (E : Nat → Ev) (e : Ending) (w' : World) : Prop :=
  (∃ i, i < n ∧ badE (E i)) ∧ e = .returned (.tuple #[.slice none 0 0, .int .i64 1]) ∧ Below W.heap.size W w' ∨
  (∀ i, i < n → ¬ badE (E i)) ∧ ∃ v M, e = .returned (.tuple #[v, .int .i64 0]) ∧ Sorted E n M ∧ w'.ownsRow W.heap.size 3 1 v M.length (il M) ∧ Below W.heap.size W w'
theorem ix_ints {o : Oper} {a : Act} {w : World} (x y : Operand) (ho : o.op = .indexAddr 23 x y) (bl off len cap k : Nat) (hx : a.eval x = .slice (some ⟨bl, off, none⟩) len cap) (hy : a.eval y = .int .i64 (k : Int)) (hk : k < len) : (execOp a.eval o).run Try.prog w = .ok (.value (.pointer (some ⟨bl, off + k, none⟩))) w := by
  have q1 : (0 : Int) ≤ (k : Int) := by omega
  have q2 : (k : Int) < (len : Int) := by omega
  unfold execOp
  simp only [ho, hx, hy]
  go_simp
theorem ld_int {w : World} {ad : Addr} {v : Value} (h : w.cell? ad = some v) : (loadVar 3 ad).run Try.prog w = .ok v w := by go_simp
theorem run_gtr0 {o : Oper} {a : Act} {w : World} (i : Tmp) (ho : o.op = .binOp .gtr 3 (.tmp i) (.const (.int .i64 0)) 3) (m : Nat) (hx : a.tmps[i]?.getD undef = .int .i64 ((m : Int) + 1)) : (execOp a.eval o).run Try.prog w = .ok (.value (.bool true)) w := by
  have d : decide ((0 : Int) < (m : Int) + 1) = true := by rw [decide_eq_true_iff]; omega
  unfold execOp
  simp only [ho]
  go_simp
theorem run_sub1 {o : Oper} {a : Act} {w : World} (i : Tmp) (ho : o.op = .binOp .sub 3 (.tmp i) (.const (.int .i64 1)) 3) (m : Nat) (hm : m ≤ 1000) (hx : a.tmps[i]?.getD undef = .int .i64 ((m : Int) + 1)) : (execOp a.eval o).run Try.prog w = .ok (.value (.int .i64 (m : Int))) w := by
  have e : (m : Int) + 1 - 1 = (m : Int) := by omega
  have q : IntKind.i64.wrap (m : Int) = (m : Int) := IntWalk.i64_in _ (by omega)
  unfold execOp
  simp only [ho]
  go_simp
/-- from the end: where a sorted list takes one more -/
theorem sd_back {E : Nat → Ev} {M : List Nat} {x k : Nat} (h : Sd (elt E) M) (hk : k ≤ M.length) (h2 : k = 0 ∨ elt E x (gi M (k - 1)) = false) (j : Nat) (hj : j < k) : elt E x (gi M j) = false := by
  rcases h2 with h2 | h2
  · omega
  · by_cases e : j = k - 1
    · subst e; exact h2
    · exact (elt_law E).ntr _ _ _ (h.to j (k - 1) (by omega) (by omega)) h2
set_option maxRecDepth 100000 in
set_option maxHeartbeats 8000000 in
theorem rorder_is (E : Nat → Ev) (p : Option Addr) (bl off n cap : Nat) (hn : n ≤ 20) (hp : 0 < n → p = some ⟨bl, off, none⟩) (W : World) (hes : ES W bl off n E) :
    Calls Try.prog 7 #[.slice p n cap] W (ROrdPost W n E) := by
  unfold ROrdPost
  obtain ⟨i0, hi0, hz0, hz1, hz2⟩ := info_parts lint_info
  have HES := Lib.hid hes
  clear hes
  go_enter Try.func7, Try.ntmps7
  go_wp2_with fail
  go_loopg [4, 5] n (fun g mv iv wr => ∃ (i : Nat) (v : Value) (M : List Nat), iv = .int .i64 (i : Int) ∧ g + i = n ∧ mv = v ∧ wr.ownsRow W.heap.size 3 1 v M.length (il M) ∧ M.Perm (List.range i) ∧ Sd (elt E) M ∧ M.length ≤ i ∧ (∀ j, j < i → ¬ badE (E j)) ∧ Below W.heap.size W wr)
  case atStart => exact ⟨0, _, [], rfl, by omega, rfl, (by simpa [il] using World.ownsRow_nil W W.heap.size 3 1), List.Perm.refl _, List.Pairwise.nil, Nat.le_refl _, fun j hj => by omega, Below.refl _ _⟩
  case round =>
    obtain ⟨i, v, M, rfl, hgi, rfl, hown, hpm, hso, hml, hok, hb⟩ := hrel
    have HO := Lib.hid hown
    have HPM := Lib.hid hpm
    have HSO := Lib.hid hso
    have HOK := Lib.hid hok
    have HB := Lib.hid hb
    clear hown hpm hso hb hok
    obtain ⟨mp, mk, rfl, hms⟩ := Src.of_own HO.out
    obtain ⟨m, hm⟩ : ∃ m, m = M.length := ⟨_, rfl⟩
    rw [← hm] at hms hml ⊢
    have HWS := Lib.hid hms
    have HM := Lib.hid hm
    have hmfit := hms.fits
    clear hms hm
    by_cases hin : i < n
    · obtain rfl := hp (by omega)
      have HEV := Lib.hid ((HES.out.below HB.out).ev i hin)
      obtain ⟨a0, a1, a2, a3, a4, a5, a6, a7, a8, a9, a10⟩ := (HES.out.below HB.out).ev i hin
      clear a0 a1 a2 a3 a4 a5 a6 a7 a8
      have HBD : Hid (∀ x, x = E i → (badE x → badE (E i)) ∧ (¬ badE x → ¬ badE (E i))) := Lib.hid (fun x h => by subst h; exact ⟨id, id⟩)
      obtain ⟨x, hx⟩ : ∃ x, x = E i := ⟨_, rfl⟩
      rw [← hx] at a9 a10
      have HX := Lib.hid hx
      clear hx
      have q1 : (0 : Int) ≤ (i : Int) := by omega
      have q2 : (i : Int) < (n : Int) := by omega
      by_cases h1 : x.beg < 0
      · have d1 : decide (x.beg < 0) = true := by rw [decide_eq_true_iff]; exact h1
        have HBB := Lib.hid ((HBD.out x HX.out).1 (.inl h1))
        clear h1
        go_wp2_with fail
        go_quiet (fail)
        go_wp2_with fail
        try rw [Exit.noGoto_ret]
        go_returns
        exact .inl ⟨⟨i, hin, HBB.out⟩, rfl, bdrewN HB.out _⟩
      · by_cases h2 : x.fin < x.beg
        · have d1 : decide (x.beg < 0) = false := by rw [decide_eq_false_iff_not]; exact h1
          have d2 : decide (x.fin < x.beg) = true := by rw [decide_eq_true_iff]; exact h2
          have HBB := Lib.hid ((HBD.out x HX.out).1 (.inr h2))
          clear h1 h2
          go_wp2_with fail
          go_quiet (fail)
          go_wp2_with fail
          try rw [Exit.noGoto_ret]
          go_returns
          exact .inl ⟨⟨i, hin, HBB.out⟩, rfl, bdrewN HB.out _⟩
        · have d1 : decide (x.beg < 0) = false := by rw [decide_eq_false_iff_not]; exact h1
          have d2 : decide (x.fin < x.beg) = false := by rw [decide_eq_false_iff_not]; exact h2
          have HOK2 : Hid (∀ j, j < i + 1 → ¬ badE (E j)) := Lib.hid (fun j hj => by
            by_cases e : j = i
            · subst e; exact (HBD.out x HX.out).2 (fun h => h.elim h1 h2)
            · exact HOK.out j (by omega))
          clear h1 h2
          go_wp2_with fail
          go_quiet (fail)
          clear d1 d2 a9 a10
          go_wp2_with fail
          have HB := Lib.hid (bdrewN HB.out nq)
          have HWS := Lib.hid (HWS.out.kept ((Kept.refl [] wr).drewN nq) (by simp))
          have HEI := Lib.hid (HES.out.below HB.out)
          clear HEV HO HBD HOK
          generalize wr.drewN nq = wo at *
          go_loopw [6] (fun kv wr => ∃ k : Nat, kv = .int .i64 (k : Int) ∧ k ≤ m ∧ (k = M.length ∨ elt E i (gi M k) = true) ∧ Kept [] wo wr) (fun kv _ => (intOf kv).toNat)
          case atStart => exact ⟨m, rfl, Nat.le_refl _, .inl HM.out, Kept.refl _ _⟩
          case round =>
            obtain ⟨k, rfl, hkm, hj, hkk⟩ := hrel
            have HJ := Lib.hid hj
            have HKK := Lib.hid hkk
            clear hj hkk
            by_cases hk0 : k = 0
            · have d0 : decide ((0 : Int) < (k : Int)) = false := by rw [decide_eq_false_iff_not]; omega
              have HK0 := Lib.hid hk0
              go_wp2_with fail
              go_quiet (fail)
              clear d0 hk0
              have hSe := Src.kept HWS.out (HKK.out.drewN nq) (by simp)
              obtain ⟨hhead, ao, hcut, hsc, hsb⟩ := hSe.cuts 23 (by kernel_rfl) (by intro w; kernel_rfl) k hkm
              have HSC := Lib.hid hsc
              have HSH := Lib.hid (hSe.head k hkm)
              have HBE := Lib.hid (HB.out.trans ((HKK.out.drewN nq).below HB.out.size (by simp)))
              generalize hwe : wr.drewN nq = we at *
              have hwq : W.heap.size ≤ we.heap.size := HBE.out.size
              clear hsc hsb hSe hwe
              go_wp2_with (at_builtin; refine wpList_append_src _ rfl (.tmp 54) (.tmp 57) 23 rfl W.heap.size 3 i0 (.int .i64 0) 1 8 Try.underlying23 hi0 hz0 hz1 hz2 rfl (by decide) _ 0 [] rfl (World.ownsRow_nil _ _ _ _) _ k mk rfl _ HSH.out (fun u hu => il_one _ _ (List.mem_of_mem_take hu)) (by unfold maxLen; omega) (by omega) hwq ?_)
              intro v1 w1 hown1 hg1 hat1
              have hk1 : Kept [] we w1 := (Kept.refl [] _).grown hg1 (fun x hx => by simp [Value.ownBlock] at hx)
              have hs1 : we.heap.size ≤ w1.heap.size := hk1.size
              have hr1 : ∀ x ∈ rowOf v1, we.heap.size ≤ x := fun x hx => by
                rcases rowOf_new hat1 x hx with h | h
                · simp [rowOf, Value.ownBlock] at h
                · exact h
              have HO1 := Lib.hid hown1
              have HR1 := Lib.hid hr1
              have HK1 := Lib.hid hk1
              clear hown1 hg1 hat1 hk1 hr1 hhead
              go_wp2_with (at_builtin; refine wpList_append_src _ rfl (.tmp 59) (.tmp 61) 23 rfl W.heap.size 3 i0 (.int .i64 0) 1 8 Try.underlying23 hi0 hz0 hz1 hz2 rfl (by decide) _ _ _ rfl (HO1.out.alloc _) _ 1 1 rfl _ (src_i w1 _ rfl (i : Int)) (fun u hu => by simp at hu; subst hu; rfl) (by unfold maxLen; omega) (by omega) (by simp; omega) ?_)
              intro v2 w2 hown2 hg2 hat2
              have hk2 : Kept [] we w2 := (HK1.out.alloc _).grown hg2 (fun x hx => .inr (HR1.out x (mem_rowOf hx)))
              have hr2 : ∀ x ∈ rowOf v2, we.heap.size ≤ x := fun x hx => by
                rcases rowOf_new hat2 x hx with h | h
                · exact HR1.out x h
                · first | omega | (simp at h; omega)
              have HSC2 := Lib.hid (HSC.out.kept hk2 (by simp))
              have hs2 : we.heap.size ≤ w2.heap.size := hk2.size
              have HO2 := Lib.hid hown2
              have HR2 := Lib.hid hr2
              have HK2 := Lib.hid hk2
              clear hown2 hg2 hat2 hk2 hr2
              go_wp2_with (at_builtin; refine wpList_append_src _ rfl (.tmp 63) (.tmp 66) 23 rfl W.heap.size 3 i0 (.int .i64 0) 1 8 Try.underlying23 hi0 hz0 hz1 hz2 rfl (by decide) _ _ _ rfl HO2.out _ (m - k) (mk - k) rfl _ HSC2.out (fun u hu => il_one _ _ (List.mem_of_mem_drop hu)) (by unfold maxLen; omega) (by omega) (by omega) ?_)
              intro v3 w3 hown3 hg3 hat3
              have hk3 : Kept [] we w3 := HK2.out.grown hg3 (fun x hx => .inr (HR2.out x (mem_rowOf hx)))
              have hb3 : Below W.heap.size W w3 := HBE.out.trans (hk3.below hwq (by simp))
              have HF := Lib.hid (And.intro hown3 hb3)
              clear hown3 hg3 hat3 hcut hk3 hb3
              go_wp2_with fail
              go_roundg (gk - 1)
              case measure => omega
              case rel =>
                have hx0 : k ≤ M.length := by rw [← HM.out]; exact hkm
                have hlen := (ins_perm M i k).length_eq
                refine ⟨i + 1, v3, M.take k ++ i :: M.drop k, by go_num, by omega, rfl, ?_, ?_, sd_ins (elt_law E) HSO.out hx0 (sd_back HSO.out hx0 (.inl HK0.out)) HJ.out, ?_, HOK2.out, HF.out.2⟩
                · rw [hlen]
                  have e : il (M.take k ++ i :: M.drop k) = [] ++ (il M).take (k * 1) ++ [.int .i64 (i : Int)] ++ (il M).drop (k * 1) := by
                    rw [il_app, ← il_take, ← il_drop]; simp [il]
                  rw [e]
                  have e2 : (i :: M).length = 0 + k + 1 + (m - k) := by have := HM.out; simp; omega
                  rw [e2]
                  first | exact HF.out.1 | simpa using HF.out.1
                · refine (ins_perm M _ k).trans ?_
                  rw [List.range_succ]
                  exact (HPM.out.cons _).trans (List.perm_append_singleton _ _).symm
                · have h9 := HM.out
                  rw [hlen]; simp; omega
            · obtain ⟨k, rfl⟩ : ∃ j, k = j + 1 := ⟨k - 1, by omega⟩
              clear hk0
              obtain ⟨wb, wof, rfl⟩ := HWS.out.of_pos (by omega)
              have hkM : k < M.length := by have := HM.out; omega
              have hyi : gi M k < i := by
                rw [gi_at M k hkM]
                exact List.mem_range.1 (HPM.out.mem_iff.1 (List.getElem_mem hkM))
              have HCK : Hid (∀ w', Kept [] wo w' → w'.cell? ⟨wb, wof + k, none⟩ = some (.int .i64 ((gi M k : Nat) : Int))) := Lib.hid (fun w' hk => (HWS.out.kept hk (by simp)).at_ k _ (il_at M k hkM))
              have HLE := Lib.hid (rless_elt E i (gi M k) hyi)
              have HRL := Lib.hid (fun w => rless_is (E i) (E (gi M k)) w)
              obtain ⟨y, hy⟩ : ∃ y, y = gi M k := ⟨_, rfl⟩
              rw [← hy] at HCK HLE HRL hyi
              have HY := Lib.hid hy
              clear hy
              have hGK : ∀ w', Grow wr.drew w' → Kept [] wo w' := fun w' hg => HKK.out.drew.trans (Kept.of_below hg []) (by simp)
              have HGK := Lib.hid hGK
              clear hGK
              go_wp2_with fail
              refine wp_region_grow (by kernel_rfl) ?_
              refine tkG 0 (some 35) (.int .i64 ((k : Int) + 1)) rfl (by rfl) (by kernel_rfl) (by kernel_rfl) (by kernel_rfl) (fun _ _ _ h => h) (by kernel_rfl) (fun _ _ => by kernel_rfl) ?_
              refine tkG 1 (some 36) (.bool true) rfl (by rfl) (by kernel_rfl) (by kernel_rfl) (by kernel_rfl) (fun _ _ _ h => h) (by kernel_rfl) (fun w' hg => run_gtr0 35 (by rfl) k (by kernel_rfl)) ?_
              refine tkG 2 (some 37) (.bool true) rfl (by rfl) (by kernel_rfl) (by kernel_rfl) (by kernel_rfl) (fun _ _ _ h => h) (by kernel_rfl) (fun _ _ => by kernel_rfl) ?_
              refine tkG 3 (some 38) (.slice (some ⟨bl, off, none⟩) n cap) rfl (by rfl) (by kernel_rfl) (by kernel_rfl) (by kernel_rfl) (fun _ _ _ h => h) (by kernel_rfl) (fun _ _ => by kernel_rfl) ?_
              refine tkG 4 (some 39) (.int .i64 (i : Int)) rfl (by rfl) (by kernel_rfl) (by kernel_rfl) (by kernel_rfl) (fun _ _ _ h => h) (by kernel_rfl) (fun _ _ => by kernel_rfl) ?_
              refine tkG 5 (some 40) (.pointer (some ⟨bl, off + i * 11, none⟩)) rfl (by rfl) (by kernel_rfl) (by kernel_rfl) (by kernel_rfl) (fun _ _ _ h => h) (by kernel_rfl) (fun w' hg => ix_events (.tmp 38) (.tmp 39) (by rfl) bl off n cap i (by kernel_rfl) (by kernel_rfl) hin) ?_
              refine tkG 6 (some 41) (.agg (evV (E i))) rfl (by rfl) (by kernel_rfl) (by kernel_rfl) (by kernel_rfl) (fun _ _ _ h => h) (by kernel_rfl) (fun w' hg => run_ld 40 (.tmp 40) (by rfl) ⟨bl, off + i * 11, none⟩ (by kernel_rfl) ((HEI.out.kept (HGK.out w' hg) (by simp)).load i hin)) ?_
              refine tkG 7 (some 42) (.slice (some ⟨bl, off, none⟩) n cap) rfl (by rfl) (by kernel_rfl) (by kernel_rfl) (by kernel_rfl) (fun _ _ _ h => h) (by kernel_rfl) (fun _ _ => by kernel_rfl) ?_
              refine tkG 8 (some 43) (.slice (some ⟨wb, wof, none⟩) m mk) rfl (by rfl) (by kernel_rfl) (by kernel_rfl) (by kernel_rfl) (fun _ _ _ h => h) (by kernel_rfl) (fun _ _ => by kernel_rfl) ?_
              refine tkG 9 (some 44) (.int .i64 ((k : Int) + 1)) rfl (by rfl) (by kernel_rfl) (by kernel_rfl) (by kernel_rfl) (fun _ _ _ h => h) (by kernel_rfl) (fun _ _ => by kernel_rfl) ?_
              refine tkG 10 (some 45) (.int .i64 (k : Int)) rfl (by rfl) (by kernel_rfl) (by kernel_rfl) (by kernel_rfl) (fun _ _ _ h => h) (by kernel_rfl) (fun w' hg => run_sub1 44 (by rfl) k (by omega) (by kernel_rfl)) ?_
              refine tkG 11 (some 46) (.pointer (some ⟨wb, wof + k, none⟩)) rfl (by rfl) (by kernel_rfl) (by kernel_rfl) (by kernel_rfl) (fun _ _ _ h => h) (by kernel_rfl) (fun w' hg => ix_ints (.tmp 43) (.tmp 45) (by rfl) wb wof m mk k (by kernel_rfl) (by kernel_rfl) (by omega)) ?_
              refine tkG 12 (some 47) (.int .i64 (y : Int)) rfl (by rfl) (by kernel_rfl) (by kernel_rfl) (by kernel_rfl) (fun _ _ _ h => h) (by kernel_rfl) (fun w' hg => run_ld 3 (.tmp 46) (by rfl) ⟨wb, wof + k, none⟩ (by kernel_rfl) (ld_int (HCK.out w' (HGK.out w' hg)))) ?_
              refine tkG 13 (some 48) (.pointer (some ⟨bl, off + y * 11, none⟩)) rfl (by rfl) (by kernel_rfl) (by kernel_rfl) (by kernel_rfl) (fun _ _ _ h => h) (by kernel_rfl) (fun w' hg => ix_events (.tmp 42) (.tmp 47) (by rfl) bl off n cap y (by kernel_rfl) (by kernel_rfl) (by omega)) ?_
              refine tkG 14 (some 49) (.agg (evV (E y))) rfl (by rfl) (by kernel_rfl) (by kernel_rfl) (by kernel_rfl) (fun _ _ _ h => h) (by kernel_rfl) (fun w' hg => run_ld 40 (.tmp 48) (by rfl) ⟨bl, off + y * 11, none⟩ (by kernel_rfl) ((HEI.out.kept (HGK.out w' hg) (by simp)).load y (by omega))) ?_
              refine clG 15 (some 50) (.bool (rlessB (E i) (E y))) 19 #[.agg (evV (E i)), .agg (evV (E y))] rfl (by rfl) (by kernel_rfl) (by kernel_rfl) (by kernel_rfl) (fun _ _ _ h => h) (by kernel_rfl) (fun w => by kernel_rfl) (fun w hg => HRL.out w) ?_
              refine tkG 16 (some 51) (.bool (rlessB (E i) (E y))) rfl (by rfl) (by kernel_rfl) (by kernel_rfl) (by kernel_rfl) (fun _ _ _ h => h) (by kernel_rfl) (fun _ _ => by kernel_rfl) ?_
              refine dnG (by kernel_rfl) (fun w3 hg3 => ?_) _
              have HK3 := Lib.hid (HGK.out w3 hg3)
              rw [HLE.out]
              clear hg3 HGK HRL HLE HCK HKK hyi
              simp only [Act.put, List.setIfInBounds_toArray, List.set_cons_zero, List.set_cons_succ]
              cases hl : elt E i y with
              | true =>
                have HL := Lib.hid hl
                clear hl
                go_wp2_with fail
                go_roundw
                case rel => exact ⟨k, by go_num, by omega, .inr (by rw [← HY.out]; exact HL.out), HK3.out⟩
                case measure => simp [intOf]
              | false =>
                have HL := Lib.hid hl
                clear hl
                have hkm0 := hkm
                obtain ⟨k0, hk00⟩ : ∃ k0, k0 = k := ⟨_, rfl⟩
                rw [show ((k : Int) + 1) = ((k + 1 : Nat) : Int) by omega] at *
                obtain ⟨k, hk1⟩ : ∃ j, j = k + 1 := ⟨_, rfl⟩
                rw [← hk1] at hkm HJ ⊢
                have HKZ : Hid (k = 0 ∨ elt E i (gi M (k - 1)) = false) := Lib.hid (.inr (by rw [hk1, Nat.add_sub_cancel, ← HY.out]; exact HL.out))
                clear hk1 hk00
                have hSe := Src.kept HWS.out HK3.out (by simp)
                obtain ⟨hhead, ao, hcut, hsc, hsb⟩ := hSe.cuts 23 (by kernel_rfl) (by intro w; kernel_rfl) k hkm
                have HSC := Lib.hid hsc
                have HSH := Lib.hid (hSe.head k hkm)
                have HBE := Lib.hid (HB.out.trans (HK3.out.below HB.out.size (by simp)))
                generalize hwe : w3 = we at *
                have hwq : W.heap.size ≤ we.heap.size := HBE.out.size
                clear hsc hsb hSe hwe
                go_wp2_with (at_builtin; refine wpList_append_src _ rfl (.tmp 54) (.tmp 57) 23 rfl W.heap.size 3 i0 (.int .i64 0) 1 8 Try.underlying23 hi0 hz0 hz1 hz2 rfl (by decide) _ 0 [] rfl (World.ownsRow_nil _ _ _ _) _ k mk rfl _ HSH.out (fun u hu => il_one _ _ (List.mem_of_mem_take hu)) (by unfold maxLen; omega) (by omega) hwq ?_)
                intro v1 w1 hown1 hg1 hat1
                have hk1 : Kept [] we w1 := (Kept.refl [] _).grown hg1 (fun x hx => by simp [Value.ownBlock] at hx)
                have hs1 : we.heap.size ≤ w1.heap.size := hk1.size
                have hr1 : ∀ x ∈ rowOf v1, we.heap.size ≤ x := fun x hx => by
                  rcases rowOf_new hat1 x hx with h | h
                  · simp [rowOf, Value.ownBlock] at h
                  · exact h
                have HO1 := Lib.hid hown1
                have HR1 := Lib.hid hr1
                have HK1 := Lib.hid hk1
                clear hown1 hg1 hat1 hk1 hr1 hhead
                go_wp2_with (at_builtin; refine wpList_append_src _ rfl (.tmp 59) (.tmp 61) 23 rfl W.heap.size 3 i0 (.int .i64 0) 1 8 Try.underlying23 hi0 hz0 hz1 hz2 rfl (by decide) _ _ _ rfl (HO1.out.alloc _) _ 1 1 rfl _ (src_i w1 _ rfl (i : Int)) (fun u hu => by simp at hu; subst hu; rfl) (by unfold maxLen; omega) (by omega) (by simp; omega) ?_)
                intro v2 w2 hown2 hg2 hat2
                have hk2 : Kept [] we w2 := (HK1.out.alloc _).grown hg2 (fun x hx => .inr (HR1.out x (mem_rowOf hx)))
                have hr2 : ∀ x ∈ rowOf v2, we.heap.size ≤ x := fun x hx => by
                  rcases rowOf_new hat2 x hx with h | h
                  · exact HR1.out x h
                  · first | omega | (simp at h; omega)
                have HSC2 := Lib.hid (HSC.out.kept hk2 (by simp))
                have hs2 : we.heap.size ≤ w2.heap.size := hk2.size
                have HO2 := Lib.hid hown2
                have HR2 := Lib.hid hr2
                have HK2 := Lib.hid hk2
                clear hown2 hg2 hat2 hk2 hr2
                go_wp2_with (at_builtin; refine wpList_append_src _ rfl (.tmp 63) (.tmp 66) 23 rfl W.heap.size 3 i0 (.int .i64 0) 1 8 Try.underlying23 hi0 hz0 hz1 hz2 rfl (by decide) _ _ _ rfl HO2.out _ (m - k) (mk - k) rfl _ HSC2.out (fun u hu => il_one _ _ (List.mem_of_mem_drop hu)) (by unfold maxLen; omega) (by omega) (by omega) ?_)
                intro v3 w3 hown3 hg3 hat3
                have hk3 : Kept [] we w3 := HK2.out.grown hg3 (fun x hx => .inr (HR2.out x (mem_rowOf hx)))
                have hb3 : Below W.heap.size W w3 := HBE.out.trans (hk3.below hwq (by simp))
                have HF := Lib.hid (And.intro hown3 hb3)
                clear hown3 hg3 hat3 hcut hk3 hb3
                go_wp2_with fail
                go_roundg (gk - 1)
                case measure => omega
                case rel =>
                  have hx0 : k ≤ M.length := by rw [← HM.out]; exact hkm
                  have hlen := (ins_perm M i k).length_eq
                  refine ⟨i + 1, v3, M.take k ++ i :: M.drop k, by go_num, by omega, rfl, ?_, ?_, sd_ins (elt_law E) HSO.out hx0 (sd_back HSO.out hx0 HKZ.out) HJ.out, ?_, HOK2.out, HF.out.2⟩
                  · rw [hlen]
                    have e : il (M.take k ++ i :: M.drop k) = [] ++ (il M).take (k * 1) ++ [.int .i64 (i : Int)] ++ (il M).drop (k * 1) := by
                      rw [il_app, ← il_take, ← il_drop]; simp [il]
                    rw [e]
                    have e2 : (i :: M).length = 0 + k + 1 + (m - k) := by have := HM.out; simp; omega
                    rw [e2]
                    first | exact HF.out.1 | simpa using HF.out.1
                  · refine (ins_perm M _ k).trans ?_
                    rw [List.range_succ]
                    exact (HPM.out.cons _).trans (List.perm_append_singleton _ _).symm
                  · have h9 := HM.out
                    rw [hlen]; simp; omega
    · have hin2 : i = n := by omega
      subst hin2
      go_wp2_with fail
      try rw [Exit.noGoto_ret]
      go_returns
      exact .inr ⟨HOK.out, _, M, rfl, ⟨HPM.out, HSO.out⟩, by rw [← HM.out]; have := HO.out; rw [← HM.out] at this; exact this, HB.out⟩
end Go.Proofs.Ytpojophpbggkcaa
