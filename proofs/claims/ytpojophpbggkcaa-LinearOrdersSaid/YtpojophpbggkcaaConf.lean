/- Regions that draw their order, whose operations load, reckon, make new blocks and call what leaves all old blocks as they lay: an operation whose value hangs on the old blocks alone is taken first, calls too. No function of the program in sight. -/
import Derived.Test.YtpojophpbggkcaaMem
import Derived.Deep.RegionHeld3
namespace Go.Proofs.Ytpojophpbggkcaa
open Go.ChangeShapes Go.WideShapes Go.ChangeAt Go.RowKit
set_option linter.unusedVariables false

/-- all blocks of the one lie in the other as they lay -/
abbrev Grow (w w' : World) : Prop := Below w.heap.size w w'
theorem Grow.rfl' (w : World) : Grow w w := Below.refl _ _
theorem Grow.next {a b c : World} (h : Grow a b) (k : Grow b c) : Grow a c := h.trans (k.mono h.size)
theorem Grow.alloc {a b : World} (h : Grow a b) (o : Obj) : Grow a (b.alloc o) := Below.alloc h h.size o
theorem Grow.drew {a b : World} (h : Grow a b) : Grow a b.drew := Below.drew h
section
variable {P : Program} {ops : Array Oper} {Q : Exit → Act → World → Prop} {md : Region.Mode}
/-- in every growth of w0: the value v, and nothing old turns -/
def YieldsG (P : Program) (ops : Array Oper) (o : Oper) (v : Value) (a : Act) (w0 : World) : Prop :=
  (Region.wanted o (yielded ops a.tmps) = true ∧ ∀ w, Grow w0 w → (execOp a.eval o).run P w = .ok (.value v) w ∨ ∃ f args, (execOp a.eval o).run P w = .ok (.enter f args) w ∧ Calls P f args w (fun e w' => e = .returned v ∧ Grow w w')) ∨
  (Region.wanted o (yielded ops a.tmps) = false ∧ v = undef)
theorem YieldsG.of_same {o : Oper} {v : Value} {a a' : Act} {w0 : World} (hy : YieldsG P ops o v a w0) (he : execOp a'.eval o = execOp a.eval o)
    (hw : Region.wanted o (yielded ops a'.tmps) = Region.wanted o (yielded ops a.tmps)) : YieldsG P ops o v a' w0 := by
  unfold YieldsG at *
  rw [he, hw]
  exact hy
theorem YieldsG.later {o : Oper} {v : Value} {a : Act} {w0 w1 : World} (hy : YieldsG P ops o v a w0) (hg : Grow w0 w1) : YieldsG P ops o v a w1 :=
  hy.imp (fun ⟨h, k⟩ => ⟨h, fun w hw => k w (hg.next hw)⟩) id
theorem YieldsG.wpOp {i : Nat} {o : Oper} {v : Value} {a : Act} {w0 w : World} (hi : ops[i]? = some o) (hy : YieldsG P ops o v a w0) (hw0 : Grow w0 w)
    {K : Act → World → Prop} (h : ∀ w', Grow w w' → K (a.put o.dst v) w') : wpOp P ops Q i K a w := by
  unfold Go.wpOp
  simp only [hi]
  rcases hy with ⟨hw, hv⟩ | ⟨hw, rfl⟩
  · rw [if_pos hw]
    rcases hv w hw0 with hv | ⟨f, args, hv, hc⟩
    · simp only [Oper.wp, hv, Oper.upon]; exact .inl (h w (Grow.rfl' w))
    · refine .inl ?_
      unfold Oper.wp
      rw [hv, Oper.upon_enter]
      refine hc.mono fun e w' he => ?_
      obtain ⟨rfl, hg⟩ := he
      exact h w' hg
  · simp only [hw, Bool.false_eq_true, if_false]; exact h w (Grow.rfl' w)
theorem wpOp_putG {j : Nat} {oi oj : Oper} {v : Value} {w0 : World} (hj : ops[j]? = some oj) (hap : oi.apart ops oj = true)
    (hsi : ∀ cs b, oi.op ≠ .select cs b) (hsj : ∀ cs b, oj.op ≠ .select cs b)
    (hQ : ∀ c a w, Q (.panic c) (a.put oi.dst v) w → Q (.panic c) a w) {K : Act → World → Prop} {a : Act} {w : World}
    (hy : YieldsG P ops oi v a w0) (h : wpOp P ops Q j K (a.put oi.dst v) w) :
    wpOp P ops Q j (fun a' w' => YieldsG P ops oi v a' w0 ∧ K (a'.put oi.dst v) w') a w := by
  obtain ⟨h1, h2, h3⟩ := Oper.apart_spec hap
  have keep : ∀ (a : Act), YieldsG P ops oi v a w0 → ∀ u, YieldsG P ops oi v (a.put oj.dst u) w0 := fun a hy u =>
    hy.of_same (execOp_put oi hsi a oj.dst u h3) (wanted_put oi a oj.dst u h3)
  have keepD : ∀ d, YieldsG P ops oi v { a with defers := d :: a.defers } w0 := fun d => hy.of_same rfl rfl
  unfold wpOp at *
  simp only [hj] at *
  rw [wanted_put oj a oi.dst v h1] at h
  split
  · rename_i hw
    simp only [hw, if_true] at h
    rcases h with h | ⟨hasks, hlets⟩
    case inr => exact .inr ⟨by unfold Oper.asks at *; rw [execOp_put oj hsj a oi.dst v h1] at hasks; exact hasks, hlets⟩
    refine .inl ?_
    unfold Oper.wp at *
    rw [execOp_put oj hsj a oi.dst v h1] at h
    generalize (execOp a.eval oj).run P w = r at *
    cases r with
    | ok n w' =>
      cases n <;> simp only [Oper.upon] at h ⊢
      case value u => exact ⟨keep a hy u, by rw [← Act.put_comm a v u h2]; exact h⟩
      case skip => exact ⟨keep a hy _, by rw [← Act.put_comm a v undef h2]; exact h⟩
      case defer d =>
        refine ⟨keep _ (keepD d) _, ?_⟩
        rw [← Act.put_comm _ v undef h2, ← Act.put_defers]
        exact h
      case enter f args =>
        refine Calls.mono h fun e w'' he => ?_
        cases e with
        | returned u => exact ⟨keep a hy u, by rw [← Act.put_comm a v u h2]; exact he⟩
        | panicked c => exact hQ _ _ _ he
        | outgrown => exact he
      case row row args => exact Rows.mono h fun u w'' he => ⟨keep a hy u, by rw [← Act.put_comm a v u h2]; exact he⟩
    | halt x w' =>
      cases x <;> simp only [Oper.upon] at h ⊢
      case panic u => exact hQ _ _ _ h
  · rename_i hw
    simp only [hw] at h
    exact ⟨keep a hy _, by rw [← Act.put_comm a v undef h2]; exact h⟩
/-- whatever order is picked from here on, in every growth of the world -/
def wpAnyG (P : Program) (md : Region.Mode) (ops : Array Oper) (Q : Exit → Act → World → Prop) : Nat → Array Bool → Act → World → Prop
  | 0, listed, a, w0 => ∀ w, Grow w0 w → Region.ready md ops listed = [] ∧ Q .normal a w
  | fuel + 1, listed, a, w0 => ∀ w, Grow w0 w → (Region.ready md ops listed = [] → Q .normal a w) ∧
    ∀ i ∈ Region.ready md ops listed, wpOp P ops Q i (fun a' w' => Grow w w' ∧ wpAnyG P md ops Q fuel (listed.setIfInBounds i true) a' w') a w
theorem wpAny_of_G : ∀ (fuel : Nat) (listed : Array Bool) (a : Act) (w : World), wpAnyG P md ops Q fuel listed a w → wpAny P md ops Q fuel listed a w
  | 0, _, _, w, h => h w (Grow.rfl' w)
  | fuel + 1, _, _, w, h => ⟨(h w (Grow.rfl' w)).1, fun i hi => wpOp_mono (fun a' w' h' => wpAny_of_G fuel _ a' w' h'.2) ((h w (Grow.rfl' w)).2 i hi)⟩
theorem wpAnyG.later {fuel : Nat} {listed : Array Bool} {a : Act} {w0 w1 : World} (h : wpAnyG P md ops Q fuel listed a w0) (hg : Grow w0 w1) : wpAnyG P md ops Q fuel listed a w1 := by
  cases fuel with
  | zero => exact fun w hw => h w (hg.next hw)
  | succ n => exact fun w hw => h w (hg.next hw)
theorem wpAnyG_first {i : Nat} {oi : Oper} {v : Value} (hi : ops[i]? = some oi) (hsel : ∀ (j : Nat) (o : Oper) cs b, ops[j]? = some o → o.op ≠ .select cs b)
    (hQ : ∀ c a w, Q (.panic c) (a.put oi.dst v) w → Q (.panic c) a w) :
    ∀ (fuel : Nat) (listed : Array Bool) (a : Act) (w0 : World),
      (∀ j oj, ops[j]? = some oj → j ≠ i → listed.getD j true = false → (∀ e ∈ oj.after, Region.binds md e = true → e.on ≠ i) → oi.apart ops oj = true) →
      i ∈ Region.ready md ops listed → YieldsG P ops oi v a w0 →
      wpAnyG P md ops Q fuel (listed.setIfInBounds i true) (a.put oi.dst v) w0 → wpAnyG P md ops Q (fuel + 1) listed a w0 := by
  intro fuel
  induction fuel with
  | zero =>
    intro listed a w0 _ hr hy H w hw
    refine ⟨fun h => (by rw [h] at hr; cases hr), fun j hj => ?_⟩
    by_cases hji : j = i
    · subst hji; exact hy.wpOp hi hw fun w' hw' => ⟨hw', fun w2 hw2 => H w2 ((hw.next hw').next hw2)⟩
    · have := ready_mono hj hji
      rw [(H w hw).1] at this
      cases this
  | succ fuel ih =>
    intro listed a w0 hfree hr hy H w hw
    refine ⟨fun h => (by rw [h] at hr; cases hr), fun j hj => ?_⟩
    by_cases hji : j = i
    · subst hji; exact hy.wpOp hi hw fun w' hw' => ⟨hw', H.later (hw.next hw')⟩
    · have h1 := (H w hw).2 j (ready_mono hj hji)
      obtain ⟨hjun, oj, hoj, hall⟩ := mem_ready.1 hj
      have hnot : ∀ e ∈ oj.after, Region.binds md e = true → e.on ≠ i := fun e he hb heq => by
        have h1 := hall e he hb
        have h0 := (mem_ready.1 hr).1
        rw [heq] at h1
        rcases Nat.lt_or_ge i listed.size with h' | h'
        · simp [h'] at h0 h1; rw [h0] at h1; cases h1
        · simp [Array.getElem?_eq_none h'] at h1
      have h2 := wpOp_putG hoj (hfree j oj hoj hji hjun hnot) (fun cs b => hsel i oi cs b hi) (fun cs b => hsel j oj cs b hoj) hQ hy h1
      have hfree' : ∀ k ok, ops[k]? = some ok → k ≠ i → (listed.setIfInBounds j true).getD k true = false →
          (∀ e ∈ ok.after, Region.binds md e = true → e.on ≠ i) → oi.apart ops ok = true := fun k ok hk hki hun hno => by
        refine hfree k ok hk hki ?_ hno
        by_cases hjk : j = k
        · subst hjk; exact hjun
        · rw [getD_set_ne true hjk] at hun; exact hun
      refine wpOp_mono (fun a' w' h3 => ⟨h3.2.1, ih (listed.setIfInBounds j true) a' w' hfree' (ready_mono hr (Ne.symm hji)) (h3.1.later (hw.next h3.2.1)) ?_⟩) h2
      rw [Array.setIfInBounds_comm _ _ hji]
      exact h3.2.2
/-- take number i first -/
theorem tkG {fuel : Nat} {listed : Array Bool} {a : Act} {w0 : World} (i : Nat) (d : Option Tmp) (v : Value) {oi : Oper} (hi : ops[i]? = some oi) (hd : oi.dst = d) (hs : Region.noSelect ops = true) (hf : Region.free md ops listed i = true) (hr : (Region.ready md ops listed).contains i = true)
    (hQ : ∀ c a w, Q (.panic c) (a.put oi.dst v) w → Q (.panic c) a w) (hw : Region.wanted oi (yielded ops a.tmps) = true) (hy : ∀ w, Grow w0 w → (execOp a.eval oi).run P w = .ok (.value v) w)
    (h : wpAnyG P md ops Q fuel (listed.setIfInBounds i true) (a.put d v) w0) : wpAnyG P md ops Q (fuel + 1) listed a w0 := by
  subst hd
  exact wpAnyG_first hi (Region.noSelect_spec hs) hQ fuel listed a w0 (Region.free_spec hi hf) (by simpa using hr) (.inl ⟨hw, fun w hg => .inl (hy w hg)⟩) h
/-- .. an operation that is not wanted -/
theorem skG {fuel : Nat} {listed : Array Bool} {a : Act} {w0 : World} (i : Nat) (d : Option Tmp) {oi : Oper} (hi : ops[i]? = some oi) (hd : oi.dst = d) (hs : Region.noSelect ops = true) (hf : Region.free md ops listed i = true) (hr : (Region.ready md ops listed).contains i = true)
    (hQ : ∀ c a w, Q (.panic c) (a.put oi.dst undef) w → Q (.panic c) a w) (hw : Region.wanted oi (yielded ops a.tmps) = false)
    (h : wpAnyG P md ops Q fuel (listed.setIfInBounds i true) (a.put d undef) w0) : wpAnyG P md ops Q (fuel + 1) listed a w0 := by
  subst hd
  exact wpAnyG_first hi (Region.noSelect_spec hs) hQ fuel listed a w0 (Region.free_spec hi hf) (by simpa using hr) (.inr ⟨hw, rfl⟩) h
/-- .. a call -/
theorem clG {fuel : Nat} {listed : Array Bool} {a : Act} {w0 : World} (i : Nat) (d : Option Tmp) (v : Value) (f : FuncId) (args : Array Value) {oi : Oper} (hi : ops[i]? = some oi) (hd : oi.dst = d) (hs : Region.noSelect ops = true) (hf : Region.free md ops listed i = true) (hr : (Region.ready md ops listed).contains i = true)
    (hQ : ∀ c a w, Q (.panic c) (a.put oi.dst v) w → Q (.panic c) a w) (hw : Region.wanted oi (yielded ops a.tmps) = true) (hy : ∀ w, (execOp a.eval oi).run P w = .ok (.enter f args) w) (hc : ∀ w, Grow w0 w → Calls P f args w (fun e w' => e = .returned v ∧ Grow w w'))
    (h : wpAnyG P md ops Q fuel (listed.setIfInBounds i true) (a.put d v) w0) : wpAnyG P md ops Q (fuel + 1) listed a w0 := by
  subst hd
  exact wpAnyG_first hi (Region.noSelect_spec hs) hQ fuel listed a w0 (Region.free_spec hi hf) (by simpa using hr) (.inl ⟨hw, fun w hg => .inr ⟨f, args, hy w, hc w hg⟩⟩) h
/-- one alone may come up: a new block -/
theorem anG {fuel : Nat} {listed : Array Bool} {a : Act} {w0 : World} (i : Nat) (d : Option Tmp) {oi : Oper} (hr : Region.ready md ops listed = [i]) (hi : ops[i]? = some oi) (hd : oi.dst = d) (hw : Region.wanted oi (yielded ops a.tmps) = true) (v : World → Value) (W : World → World) (hg : ∀ w, Grow w (W w)) (hy : ∀ w, (execOp a.eval oi).run P w = .ok (.value (v w)) (W w))
    (h : ∀ w, Grow w0 w → wpAnyG P md ops Q fuel (listed.setIfInBounds i true) (a.put d (v w)) (W w)) : wpAnyG P md ops Q (fuel + 1) listed a w0 := by
  subst hd
  intro w hw0
  refine ⟨fun h0 => (by rw [hr] at h0; cases h0), fun j hj => ?_⟩
  rw [hr] at hj
  obtain rfl : j = i := by simpa using hj
  unfold wpOp
  simp only [hi]
  rw [if_pos hw]
  refine .inl ?_
  unfold Oper.wp
  rw [hy w]
  exact ⟨hg w, h w hw0⟩
theorem dnG {listed : Array Bool} {a : Act} {w0 : World} (hr : Region.ready md ops listed = []) (h : ∀ w, Grow w0 w → Q .normal a w) : ∀ fuel, wpAnyG P md ops Q fuel listed a w0
  | 0 => fun w hw => ⟨hr, h w hw⟩
  | _ + 1 => fun w hw => ⟨fun _ => h w hw, by rw [hr]; simp⟩
/-- the beginning -/
theorem wp_region_grow {id : Nat} {a : Act} {w : World} (hm : P.follows .mixedOrders = true)
    (h : wpAnyG P .any ops Q ops.size (Array.replicate ops.size false) a w.drew) : (Code.region id ops true).wp P Q a w :=
  wp_region_any hm (wpAny_of_G _ _ _ _ h)
end
/-- operations that only look at their temporaries -/
theorem run_val {P : Program} {o : Oper} {a : Act} (v : Value) (h : ∀ w, (execOp a.eval o).run P w = .ok (.value v) w) (w0 w : World) (hg : Grow w0 w) : (execOp a.eval o).run P w = .ok (.value v) w := h w
theorem run_ld {P : Program} {o : Oper} {a : Act} {w : World} (T : TypeId) (x : Operand) (ho : o.op = .load T x) (ad : Addr) (hx : a.eval x = .pointer (some ad)) {v : Value} (hl : (loadVar T ad).run P w = .ok v w) : (execOp a.eval o).run P w = .ok (.value v) w := by
  unfold execOp
  simp only [ho, hx, Instr.loadAt, Instr.sureAddr, Sem.run_bind, Sem.run_pure, Result.andThen_ok, hl]
end Go.Proofs.Ytpojophpbggkcaa
