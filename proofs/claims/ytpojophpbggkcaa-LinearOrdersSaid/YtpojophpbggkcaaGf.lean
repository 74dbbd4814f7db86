/- Package fifo at large: a model's memory, all ends and streams. -/
import Derived.Test.YtpojophpbggkcaaFifo2
namespace Go.Proofs.Ytpojophpbggkcaa
open Go.ChangeShapes Go.WideShapes Go.ChangeAt Go.RowKit
open Go.Maps (Keyed)
set_option linter.unusedVariables false

def gkey (a s : Nat) : Value := .agg #[.int .i64 (a : Int), .int .i64 (s : Int)]
theorem gkeys : ((List.range 512).all fun i => (keyOf Try.prog 84 (gkey (i / 256) (i % 256))).isSome) = true := by kernel_rfl
theorem gkey_some (a s : Nat) (ha : a < 2) (hs : s < 256) : ∃ kl, keyOf Try.prog 84 (gkey a s) = some kl := by
  have h := List.all_eq_true.1 gkeys (a * 256 + s) (List.mem_range.2 (by omega))
  rw [show (a * 256 + s) / 256 = a by omega, show (a * 256 + s) % 256 = s by omega] at h
  exact Option.isSome_iff_exists.1 h
theorem gkey_inj {a s b t : Nat} {kl : Lit} (h : keyOf Try.prog 84 (gkey a s) = some kl) (k : keyOf Try.prog 84 (gkey b t) = some kl) : a = b ∧ s = t := by
  have e := fend_law.inj h k
  unfold gkey at e
  injection e with e
  have e0 := congrArg (·[0]?) e
  have e1 := congrArg (·[1]?) e
  simp at e0 e1
  omega
/-- how a queue's pointer reads: which block -/
def ptrG : Value → Option (DataW Unit × List MemPlace)
  | .pointer none => some (.lit (.int .i64 (-1)), [])
  | .pointer (some ⟨b, off, none⟩) => if off = 0 then some (.lit (.int .i64 (b : Int)), []) else none
  | _ => none
theorem ptrG_inv {v : Value} {x : Int} {ps : List MemPlace} (h : ptrG v = some (.lit (.int .i64 x), ps)) : (v = .pointer none ∧ x = -1) ∨ ∃ b : Nat, v = .pointer (some ⟨b, 0, none⟩) ∧ x = b := by
  unfold ptrG at h
  split at h
  · injection h with h; injection h with h _; injection h with h; injection h with _ h; exact .inl ⟨rfl, h.symm⟩
  · split at h
    · rename_i e
      subst e
      injection h with h; injection h with h _; injection h with h; injection h with _ h
      exact .inr ⟨_, rfl, h.symm⟩
    · cases h
  · cases h
def elV : Option Nat → Int
  | none => -1
  | some q => q
def elP (o : Option Nat) : Value := .pointer (o.map fun q => ⟨q, 0, none⟩)
theorem elP_of {v : Value} {o : Option Nat} {ps : List MemPlace} (h : ptrG v = some (.lit (.int .i64 (elV o)), ps)) : v = elP o := by
  rcases ptrG_inv h with ⟨rfl, h1⟩ | ⟨b, rfl, h1⟩
  · cases o with
    | none => rfl
    | some q => exfalso; simp only [elV] at h1; omega
  · cases o with
    | none => exfalso; simp only [elV] at h1; omega
    | some q =>
      have e : q = b := by simp only [elV] at h1; omega
      subst e; rfl
/-- the queues' map: which ends have one, and where -/
def GMap (w : World) (bm c : Nat) (el : Nat → Nat → Option Nat) : Prop :=
  ∃ D : DataW Unit, w.ownsMap Try.prog 84 ptrG bm c D ∧ ∀ a s kl, a < 2 → s < 256 → keyOf Try.prog 84 (gkey a s) = some kl → D.atKey kl (.lit (.int .i64 (-1))) = .lit (.int .i64 (elV (el a s)))
theorem GMap.lt {w : World} {bm c : Nat} {el : Nat → Nat → Option Nat} (h : GMap w bm c el) : bm < w.heap.size := by obtain ⟨D, h1, _⟩ := h; exact h1.lt
theorem GMap.kept {w w' : World} {bm c : Nat} {el : Nat → Nat → Option Nat} {r : List Nat} (h : GMap w bm c el) (hk : Kept r w w') (hr : bm ∉ r) : GMap w' bm c el := by
  obtain ⟨D, h1, h2⟩ := h
  have hlt := h1.lt
  obtain ⟨es, clock, hb, F, hs, hD⟩ := h1
  exact ⟨D, ⟨es, clock, (hk.block bm hlt hr).trans hb, F, hs, hD⟩, h2⟩
theorem GMap.made (w : World) : GMap (w.alloc (.map #[] 0)) w.heap.size 0 (fun _ _ => none) :=
  ⟨_, World.ownsMap_made w _ _ _, fun a s kl ha hs hk => rfl⟩
theorem GMap.look {w : World} {bm c : Nat} {el : Nat → Nat → Option Nat} (h : GMap w bm c el) (a s : Nat) (ha : a < 2) (hs : s < 256) : (Instr.lookup 65 (.map (some bm)) (.agg #[.int .i64 (a : Int), .int .i64 (s : Int)]) false).run Try.prog w = .ok (elP (el a s)) w := by
  obtain ⟨D, h1, h2⟩ := h
  obtain ⟨kl, hkey⟩ := gkey_some a s ha hs
  obtain ⟨v, ps, hrun, hv⟩ := h1.lookup fend_law Try.underlying65 (zqueue w) (zd := .lit (.int .i64 (-1))) (zp := []) rfl hkey
  rw [h2 a s kl ha hs hkey] at hv
  rw [elP_of hv] at hrun
  exact hrun
def updE (el : Nat → Nat → Option Nat) (a s q : Nat) (b t : Nat) : Option Nat := if b = a ∧ t = s then some q else el b t
theorem GMap.store {w : World} {bm c : Nat} {el : Nat → Nat → Option Nat} (h : GMap w bm c el) (hc : c < 100000) (a s : Nat) (ha : a < 2) (hs : s < 256) (q : Nat) : ∃ w', (Instr.mapUpdate 65 (.map (some bm)) (.agg #[.int .i64 (a : Int), .int .i64 (s : Int)]) (.pointer (some ⟨q, 0, none⟩))).run Try.prog w = .ok () w' ∧ GMap w' bm (c + 1) (updE el a s q) ∧ Kept [bm] w w' := by
  obtain ⟨D, h1, h2⟩ := h
  obtain ⟨kl, hkey⟩ := gkey_some a s ha hs
  have hi := h1.isMap
  have hkl : Go.WideAt.IsKeyLit kl := fend_law.key hkey
  obtain ⟨w', hr, h3, h4⟩ := h1.update fend_law Try.underlying65 (by unfold maxLen; omega) hkey (val := .pointer (some ⟨q, 0, none⟩)) (d := .lit (.int .i64 (q : Int))) (ps := []) (by simp [ptrG])
  refine ⟨w', hr, ⟨_, h3, fun b t kl' hb ht hk' => ?_⟩, (Kept.refl _ _).grown h4 (fun z hz => by simp at hz; simp [hz])⟩
  unfold updE
  by_cases e : b = a ∧ t = s
  · obtain ⟨rfl, rfl⟩ := e
    rw [hkey] at hk'
    injection hk' with hk'
    subst hk'
    rw [Maps.atKey_put_same hi hkl, if_pos ⟨rfl, rfl⟩]
    rfl
  · rw [Maps.atKey_put_other (fun e2 => e (by subst e2; exact gkey_inj hk' hkey)), if_neg e]
    exact h2 b t kl' hb ht hk'
/-- which streams are broken -/
def BrMap (w : World) (bb c : Nat) (br : Nat → Bool) : Prop :=
  ∃ D : DataW Unit, w.ownsMap Try.prog 3 (plainElem Try.prog 4) bb c D ∧ ∀ s : Nat, s < 256 → D.atKey (.int .i64 (s : Int)) (.lit (.bool false)) = .lit (.bool (br s))
theorem bint_wf (s : Nat) (h : s < 256) : (Lit.int .i64 (s : Int)).wf = true := by simp [Lit.wf, IntKind.min, IntKind.max, IntKind.signed, IntKind.bits]; omega
theorem bkey (s : Nat) (h : s < 256) : keyOf Try.prog 3 (.int .i64 (s : Int)) = some (.int .i64 (s : Int)) := Go.Maps.keyOf_int_mk (q := .i64) (a := s) Try.underlying3 (bint_wf s h)
theorem BrMap.lt {w : World} {bb c : Nat} {br : Nat → Bool} (h : BrMap w bb c br) : bb < w.heap.size := by obtain ⟨D, h1, _⟩ := h; exact h1.lt
theorem BrMap.kept {w w' : World} {bb c : Nat} {br : Nat → Bool} {r : List Nat} (h : BrMap w bb c br) (hk : Kept r w w') (hr : bb ∉ r) : BrMap w' bb c br := by
  obtain ⟨D, h1, h2⟩ := h
  have hlt := h1.lt
  obtain ⟨es, clock, hb, F, hs, hD⟩ := h1
  exact ⟨D, ⟨es, clock, (hk.block bb hlt hr).trans hb, F, hs, hD⟩, h2⟩
theorem BrMap.made (w : World) : BrMap (w.alloc (.map #[] 0)) w.heap.size 0 (fun _ => false) :=
  ⟨_, World.ownsMap_made w _ _ _, fun s hs => rfl⟩
theorem BrMap.look {w : World} {bb c : Nat} {br : Nat → Bool} (h : BrMap w bb c br) (s : Nat) (hs : s < 256) : (Instr.lookup 66 (.map (some bb)) (.int .i64 (s : Int)) false).run Try.prog w = .ok (.bool (br s)) w := by
  obtain ⟨D, h1, h2⟩ := h
  obtain ⟨v, ps, hrun, hv⟩ := h1.lookup fint_law Try.underlying66 (fzbool w) (plainElem_bool Try.underlying4 false) (bkey s hs)
  rw [h2 s hs] at hv
  unfold plainElem at hv
  rw [Try.underlying4] at hv
  cases v <;> simp at hv
  rw [hrun, hv.1]
def updB (br : Nat → Bool) (s t : Nat) : Bool := if t = s then true else br t
theorem BrMap.store {w : World} {bb c : Nat} {br : Nat → Bool} (h : BrMap w bb c br) (hc : c < 100000) (s : Nat) (hs : s < 256) : ∃ w', (Instr.mapUpdate 66 (.map (some bb)) (.int .i64 (s : Int)) (.bool true)).run Try.prog w = .ok () w' ∧ BrMap w' bb (c + 1) (updB br s) ∧ Kept [bb] w w' := by
  obtain ⟨D, h1, h2⟩ := h
  have hi := h1.isMap
  obtain ⟨w', hr, h3, h4⟩ := h1.update fint_law Try.underlying66 (by unfold maxLen; omega) (bkey s hs) (plainElem_bool Try.underlying4 true)
  refine ⟨w', hr, ⟨_, h3, fun t ht => ?_⟩, (Kept.refl _ _).grown h4 (fun z hz => by simp at hz; simp [hz])⟩
  unfold updB
  by_cases e : t = s
  · subst e
    rw [Maps.atKey_put_same hi (by simp [Go.WideAt.IsKeyLit]), if_pos rfl]
  · rw [Maps.atKey_put_other (by intro e2; injection e2 with _ e2; omega), if_neg e]
    exact h2 t ht
end Go.Proofs.Ytpojophpbggkcaa
