/- Lists of uint32 as rows; a map from uint32 to bool whose elements are true. No function of the program in sight. -/
import Derived.Test.YtappolgfkioihaaApp
import Derived.Maps.OwnSet
import Derived.Maps.RangeWalk
import Derived.Outline
import Derived.Handy
import Derived.BigRegion
import Derived.Deep.RegionHeld3
import Derived.IntWalk
namespace Go.Proofs.Ytappolgfkioihaa
open Go.ChangeShapes Go.WideShapes Go.ChangeAt Go.RowKit
open Go.Maps (Keyed)
set_option linter.unusedVariables false

def ul (L : List Nat) : List Value := L.map fun x : Nat => Value.int .u32 (x : Int)
theorem ul_len (L : List Nat) : (ul L).length = L.length := by simp [ul]
theorem ul_app (L M : List Nat) : ul (L ++ M) = ul L ++ ul M := by simp [ul]
theorem ul_at (L : List Nat) (j : Nat) (h : j < L.length) : (ul L)[j]? = some (.int .u32 (L[j] : Int)) := by simp [ul, h]
theorem ul_one (L : List Nat) : ∀ u ∈ ul L, u.oneCell' = true := by
  intro u hu
  simp only [ul, List.mem_map] at hu
  obtain ⟨x, _, rfl⟩ := hu; rfl
theorem u_info : (Try.prog.info? 22).map (fun i => (i.zero, i.size, i.bytes)) = some (some (.int .u32 0), 1, 4) := by kernel_rfl
/-- a list of numbers, read -/
structure RU (w : World) (p : Option Addr) (cap : Nat) (L : List Nat) : Prop where
  src : Src w p L.length cap 1 (ul L)
  lt : ∀ a, p = some a → a.block < w.heap.size
theorem RU.below {w w' : World} {p : Option Addr} {cap : Nat} {L : List Nat} (h : RU w p cap L) (hb : Below w.heap.size w w') : RU w' p cap L :=
  ⟨h.src.below hb h.lt, fun a ha => Nat.lt_of_lt_of_le (h.lt a ha) hb.size⟩
theorem RU.kept {w w' : World} {p : Option Addr} {cap : Nat} {L : List Nat} {r : List Nat} (h : RU w p cap L) (hk : Kept r w w') (hr : ∀ a, p = some a → a.block ∉ r) : RU w' p cap L :=
  ⟨h.src.kept hk hr, fun a ha => Nat.lt_of_lt_of_le (h.lt a ha) hk.size⟩
theorem RU.of_own {w : World} {base : Nat} {v : Value} {L : List Nat} (h : w.ownsRow base 22 1 v L.length (ul L)) : ∃ p cap, v = .slice p L.length cap ∧ RU w p cap L := by
  obtain ⟨p, cap, hv, hs⟩ := Src.of_own h
  refine ⟨p, cap, hv, hs, fun a ha => ?_⟩
  subst hv ha
  obtain ⟨b, off, sp⟩ := a
  have h2 := hs.spot _ rfl
  simp at h2
  subst h2
  rcases h.2 with ⟨h3, _⟩ | ⟨g, cap', cur, h3, _, hg, _⟩
  · cases h3
  · injection h3 with h3 _ _
    injection h3 with h3; injection h3 with h3
    subst h3
    exact (Array.getElem?_eq_some_iff.1 hg).1
theorem RU.own {w : World} {base : Nat} {p : Option Addr} {cap : Nat} {L : List Nat} (h : w.ownsRow base 22 1 (.slice p L.length cap) L.length (ul L)) : RU w p cap L := by
  obtain ⟨p', cap', h1, h2⟩ := RU.of_own h
  injection h1 with h1 _ h3
  subst h1 h3
  exact h2
theorem own_base2 {w : World} {base base' : Nat} {e : TypeId} {size n : Nat} {v : Value} {xs : List Value} (h : w.ownsRow base e size v n xs) (hb : base' ≤ base) : w.ownsRow base' e size v n xs := by
  refine ⟨h.1, ?_⟩
  rcases h.2 with h0 | ⟨g, cap, cur, hv, hg, r⟩
  · exact .inl h0
  · exact .inr ⟨g, cap, cur, hv, by omega, r⟩
theorem u_new (w : World) (x : Int) (T : TypeId) : ∀ (j : Nat) (u : Value), [Value.int .u32 x][j]? = some u → (w.alloc (.cells #[.int .u32 x] T)).cell? (Addr.add ⟨w.heap.size, 0, none⟩ j) = some u := by
  intro j u hj
  match j, hj with
  | 0, hj => simp at hj; subst hj; rw [add_plain, (Blk.new w _ _).cell]; rfl
theorem src_u (w : World) (x : Int) (T : TypeId) : Src (w.alloc (.cells #[.int .u32 x] T)) (some ⟨w.heap.size, 0, none⟩) 1 1 1 [.int .u32 x] :=
  ⟨rfl, Nat.le_refl _, by unfold maxLen; omega, (fun h => nomatch h), (fun a ha => by injection ha with ha; subst ha; rfl), fun a ha j u hu => by injection ha with ha; subst ha; exact u_new w x T j u hu⟩

theorem klaw : Keyed Try.prog 22 := Go.Maps.int_keyed Try.underlying22
theorem u_wf (x : Nat) (h : x < 4294967296) : (Lit.int .u32 (x : Int)).wf = true := by simp [Lit.wf, IntKind.min, IntKind.max, IntKind.signed, IntKind.bits]; omega
theorem hkey (x : Nat) (h : x < 4294967296) : keyOf Try.prog 22 (.int .u32 (x : Int)) = some (.int .u32 (x : Int)) := Go.Maps.keyOf_int_mk Try.underlying22 (u_wf x h)
theorem plain_bool_inv {v : Value} {z : DataW Unit × List MemPlace} (h : plainElem Try.prog 4 v = some z) : ∃ a, v = .bool a ∧ z = (.lit (.bool a), []) := by
  unfold plainElem at h
  rw [Try.underlying4] at h
  cases v <;> simp at h
  exact ⟨_, rfl, h.symm⟩
/-- the map of the block holds just the numbers of m -/
def WMap (w : World) (bm c : Nat) (m : Nat → Bool) : Prop :=
  ∃ D : DataW Unit, w.ownsMap Try.prog 22 (plainElem Try.prog 4) bm c D ∧ ∀ x : Nat, x < 4294967296 → D.atKey (.int .u32 (x : Int)) (.lit (.bool false)) = .lit (.bool (m x)) ∧ Maps.has D (.int .u32 (x : Int)) = m x
section
variable {w w' : World} {bm c : Nat} {m : Nat → Bool}
theorem WMap.lt (h : WMap w bm c m) : bm < w.heap.size := by obtain ⟨D, h1, _⟩ := h; exact h1.lt
theorem WMap.mono (h : WMap w bm c m) {c' : Nat} (hc : c ≤ c') : WMap w bm c' m := by obtain ⟨D, h1, h2⟩ := h; exact ⟨D, h1.mono hc, h2⟩
theorem WMap.congr (h : WMap w bm c m) {m' : Nat → Bool} (hm : ∀ x, x < 4294967296 → m x = m' x) : WMap w bm c m' := by
  obtain ⟨D, h1, h2⟩ := h
  exact ⟨D, h1, fun x hx => by rw [← hm x hx]; exact h2 x hx⟩
theorem WMap.kept {r : List Nat} (h : WMap w bm c m) (hk : Kept r w w') (hr : bm ∉ r) : WMap w' bm c m := by
  obtain ⟨D, h1, h2⟩ := h
  have hlt := h1.lt
  obtain ⟨es, clock, hb, F, hs, hD⟩ := h1
  exact ⟨D, ⟨es, clock, (hk.block bm hlt hr).trans hb, F, hs, hD⟩, h2⟩
theorem WMap.made (w : World) : WMap (w.alloc (.map #[] 0)) w.heap.size 0 (fun _ => false) :=
  ⟨_, World.ownsMap_made w _ _ _, fun x hx => ⟨rfl, rfl⟩⟩
theorem zbool (w : World) : (zeroValue 4).run Try.prog w = .ok (.bool false) w := by kernel_rfl
theorem WMap.look (h : WMap w bm c m) (x : Nat) (hx : x < 4294967296) : (Instr.lookup 48 (.map (some bm)) (.int .u32 (x : Int)) false).run Try.prog w = .ok (.bool (m x)) w := by
  obtain ⟨D, h1, h2⟩ := h
  obtain ⟨v, ps, hrun, hv⟩ := h1.lookup klaw Try.underlying48 (zbool w) (plainElem_bool Try.underlying4 false) (hkey x hx)
  obtain ⟨a, rfl, hz⟩ := plain_bool_inv hv
  rw [(h2 x hx).1] at hz
  injection hz with hz _
  injection hz with hz
  injection hz with hz
  rw [hrun, hz]
def setM (m : Nat → Bool) (x : Nat) (b : Bool) (y : Nat) : Bool := if y = x then b else m y
theorem lit_ne {x y : Nat} (h : y ≠ x) : Lit.int .u32 (y : Int) ≠ Lit.int .u32 (x : Int) := by
  intro e; injection e with _ e; omega
theorem WMap.store (h : WMap w bm c m) (x : Nat) (hx : x < 4294967296) (hc : c < maxLen) : ∃ w', (Instr.mapUpdate 48 (.map (some bm)) (.int .u32 (x : Int)) (.bool true)).run Try.prog w = .ok () w' ∧ WMap w' bm (c + 1) (setM m x true) ∧ Kept [bm] w w' := by
  obtain ⟨D, h1, h2⟩ := h
  have hi := h1.isMap
  obtain ⟨w', hr, h3, h4⟩ := h1.update klaw Try.underlying48 hc (hkey x hx) (plainElem_bool Try.underlying4 true)
  refine ⟨w', hr, ⟨_, h3, fun y hy => ?_⟩, (Kept.refl _ _).grown h4 (fun z hz => by simp at hz; simp [hz])⟩
  unfold setM
  by_cases e : y = x
  · subst e
    rw [if_pos rfl, Maps.atKey_put_same hi (by simp [Go.WideAt.IsKeyLit]), Maps.has_put_same hi (by simp [Go.WideAt.IsKeyLit])]
    exact ⟨rfl, rfl⟩
  · rw [if_neg e, Maps.atKey_put_other (lit_ne e), Maps.has_put_other (lit_ne e)]
    exact h2 y hy
theorem WMap.drop (h : WMap w bm c m) (x : Nat) (hx : x < 4294967296) (ty : TypeId) : ∃ w', (Builtin.delete_ #[48, 22] ty #[.map (some bm), .int .u32 (x : Int)]).run Try.prog w = .ok (.tuple #[]) w' ∧ WMap w' bm c (setM m x false) ∧ Kept [bm] w w' := by
  obtain ⟨D, h1, h2⟩ := h
  obtain ⟨w', hr, h3, h4⟩ := h1.drop klaw Try.underlying48 (hkey x hx) ty
  refine ⟨w', hr, ⟨_, h3, fun y hy => ?_⟩, (Kept.refl _ _).grown h4.grown (fun z hz => by simp at hz; simp [hz])⟩
  unfold setM
  by_cases e : y = x
  · subst e
    rw [if_pos rfl, Maps.atKey_del_same, Maps.has_del_same]
    exact ⟨rfl, rfl⟩
  · rw [if_neg e, Maps.atKey_del_other (lit_ne e), Maps.has_del_other (lit_ne e)]
    exact h2 y hy
end
end Go.Proofs.Ytappolgfkioihaa
