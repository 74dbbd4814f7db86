/- lightshiplaw28: do, whatever the kind; numbers stay small. -/
import Derived.Test.YtdggnhgflfaffaaInbDo1
import Derived.Test.YtdggnhgflfaffaaInbDo2
import Derived.Test.YtdggnhgflfaffaaInbDo3
import Derived.Test.YtdggnhgflfaffaaInbDo4
namespace Go.Proofs.Ytdggnhgflfaffaa
set_option maxRecDepth 20000
open Go.ChangeShapes Go.WideShapes Go.ChangeAt Go.RowKit
set_option linter.unusedVariables false
set_option linter.unusedSimpArgs false

/-- all but the list's length, which memory tells -/
structure Fin0 (x : Ist) (k win : Nat) : Prop where
  base : x.base + x.L.length ≤ k
  fin : x.fin < 4294967296
  seen : ∀ y ∈ x.S, y < k + win
  slen : x.S.length ≤ k
  bods : ∀ p ∈ x.L, p.2.size ≤ 1000
theorem Fin0.of {x : Ist} {win que k : Nat} (h : Fine x win que k) : Fin0 x (k + 1) win := ⟨by have := h.base; omega, h.fin, fun y hy => by have := h.seen y hy; omega, by have := h.slen; omega, h.bods⟩
theorem f0_saw {x : Ist} {win que k block : Nat} (hx : block < 4294967296) (h : Fine x win que k) : Fin0 (sawX x win block) (k + 1) win := by
  unfold sawX
  split
  · rename_i hs
    have hk : keyIn x.base win block = true := by
      unfold sawK at hs
      by_cases h1 : lessB (block : Int) (x.base : Int) = true
      · rw [if_pos h1] at hs; omega
      · rw [if_neg h1] at hs
        cases h2 : keyIn x.base win block with
        | true => rfl
        | false => rw [if_pos h2] at hs; omega
    have hb := key_small (by have := h.base; have := h.small; omega) h.w2 hx hk
    have hbb := h.base
    refine ⟨by show x.base + x.L.length ≤ _; omega, h.fin, fun y hy => ?_, by show (x.S ++ [block]).length ≤ _; have := h.slen; simp; omega, h.bods⟩
    rcases List.mem_append.1 hy with h1 | h1
    · have := h.seen y h1; omega
    · simp at h1; omega
  · exact Fin0.of h
theorem f0_put {x : Ist} {win que k block : Nat} {body : ByteArray} (hx : block < 4294967296) (hbody : body.size ≤ 1000) (h : Fine x win que k) : Fin0 (iputX x win block body) (k + 1) win := by
  unfold iputX
  split
  · rename_i hs
    have hp : putK x.base win x.L block body = 3 := by
      unfold iputK at hs
      split at hs
      · omega
      · exact hs
    have hb := key_small (by have := h.base; have := h.small; omega) h.w2 hx (putK_key hp)
    have hbb := h.base
    refine ⟨by show x.base + (x.L ++ [(block, body)]).length ≤ _; simp; omega, h.fin, fun y hy => ?_, by show (x.S ++ [block]).length ≤ _; have := h.slen; simp; omega, fun p hp => ?_⟩
    · rcases List.mem_append.1 hy with h1 | h1
      · have := h.seen y h1; omega
      · simp at h1; omega
    · rcases List.mem_append.1 hp with h1 | h1
      · exact h.bods p h1
      · simp at h1; subst h1; exact hbody
  · exact Fin0.of h
theorem f0_fin {x : Ist} {win que k block : Nat} (hx : block < 4294967296) (h : Fine x win que k) : Fin0 (finX x win block) (k + 1) win := by
  have h0 := Fin0.of h
  unfold finX
  split
  · exact ⟨h0.base, hx, h0.seen, h0.slen, h0.bods⟩
  · exact h0
theorem f0_read {x : Ist} {win que k : Nat} {n : Int} (h : Fine x win que k) : Fin0 (rdX x n) (k + 1) win := by
  have h0 := Fin0.of h
  unfold rdX
  split
  · exact h0
  · exact ⟨h0.base, h0.fin, h0.seen, h0.slen, h0.bods⟩
theorem f0_delN {que k win : Nat} (hk : k ≤ 1001) : ∀ (f : Nat) (x : Ist), Fin0 x k win → Fin0 (delN que f x) k win
  | 0, x, h => h
  | f + 1, x, h => by
    unfold delN
    split
    · rename_i hn
      refine f0_delN hk f _ ?_
      have h0 := next_pos hn
      have hl : (stepX que x).L.length = x.L.length - 1 := by
        obtain ⟨g, h1, _, h2⟩ := delN_step (f := x.L.length) hn (Nat.le_refl _)
        have h3 : (stepX que x).L.length = (nxL x.base x.L (roomI que x)).length := rfl
        unfold nxL at h3
        rw [if_pos hn] at h3
        rw [h3, List.length_eraseIdx]
        unfold nextB at hn
        rw [decide_eq_true_iff] at hn
        rw [if_pos hn.1]
      have hbb := h.base
      have hb : (stepX que x).base = x.base + 1 := by
        show nxBase x.base x.L (roomI que x) = _
        unfold nxBase; rw [if_pos hn]; exact Nat.mod_eq_of_lt (by omega)
      refine ⟨by rw [hb, hl]; omega, h.fin, h.seen, h.slen, fun p hp => h.bods p ?_⟩
      have hp : p ∈ nxL x.base x.L (roomI que x) := hp
      unfold nxL at hp
      rw [if_pos hn] at hp
      exact List.mem_of_mem_eraseIdx hp
    · exact h
theorem In.facts {w : World} {b : Nat} {R : List Nat} {win que : Nat} {C : Nat → Int} {x : Ist} (h : In w b R win que C x) : x.L.length ≤ win ∧ win ≤ 64 ∧ x.s.size ≤ que ∧ que ≤ 1048576 ∧ ∀ p ∈ x.L, p.1 < 4294967296 := by
  obtain ⟨ob, g1, g2, rb, rg, rfl, h⟩ := h
  have h1 := h.ord.len
  have h2 := h.ring.lt.2.2.2
  have h2 : x.s.size ≤ que ∧ que ≤ 1048576 := h2
  exact ⟨h1.1, h1.2.1, h2.1, h2.2, fun p hp => (h.ord.inw p hp).2⟩
theorem Fin0.fine {w : World} {b : Nat} {R : List Nat} {win que : Nat} {C : Nat → Int} {x : Ist} {k : Nat} (h0 : Fin0 x k win) (hk : k ≤ 1000) (h : In w b R win que C x) : Fine x win que k := by
  have h1 := h.facts
  exact ⟨h0.base, h0.fin, h0.seen, h0.slen, hk, h1.2.1, h1.2.2.2.1, h0.bods, by omega⟩
theorem do_any (C : Nat → Int) (win que k b : Nat) (R : List Nat) (x : Ist) (p : Option Addr) (cap : Nat) (q : Option Addr) (cap2 block : Nat) (K N : Int) (body : ByteArray) (hx : block < 4294967296) (hbody : body.size ≤ 1000) (hf : Fine x win que k) (hk : k + 1 ≤ 1000) (h3 : C 3 = (win : Int)) (h5 : C 5 = (que : Int)) (w : World) (hi : In w b R win que C x) (h : RefAt w x p cap q cap2) (hp : ∀ a, p = some a → a.block ∉ R) (hq : ∀ a, q = some a → a.block ∉ R) :
    Calls Try.prog 10 #[.pointer (some ⟨b, 0, none⟩), .agg (rC C win x p cap q cap2), .agg #[.int .i64 K, .int .u32 (block : Int), .string body, .int .i64 N]] w (fun e w' => ∃ x', Fine x' win que (k + 1) ∧ DPost w b R p q win que C x' e w') := by
  have hfa := hi.facts
  have key : ∀ (x' : Ist), Fin0 x' (k + 1) win → ∀ e w', DPost w b R p q win que C x' e w' → ∃ x', Fine x' win que (k + 1) ∧ DPost w b R p q win que C x' e w' := by
    intro x' h0 e w' hd
    obtain ⟨R', p', cap', q', cap2', he, hi', _⟩ := id hd
    exact ⟨x', h0.fine hk hi', hd⟩
  by_cases k0 : K = 0
  · subst k0; exact (do0 C win que k b R x p cap q cap2 block N body hx hf h3 w hi h hp hq).mono (key _ (f0_saw hx hf))
  by_cases k1 : K = 1
  · subst k1; exact (do1 C win que k b R x p cap q cap2 block N body hx hbody hf h3 w hi h hp hq).mono (key _ (f0_put hx hbody hf))
  by_cases k2 : K = 2
  · subst k2; exact (do2 C win que k b R x p cap q cap2 block N body hx hf hfa.2.2.2.2 h3 w hi h hp hq).mono (key _ (f0_fin hx hf))
  by_cases k3 : K = 3
  · subst k3; exact (do3 C win que k b R x p cap q cap2 (block : Int) N body hf hfa.2.2.1 h5 w hi h hp hq).mono (key _ (f0_delN (by omega) _ _ (Fin0.of hf)))
  exact (do4 C win que b R x p cap q cap2 (block : Int) K N body (by omega) ⟨k0, k1, k2, k3⟩ w hi h hp hq).mono (key _ (f0_read hf))
end Go.Proofs.Ytdggnhgflfaffaa
