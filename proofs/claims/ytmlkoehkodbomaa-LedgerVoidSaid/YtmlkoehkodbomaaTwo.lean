/-
  Two ledgers that have nothing of each other's.
-/
import Derived.Test.YtmlkoehkodbomaaBack
import Derived.Test.YtmlkoehkodbomaaCopy
import Derived.Test.YtmlkoehkodbomaaBuilt
namespace Go.Proofs.Ytmlkoehkodbomaa
open Go.RowKit

/-- Two ledgers in memory; neither has a block of the other's nor one that K names. -/
structure Two (K : Nat → Prop) (w : World) (B b C c : Nat) (a : Int) (l r : List Sp) : Prop where
  ex : ∃ s t, Led w B b s a l ∧ Led w C c t a r ∧ (∀ k, foot b s k → ¬ foot c t k) ∧ (∀ k, K k → ¬ foot b s k ∧ ¬ foot c t k)
  lt : ∀ k, K k → k < w.heap.size
  hB : B ≤ w.heap.size
  hC : C ≤ w.heap.size

theorem Two.drewN {K : Nat → Prop} {w : World} {B b C c : Nat} {a : Int} {l r : List Sp} (h : Two K w B b C c a l r) (n : Nat) : Two K (w.drewN n) B b C c a l r := by
  obtain ⟨⟨s, t, h1, h2, h3, h4⟩, h5, h6, h7⟩ := h
  exact ⟨⟨s, t, h1.drewN n, h2.drewN n, h3, h4⟩, h5, h6, h7⟩

theorem Two.later {K : Nat → Prop} {w w' : World} {B b C c : Nat} {a : Int} {l r : List Sp} (h : Two K w B b C c a l r) (hb : Below w.heap.size w w') : Two K w' B b C c a l r := by
  obtain ⟨⟨s, t, h1, h2, h3, h4⟩, h5, h6, h7⟩ := h
  exact ⟨⟨s, t, h1.later hb, h2.later hb, h3, h4⟩, fun k hk => Nat.lt_of_lt_of_le (h5 k hk) hb.size, Nat.le_trans h6 hb.size, Nat.le_trans h7 hb.size⟩

theorem Two.symm {K : Nat → Prop} {w : World} {B b C c : Nat} {a : Int} {l r : List Sp} (h : Two K w B b C c a l r) : Two K w C c B b a r l := by
  obtain ⟨⟨s, t, h1, h2, h3, h4⟩, h5, h6, h7⟩ := h
  exact ⟨⟨t, s, h2, h1, fun k hk hk' => h3 k hk' hk, fun k hk => ⟨(h4 k hk).2, (h4 k hk).1⟩⟩, h5, h7, h6⟩

/-- One of the two turns; the other stays. -/
theorem Two.left {K : Nat → Prop} {w : World} {B b C c : Nat} {a : Int} {l r l' : List Sp} {F : Nat} {args : Array Value} {x : Int} (h : Two K w B b C c a l r)
    (hc : ∀ s, Led w B b s a l → Calls Try.prog F args w (Turned B b s a l' x w)) :
    Calls Try.prog F args w fun e w' => e = .returned (.int .i64 x) ∧ Only (fun k => ¬ K k) w w' ∧ Two K w' B b C c a l' r := by
  obtain ⟨⟨s, t, h1, h2, h3, h4⟩, h5, h6, h7⟩ := h
  refine (hc s h1).mono ?_
  rintro e w' ⟨rfl, s', hL, hO, hs⟩
  have h2' := h2.only hO (fun k hk hk' => h3 k hk' hk)
  refine ⟨rfl, hO.mono (fun k _ hk hK => (h4 k hK).1 hk), ⟨s', t, hL, h2', ?_, ?_⟩, fun k hk => Nat.lt_of_lt_of_le (h5 k hk) hO.size, Nat.le_trans h6 hO.size, Nat.le_trans h7 hO.size⟩
  · intro k hk hk'
    have hlt := h2.foot_lt k hk'
    rcases hk with rfl | hk
    · exact h3 k (.inl rfl) hk'
    · rcases hs with hs | ⟨j, hj, hjs⟩
      · exact h3 k (.inr (by rw [← hs]; exact hk)) hk'
      · rw [hj] at hk; cases hk; omega
  · intro k hk
    have hlt := h5 k hk
    refine ⟨?_, (h4 k hk).2⟩
    intro hk'
    rcases hk' with rfl | hk'
    · exact (h4 k hk).1 (.inl rfl)
    · rcases hs with hs | ⟨j, hj, hjs⟩
      · exact (h4 k hk).1 (.inr (by rw [← hs]; exact hk'))
      · rw [hj] at hk'; cases hk'; omega

theorem Two.right {K : Nat → Prop} {w : World} {B b C c : Nat} {a : Int} {l r r' : List Sp} {F : Nat} {args : Array Value} {x : Int} (h : Two K w B b C c a l r)
    (hc : ∀ s, Led w C c s a r → Calls Try.prog F args w (Turned C c s a r' x w)) :
    Calls Try.prog F args w fun e w' => e = .returned (.int .i64 x) ∧ Only (fun k => ¬ K k) w w' ∧ Two K w' B b C c a l r' :=
  (h.symm.left hc).mono fun _ _ ⟨h1, h2, h3⟩ => ⟨h1, h2, h3.symm⟩

/-- The same with blocks of a row laid beside them. -/
theorem Two.beside {K : Nat → Prop} {w w' : World} {B b C c e size n : Nat} {v : Value} {xs : List Value} {a : Int} {l r : List Sp} (h : Two K w B b C c a l r) (hb : Below w.heap.size w w') (hr : w'.ownsRow w.heap.size e size v n xs) : Two (fun k => K k ∨ v.ownBlock = some k) w' B b C c a l r := by
  have h' := h.later hb
  obtain ⟨⟨s, t, h1, h2, h3, h4⟩, h5, h6, h7⟩ := h
  obtain ⟨_, h5', h6', h7'⟩ := h'
  refine ⟨⟨s, t, h1.later hb, h2.later hb, h3, fun k hk => ?_⟩, fun k hk => ?_, h6', h7'⟩
  · rcases hk with hk | hk
    · exact h4 k hk
    · have := (hr.lt k hk).1
      exact ⟨fun h => by have := h1.foot_lt k h; omega, fun h => by have := h2.foot_lt k h; omega⟩
  · rcases hk with hk | hk
    · exact h5' k hk
    · exact (hr.lt k hk).2

theorem two_start {w0 w w' : World} {B b b' : Nat} {s s' : Value} {a : Int} {l : List Sp} (h : Led w B b s a l) (hB0 : w0.heap.size ≤ B) (hB : B ≤ w.heap.size) (h' : Led w' w.heap.size b' s' a l) (hb : Below w.heap.size w w') : Two (fun k => k < w0.heap.size) w' B b w.heap.size b' a l l := by
  have hl := h.later hb
  refine ⟨⟨s, s', hl, h', fun k hk hk' => ?_, fun k hk => ⟨fun hk' => ?_, fun hk' => ?_⟩⟩, fun k hk => ?_, Nat.le_trans hB hb.size, hb.size⟩
  · have := h.foot_lt k hk
    have := h'.foot_ge k hk'
    omega
  · have := h.foot_ge k hk'
    omega
  · have := h'.foot_ge k hk'
    omega
  · have := hb.size
    omega

theorem below_only {B : Nat} {K : Nat → Prop} {w w' : World} (h : Only (fun k => ¬ K k) w w') (hB : B ≤ w.heap.size) (hK : ∀ k, k < B → K k) : Below B w w' :=
  h.below hB fun k hk => by
    rcases Nat.lt_or_ge k B with h | h
    · exact (hk (hK k h)).elim
    · exact h

namespace Lg
theorem pop_from {f : Int} {l : List Sp} (h : Chain f l) : pop l f = [] := by
  rw [pop_cut h]
  exact cut_none (fun t ht => (chain_mem h t ht).1)
theorem backL_from {f : Int} {l : List Sp} (h : Good f l) : backL f l f = [] := by
  unfold backL
  have h1 := h.lo
  have h2 := h.fin_ge
  rw [if_neg (by omega), if_neg (by omega), pop_from h.chain]
theorem backE_from {f : Int} {l : List Sp} (h : Good f l) : backE f l f = 0 := by
  unfold backE
  have h1 := h.lo
  have h2 := h.fin_ge
  rw [if_neg (by omega), if_neg (by omega)]
end Lg
end Go.Proofs.Ytmlkoehkodbomaa
