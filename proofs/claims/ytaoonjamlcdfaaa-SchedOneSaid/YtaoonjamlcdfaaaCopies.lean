/-
  The walk of the law CellCopies.
-/
import Derived.Test.YtaoonjamlcdfaaaKeeps
namespace Go.Proofs.Ytaoonjamlcdfaaa
open Go.RowKit

/-- Two memories; the second lies from block B on. -/
structure Both (w1 w : World) (B b g cap b' g' cap' : Nat) (l l' : List Cl) : Prop where
  first : Held w1 w b g cap l
  snd : Mem w B b' g' cap' l'
  le : w1.heap.size ≤ B
  hb : b < B
  hg : g < B
section
variable {w1 w w' : World} {B b g cap b' g' cap' : Nat} {l l' l'' : List Cl}
theorem both_start {w2 : World} (h : Held w1 w2 b g cap l) (hm : Mem w w2.heap.size b' g' cap' l') (hb : Below w2.heap.size w2 w) : Both w1 w w2.heap.size b g cap b' g' cap' l l' :=
  ⟨h.later hb, hm, h.size, h.mem.blk.lt, h.mem.lt.2⟩
theorem Both.later (h : Both w1 w B b g cap b' g' cap' l l') (hb : Below w.heap.size w w') : Both w1 w' B b g cap b' g' cap' l l' := ⟨h.first.later hb, h.snd.later hb, h.le, h.hb, h.hg⟩
theorem Both.drewN (h : Both w1 w B b g cap b' g' cap' l l') (n : Nat) : Both w1 (w.drewN n) B b g cap b' g' cap' l l' := ⟨h.first.drewN n, h.snd.drewN n, h.le, h.hb, h.hg⟩
theorem Both.one {F : Nat} {args : Array Value} {x : Value} (h : Both w1 w B b g cap b' g' cap' l l') (hc : Calls Try.prog F args w (Turns w1.heap.size b g cap l'' x w)) :
    Calls Try.prog F args w fun e w' => e = .returned x ∧ Both w1 w' B b g cap b' g' cap' l'' l' ∧ Only (fun k => k = g) w w' :=
  hc.mono fun _ _ ⟨he, hm, ho⟩ => by
    have hg' := h.snd.lt.1
    have hb' := h.snd.hb
    have h1 := h.hb
    have h2 := h.hg
    exact ⟨he, ⟨⟨hm, only_below h.first.below ho h.first.size h.first.mem.lt.1⟩, h.snd.only ho (by omega) (by omega), h.le, h.hb, h.hg⟩, ho⟩
end

namespace Cs
theorem all_put {P P' : Cl → Prop} {l : List Cl} (k : Int) (c : Cl) (h : ∀ t ∈ l, P t) (hp : ∀ t, P t → P' t) (hc : P' c) : ∀ t ∈ put l k c, P' t := by
  intro t ht
  unfold put at ht
  split at ht
  · rcases List.mem_or_eq_of_mem_set ht with ht | rfl
    · exact hp t (h t ht)
    · exact hc
  · exact hp t (h t ht)
theorem get_mem {l : List Cl} {k : Int} {t : Cl} (h : get l k = some t) : t ∈ l := List.mem_of_getElem? (get_some h).2.2
theorem all_store {P P' : Cl → Prop} {l : List Cl} (k v : Int) (h : ∀ t ∈ l, P t) (hp : ∀ t, P t → P' t) (hc : ∀ t, P t → P' (write t v)) : ∀ t ∈ storeL l k v, P' t := by
  unfold storeL
  cases hg : get l k with
  | some c => exact all_put k _ h hp (hc c (h c (get_mem hg)))
  | none => exact fun t ht => hp t (h t ht)
end Cs

/-- A cell that k additions at most have turned, and nobody has. -/
def Fresh (k : Nat) (t : Cl) : Prop := t.by_ = -1 ∧ 0 ≤ t.wr ∧ t.wr ≤ k
theorem fresh_new (n : Nat) : ∀ t ∈ Cs.new n, Fresh 0 t := by
  intro t ht
  simp only [Cs.new, List.mem_replicate] at ht
  obtain ⟨_, rfl⟩ := ht
  exact ⟨rfl, Int.le_refl _, Int.le_refl _⟩
theorem fresh_add {l : List Cl} {k : Nat} (hk : k < 1000000) (h : ∀ t ∈ l, Fresh k t) (q d : Int) : ∀ t ∈ Cs.addL l q d, Fresh (k + 1) t := by
  refine Cs.all_store (P := Fresh k) q _ h ?_ ?_
  · rintro t ⟨h1, h2, h3⟩
    exact ⟨h1, h2, by omega⟩
  · rintro t ⟨h1, h2, h3⟩
    refine ⟨h1, ?_, ?_⟩ <;> simp only [Cs.write] <;> rw [wrap_small _ (by omega) (by omega)] <;> omega

theorem four {α : Type} {l : List α} (h : l.length = 4) : ∃ a b c d, l = [a, b, c, d] := by
  match l, h with
  | [a, b, c, d], _ => exact ⟨a, b, c, d, rfl⟩

set_option maxRecDepth 100000 in
set_option maxHeartbeats 8000000 in
theorem copies_c (v0 : Value) (x : Nat → Int) (len : Nat) (v : Int) (w : World) (ha : IntsAt w.heap.size w v0 x len) : Calls Try.prog 7 #[v0, .int .i64 v] w fun e w' => e = .returned (.bool true) ∧ Below w.heap.size w w' := by
  obtain ⟨ao, cap, rfl, _, _, _, hcell⟩ := ha
  have HC := hide hcell
  clear hcell
  go_enter Try.func7, Try.ntmps7
  go_wp2_with fail
  refine (works_c w).mono ?_
  rintro e w1 ⟨rfl, hB1⟩
  have HB1 := hide hB1
  have sz1 := hB1.size
  clear hB1
  go_wp2_with fail
  refine (make_ok 4 (by decide) (by decide) w1).mono ?_
  rintro e w2 ⟨b, g, rfl, hm, hb⟩
  have H2 := hide (made_held hm hb)
  clear hm hb
  go_wp2_with fail
  go_loopw [7] (fun i wr => ∃ (k : Nat) (l : List Cl), k ≤ len ∧ k ≤ 100 ∧ i = .int .i64 k ∧ l.length = 4 ∧ (∀ t ∈ l, Fresh k t) ∧ Held w1 wr b g 4 l) (fun i _ => len - (intOf i).toNat)
  case atStart => exact ⟨0, _, Nat.zero_le _, Nat.zero_le _, rfl, Cs.new_length 4, fresh_new 4, H2.out⟩
  case round =>
    obtain ⟨k, l, hk, hk100, rfl, hln, hfr, hH⟩ := hrel
    have HH := hide hH
    have HF := hide hfr
    clear hH H2 hfr
    by_cases hlt : k < len ∧ k < 100
    · obtain ⟨hk1, hk2⟩ := hlt
      have hk2' : (k : Int) < 100 := by omega
      obtain ⟨ga, off, rfl, hga, hcs⟩ := HC.out (by omega)
      have K := hide (fun (w' : World) (hb : Below w1.heap.size w1 w') => ((HB1.out.trans (hb.mono sz1)).cell (p := ⟨ga, off + k, none⟩) hga).trans (hcs k hk1))
      have c1 := K.out wr HH.out.below
      clear hcs
      have HA := hide (among_c (x k) 4)
      generalize x k = y at *
      have HT := hide (fun q => (HH.out.drewN 1).turn (add_c (HH.out.drewN 1).mem q y))
      have HL := hide (fun q => (Cs.addL_length l q y).trans hln)
      have HF2 := hide (fun q => fresh_add (by omega) HF.out q y)
      clear HH HF
      go_wp2_with fail
      go_region_held3 (fun w' => w'.cell? ⟨ga, off + k, none⟩ = some (.int .i64 y))
        (first | go_keep | exact K.out _ h3.below)
        ((first | (go_at_call 18; refine (HA.out _ (by omega) (by omega)).mono ?_; rintro e w' ⟨rfl, rfl⟩) | (go_at_call 17; refine (HT.out _).mono ?_; rintro e w3 ⟨rfl, h3⟩)))
      go_wp2
      go_roundw
      case rel => exact ⟨k + 1, _, by omega, by omega, by go_num, HL.out _, HF2.out _, h3⟩
      case measure => simp [intOf]; omega
    · have hsp : (k < len ∧ ¬ (k : Int) < 100) ∨ ¬ k < len := by omega
      obtain ⟨c0, d1, d2, d3, rfl⟩ := four hln
      have f0 := HF.out c0 (by simp)
      have f1 := HF.out d1 (by simp)
      obtain ⟨_, f01, f02⟩ := f0
      obtain ⟨f11, _, _⟩ := f1
      have hwr : IntKind.i64.wrap (c0.wr + 1) = c0.wr + 1 := by rw [IntKind.wrap_i64]; omega
      have hwr2 : wrap64 (c0.wr + 1) = c0.wr + 1 := wrap_small _ (by omega) (by omega)
      have e1 : Cs.lockL (Cs.storeL [c0, d1, d2, d3] 0 v) 1 3 = [⟨v, c0.by_, c0.wr + 1⟩, ⟨d1.v, 3, d1.wr⟩, d2, d3] := by
        have : Cs.storeL [c0, d1, d2, d3] 0 v = [⟨v, c0.by_, wrap64 (c0.wr + 1)⟩, d1, d2, d3] := rfl
        rw [this, hwr2]
        have : Cs.lockL [⟨v, c0.by_, c0.wr + 1⟩, d1, d2, d3] 1 3 = if d1.by_ = -1 then [⟨v, c0.by_, c0.wr + 1⟩, ⟨d1.v, 3, d1.wr⟩, d2, d3] else [⟨v, c0.by_, c0.wr + 1⟩, d1, d2, d3] := rfl
        rw [this, if_pos f11]
      have E1 := hide e1
      have F11 := hide f11
      clear e1 f11 hwr2 HF
      rcases hsp with ⟨h1, h2⟩ | h1 <;> clear hlt <;> go_wp2_with fail
      all_goals
        refine (copy_c HH.out.mem).mono ?_
        rintro e w3 ⟨b', g', cap', rfl, hm3, hb3⟩
        have T3 := hide (both_start HH.out hm3 hb3)
        clear hm3 hb3 HH
        go_wp2_with fail
        refine (all_c T3.out.snd).mono ?_
        rintro e w4 ⟨va, rfl, hr4, hb4⟩
        have T4 := hide (T3.out.later hb4)
        have R4 := hide (rdI_of hr4)
        have K4 := hide (show ∀ j, va.ownBlock = some j → ¬ j = g from fun j hj e => by have := (hr4.lt j hj).1; have := T3.out.first.mem.lt.2; omega)
        clear T3 hr4 hb4
        go_wp2_with fail
        refine (writes_c T4.out.snd 0).mono ?_
        rintro e w5 ⟨rfl, rfl⟩
        rw [show Cs.writes [c0, d1, d2, d3] 0 = c0.wr from rfl]
        go_wp2_with fail
        refine (T4.out.one (store_c T4.out.first.mem 0 v)).mono ?_
        rintro e w5 ⟨rfl, h5, ho5⟩
        have T5 := hide h5
        have R5 := hide (R4.out.only ho5 K4.out)
        clear h5 ho5 T4 R4
        generalize Cs.loadE [c0, d1, d2, d3] 0 = q1 at *
        go_wp2_with fail
        refine (T5.out.one (lock_c T5.out.first.mem 1 3)).mono ?_
        rintro e w6 ⟨rfl, h6, ho6⟩
        rw [E1.out] at h6
        have T6 := hide h6
        have R6 := hide (R5.out.only ho6 K4.out)
        clear h6 ho6 T5 R5 K4 E1
        generalize Cs.lockE (Cs.storeL [c0, d1, d2, d3] 0 v) 1 3 = q2 at *
        go_wp2_with fail
        refine (all_c T6.out.snd).mono ?_
        rintro e w7 ⟨vb, rfl, hr7, hb7⟩
        have T7 := hide (T6.out.later hb7)
        have hSM := same_c (rdI_of hr7) (R6.out.later hb7) (by simp [numsOf])
        rw [same_self] at hSM
        have HSM := hide hSM
        clear hSM hr7 hb7 T6 R6
        go_wp2_with fail
        refine HSM.out.mono ?_
        rintro e w8 ⟨rfl, n8, rfl⟩
        have T8 := hide (T7.out.drewN n8)
        clear T7 HSM
        generalize w7.drewN n8 = w8 at *
        go_wp2_with fail
        refine (writes_c T8.out.snd 0).mono ?_
        rintro e w9 ⟨rfl, rfl⟩
        rw [show Cs.writes [c0, d1, d2, d3] 0 = c0.wr from rfl]
        go_wp2_with fail
        refine (holder_c T8.out.snd 1).mono ?_
        rintro e w9 ⟨rfl, rfl⟩
        rw [show Cs.holder [c0, d1, d2, d3] 1 = d1.by_ from rfl, F11.out]
        go_wp2_with fail
        refine (writes_c T8.out.first.mem 0).mono ?_
        rintro e w9 ⟨rfl, rfl⟩
        rw [show Cs.writes [⟨v, c0.by_, c0.wr + 1⟩, ⟨d1.v, 3, d1.wr⟩, d2, d3] 0 = c0.wr + 1 from rfl]
        go_wp2_with fail
        refine (holder_c T8.out.first.mem 1).mono ?_
        rintro e w9 ⟨rfl, rfl⟩
        rw [show Cs.holder [⟨v, c0.by_, c0.wr + 1⟩, ⟨d1.v, 3, d1.wr⟩, d2, d3] 1 = 3 from rfl]
        have HB8 := hide (HB1.out.trans (T8.out.first.below.mono sz1))
        clear T8 F11
        go_wp2
        go_ret
        exact ⟨rfl, HB8.out⟩
end Go.Proofs.Ytaoonjamlcdfaaa
