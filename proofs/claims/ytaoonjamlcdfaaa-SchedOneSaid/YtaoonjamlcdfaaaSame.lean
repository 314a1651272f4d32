/-
  The contracts of SameInts and of a memory's Copy.
-/
import Derived.Deep.RegionHeld3
import Derived.Lib.SliceRun
import Derived.Test.YtaoonjamlcdfaaaAll
namespace Go.Proofs.Ytaoonjamlcdfaaa
open Go.RowKit

/-- A slice of numbers that can be read. -/
def RdI (w : World) (v : Value) (p : List Int) : Prop :=
  ∃ ao cap, v = .slice ao p.length cap ∧ (0 < p.length → ∃ g, ao = some ⟨g, 0, none⟩ ∧ g < w.heap.size ∧ ∀ j x, p[j]? = some x → w.cell? ⟨g, j, none⟩ = some (.int .i64 x))
theorem intsOf_at (p : List Int) (j : Nat) (x : Int) (h : p[j]? = some x) : (intsOf p)[j]? = some (.int .i64 x) := by simp [intsOf, h]
theorem rdI_of {w : World} {B : Nat} {v : Value} {p : List Int} (h : w.ownsRow B 3 1 v p.length (intsOf p)) : RdI w v p := by
  obtain ⟨ao, cap, rfl, _⟩ := ownsRow_shape h
  refine ⟨ao, cap, rfl, fun hpos => ?_⟩
  obtain ⟨g, cap', e, _, _, hlt, _, hc, _⟩ := ownsRow_pos h hpos
  simp only [Value.slice.injEq] at e
  exact ⟨g, e.1, hlt, fun j x hj => hc _ _ (intsOf_at p j x hj)⟩
theorem RdI.later {w w' : World} {v : Value} {p : List Int} (h : RdI w v p) (hb : Below w.heap.size w w') : RdI w' v p := by
  obtain ⟨ao, cap, hv, hc⟩ := h
  refine ⟨ao, cap, hv, fun hpos => ?_⟩
  obtain ⟨g, e, hlt, hcc⟩ := hc hpos
  exact ⟨g, e, Nat.lt_of_lt_of_le hlt hb.size, fun j x hj => (hb.cell (p := ⟨g, j, none⟩) hlt).trans (hcc j x hj)⟩
theorem RdI.only {w w' : World} {v : Value} {p : List Int} {S : Nat → Prop} (h : RdI w v p) (ho : Only S w w') (hS : ∀ k, v.ownBlock = some k → ¬ S k) : RdI w' v p := by
  obtain ⟨ao, cap, rfl, hc⟩ := h
  refine ⟨ao, cap, rfl, fun hpos => ?_⟩
  obtain ⟨g, rfl, hlt, hcc⟩ := hc hpos
  exact ⟨g, rfl, Nat.lt_of_lt_of_le hlt ho.size, fun j x hj => (World.cell?_of_block (a := ⟨g, j, none⟩) (ho.block g hlt (hS g rfl))).trans (hcc j x hj)⟩
theorem RdI.drewN {w : World} {v : Value} {p : List Int} (h : RdI w v p) (n : Nat) : RdI (w.drewN n) v p := h

def sameB (p q : List Int) : Bool := decide (p = q)
theorem same_self (p : List Int) : sameB p p = true := by simp [sameB]

theorem take_succ_eq {p q : List Int} {k : Nat} {x y : Int} (h : p.take k = q.take k) (hx : p[k]? = some x) (hy : q[k]? = some y) (he : x = y) : p.take (k + 1) = q.take (k + 1) := by
  obtain ⟨h1, rfl⟩ := List.getElem?_eq_some_iff.1 hx
  obtain ⟨h2, rfl⟩ := List.getElem?_eq_some_iff.1 hy
  rw [List.take_succ_eq_append_getElem h1, List.take_succ_eq_append_getElem h2, h, he]

set_option maxHeartbeats 1000000 in
theorem same_pos {w : World} {g1 g2 c1 c2 : Nat} {p q : List Int} (hl : p.length = q.length) (k1 : ∀ j x, p[j]? = some x → w.cell? ⟨g1, j, none⟩ = some (.int .i64 x)) (k2 : ∀ j x, q[j]? = some x → w.cell? ⟨g2, j, none⟩ = some (.int .i64 x)) (hp : p.length ≤ 1000000) :
    Calls Try.prog 23 #[.slice (some ⟨g1, 0, none⟩) p.length c1, .slice (some ⟨g2, 0, none⟩) q.length c2] w fun e w' => e = .returned (.bool (sameB p q)) ∧ ∃ n, w' = w.drewN n := by
  have K1 := hide k1
  have K2 := hide k2
  clear k1 k2
  have e0 : ((p.length : Int) != (q.length : Int)) = false := by simp [hl]
  have HL := hide hl
  clear hl
  go_enter Try.func23, Try.ntmps23
  go_wp2
  go_loopw [5] (fun i wr => ∃ k : Nat, k ≤ p.length ∧ i = .int .i64 k ∧ p.take k = q.take k ∧ ∃ nd, wr = w.drewN nd) (fun i _ => p.length - (intOf i).toNat)
  case atStart => exact ⟨0, Nat.zero_le _, rfl, rfl, 0, rfl⟩
  case round =>
    obtain ⟨k, hk, rfl, htk, nd, rfl⟩ := hrel
    have HT := hide htk
    clear htk
    by_cases hlt : k < p.length
    · have hlt' : k < q.length := by have := HL.out; omega
      obtain ⟨x, hx⟩ : ∃ t, p[k]? = some t := ⟨p[k], List.getElem?_eq_getElem hlt⟩
      obtain ⟨y, hy⟩ : ∃ t, q[k]? = some t := ⟨q[k], List.getElem?_eq_getElem hlt'⟩
      have m1 := K1.out _ _ hx
      have m2 := K2.out _ _ hy
      have HX := hide hx
      have HY := hide hy
      clear hx hy
      by_cases he : x = y
      · have hf : (x != y) = false := by simpa using he
        have HE := hide he
        clear he
        go_wp2
        go_quiet (fail)
        go_wp2
        go_roundw
        case rel => exact ⟨k + 1, by omega, by go_num, take_succ_eq HT.out HX.out HY.out HE.out, _, rfl⟩
        case measure => simp [intOf]; omega
      · have hf : (x != y) = true := by simpa using he
        have HF := hide he
        clear he
        go_wp2
        go_quiet (fail)
        go_wp2
        go_ret
        refine ⟨ret_bool ?_, _, World.drewN_drewN ..⟩
        symm
        unfold sameB
        rw [decide_eq_false_iff_not]
        rintro rfl
        have h1 := HX.out
        rw [HY.out] at h1
        simp only [Option.some.injEq] at h1
        exact HF.out h1.symm
    · obtain rfl : k = p.length := by omega
      go_wp2
      go_ret
      refine ⟨ret_bool ?_, _, rfl⟩
      symm
      unfold sameB
      rw [decide_eq_true_eq]
      have h1 := HT.out
      rw [List.take_length, HL.out, List.take_length] at h1
      exact h1

theorem same_nil {w : World} {a1 a2 : Option Addr} {c1 c2 : Nat} : Calls Try.prog 23 #[.slice a1 0 c1, .slice a2 0 c2] w fun e w' => e = .returned (.bool true) ∧ ∃ n, w' = w.drewN n := by
  go_enter Try.func23, Try.ntmps23
  go_wp2
  refine wp_loop_rounds 1 ?_
  rw [rounds_succ]
  go_wp2
  go_ret
  exact ⟨rfl, 0, rfl⟩

theorem same_len {w : World} {a1 a2 : Option Addr} {c1 c2 n1 n2 : Nat} (hne : n1 ≠ n2) : Calls Try.prog 23 #[.slice a1 n1 c1, .slice a2 n2 c2] w fun e w' => e = .returned (.bool false) ∧ ∃ n, w' = w.drewN n := by
  have e0 : ((n1 : Int) != (n2 : Int)) = true := by rw [bne_iff_ne]; omega
  clear hne
  go_enter Try.func23, Try.ntmps23
  go_wp2
  go_ret
  exact ⟨rfl, 0, rfl⟩

theorem same_c {w : World} {v1 v2 : Value} {p q : List Int} (h1 : RdI w v1 p) (h2 : RdI w v2 q) (hp : p.length ≤ 1000000) :
    Calls Try.prog 23 #[v1, v2] w fun e w' => e = .returned (.bool (sameB p q)) ∧ ∃ n, w' = w.drewN n := by
  obtain ⟨a1, c1, rfl, h1⟩ := h1
  obtain ⟨a2, c2, rfl, h2⟩ := h2
  by_cases hl : p.length = q.length
  · rcases Nat.eq_zero_or_pos p.length with h0 | hpos
    · obtain rfl := List.eq_nil_of_length_eq_zero h0
      obtain rfl : q = [] := List.eq_nil_of_length_eq_zero (by rw [← hl]; rfl)
      exact same_nil
    · obtain ⟨g1, rfl, _, k1⟩ := h1 hpos
      obtain ⟨g2, rfl, _, k2⟩ := h2 (by omega)
      exact same_pos hl k1 k2 hp
  · have : sameB p q = false := by unfold sameB; rw [decide_eq_false_iff_not]; rintro rfl; exact hl rfl
    rw [this]
    exact same_len hl

/-! ### Copy -/
theorem clone_some (w : World) (g n cap : Nat) (xs : List Value) (hn : n ≤ 256) (hl : xs.length = n * 3) (hone : ∀ u ∈ xs, u.oneCell' = true) (hg : g < w.heap.size) (hcell : ∀ j u, xs[j]? = some u → w.cell? ⟨g, j, none⟩ = some u) :
    Calls Try.prog 63 #[.slice (some ⟨g, 0, none⟩) n cap] w fun e w' => ∃ v', e = .returned v' ∧ w'.ownsRow w.heap.size 82 3 v' n xs ∧ Below w.heap.size w w' := by
  obtain ⟨i0, hi, hz0, hz1, hz2⟩ := info_parts cell_info
  have HONE := hide hone
  have hempty : ∀ w1 : World, w1 = w.alloc (.cells #[] 82) → w1.ownsRow w.heap.size 82 3 (.slice (some ⟨w.heap.size, 0, none⟩) 0 0) 0 [] := by
    rintro w1 rfl
    exact ⟨rfl, .inr ⟨w.heap.size, 0, #[], rfl, Nat.le_refl _, heap_alloc_new w _, Nat.le_refl _, Nat.zero_le _, rfl, rfl⟩⟩
  have HE := hide (hempty _ rfl)
  have hsrc : ∀ j u, xs[j]? = some u → (w.alloc (.cells #[] 82)).cell? ((⟨g, 0, none⟩ : Addr).add j) = some u := by
    intro j u hj
    rw [Addr.add_lit, Nat.zero_add]
    exact (World.cell?_alloc_lt w _ ⟨g, j, none⟩ hg).trans (hcell j u hj)
  have HS := hide hsrc
  clear hone hcell hempty hsrc
  have q79 : ∀ (w : World) (a : Option Addr) (n c n' c' : Nat), (binOp .eql 79 (.slice a n c) (.slice none n' c')).run Try.prog w = .ok (.bool a.isNone) w := fun w a n c n' c' => Lib.run_eql_slice_nil w _ _ a n c n' c' Try.underlying79
  go_enter Try.func63, Try.ntmps63
  go_wp2_with (at_builtin; refine wpList_append_own_at _ rfl (.tmp 5) (.tmp 6) 79 rfl w.heap.size 82 i0 _ 3 24 Try.underlying79 hi hz0 hz1 hz2 rfl (by decide) (.slice (some ⟨w.heap.size, 0, none⟩) 0 0) 0 [] rfl HE.out ⟨g, 0, none⟩ n cap xs rfl hl HS.out HONE.out (by simp only [maxLen]; omega) (by omega) (by simp) ?_; intro v' w2 hown hgr hnil hat; have HO := hide hown; have HG := hide hgr; clear hown hgr hnil hat)
  go_ret
  refine ⟨_, rfl, by simpa using HO.out, ?_⟩
  have h1 : Below w.heap.size w (w.alloc (.cells #[] 82)) := (Below.refl _ _).alloc (Nat.le_refl _) _
  refine h1.trans ⟨HG.out.os, HG.out.tape, HG.out.output, HG.out.size, fun k hk => HG.out.block k (by simp; omega) ?_⟩
  simp [Value.ownBlock]
  omega

/-- Copy: a memory of its own, that holds the same. -/
theorem copy_c {w : World} {B b g cap : Nat} {l : List Cl} (h : Mem w B b g cap l) :
    Calls Try.prog 37 #[.pointer (some ⟨b, 0, none⟩)] w fun e w' => ∃ b' g' cap', e = .returned (.pointer (some ⟨b', 0, none⟩)) ∧ Mem w' w.heap.size b' g' cap' l ∧ Below w.heap.size w w' := by
  have HI := hide (is_c h)
  obtain ⟨g1, cap1, e1, _, _, _, _, hc, _⟩ := ownsRow_pos h.row h.pos
  simp only [Value.slice.injEq, Option.some.injEq, Addr.mk.injEq, and_true, true_and] at e1
  obtain ⟨rfl, rfl⟩ := e1
  have HC := hide (clone_some w g l.length cap (cellsOf l) (by have := h.len; omega) (cellsOf_length l) (cellsOf_one l) h.lt.2 hc)
  have c0 := h.blk.cell 0
  simp at c0
  have hpos := h.pos
  have F : ∀ (w2 : World) (v' : Value), w2.ownsRow w.heap.size 82 3 v' l.length (cellsOf l) → Below w.heap.size w w2 →
      ∃ g' cap', v' = .slice (some ⟨g', 0, none⟩) l.length cap' ∧ Mem (w2.alloc (.cells #[.slice (some ⟨g', 0, none⟩) l.length cap'] 84)) w.heap.size w2.heap.size g' cap' l ∧ Below w.heap.size w (w2.alloc (.cells #[.slice (some ⟨g', 0, none⟩) l.length cap'] 84)) := by
    intro w2 v' hr hb
    obtain ⟨g', cap', rfl, _⟩ := ownsRow_pos hr hpos
    exact ⟨g', cap', rfl, ⟨hb.size, Blk.new _ _ _, hr.alloc _, hpos, h.len⟩, hb.alloc hb.size _⟩
  have HF := hide F
  clear F h hc
  go_enter Try.func37, Try.ntmps37
  go_wp2_with (first | (go_at_call 58; refine HI.out.mono ?_; rintro e w' ⟨rfl, rfl⟩) | (go_at_call 63; refine HC.out.mono ?_; rintro e w3 ⟨v', rfl, hrw, hbw⟩; obtain ⟨g', cap', rfl, hM, hB⟩ := HF.out _ _ hrw hbw; have HM := hide hM; have HB := hide hB; clear hM hB hrw hbw))
  go_ret
  exact ⟨_, _, _, rfl, HM.out, HB.out⟩
end Go.Proofs.Ytaoonjamlcdfaaa
