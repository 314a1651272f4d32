/-
  The contract of Copy, and of slices.Clone below it.
-/
import Derived.Deep.RegionHeld3
import Derived.Lib.SliceRun
import Derived.Test.YtmlkoehkodbomaaAdd
import Derived.Test.YtmlkoehkodbomaaSpans
namespace Go.Proofs.Ytmlkoehkodbomaa
open Go.RowKit

theorem clone_none (w : World) : Calls Try.prog 36 #[.slice none 0 0] w fun e w' => e = .returned (.slice none 0 0) ∧ w = w' := by
  have q51 : ∀ (w : World) (a : Option Addr) (n c n' c' : Nat), (binOp .eql 51 (.slice a n c) (.slice none n' c')).run Try.prog w = .ok (.bool a.isNone) w := fun w a n c n' c' => Lib.run_eql_slice_nil w _ _ a n c n' c' Try.underlying51
  go_enter Try.func36, Try.ntmps36
  go_wp2
  go_ret
  exact ⟨rfl, rfl⟩

theorem clone_some (w : World) (g n cap : Nat) (xs : List Value) (hn : n ≤ 256) (hl : xs.length = n * 3) (hone : ∀ u ∈ xs, u.oneCell' = true) (hg : g < w.heap.size) (hcell : ∀ j u, xs[j]? = some u → w.cell? ⟨g, j, none⟩ = some u) :
    Calls Try.prog 36 #[.slice (some ⟨g, 0, none⟩) n cap] w fun e w' => ∃ v', e = .returned v' ∧ w'.ownsRow w.heap.size 56 3 v' n xs ∧ Below w.heap.size w w' := by
  obtain ⟨i0, hi, hz0, hz1, hz2⟩ := info_parts entry_info
  have HONE := hide hone
  have HCELL := hide hcell
  have hempty : ∀ w1 : World, w1 = w.alloc (.cells #[] 56) → w1.ownsRow w.heap.size 56 3 (.slice (some ⟨w.heap.size, 0, none⟩) 0 0) 0 [] := by
    rintro w1 rfl
    exact ⟨rfl, .inr ⟨w.heap.size, 0, #[], rfl, Nat.le_refl _, heap_alloc_new w _, Nat.le_refl _, Nat.zero_le _, rfl, rfl⟩⟩
  have HE := hide (hempty _ rfl)
  have hsrc : ∀ j u, xs[j]? = some u → (w.alloc (.cells #[] 56)).cell? ((⟨g, 0, none⟩ : Addr).add j) = some u := by
    intro j u hj
    rw [Addr.add_lit, Nat.zero_add]
    exact (World.cell?_alloc_lt w _ ⟨g, j, none⟩ hg).trans (hcell j u hj)
  have HS := hide hsrc
  clear hone hcell hempty hsrc
  have q51 : ∀ (w : World) (a : Option Addr) (n c n' c' : Nat), (binOp .eql 51 (.slice a n c) (.slice none n' c')).run Try.prog w = .ok (.bool a.isNone) w := fun w a n c n' c' => Lib.run_eql_slice_nil w _ _ a n c n' c' Try.underlying51
  go_enter Try.func36, Try.ntmps36
  go_wp2_with (at_builtin; refine wpList_append_own_at _ rfl (.tmp 5) (.tmp 6) 51 rfl w.heap.size 56 i0 _ 3 24 Try.underlying51 hi hz0 hz1 hz2 rfl (by decide) (.slice (some ⟨w.heap.size, 0, none⟩) 0 0) 0 [] rfl HE.out ⟨g, 0, none⟩ n cap xs rfl hl HS.out HONE.out (by simp only [maxLen]; omega) (by omega) (by simp) ?_; intro v' w2 hown hgr hnil hat; have HO := hide hown; have HG := hide hgr; clear hown hgr hnil hat)
  go_ret
  refine ⟨_, rfl, by simpa using HO.out, ?_⟩
  have h1 : Below w.heap.size w (w.alloc (.cells #[] 56)) := (Below.refl _ _).alloc (Nat.le_refl _) _
  refine h1.trans ⟨HG.out.os, HG.out.tape, HG.out.output, HG.out.size, fun k hk => HG.out.block k (by simp; omega) ?_⟩
  simp [Value.ownBlock]
  omega

theorem cellsOf_one (l : List Sp) : ∀ u ∈ cellsOf l, u.oneCell' = true := by
  induction l with
  | nil => simp [cellsOf]
  | cons t l ih =>
    intro u hu
    have e : cellsOf (t :: l) = [.int .i64 t.a, .int .i64 t.b, .bool t.k] ++ cellsOf l := rfl
    rw [e] at hu
    rcases List.mem_append.1 hu with hu | hu
    · simp at hu
      rcases hu with rfl | rfl | rfl <;> rfl
    · exact ih u hu

theorem clone_c {w : World} {B : Nat} {sv : Value} {l : List Sp} (h : w.ownsRow B 56 3 sv l.length (cellsOf l)) (hlen : l.length ≤ 256) :
    Calls Try.prog 36 #[sv] w fun e w' => ∃ v', e = .returned v' ∧ w'.ownsRow w.heap.size 56 3 v' l.length (cellsOf l) ∧ Below w.heap.size w w' := by
  rcases h.2 with ⟨rfl, h0⟩ | ⟨g, cap, cur, rfl, _, hg, _⟩
  · refine (clone_none w).mono ?_
    rintro e w' ⟨rfl, rfl⟩
    exact ⟨_, rfl, ⟨h.1, .inl ⟨rfl, h0⟩⟩, Below.refl _ _⟩
  · refine clone_some w g l.length cap (cellsOf l) hlen (cellsOf_length l) (cellsOf_one l) (Array.getElem?_eq_some_iff.1 hg).1 ?_
    intro j u hu
    have := h.cells (g := g) (by simp [Value.ownBlock]) j u hu
    rwa [Addr.add_lit, Nat.zero_add] at this

set_option maxHeartbeats 2000000 in
/-- Copy: a ledger of its own, that holds the same. -/
theorem copy_c {w : World} {B b : Nat} {sv : Value} {f : Int} {l : List Sp} (h : Led w B b sv f l) (hlen : l.length ≤ 256) :
    Calls Try.prog 29 #[.pointer (some ⟨b, 0, none⟩)] w fun e w' => ∃ b' sv', e = .returned (.pointer (some ⟨b', 0, none⟩)) ∧ Led w' w.heap.size b' sv' f l ∧ Below w.heap.size w w' := by
  have HI := hide (is_c b w _ _ h.blk)
  have HC := hide (fun n => clone_c (w := w.drewN n) h.row hlen)
  have c0 := h.blk.cell 0
  have c1 := h.blk.cell 1
  simp at c0 c1
  have hbl := h.blk.lt
  have F : ∀ (n : Nat) (w2 : World) (v' : Value), w2.ownsRow w.heap.size 56 3 v' l.length (cellsOf l) → Below w.heap.size (w.drewN n) w2 →
      Led (w2.alloc (.cells #[.int .i64 f, v', .bool true] 53)) w.heap.size w2.heap.size v' f l ∧ Below w.heap.size w (w2.alloc (.cells #[.int .i64 f, v', .bool true] 53)) := by
    intro n w2 v' hr hb
    have hb' : Below w.heap.size w w2 := ⟨hb.os, hb.tape, hb.output, hb.size, hb.block⟩
    exact ⟨⟨hb.size, Blk.new _ _ _, hr.alloc _⟩, hb'.alloc hb.size _⟩
  have HF := hide F
  clear F h
  go_enter Try.func29, Try.ntmps29
  go_wp2_with (go_at_call 32; refine HI.out.mono ?_; rintro e w' ⟨rfl, rfl⟩)
  go_region_held3 (fun w' => w'.cell? ⟨b, 0, none⟩ = some (.int .i64 f) ∧ w'.cell? ⟨b, 1, none⟩ = some sv)
    (first | go_keep | (go_split_ands; refine ⟨?_, ?_⟩ <;> (rw [hbw.cell (by simpa using hbl)]; assumption)))
    ((first | (go_at_call 36; refine (HC.out _).mono ?_; rintro e w3 ⟨v', rfl, hrw, hbw⟩; obtain ⟨ao', cap', rfl, _⟩ := ownsRow_shape hrw)))
  go_wp2
  go_ret
  exact ⟨_, _, rfl, HF.out _ _ _ hrw hbw⟩

end Go.Proofs.Ytmlkoehkodbomaa
