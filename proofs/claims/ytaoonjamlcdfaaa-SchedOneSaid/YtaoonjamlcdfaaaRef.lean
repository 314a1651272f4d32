/-
  The reference's memory, and the contracts of its functions.
-/
import Derived.Deep.RegionHeld3
import Derived.Deep.DeepCutAuto
import Derived.Test.YtaoonjamlcdfaaaCopies
namespace Go.Proofs.Ytaoonjamlcdfaaa
open Go.RowKit

def vsOf (l : List Cl) : List Value := l.map fun t => .int .i64 t.v
def ysOf (l : List Cl) : List Value := l.map fun t => .int .i64 t.by_
def zsOf (l : List Cl) : List Value := l.map fun t => .int .i64 t.wr

/-- The reference's memory at the head of block b: its three rows at v, y and z; all from block B on. -/
structure RMem (w : World) (B b v y z : Nat) (l : List Cl) : Prop where
  hB : B ≤ b ∧ B ≤ v ∧ B ≤ y ∧ B ≤ z
  blk : Blk w b 49 #[.slice (some ⟨v, 0, none⟩) l.length l.length, .slice (some ⟨y, 0, none⟩) l.length l.length, .slice (some ⟨z, 0, none⟩) l.length l.length]
  hv : Blk w v 3 (vsOf l).toArray
  hy : Blk w y 3 (ysOf l).toArray
  hz : Blk w z 3 (zsOf l).toArray
  nvy : v ≠ y
  nvz : v ≠ z
  nyz : y ≠ z
  len : l.length ≤ 64

def zeros (n : Nat) : List Cl := List.replicate n zero
theorem zeros_v (n : Nat) : (vsOf (zeros n)).toArray = madeCells #[.int .i64 0] n := by
  apply Array.toList_inj.1
  rw [toList_madeCells_one]
  simp [vsOf, zeros, zero]
theorem zeros_y (n : Nat) : (ysOf (zeros n)).toArray = madeCells #[.int .i64 0] n := by
  apply Array.toList_inj.1
  rw [toList_madeCells_one]
  simp [ysOf, zeros, zero]
theorem zeros_z (n : Nat) : (zsOf (zeros n)).toArray = madeCells #[.int .i64 0] n := by
  apply Array.toList_inj.1
  rw [toList_madeCells_one]
  simp [zsOf, zeros, zero]

theorem make_three (w : World) (n : Nat) (hn : n ≤ 64) (a b c : Nat) (ha : w.heap.size ≤ a ∧ a < w.heap.size + 3) (hb : w.heap.size ≤ b ∧ b < w.heap.size + 3) (hc : w.heap.size ≤ c ∧ c < w.heap.size + 3) (hab : a ≠ b) (hac : a ≠ c) (hbc : b ≠ c) :
    RMem ((((w.alloc (.cells (madeCells #[.int .i64 0] n) 3)).alloc (.cells (madeCells #[.int .i64 0] n) 3)).alloc (.cells (madeCells #[.int .i64 0] n) 3)).alloc (.cells #[.slice (some ⟨a, 0, none⟩) n n, .slice (some ⟨b, 0, none⟩) n n, .slice (some ⟨c, 0, none⟩) n n] 49)) w.heap.size (w.heap.size + 3) a b c (zeros n) ∧
    Below w.heap.size w ((((w.alloc (.cells (madeCells #[.int .i64 0] n) 3)).alloc (.cells (madeCells #[.int .i64 0] n) 3)).alloc (.cells (madeCells #[.int .i64 0] n) 3)).alloc (.cells #[.slice (some ⟨a, 0, none⟩) n n, .slice (some ⟨b, 0, none⟩) n n, .slice (some ⟨c, 0, none⟩) n n] 49)) := by
  have k : ∀ x, w.heap.size ≤ x ∧ x < w.heap.size + 3 → Blk ((((w.alloc (.cells (madeCells #[.int .i64 0] n) 3)).alloc (.cells (madeCells #[.int .i64 0] n) 3)).alloc (.cells (madeCells #[.int .i64 0] n) 3)).alloc (.cells #[.slice (some ⟨a, 0, none⟩) n n, .slice (some ⟨b, 0, none⟩) n n, .slice (some ⟨c, 0, none⟩) n n] 49)) x 3 (madeCells #[.int .i64 0] n) := by
    intro x hx
    have : x = w.heap.size ∨ x = (w.alloc (.cells (madeCells #[.int .i64 0] n) 3)).heap.size ∨ x = ((w.alloc (.cells (madeCells #[.int .i64 0] n) 3)).alloc (.cells (madeCells #[.int .i64 0] n) 3)).heap.size := by simp; omega
    rcases this with rfl | rfl | rfl
    · exact (((Blk.new w 3 _).alloc _).alloc _).alloc _
    · exact ((Blk.new _ 3 _).alloc _).alloc _
    · exact (Blk.new _ 3 _).alloc _
  have hl : (zeros n).length = n := by simp [zeros]
  refine ⟨⟨⟨by omega, ha.1, hb.1, hc.1⟩, ?_, ?_, ?_, ?_, hab, hac, hbc, by omega⟩, ((((Below.refl _ w).alloc (Nat.le_refl _) _).alloc (by simp) _).alloc (by simp; omega) _).alloc (by simp; omega) _⟩
  · rw [hl]
    have := Blk.new (((w.alloc (.cells (madeCells #[.int .i64 0] n) 3)).alloc (.cells (madeCells #[.int .i64 0] n) 3)).alloc (.cells (madeCells #[.int .i64 0] n) 3)) 49 #[.slice (some ⟨a, 0, none⟩) n n, .slice (some ⟨b, 0, none⟩) n n, .slice (some ⟨c, 0, none⟩) n n]
    simpa using this
  · rw [zeros_v]; exact k a ha
  · rw [zeros_y]; exact k b hb
  · rw [zeros_z]; exact k c hc

theorem RMem.drewN {w : World} {B b v y z : Nat} {l : List Cl} (h : RMem w B b v y z l) (n : Nat) : RMem (w.drewN n) B b v y z l := ⟨h.hB, h.blk, h.hv, h.hy, h.hz, h.nvy, h.nvz, h.nyz, h.len⟩

theorem set_same {α : Type} (l : List α) (k : Nat) (x : α) (h : l[k]? = some x) : l.set k x = l := by
  obtain ⟨hk, rfl⟩ := List.getElem?_eq_some_iff.1 h
  exact List.set_getElem_self hk

section
variable {w w' : World} {B b v y z : Nat} {l : List Cl}
theorem RMem.nb (h : RMem w B b v y z l) : v ≠ b ∧ y ≠ b ∧ z ≠ b := ⟨h.hv.ne_ h.blk (by decide), h.hy.ne_ h.blk (by decide), h.hz.ne_ h.blk (by decide)⟩
theorem RMem.set_v (h : RMem w B b v y z l) {k : Nat} {t : Cl} (ht : l[k]? = some t) (x : Int) : RMem (w.setCell ⟨v, k, none⟩ (.int .i64 x)) B b v y z (l.set k ⟨x, t.by_, t.wr⟩) := by
  obtain ⟨n1, n2, n3⟩ := h.nb
  have e1 : (vsOf (l.set k ⟨x, t.by_, t.wr⟩)).toArray = (vsOf l).toArray.setIfInBounds k (.int .i64 x) := by simp [vsOf, List.map_set]
  have e2 : ysOf (l.set k ⟨x, t.by_, t.wr⟩) = ysOf l := by
    unfold ysOf
    rw [List.map_set]
    exact set_same _ _ _ (by simp [ht])
  have e3 : zsOf (l.set k ⟨x, t.by_, t.wr⟩) = zsOf l := by
    unfold zsOf
    rw [List.map_set]
    exact set_same _ _ _ (by simp [ht])
  refine ⟨h.hB, ?_, ?_, ?_, ?_, h.nvy, h.nvz, h.nyz, by simpa using h.len⟩
  · rw [List.length_set]; exact h.blk.far (p := ⟨v, k, none⟩) (Ne.symm n1) _
  · rw [e1]; exact h.hv.set_ k _
  · rw [e2]; exact h.hy.far (p := ⟨v, k, none⟩) (Ne.symm h.nvy) _
  · rw [e3]; exact h.hz.far (p := ⟨v, k, none⟩) (Ne.symm h.nvz) _
theorem RMem.set_y (h : RMem w B b v y z l) {k : Nat} {t : Cl} (ht : l[k]? = some t) (x : Int) : RMem (w.setCell ⟨y, k, none⟩ (.int .i64 x)) B b v y z (l.set k ⟨t.v, x, t.wr⟩) := by
  obtain ⟨n1, n2, n3⟩ := h.nb
  have e1 : (ysOf (l.set k ⟨t.v, x, t.wr⟩)).toArray = (ysOf l).toArray.setIfInBounds k (.int .i64 x) := by simp [ysOf, List.map_set]
  have e2 : vsOf (l.set k ⟨t.v, x, t.wr⟩) = vsOf l := by
    unfold vsOf
    rw [List.map_set]
    exact set_same _ _ _ (by simp [ht])
  have e3 : zsOf (l.set k ⟨t.v, x, t.wr⟩) = zsOf l := by
    unfold zsOf
    rw [List.map_set]
    exact set_same _ _ _ (by simp [ht])
  refine ⟨h.hB, ?_, ?_, ?_, ?_, h.nvy, h.nvz, h.nyz, by simpa using h.len⟩
  · rw [List.length_set]; exact h.blk.far (p := ⟨y, k, none⟩) (Ne.symm n2) _
  · rw [e2]; exact h.hv.far (p := ⟨y, k, none⟩) h.nvy _
  · rw [e1]; exact h.hy.set_ k _
  · rw [e3]; exact h.hz.far (p := ⟨y, k, none⟩) (Ne.symm h.nyz) _
theorem RMem.set_z (h : RMem w B b v y z l) {k : Nat} {t : Cl} (ht : l[k]? = some t) (x : Int) : RMem (w.setCell ⟨z, k, none⟩ (.int .i64 x)) B b v y z (l.set k ⟨t.v, t.by_, x⟩) := by
  obtain ⟨n1, n2, n3⟩ := h.nb
  have e1 : (zsOf (l.set k ⟨t.v, t.by_, x⟩)).toArray = (zsOf l).toArray.setIfInBounds k (.int .i64 x) := by simp [zsOf, List.map_set]
  have e2 : vsOf (l.set k ⟨t.v, t.by_, x⟩) = vsOf l := by
    unfold vsOf
    rw [List.map_set]
    exact set_same _ _ _ (by simp [ht])
  have e3 : ysOf (l.set k ⟨t.v, t.by_, x⟩) = ysOf l := by
    unfold ysOf
    rw [List.map_set]
    exact set_same _ _ _ (by simp [ht])
  refine ⟨h.hB, ?_, ?_, ?_, ?_, h.nvy, h.nvz, h.nyz, by simpa using h.len⟩
  · rw [List.length_set]; exact h.blk.far (p := ⟨z, k, none⟩) (Ne.symm n3) _
  · rw [e2]; exact h.hv.far (p := ⟨z, k, none⟩) h.nvz _
  · rw [e3]; exact h.hy.far (p := ⟨z, k, none⟩) h.nyz _
  · rw [e1]; exact h.hz.set_ k _
theorem RMem.cells (h : RMem w B b v y z l) {k : Nat} {t : Cl} (ht : l[k]? = some t) : w.cell? ⟨v, k, none⟩ = some (.int .i64 t.v) ∧ w.cell? ⟨y, k, none⟩ = some (.int .i64 t.by_) ∧ w.cell? ⟨z, k, none⟩ = some (.int .i64 t.wr) := by
  refine ⟨?_, ?_, ?_⟩
  · rw [h.hv.cell]; simp [vsOf, ht]
  · rw [h.hy.cell]; simp [ysOf, ht]
  · rw [h.hz.cell]; simp [zsOf, ht]
theorem RMem.heads (h : RMem w B b v y z l) : w.cell? ⟨b, 0, none⟩ = some (.slice (some ⟨v, 0, none⟩) l.length l.length) ∧ w.cell? ⟨b, 1, none⟩ = some (.slice (some ⟨y, 0, none⟩) l.length l.length) ∧ w.cell? ⟨b, 2, none⟩ = some (.slice (some ⟨z, 0, none⟩) l.length l.length) :=
  ⟨h.blk.cell 0, h.blk.cell 1, h.blk.cell 2⟩
theorem RMem.only {S : Nat → Prop} (h : RMem w B b v y z l) (ho : Only S w w') (hb : ¬ S b) (hv : ¬ S v) (hy : ¬ S y) (hz : ¬ S z) : RMem w' B b v y z l :=
  ⟨h.hB, h.blk.only ho hb, h.hv.only ho hv, h.hy.only ho hy, h.hz.only ho hz, h.nvy, h.nvz, h.nyz, h.len⟩
theorem RMem.later (h : RMem w B b v y z l) (hb : Below w.heap.size w w') : RMem w' B b v y z l :=
  h.only (Only.of_below (S := fun k => w.heap.size ≤ k) hb fun _ h => h) (by have := h.blk.lt; omega) (by have := h.hv.lt; omega) (by have := h.hy.lt; omega) (by have := h.hz.lt; omega)
end

theorem half_at (n k : Nat) (h : k < n) : (half n k)[k]? = some zero := by
  unfold half
  rw [List.getElem?_append_right (by simp)]
  simp [List.getElem?_replicate]
  omega
theorem half_set (n k : Nat) (h : k < n) : (half n k).set k one = half n (k + 1) := by
  unfold half
  rw [List.set_append_right _ _ (by simp)]
  have e : n - k = (n - (k + 1)) + 1 := by omega
  rw [e, List.replicate_succ, List.length_replicate, Nat.sub_self, List.set_cons_zero, List.replicate_succ', List.append_assoc]
  rfl

set_option maxRecDepth 100000 in
set_option maxHeartbeats 2000000 in
theorem rmake_ok (n : Nat) (hn0 : 1 ≤ n) (hn : n ≤ 64) (w : World) : Calls Try.prog 27 #[.int .i64 n] w fun e w' => ∃ b v y z, e = .returned (.tuple #[.pointer (some ⟨b, 0, none⟩), .int .i64 0]) ∧ RMem w' w.heap.size b v y z (Cs.new n) ∧ Below w.heap.size w w' := by
  obtain ⟨i0, hi, hz0, hz1, hz2⟩ := info_parts int_info
  have hmk : ∀ w : World, (Instr.makeSlice 22 (.int .i64 (n : Int)) (.int .i64 (n : Int))).run Try.prog w = .ok (.slice (some ⟨w.heap.size, 0, none⟩) n n) (w.alloc (.cells (madeCells #[.int .i64 0] n) 3)) := by
    intro w
    have := run_make (P := Try.prog) w 22 3 i0 _ Try.underlying22 hi hz0 .i64 .i64 n n (by omega) (Int.le_refl _) (by rw [hz2]; omega) (by omega)
    rw [hz1] at this
    simp only [Int.toNat_natCast, Nat.mul_one] at this
    exact this
  have h0 : (1 : Int) ≤ (n : Int) := by omega
  have h1 : (n : Int) ≤ 64 := by omega
  go_enter Try.func27, Try.ntmps27
  go_upto_region 3 with fail
  go_cut [4] (fun s wx => ∃ b v y z, s = .pointer (some ⟨b, 0, none⟩) ∧ RMem wx w.heap.size b v y z (zeros n) ∧ Below w.heap.size w wx)
  case first =>
    go_region
    all_goals
      go_wp2_with fail
      go_meet
      exact ⟨_, _, _, _, rfl, (make_three w n hn _ _ _ ⟨by omega, by omega⟩ ⟨by omega, by omega⟩ ⟨by omega, by omega⟩ (by omega) (by omega) (by omega)).1.drewN 1, below_drewN (make_three w n hn _ _ _ ⟨by omega, by omega⟩ ⟨by omega, by omega⟩ ⟨by omega, by omega⟩ (by omega) (by omega) (by omega)).2 1⟩
  obtain ⟨b, v, y, z, rfl, hR, hB⟩ := hcut
  have HR := hide hR
  have HB := hide hB
  have sz := hB.size
  clear hR hB hmk
  go_wp2_with fail
  go_loopw [5] (fun i wr => ∃ k : Nat, k ≤ n ∧ i = .int .i64 k ∧ RMem wr w.heap.size b v y z (half n k) ∧ Below w.heap.size w wr ∧ w.heap.size ≤ wr.heap.size) (fun i _ => n - (intOf i).toNat)
  case atStart =>
    refine ⟨0, Nat.zero_le _, rfl, ?_, HB.out, sz⟩
    have e : half n 0 = zeros n := by simp [half, zeros]
    rw [e]
    exact HR.out
  case round =>
    clear HR HB sz
    obtain ⟨k, hk, rfl, hR, hB, sz⟩ := hrel
    have HR := hide hR
    have HB := hide hB
    clear hR hB
    by_cases hlt : k < n
    · have hN := hide (HR.out.set_y (half_at n k hlt) (-1))
      have e := half_set n k hlt
      have hE := hide e
      have c1 := HR.out.heads.2.1
      have c2 := (HR.out.cells (half_at n k hlt)).2.1
      have f2 := HR.out.hy.frozen k
      have hyB := HR.out.hB.2.2.1
      rw [half_length n k hk] at c1
      clear e
      go_wp2
      go_roundw
      case rel =>
        refine ⟨k + 1, by omega, by go_num, ?_, HB.out.trans ((Only.refl (fun k => k = y) wr).setCell (p := ⟨y, k, none⟩) (.inl rfl) _ |>.below sz (fun j hj => by omega)), by simpa [World.setCell] using sz⟩
        rw [← hE.out]
        exact hN.out
      case measure => simp [intOf]; omega
    · obtain rfl : k = n := by omega
      have hR := HR.out
      rw [half_all] at hR
      have HR2 := hide hR
      clear hR HR
      go_wp2
      go_ret2
      exact ⟨_, _, _, _, rfl, HR2.out, HB.out⟩

theorem rmake_bad (n : Int) (hn : n < 1 ∨ 64 < n) (w : World) : Calls Try.prog 27 #[.int .i64 n] w fun e w' => e = .returned (.tuple #[.pointer none, .int .i64 2]) ∧ w = w' := by
  by_cases h1 : n < 1
  · clear hn
    go_enter Try.func27, Try.ntmps27
    go_wp2
    go_ret2
    exact ⟨rfl, rfl⟩
  · have h2 : 64 < n := by omega
    clear hn
    go_enter Try.func27, Try.ntmps27
    go_wp2
    go_ret2
    exact ⟨rfl, rfl⟩
end Go.Proofs.Ytaoonjamlcdfaaa
