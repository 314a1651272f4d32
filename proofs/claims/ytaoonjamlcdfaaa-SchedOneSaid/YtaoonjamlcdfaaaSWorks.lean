/-
  The chapter's example works.
-/
import Derived.Test.YtaoonjamlcdfaaaMakes
namespace Go.Proofs.Ytaoonjamlcdfaaa
open Go.RowKit

def exP : List In := [⟨5, 0, 0, 5⟩]
def exX (i : Nat) : Int := [1, 0, 7].getD i 0

section
variable {w : World}
theorem ex_progs (w : World) : PrgsAt (w.heap.size + 2) ((w.alloc (.cells #[.int .i64 5, .int .i64 0, .int .i64 0, .int .i64 5] 95)).alloc (.cells #[.slice (some ⟨w.heap.size, 0, none⟩) 1 1, .slice (some ⟨w.heap.size, 0, none⟩) 1 1] 69)) (.slice (some ⟨w.heap.size + 1, 0, none⟩) 2 2) [exP, exP] := by
  have h1 : Blk ((w.alloc (.cells #[.int .i64 5, .int .i64 0, .int .i64 0, .int .i64 5] 95)).alloc (.cells #[.slice (some ⟨w.heap.size, 0, none⟩) 1 1, .slice (some ⟨w.heap.size, 0, none⟩) 1 1] 69)) w.heap.size 95 #[.int .i64 5, .int .i64 0, .int .i64 0, .int .i64 5] := (Blk.new w _ _).alloc _
  have h2 : Blk ((w.alloc (.cells #[.int .i64 5, .int .i64 0, .int .i64 0, .int .i64 5] 95)).alloc (.cells #[.slice (some ⟨w.heap.size, 0, none⟩) 1 1, .slice (some ⟨w.heap.size, 0, none⟩) 1 1] 69)) (w.heap.size + 1) 69 #[.slice (some ⟨w.heap.size, 0, none⟩) 1 1, .slice (some ⟨w.heap.size, 0, none⟩) 1 1] := by
    have := Blk.new (w.alloc (.cells #[.int .i64 5, .int .i64 0, .int .i64 0, .int .i64 5] 95)) 69 #[.slice (some ⟨w.heap.size, 0, none⟩) 1 1, .slice (some ⟨w.heap.size, 0, none⟩) 1 1]
    simpa using this
  have hp : PrgAt (w.heap.size + 2) ((w.alloc (.cells #[.int .i64 5, .int .i64 0, .int .i64 0, .int .i64 5] 95)).alloc (.cells #[.slice (some ⟨w.heap.size, 0, none⟩) 1 1, .slice (some ⟨w.heap.size, 0, none⟩) 1 1] 69)) (.slice (some ⟨w.heap.size, 0, none⟩) 1 1) exP := by
    refine ⟨_, 1, rfl, by decide, by decide, (fun e => by cases e), fun _ => ⟨w.heap.size, 0, rfl, by omega, fun j u hj => ?_⟩⟩
    rw [Nat.zero_add, h1.cell]
    simpa [qcells, exP] using hj
  refine ⟨_, 2, rfl, by decide, by decide, (fun e => by cases e), fun _ => ⟨w.heap.size + 1, 0, rfl, by omega, fun j p hj => ?_⟩⟩
  refine ⟨.slice (some ⟨w.heap.size, 0, none⟩) 1 1, ?_, ?_⟩
  · rw [Nat.zero_add, h2.cell]
    match j, hj with
    | 0, _ => rfl
    | 1, _ => rfl
    | j + 2, h => simp at h
  · have : p = exP := by
      match j, hj with
      | 0, h => simpa using h.symm
      | 1, h => simpa using h.symm
      | j + 2, h => simp at h
    rw [this]
    exact hp

set_option maxRecDepth 100000 in
set_option maxHeartbeats 2000000 in
theorem sworks_c (w : World) : Calls Try.prog 38 #[] w fun e w' => e = .returned (.bool true) ∧ Below w.heap.size w w' := by
  have HP := hide (ex_progs w)
  have hb0 : Below w.heap.size w ((w.alloc (.cells #[.int .i64 5, .int .i64 0, .int .i64 0, .int .i64 5] 95)).alloc (.cells #[.slice (some ⟨w.heap.size, 0, none⟩) 1 1, .slice (some ⟨w.heap.size, 0, none⟩) 1 1] 69)) := ((Below.refl _ _).alloc (Nat.le_refl _) _).alloc (by simp) _
  have HB0 := hide hb0
  have hmk := sched_make (w := (w.alloc (.cells #[.int .i64 5, .int .i64 0, .int .i64 0, .int .i64 5] 95)).alloc (.cells #[.slice (some ⟨w.heap.size, 0, none⟩) 1 1, .slice (some ⟨w.heap.size, 0, none⟩) 1 1] 69)) 1 (by simp) HP.out
  rw [show Sd.makeE 1 [exP, exP] = none by decide +kernel] at hmk
  have HM := hide hmk
  clear hmk HP hb0
  go_enter Try.func38, Try.ntmps38
  go_wp2_with fail
  refine HM.out.mono ?_
  rintro e w1 ⟨L, rfl, hLB, hm, hb⟩
  have H1 := hide hm
  have HB1 := hide (HB0.out.trans (hb.mono HB0.out.size))
  have sz0 := HB0.out.size
  have HLB := hide hLB
  clear hm hb hLB HM HB0
  go_wp2_with fail
  have hal : Below w1.heap.size w1 (w1.alloc (.cells #[.int .i64 1, .int .i64 0, .int .i64 7] 3)) := (Below.refl _ _).alloc (Nat.le_refl _) _
  have hbk : Blk (w1.alloc (.cells #[.int .i64 1, .int .i64 0, .int .i64 7] 3)) w1.heap.size 3 #[.int .i64 1, .int .i64 0, .int .i64 7] := Blk.new _ _ _
  have H2 := hide (H1.out.later hal)
  have HR := hide (run_c (g := w1.heap.size) (off := 0) (cap := 3) (len := 3) (ao := some ⟨w1.heap.size, 0, none⟩) H2.out exX (by decide) (fun _ => rfl) (fun _ => ⟨by simp, fun h => by have := (H1.out.lt _ h).2; omega⟩) (fun i hi => by
    rw [Nat.zero_add, hbk.cell]
    match i, hi with
    | 0, _ => rfl
    | 1, _ => rfl
    | 2, _ => rfl))
  have HB2 := hide (HB1.out.trans (hal.mono (by have := HB1.out.size; omega)))
  have HLB2 := hide (show w.heap.size ≤ L.B by have := HLB.out; omega)
  clear hal hbk H1 HB1 HLB
  refine HR.out.mono ?_
  rintro e w3 ⟨rfl, hm, ho⟩
  rw [show Sd.cntN (Sd.made 1 [exP, exP]) exX 3 = 2 by decide +kernel]
  have H3 := hide hm
  have HB3 := hide (Only.then HB2.out ho (by have := HB2.out.size; omega) (fun k hk => by have := (H2.out.lt k hk).1; have := HLB2.out; omega))
  clear hm ho HR H2 HB2
  have hcl := mcells_c H3.out
  rw [show numsOf (Sd.runN (Sd.made 1 [exP, exP]) exX 3).cells = [10] by decide +kernel] at hcl
  have HCL := hide hcl
  clear hcl
  go_wp2_with fail
  refine HCL.out.mono ?_
  rintro e w4 ⟨v4, rfl, hrow, hb⟩
  have H4 := hide (H3.out.later hb)
  have hs3 := HB3.out.size
  have HB4 := hide (HB3.out.trans (hb.mono hs3))
  have HR4 := hide (rdI_of hrow)
  obtain ⟨ao4, cap4, rfl, _⟩ := ownsRow_shape hrow
  clear hrow hb HCL H3 HB3 hs3
  have hal : Below w4.heap.size w4 (w4.alloc (.cells #[.int .i64 10] 3)) := (Below.refl _ _).alloc (Nat.le_refl _) _
  have h5 := H4.out.later hal
  have HB5 := hide (HB4.out.trans (hal.mono HB4.out.size))
  have hnew : RdI (w4.alloc (.cells #[.int .i64 10] 3)) (.slice (some ⟨w4.heap.size, 0, none⟩) 1 1) [10] := by
    refine ⟨_, 1, rfl, fun _ => ⟨w4.heap.size, rfl, by simp, fun j x hj => ?_⟩⟩
    have hbk : Blk (w4.alloc (.cells #[.int .i64 10] 3)) w4.heap.size 3 #[.int .i64 10] := Blk.new _ _ _
    rw [hbk.cell]
    match j, hj with
    | 0, h => simp at h; subst h; rfl
    | j + 1, h => simp at h
  have hsm := same_c (HR4.out.later hal) hnew (by decide)
  rw [same_self] at hsm
  have HSM := hide hsm
  have HO := hide (fun n k => mover_c (h5.drewN n) k)
  have o0 : Sd.overB (Sd.runN (Sd.made 1 [exP, exP]) exX 3) 0 = true := by decide +kernel
  have o1 : Sd.overB (Sd.runN (Sd.made 1 [exP, exP]) exX 3) 1 = true := by decide +kernel
  have HO0 := hide (fun n => by have := HO.out n 0; rw [o0] at this; exact this)
  have HO1 := hide (fun n => by have := HO.out n 1; rw [o1] at this; exact this)
  clear hsm hnew hal h5 HR4 H4 HB4 HO o0 o1
  go_wp2_with fail
  refine HSM.out.mono ?_
  rintro e w6 ⟨rfl, n6, rfl⟩
  go_wp2_with fail
  refine (HO0.out n6).mono ?_
  rintro e w7 ⟨rfl, n7, rfl⟩
  go_wp2_with fail
  refine (HO1.out _).mono ?_
  rintro e w8 ⟨rfl, n8, rfl⟩
  go_wp2
  go_ret
  exact ⟨rfl, below_drewN HB5.out _⟩
end
end Go.Proofs.Ytaoonjamlcdfaaa
