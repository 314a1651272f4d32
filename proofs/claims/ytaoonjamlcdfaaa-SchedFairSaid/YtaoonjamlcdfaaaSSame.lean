/-
  The contract of same, where a machine is the reference's.
-/
import Derived.Deep.RegionHeld3
import Derived.Test.YtaoonjamlcdfaaaRMakes
import Derived.Test.YtaoonjamlcdfaaaRegs
namespace Go.Proofs.Ytaoonjamlcdfaaa
open Go.RowKit

section
variable {w w' : World} {L1 : Lay} {L2 : RLay} {st : St}
/-- A machine and the reference's, that are the same. -/
structure SR (w : World) (L1 : Lay) (L2 : RLay) (st : St) : Prop where
  one : Mach w L1 st
  two : RMach w L2 st
theorem SR.later (h : SR w L1 L2 st) (hb : Below w.heap.size w w') : SR w' L1 L2 st := ⟨h.one.later hb, h.two.later hb⟩
theorem SR.drewN (h : SR w L1 L2 st) (n : Nat) : SR (w.drewN n) L1 L2 st := ⟨h.one.drewN n, h.two.drewN n⟩

theorem rmem_rd {B b v y z : Nat} {l : List Cl} (h : RMem w B b v y z l) : RdI w (.slice (some ⟨v, 0, none⟩) l.length l.length) (numsOf l) := by
  refine ⟨_, l.length, by rw [numsOf_length], fun _ => ⟨v, rfl, h.hv.lt, fun j x hj => ?_⟩⟩
  rw [h.hv.cell]
  simp only [numsOf, List.getElem?_map, Option.map_eq_some_iff] at hj
  obtain ⟨t, ht, rfl⟩ := hj
  simp [vsOf, ht]

set_option maxRecDepth 100000 in
set_option maxHeartbeats 16000000 in
theorem ssame_c (h : SR w L1 L2 st) : Calls Try.prog 48 #[.pointer (some ⟨L1.b, 0, none⟩), .pointer (some ⟨L2.b, 0, none⟩)] w fun e w' => e = .returned (.bool true) ∧ Below w.heap.size w w' := by
  obtain ⟨so, scap, hsv, _⟩ := ownsRow_shape h.two.ses.row
  have HSV := hide hsv
  have hfew := h.two.good.few
  have HH := hide h
  have c1 := h.two.heads.2
  rw [hsv] at c1
  clear h hsv
  go_enter Try.func48, Try.ntmps48
  go_wp2
  go_loopw [5] (fun i wr => ∃ k : Nat, k ≤ st.ses.length ∧ i = .int .i64 k ∧ SR wr L1 L2 st ∧ Below w.heap.size w wr) (fun i _ => st.ses.length - (intOf i).toNat)
  case atStart => exact ⟨0, Nat.zero_le _, rfl, HH.out, Below.refl _ _⟩
  case round =>
    obtain ⟨k, hk, rfl, hS, hb⟩ := hrel
    have HS := hide hS
    have HB := hide hb
    have c2 := hS.two.heads.2
    rw [HSV.out] at c2
    clear hS hb HH c1
    by_cases hlt : k < st.ses.length
    · obtain ⟨s, hs⟩ : ∃ t, st.ses[k]? = some t := ⟨st.ses[k], List.getElem?_eq_getElem hlt⟩
      have hg : Sd.get st.ses (k : Int) = some s := by
        unfold Sd.get
        rw [if_pos (by omega), Int.toNat_natCast]
        exact hs
      obtain ⟨sg, scap', j, pv, hv, hsc, _, _, hse, hf⟩ := HS.out.two.at_ hg
      rw [HSV.out] at hv
      cases hv
      rw [Int.toNat_natCast] at hsc
      obtain ⟨r0, r1, r2, r3, hr⟩ := four hf.reg
      have d1 := hse.cell_at.2
      have d2 := hse.blk.cell 2
      have d3 := hse.blk.cell 3
      have d4 := hse.blk.cell 4
      have d5 := hse.blk.cell 5
      simp only [sesCells, hr, List.map_cons, List.map_nil, List.getElem?_toArray, List.getElem?_cons_succ, List.getElem?_cons_zero] at d2 d3 d4 d5
      have q58 : ∀ w : World, (Op.equalIn 10000 58 (.agg #[.int .i64 r0, .int .i64 r1, .int .i64 r2, .int .i64 r3]) (.agg #[.int .i64 r0, .int .i64 r1, .int .i64 r2, .int .i64 r3])).run Try.prog w = .ok true w := fun w => by
        have := regs_eq w r0 r1 r2 r3 r0 r1 r2 r3
        simpa using this
      have hA := fun (w' : World) (h : SR w' L1 L2 st) => mat_c h.one k
      have hG := fun (w' : World) (h : SR w' L1 L2 st) => mregs_c h.one k
      have hO := fun (w' : World) (h : SR w' L1 L2 st) => mover_c h.one k
      have hP := fun (w' : World) (h : SR w' L1 L2 st) => rover_c h.two k
      rw [show Sd.placeOf st (k : Int) = (s.at_ : Int) by simp only [Sd.placeOf, hg]] at hA
      rw [show Sd.regsOf st (k : Int) = [r0, r1, r2, r3] by simp only [Sd.regsOf, hg, hr]] at hG
      unfold regVal at hG
      simp only [List.map_cons, List.map_nil] at hG
      have HA := hide hA
      have HG := hide hG
      have HO := hide hO
      have HP := hide hP
      clear hA hG hO hP hse hf hr hs hg
      generalize Sd.overB st (k : Int) = ov at *
      generalize s.at_ = a at *
      have lt1 := World.block_lt_of_cell? wr ⟨L2.b, 1, none⟩ c2
      have lt2 := World.block_lt_of_cell? wr ⟨sg, k, none⟩ hsc
      have lt3 := World.block_lt_of_cell? wr ⟨j, 1, none⟩ d1
      simp only at lt1 lt2 lt3
      go_wp2_with fail
      go_region_held3 (fun wt => wt.cell? ⟨L2.b, 1, none⟩ = some (.slice (some ⟨sg, 0, none⟩) st.ses.length scap) ∧ wt.cell? ⟨sg, k, none⟩ = some (.pointer (some ⟨j, 0, none⟩)) ∧ wt.cell? ⟨j, 1, none⟩ = some (.int .i64 (a : Int)) ∧ wt.cell? ⟨j, 2, none⟩ = some (.int .i64 r0) ∧ wt.cell? ⟨j, 3, none⟩ = some (.int .i64 r1) ∧ wt.cell? ⟨j, 4, none⟩ = some (.int .i64 r2) ∧ wt.cell? ⟨j, 5, none⟩ = some (.int .i64 r3))
        (first | exact KS.out | go_keep)
        ((first
          | (go_at_call 42; refine (HA.out _ (HS.out.drewN 1)).mono ?_; rintro e w' ⟨rfl, rfl⟩)
          | (go_at_call 43; refine (HG.out _ (HS.out.drewN 1)).mono ?_; rintro e w5 ⟨rfl, hb0⟩; have H5 := hide ((HS.out.drewN 1).later hb0); have hb5 := (show Below wr.heap.size wr w5 from ⟨hb0.os, hb0.tape, hb0.output, hb0.size, hb0.block⟩); have KS := hide (And.intro ((hb5.cell (p := ⟨L2.b, 1, none⟩) lt1).trans c2) (And.intro ((hb5.cell (p := ⟨sg, k, none⟩) lt2).trans hsc) (And.intro ((hb5.cell (p := ⟨j, 1, none⟩) lt3).trans d1) (And.intro ((hb5.cell (p := ⟨j, 2, none⟩) lt3).trans d2) (And.intro ((hb5.cell (p := ⟨j, 3, none⟩) lt3).trans d3) (And.intro ((hb5.cell (p := ⟨j, 4, none⟩) lt3).trans d4) ((hb5.cell (p := ⟨j, 5, none⟩) lt3).trans d5))))))))
          | (go_at_call 54; refine (HO.out _ (by first | exact H5.out | exact H5.out.drewN _)).mono ?_; rintro e w6 ⟨rfl, n6, rfl⟩)
          | (go_at_call 72; refine (HP.out _ (by first | exact H5.out | exact H5.out.drewN _)).mono ?_; rintro e w7 ⟨rfl, n7, rfl⟩)))
      go_wp2_with fail
      go_roundw
      case rel => exact ⟨k + 1, by omega, by go_num, H5.out.drewN _, below_drewN (HB.out.trans (hb5.mono HB.out.size)) _⟩
      case measure => simp [intOf]; omega
    · obtain rfl : k = st.ses.length := by omega
      clear hlt
      go_wp2_with fail
      go_loopw [6] (fun i wl => ∃ j : Nat, j ≤ st.cells.length ∧ i = .int .i64 j ∧ SR wl L1 L2 st ∧ Below w.heap.size w wl) (fun i _ => st.cells.length - (intOf i).toNat)
      case atStart => exact ⟨0, Nat.zero_le _, rfl, HS.out, HB.out⟩
      case round =>
        clear c2
        obtain ⟨j, hj, rfl, hS2, hb2⟩ := hrel
        have HS2 := hide hS2
        have HB2 := hide hb2
        have e0 := hS2.two.heads.1
        obtain ⟨f0, f1, _⟩ := hS2.two.mem.heads
        have hlen := hS2.two.good.len
        clear hS2 hb2 HS HB
        by_cases hjl : j < st.cells.length
        · obtain ⟨t, ht⟩ : ∃ t, st.cells[j]? = some t := ⟨st.cells[j], List.getElem?_eq_getElem hjl⟩
          have f2 := (HS2.out.two.mem.cells ht).2.1
          have hh : Cs.holder st.cells (j : Int) = t.by_ := by
            have hg : Cs.get st.cells (j : Int) = some t := by
              unfold Cs.get
              rw [if_pos (by omega), Int.toNat_natCast]
              exact ht
            simp only [Cs.holder, hg]
          have HO : Hid (∀ n, Calls Try.prog 52 #[.pointer (some ⟨L1.b, 0, none⟩), .int .i64 j] (wr.drewN n) fun e w' => e = .returned (.int .i64 t.by_) ∧ wr.drewN n = w') := by
            intro n
            have := mholder_c (HS2.out.one.drewN n) j
            rw [hh] at this
            exact this
          clear ht hh
          generalize t.by_ = bb at *
          go_wp2_with fail
          go_quiet ((go_at_call 52; exact quiet_one (HO.out _)))
          go_wp2
          go_roundw
          case rel => exact ⟨j + 1, by omega, by go_num, HS2.out.drewN _, below_drewN HB2.out _⟩
          case measure => simp [intOf]; omega
        · have hj2 : st.cells.length ≤ j := by omega
          have hjj : j = st.cells.length := by omega
          have HC := hide (fun (w' : World) (h : SR w' L1 L2 st) => mcells_c h.one)
          have HRD := hide (fun (w' : World) (h : SR w' L1 L2 st) => rmem_rd h.two.mem)
          have lt1 := World.block_lt_of_cell? wr ⟨L2.b, 0, none⟩ e0
          have lt2 := World.block_lt_of_cell? wr ⟨L2.m, 0, none⟩ f0
          simp only at lt1 lt2
          have hnl : (numsOf st.cells).length ≤ 1000000 := by rw [numsOf_length]; omega
          have HNL := hide hnl
          clear hjl hnl hlen f1
          generalize hnum : numsOf st.cells = nums at *
          have HNM := hide hnum
          clear hnum
          go_wp2_with fail
          go_region_held3 (fun wt => wt.cell? ⟨L2.b, 0, none⟩ = some (.pointer (some ⟨L2.m, 0, none⟩)) ∧ wt.cell? ⟨L2.m, 0, none⟩ = some (.slice (some ⟨L2.v, 0, none⟩) st.cells.length st.cells.length))
            (first | exact KS.out | go_keep)
            ((first
              | (go_at_call 44; refine (HC.out _ (HS2.out.drewN 1)).mono ?_; rintro e w5 ⟨v5, rfl, hr5, hb0⟩; have H5 := hide ((HS2.out.drewN 1).later hb0); have hb5 := (show Below wr.heap.size wr w5 from ⟨hb0.os, hb0.tape, hb0.output, hb0.size, hb0.block⟩); have KS := hide (And.intro ((hb5.cell (p := ⟨L2.b, 0, none⟩) lt1).trans e0) ((hb5.cell (p := ⟨L2.m, 0, none⟩) lt2).trans f0)); have HSM := hide (same_c (rdI_of hr5) (HRD.out _ H5.out) HNL.out); obtain ⟨ao5, cap5, rfl, _⟩ := ownsRow_shape hr5)
              | (go_at_call 23; refine HSM.out.mono ?_; rintro e w6 ⟨rfl, n6, rfl⟩)))
          go_wp2
          go_ret
          refine ⟨ret_bool (same_self _), below_drewN (HB2.out.trans (hb5.mono HB2.out.size)) _⟩
end
end Go.Proofs.Ytaoonjamlcdfaaa
