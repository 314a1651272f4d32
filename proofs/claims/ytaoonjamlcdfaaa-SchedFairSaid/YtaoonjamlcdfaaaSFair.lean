/-
  The walk of the law SchedFair.
-/
import Derived.Test.YtaoonjamlcdfaaaSSteps
namespace Go.Proofs.Ytaoonjamlcdfaaa
open Go.RowKit

theorem makeE_pos {cells : Int} {ps : List (List In)} (h : Sd.makeE cells ps = none) : 0 < ps.length := by
  unfold Sd.makeE at h
  split at h
  · cases h
  · omega

set_option maxRecDepth 100000 in
set_option maxHeartbeats 8000000 in
theorem sfair_c (cells : Int) (v1 : Value) (ps0 : List (List In)) (most : Int) (w : World) (hp : PrgsAt w.heap.size w v1 ps0) :
    Calls Try.prog 13 #[.int .i64 cells, v1, .int .i64 most] w fun e w' => e = .returned (.bool true) ∧ Below w.heap.size w w' := by
  have HP := hide hp
  clear hp
  obtain ⟨mm, hmm⟩ : ∃ mm : Int, mm = if 500 < most then 500 else most := ⟨_, rfl⟩
  have hm5 : mm ≤ 1000000 := by rw [hmm]; split <;> omega
  have h500 := hmm.symm
  clear hmm
  go_enter Try.func13, Try.ntmps13
  go_wp2_with fail
  refine (sworks_c w).mono ?_
  rintro e w1 ⟨rfl, hb⟩
  have HB1 := hide hb
  have HP1 := hide (HP.out.below hb)
  clear hb HP
  go_wp2_with fail
  refine (few_c HP1.out HB1.out.size).mono ?_
  rintro e w2 ⟨v, rfl, hpr, hb⟩
  have HB2 := hide (HB1.out.trans (hb.mono HB1.out.size))
  have HP2 := hide hpr
  generalize fewOf ps0 = ps at *
  clear hb hpr HB1 HP1
  go_wp2_with fail
  have hmk := sched_make cells (Nat.le_refl _) HP2.out
  cases hE : Sd.makeE cells ps with
  | some r =>
    obtain ⟨j, r⟩ := r
    have hr := makeE_code hE
    rw [hE] at hmk
    have HM := hide hmk
    clear hmk
    refine HM.out.mono ?_
    rintro e w3 ⟨rfl, hb⟩
    have HB3 := hide (HB2.out.trans (hb.mono HB2.out.size))
    have hmk2 := ref_make cells hb.size (HP2.out.below hb)
    rw [hE] at hmk2
    have HM2 := hide hmk2
    have hr0 : (r != 0) = true := by rw [bne_iff_ne]; omega
    clear hb hmk2 HM hE HP2 hr
    go_wp2_with fail
    refine HM2.out.mono ?_
    rintro e w4 ⟨rfl, hb⟩
    have HB4 := hide (HB3.out.trans (hb.mono HB3.out.size))
    clear hb HM2
    go_wp2
    go_ret
    exact ⟨ret_bool (by simp), HB4.out⟩
  | none =>
    have hpos := makeE_pos hE
    rw [hE] at hmk
    have HM := hide hmk
    clear hmk
    refine HM.out.mono ?_
    rintro e w3 ⟨L1, rfl, hLB, hm, hb⟩
    have H3 := hide (show One w2 w3 L1 (Sd.made cells ps) from ⟨hm, hb, hLB⟩)
    have hmk2 := ref_make cells hb.size (HP2.out.below hb)
    rw [hE] at hmk2
    have HM2 := hide hmk2
    clear hb hmk2 HM hE HP2 hm hLB
    go_wp2_with fail
    refine HM2.out.mono ?_
    rintro e w4 ⟨L2, rfl, hLB, hm, hb⟩
    have H4 := hide (rtwin_start H3.out hm hb hLB)
    have hsl : 0 < (Sd.made cells ps).ses.length := by simp only [Sd.made, List.length_map]; exact hpos
    clear hb hm hLB HM2 H3 hpos
    generalize Sd.made cells ps = st at *
    have hf1 := H4.out.at1 (fair_c H4.out.one.mach hsl mm hm5)
    have hf2 := fun (w' : World) (s1 : St) (h : RTwin w2 w' L1 L2 s1 st) => h.at2 (rfair_c h.two hsl mm hm5)
    generalize Sd.cntL st (turnsOf st.ses.length mm.toNat) = cn at *
    generalize Sd.doneB (Sd.runL st (turnsOf st.ses.length mm.toNat)) = dn at *
    generalize Sd.runL st (turnsOf st.ses.length mm.toNat) = st2 at *
    have HF1 := hide hf1
    have HF2 := hide hf2
    clear hf1 hf2 hsl H4
    go_wp2_with fail
    refine HF1.out.mono ?_
    rintro e w5 ⟨rfl, h5⟩
    have H5 := hide (HF2.out _ _ h5)
    clear h5 HF1 HF2
    go_wp2_with fail
    refine H5.out.mono ?_
    rintro e w6 ⟨rfl, h6⟩
    have HSM := hide (ssame_c ⟨h6.one.mach, h6.two⟩)
    have HB6 := hide (HB2.out.trans (h6.one.below.mono HB2.out.size))
    clear h6 H5
    go_wp2_with fail
    refine HSM.out.mono ?_
    rintro e w7 ⟨rfl, hb7⟩
    have HB7 := hide (HB6.out.trans (hb7.mono HB6.out.size))
    clear hb7 HSM
    go_wp2
    go_ret
    exact ⟨rfl, HB7.out⟩
end Go.Proofs.Ytaoonjamlcdfaaa
