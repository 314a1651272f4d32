/-
  The walk of the law SchedMalformed.
-/
import Derived.Test.YtaoonjamlcdfaaaTwin
import Derived.Test.YtaoonjamlcdfaaaFew
import Derived.Test.YtaoonjamlcdfaaaArgsP
namespace Go.Proofs.Ytaoonjamlcdfaaa
open Go.RowKit

theorem step_odd {st : St} {o : Int} (h : o < 0 ∨ (st.ses.length : Int) ≤ o) : Sd.stepS st o = st ∧ Sd.stepB st o = false := by
  have hg : Sd.get st.ses o = none := by
    unfold Sd.get
    split
    · exact List.getElem?_eq_none_iff.2 (by omega)
    · rfl
  exact ⟨by simp only [Sd.stepS, hg], by simp only [Sd.stepB, Sd.overB, hg]; rfl⟩
theorem step_ses (st : St) (k : Int) : (Sd.stepS st k).ses.length = st.ses.length := by
  unfold Sd.stepS
  split
  · rfl
  · split
    · rfl
    · simp
theorem made_ses (cells : Int) (ps : List (List In)) : (Sd.made cells ps).ses.length = ps.length := by simp [Sd.made]

set_option maxRecDepth 100000 in
set_option maxHeartbeats 8000000 in
theorem malformed_c (cells : Int) (v1 : Value) (ps0 : List (List In)) (v2 : Value) (x : Nat → Int) (len : Nat) (v3 : Value) (z : Nat → Int) (olen : Nat) (w : World) (hp : PrgsAt w.heap.size w v1 ps0) (ha : IntsAt w.heap.size w v2 x len) (hz : IntsAt w.heap.size w v3 z olen) :
    Calls Try.prog 8 #[.int .i64 cells, v1, v2, v3] w fun e w' => e = .returned (.bool true) ∧ Below w.heap.size w w' := by
  obtain ⟨ao, cap, rfl, _, _, _, hcell⟩ := ha
  obtain ⟨zo, zcap, rfl, _, _, _, hzell⟩ := hz
  have HC := hide hcell
  have HZ := hide hzell
  have HP := hide hp
  clear hcell hzell hp
  go_enter Try.func8, Try.ntmps8
  go_wp2_with fail
  refine (sworks_c w).mono ?_
  rintro e w1 ⟨rfl, hb⟩
  have HB1 := hide hb
  have HP1 := hide (HP.out.below hb)
  clear hb HP
  go_wp2_with fail
  refine (few_c HP1.out HB1.out.size).mono ?_
  rintro e w2 ⟨v, rfl, hpr, hb⟩
  have HB2 := hide (HB1.out.trans (hb.mono HB1.out.size))
  have HP2 := hide hpr
  generalize fewOf ps0 = ps at *
  clear hb hpr HB1 HP1
  go_wp2_with fail
  have hmk := sched_make cells (Nat.le_refl _) HP2.out
  cases hE : Sd.makeE cells ps with
  | some r =>
    obtain ⟨j, r⟩ := r
    have hr := makeE_code hE
    rw [hE] at hmk
    have HM := hide hmk
    clear hmk
    refine HM.out.mono ?_
    rintro e w3 ⟨rfl, hb⟩
    have HB3 := hide (HB2.out.trans (hb.mono HB2.out.size))
    have hmk2 := sched_make cells hb.size (HP2.out.below hb)
    rw [hE] at hmk2
    have HM2 := hide hmk2
    have hr0 : (r != 0) = true := by rw [bne_iff_ne]; omega
    clear hb hmk2 HM hE HP2 hr
    go_wp2_with fail
    refine HM2.out.mono ?_
    rintro e w4 ⟨rfl, hb⟩
    have HB4 := hide (HB3.out.trans (hb.mono HB3.out.size))
    clear hb HM2
    go_wp2
    go_ret
    exact ⟨rfl, HB4.out⟩
  | none =>
    rw [hE] at hmk
    have HM := hide hmk
    clear hmk
    refine HM.out.mono ?_
    rintro e w3 ⟨L1, rfl, hLB, hm, hb⟩
    have H3 := hide (show One w2 w3 L1 (Sd.made cells ps) from ⟨hm, hb, hLB⟩)
    have hmk2 := sched_make cells hb.size (HP2.out.below hb)
    rw [hE] at hmk2
    have HM2 := hide hmk2
    clear hb hmk2 HM hE HP2 hm hLB
    go_wp2_with fail
    refine HM2.out.mono ?_
    rintro e w4 ⟨L2, rfl, hLB, hm, hb⟩
    have H4 := hide (twin_start H3.out hm hb hLB)
    have hsl := made_ses cells ps
    clear hb hm hLB HM2 H3
    generalize Sd.made cells ps = st0 at *
    have HSL := hide hsl
    clear hsl
    have hpl : ps.length ≤ 16 := by
      have := H4.out.two.good.few
      have := HSL.out
      omega
    generalize ps.length = n at *
    go_wp2_with fail
    go_loopw [15, 16, 17] (fun a b i wr => ∃ (k c : Nat) (st : St), k ≤ len ∧ c ≤ 2 * k ∧ k ≤ 200 ∧ i = .int .i64 k ∧ a = .int .i64 c ∧ b = .int .i64 c ∧ st.ses.length = n ∧ Twin w2 wr L1 L2 st st) (fun _ _ i _ => len - (intOf i).toNat)
    case atStart => exact ⟨0, 0, _, Nat.zero_le _, by decide, by decide, rfl, rfl, rfl, HSL.out, H4.out⟩
    case round =>
      obtain ⟨k, c, st, hk, hc, hk2, rfl, rfl, rfl, hsl, hT⟩ := hrel
      have HSL2 := hide hsl
      have HT := hide hT
      clear hsl hT H4 HSL
      by_cases hlt : k < len ∧ k < 200
      · obtain ⟨hk1, hk3⟩ := hlt
        have hk3' : (k : Int) < 200 := by omega
        obtain ⟨g, off, rfl, hg, hcs⟩ := HC.out (by omega)
        have K := hide (fun (w' : World) (hb : Below w2.heap.size w2 w') => ((HB2.out.trans (hb.mono HB2.out.size)).cell (p := ⟨g, off + k, none⟩) hg).trans (hcs k hk1))
        have c1 := K.out wr HT.out.one.below
        clear hcs
        generalize x k = p at *
        have hR := HT.out.run1 p
        have hbl : (Sd.stepB st p).toNat ≤ 1 := Bool.toNat_le _
        have hRb := fun (w' : World) (h : Twin w2 w' L1 L2 (Sd.stepS st p) st) => h.run2 p
        have HS3 := hide ((step_ses st p).trans HSL2.out)
        generalize Sd.stepS st p = st3 at *
        generalize (Sd.stepB st p).toNat = t at *
        have HR := hide hR
        have HRB := hide hRb
        clear hR hRb HT HSL2
        go_wp2_with fail
        refine HR.out.mono ?_
        rintro e w5 ⟨rfl, h5⟩
        have c2 := K.out _ h5.one.below
        have HR2 := hide (HRB.out _ h5)
        clear h5 HR HRB c1
        go_wp2_with fail
        refine HR2.out.mono ?_
        rintro e w6 ⟨rfl, h6⟩
        have H6 := hide h6
        clear h6 HR2 c2 K
        by_cases ho : k < olen
        · obtain ⟨gz, zoff, rfl, hgz, hzs⟩ := HZ.out (by omega)
          have c3 := ((HB2.out.trans (H6.out.one.below.mono HB2.out.size)).cell (p := ⟨gz, zoff + k, none⟩) hgz).trans (hzs k ho)
          clear hzs
          generalize z k = o at *
          by_cases hodd : o < 0 ∨ (n : Int) ≤ o
          · have hR := H6.out.run1 o
            obtain ⟨q1, q2⟩ := step_odd (st := st3) (o := o) (by rw [HS3.out]; exact hodd)
            rw [q1, q2] at hR
            have HR := hide hR
            clear hR q1 q2 H6
            rcases (show o < 0 ∨ (0 ≤ o ∧ (n : Int) ≤ o) from by omega) with hneg | ⟨hpos, hbig⟩
            · clear hodd
              go_wp2_with fail
              refine HR.out.mono ?_
              rintro e w7 ⟨rfl, h7⟩
              have H7 := hide h7
              clear h7 HR c3
              go_wp2
              go_roundw
              case rel => exact ⟨k + 1, c + t, st3, by omega, by omega, by omega, by go_num, by go_num, by go_num, HS3.out, H7.out⟩
              case measure => simp [intOf]; omega
            · clear hodd
              go_wp2_with fail
              refine HR.out.mono ?_
              rintro e w7 ⟨rfl, h7⟩
              have H7 := hide h7
              clear h7 HR c3
              go_wp2
              go_roundw
              case rel => exact ⟨k + 1, c + t, st3, by omega, by omega, by omega, by go_num, by go_num, by go_num, HS3.out, H7.out⟩
              case measure => simp [intOf]; omega
          · have h1 : 0 ≤ o := by omega
            have h2 : o < (n : Int) := by omega
            clear hodd
            go_wp2
            go_roundw
            case rel => exact ⟨k + 1, c + t, st3, by omega, by omega, by omega, by go_num, by go_num, by go_num, HS3.out, H6.out⟩
            case measure => simp [intOf]; omega
        · go_wp2
          go_roundw
          case rel => exact ⟨k + 1, c + t, st3, by omega, by omega, by omega, by go_num, by go_num, by go_num, HS3.out, H6.out⟩
          case measure => simp [intOf]; omega
      · have hsp : (k < len ∧ ¬ (k : Int) < 200) ∨ ¬ k < len := by omega
        rcases hsp with ⟨h1, h2⟩ | h1 <;> clear hlt <;> go_wp2_with fail
        all_goals
          go_loopw [18] (fun i wl => ∃ (j : Nat), j ≤ n ∧ i = .int .i64 j ∧ Twin w2 wl L1 L2 st st) (fun i _ => n - (intOf i).toNat)
          case atStart => exact ⟨0, Nat.zero_le _, rfl, HT.out⟩
          case round =>
            obtain ⟨j, hj, rfl, hT⟩ := hrel
            have HJ := hide hT
            clear hT HT
            by_cases hjl : j < n
            · obtain ⟨r0, r1, r2, r3, hr⟩ := regs4 HJ.out.one.mach j
              have q58 : ∀ w : World, (Op.equalIn 10000 58 (.agg #[.int .i64 r0, .int .i64 r1, .int .i64 r2, .int .i64 r3]) (.agg #[.int .i64 r0, .int .i64 r1, .int .i64 r2, .int .i64 r3])).run Try.prog w = .ok true w := fun w => by
                have := regs_eq w r0 r1 r2 r3 r0 r1 r2 r3
                simpa using this
              have HA1 := hide (mat_c HJ.out.one.mach j)
              have HA2 := hide (mat_c HJ.out.two j)
              have hg1 := mregs_c HJ.out.one.mach j
              have hg2 := fun (w' : World) (h : Twin w2 w' L1 L2 st st) => mregs_c h.two j
              rw [hr] at hg1
              rw [hr] at hg2
              have HG1 := hide hg1
              have HG2 := hide hg2
              clear hg1 hg2 hr
              generalize Sd.placeOf st j = pl at *
              unfold regVal at HG1 HG2
              simp only [List.map_cons, List.map_nil] at HG1 HG2
              go_wp2_with fail
              refine HA1.out.mono ?_
              rintro e w5 ⟨rfl, rfl⟩
              go_wp2_with fail
              refine HA2.out.mono ?_
              rintro e w5 ⟨rfl, rfl⟩
              clear HA1 HA2
              go_wp2_with fail
              refine HG1.out.mono ?_
              rintro e w5 ⟨rfl, hb5⟩
              have H5 := hide (HJ.out.later hb5)
              clear hb5 HG1 HJ
              go_wp2_with fail
              refine (HG2.out _ H5.out).mono ?_
              rintro e w6 ⟨rfl, hb6⟩
              have H6 := hide (H5.out.later hb6)
              clear hb6 HG2 H5
              go_wp2
              go_roundw
              case rel => exact ⟨j + 1, by omega, by go_num, H6.out⟩
              case measure => simp [intOf]; omega
            · have hj2 : n ≤ j := by omega
              have HC1 := hide (mcells_c HJ.out.one.mach)
              have HC2 := hide (fun (w' : World) (h : Twin w2 w' L1 L2 st st) => mcells_c h.two)
              have hnl : (numsOf st.cells).length ≤ 1000000 := by rw [numsOf_length]; have := HJ.out.two.good.len; omega
              have HNL := hide hnl
              clear hjl hnl
              generalize numsOf st.cells = nums at *
              go_wp2_with fail
              refine HC1.out.mono ?_
              rintro e w5 ⟨v5, rfl, hr5, hb5⟩
              have H5 := hide (HJ.out.later hb5)
              have R5 := hide hr5
              clear hb5 hr5 HJ HC1
              go_wp2_with fail
              refine (HC2.out _ H5.out).mono ?_
              rintro e w6 ⟨v6, rfl, hr6, hb6⟩
              have H6 := hide (H5.out.later hb6)
              have hsm := same_c (rdI_of (row_below R5.out hb6)) (rdI_of hr6) HNL.out
              rw [same_self] at hsm
              have HSM := hide hsm
              have HB6 := hide (HB2.out.trans (H6.out.one.below.mono HB2.out.size))
              obtain ⟨ao5, cap5, rfl, _⟩ := ownsRow_shape R5.out
              obtain ⟨ao6, cap6, rfl, _⟩ := ownsRow_shape hr6
              clear hb6 hr6 hsm R5 HC2 H5 H6
              go_wp2_with fail
              refine HSM.out.mono ?_
              rintro e w7 ⟨rfl, n7, rfl⟩
              go_wp2
              go_ret
              exact ⟨rfl, below_drewN HB6.out n7⟩
end Go.Proofs.Ytaoonjamlcdfaaa
