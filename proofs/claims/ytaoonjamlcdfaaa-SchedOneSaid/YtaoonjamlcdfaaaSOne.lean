/-
  The walk of the law SchedOne.
-/
import Derived.Deep.RegionHeld3
import Derived.Test.YtaoonjamlcdfaaaOneLaw
import Derived.Test.YtaoonjamlcdfaaaArgsP
namespace Go.Proofs.Ytaoonjamlcdfaaa
open Go.RowKit

/-- The places and the registers of the first sessions. -/
def placesOf (st : St) (k : Nat) : List Int := (List.range k).map fun j => Sd.placeOf st (j : Nat)
def rgsOf (st : St) (k : Nat) : List (List Int) := (List.range k).map fun j => Sd.regsOf st (j : Nat)
theorem places_succ (st : St) (k : Nat) : placesOf st (k + 1) = placesOf st k ++ [Sd.placeOf st (k : Nat)] := by
  unfold placesOf
  rw [List.range_succ, List.map_append]
  rfl
theorem rgs_succ (st : St) (k : Nat) : rgsOf st (k + 1) = rgsOf st k ++ [Sd.regsOf st (k : Nat)] := by
  unfold rgsOf
  rw [List.range_succ, List.map_append]
  rfl
theorem places_length (st : St) (k : Nat) : (placesOf st k).length = k := by simp [placesOf]
theorem rgs_length (st : St) (k : Nat) : (rgsOf st k).length = k := by simp [rgsOf]
theorem places_at (st : St) {k j : Nat} (h : j < k) : (placesOf st k)[j]? = some (Sd.placeOf st (j : Nat)) := by simp [placesOf, h]
theorem rgs_at (st : St) {k j : Nat} (h : j < k) : (rgsOf st k)[j]? = some (Sd.regsOf st (j : Nat)) := by simp [rgsOf, h]

theorem step_ses1 (st : St) (k : Int) : (Sd.stepS st k).ses.length = st.ses.length := by
  unfold Sd.stepS
  split
  · rfl
  · split
    · rfl
    · simp

set_option maxRecDepth 100000 in
set_option maxHeartbeats 16000000 in
theorem one_c (cells : Int) (v1 : Value) (ps0 : List (List In)) (v2 : Value) (x : Nat → Int) (len : Nat) (w : World) (hp : PrgsAt w.heap.size w v1 ps0) (ha : IntsAt w.heap.size w v2 x len) :
    Calls Try.prog 9 #[.int .i64 cells, v1, v2] w fun e w' => e = .returned (.bool true) ∧ Below w.heap.size w w' := by
  obtain ⟨ao, cap, rfl, _, _, _, hcell⟩ := ha
  obtain ⟨i0, hi, hz0, hz1, hz2⟩ := info_parts int_info
  obtain ⟨j0, hj, hy0, hy1, hy2⟩ := info_parts reg_info
  have HC := hide hcell
  have HP := hide hp
  clear hcell hp
  go_enter Try.func9, Try.ntmps9
  go_wp2_with fail
  refine (sworks_c w).mono ?_
  rintro e w1 ⟨rfl, hb⟩
  have HB1 := hide hb
  have HP1 := hide (HP.out.below hb)
  clear hb HP
  go_wp2_with fail
  refine (few_c HP1.out HB1.out.size).mono ?_
  rintro e w2 ⟨v, rfl, hpr, hb⟩
  have HB2 := hide (HB1.out.trans (hb.mono HB1.out.size))
  have HP2 := hide hpr
  generalize fewOf ps0 = ps at *
  clear hb hpr HB1 HP1
  go_wp2_with fail
  have hmk := sched_make cells (Nat.le_refl _) HP2.out
  cases hE : Sd.makeE cells ps with
  | some r =>
    obtain ⟨j, r⟩ := r
    have hr := makeE_code hE
    rw [hE] at hmk
    have HM := hide hmk
    have hr0 : (r != 0) = true := by rw [bne_iff_ne]; omega
    clear hmk hE hr
    refine HM.out.mono ?_
    rintro e w3 ⟨rfl, hb⟩
    have HB3 := hide (HB2.out.trans (hb.mono HB2.out.size))
    clear hb HM HP2
    go_wp2
    go_ret
    exact ⟨rfl, HB3.out⟩
  | none =>
    rw [hE] at hmk
    have HM := hide hmk
    clear hmk
    refine HM.out.mono ?_
    rintro e w3 ⟨L, rfl, hLB, hm, hb⟩
    have H3 := hide (show One w2 w3 L (Sd.made cells ps) from ⟨hm, hb, hLB⟩)
    have HSL := hide (show (Sd.made cells ps).ses.length = ps.length by simp [Sd.made])
    clear hb HM hE HP2 hm hLB
    generalize Sd.made cells ps = st0 at *
    have hn16 : ps.length ≤ 16 := by
      have := H3.out.mach.good.few
      have := HSL.out
      omega
    generalize ps.length = n at *
    go_wp2_with fail
    go_loopw [10] (fun i wr => ∃ (k : Nat) (st : St), k ≤ len ∧ k ≤ 100 ∧ i = .int .i64 k ∧ st.ses.length = n ∧ One w2 wr L st) (fun i _ => len - (intOf i).toNat)
    case atStart => exact ⟨0, _, Nat.zero_le _, by decide, rfl, HSL.out, H3.out⟩
    case round =>
      obtain ⟨k, st, hk, hk2, rfl, hsl, hT⟩ := hrel
      have HT := hide hT
      have HSL2 := hide hsl
      clear hT H3 hsl HSL
      by_cases hlt : k < len ∧ k < 100
      · obtain ⟨hk1, hk3⟩ := hlt
        have hk3' : (k : Int) < 100 := by omega
        obtain ⟨g, off, rfl, hg, hcs⟩ := HC.out (by omega)
        have K := hide (fun (w' : World) (hb : Below w2.heap.size w2 w') => ((HB2.out.trans (hb.mono HB2.out.size)).cell (p := ⟨g, off + k, none⟩) hg).trans (hcs k hk1))
        clear hcs
        generalize x k = p at *
        have HCW := hide (mcells_c HT.out.mach)
        have HALL := hide (fun q (hq : L.all q) => (HT.out.mach.all_lt hq).2)
        have HWN := hide HT.out.size
        obtain ⟨N, hN⟩ : ∃ N, N = wr.heap.size := ⟨_, rfl⟩
        rw [← hN] at HCW HALL HWN
        go_wp2_with fail
        refine HCW.out.mono ?_
        rintro e w5 ⟨vw, rfl, hrw, hb5⟩
        have hk5 : Kept w2 ((w5.alloc (.cells #[] 3)).alloc (.cells #[] 58)) N w5.heap.size L st vw (.slice (some ⟨w5.heap.size, 0, none⟩) 0 0) (.slice (some ⟨w5.heap.size + 1, 0, none⟩) 0 0) (numsOf st.cells) (placesOf st 0) (rgsOf st 0) := by
          have hbb : Below w5.heap.size w5 ((w5.alloc (.cells #[] 3)).alloc (.cells #[] 58)) := ((Below.refl _ _).alloc (Nat.le_refl _) _).alloc (by simp) _
          have hs5 : N ≤ w5.heap.size := by have := hb5.size; omega
          refine ⟨(HT.out.later (by rw [← hN]; exact hb5)).later hbb, row_below hrw hbb, fun q hq => (hrw.lt q hq).2, ⟨rfl, .inr ⟨w5.heap.size, 0, #[], rfl, Nat.le_refl _, ?_, Nat.le_refl _, Nat.zero_le _, rfl, rfl⟩⟩, ⟨rfl, .inr ⟨w5.heap.size + 1, 0, #[], rfl, by omega, ?_, Nat.le_refl _, Nat.zero_le _, rfl, rfl⟩⟩, HALL.out, hs5, by simp; omega, HWN.out⟩
          · exact (Blk.new w5 3 #[]).alloc _
          · have := Blk.new (w5.alloc (.cells #[] 3)) 58 #[]
            rw [World.size_alloc] at this
            exact this
        have HK5 := hide hk5
        clear hk5 hrw hb5 HCW HALL HT
        obtain ⟨N1, hN1⟩ : ∃ N1, N1 = w5.heap.size := ⟨_, rfl⟩
        rw [← hN1] at HK5
        have HNL := hide (show (numsOf st.cells).length ≤ 64 by rw [numsOf_length]; exact HK5.out.one.mach.good.len)
        go_wp2_with fail
        rw [← hN1]
        clear hN1 hN
        generalize hnums : numsOf st.cells = nums at *
        have HNUM := hide hnums
        clear hnums
        go_hide hQ
        go_loopw [12, 13, 14] (fun a r i wl => ∃ j : Nat, j ≤ n ∧ i = .int .i64 j ∧ Kept w2 wl N N1 L st vw a r nums (placesOf st j) (rgsOf st j)) (fun _ _ i _ => n - (intOf i).toNat)
        case atStart => exact ⟨0, Nat.zero_le _, rfl, HK5.out⟩
        case round =>
          obtain ⟨j, hjn, rfl, hK⟩ := hrel
          have HK := hide hK
          clear hK HK5
          by_cases hjl : j < n
          · obtain ⟨r0, r1, r2, r3, hr⟩ := regs4 HK.out.one.mach j
            have hra := HK.out.at_
            have hrr := HK.out.reg
            rw [places_length] at hra
            rw [rgs_length] at hrr
            obtain ⟨aao, acap, rfl, _⟩ := ownsRow_shape hra
            obtain ⟨rao, rcap, rfl, _⟩ := ownsRow_shape hrr
            have HA := hide (mat_c HK.out.one.mach j)
            have hG := fun (w' : World) (h : One w2 w' L st) => mregs_c h.mach j
            rw [hr] at hG
            unfold regVal at hG
            simp only [List.map_cons, List.map_nil] at hG
            have HG := hide hG
            have HRA := hide hra
            have szk := HK.out.size
            have HPA := hide (fun (w7 : World) (va' : Value) (hown : w7.ownsRow N1 3 1 va' (j + 1) (intsOf (placesOf st j) ++ [.int .i64 (Sd.placeOf st j)])) (hg : (wr.alloc (.cells #[.int .i64 (Sd.placeOf st j)] 3)).grownBy w7 (Value.slice aao j acap).ownBlock) => show Kept w2 w7 N N1 L st vw va' (.slice rao j rcap) nums (placesOf st (j + 1)) (rgsOf st j) from by
              rw [places_succ]
              exact HK.out.pushAt _ (by rw [places_length]; exact hown) hg)
            have HPR := hide (fun (w8 w9 : World) (va' vr' : Value) (h : Kept w2 w8 N N1 L st vw va' (.slice rao j rcap) nums (placesOf st (j + 1)) (rgsOf st j)) (hown : w9.ownsRow N1 58 4 vr' (j + 1) (regCells (rgsOf st j) ++ [.int .i64 r0, .int .i64 r1, .int .i64 r2, .int .i64 r3])) (hg : (w8.alloc (.cells #[.int .i64 r0, .int .i64 r1, .int .i64 r2, .int .i64 r3] 58)).grownBy w9 (Value.slice rao j rcap).ownBlock) => show Kept w2 w9 N N1 L st vw va' vr' nums (placesOf st (j + 1)) (rgsOf st (j + 1)) from by
              rw [rgs_succ, hr]
              exact h.pushReg [r0, r1, r2, r3] (by rw [rgs_length]; exact hown) hg)
            clear hG hra hrr hr HK
            generalize Sd.placeOf st j = pl at *
            go_wp2_with (first
              | (go_at_call 42; refine HA.out.mono ?_; rintro e w' ⟨rfl, rfl⟩)
              | (at_builtin; refine wpList_append_own _ rfl (.tmp 57) (.tmp 61) 22 rfl N1 3 i0 _ 1 8 Try.underlying22 hi hz0 hz1 hz2 rfl (by decide) (.slice aao j acap) j (intsOf (placesOf st j)) rfl (HRA.out.alloc _) ⟨wr.heap.size, 0, none⟩ 1 1 [.int .i64 pl] rfl rfl (cells_new _ [.int .i64 pl] _) (by simp [Value.oneCell']) (by simp only [maxLen]; omega) (by omega) (by simp; omega) ?_; intro va7 w7 hown7 hgr7 _; have hk7 := HPA.out _ _ hown7 hgr7; have HK7 := hide hk7; obtain ⟨ao7, cap7, rfl, _⟩ := ownsRow_shape hown7; clear hk7 hown7 hgr7)
              | (go_at_call 43; refine (HG.out _ HK7.out.one).mono ?_; rintro e w8 ⟨rfl, hb8⟩; have HK8 := hide (HK7.out.later hb8); have szk8 := HK8.out.size; clear hb8)
              | (at_builtin; refine wpList_append_own _ rfl (.tmp 63) (.tmp 67) 61 rfl N1 58 j0 _ 4 32 Try.underlying61 hj hy0 hy1 hy2 rfl (by decide) (.slice rao j rcap) j (regCells (rgsOf st j)) rfl ((rgs_length st j ▸ HK8.out.reg).alloc _) ⟨w8.heap.size, 0, none⟩ 1 1 [.int .i64 r0, .int .i64 r1, .int .i64 r2, .int .i64 r3] rfl rfl (cells_new _ [.int .i64 r0, .int .i64 r1, .int .i64 r2, .int .i64 r3] _) (by simp [Value.oneCell']) (by simp only [maxLen]; omega) (by omega) (by simp; omega) ?_; intro vr9 w9 hown9 hgr9 _; have hk9 := HPR.out _ _ _ _ HK8.out hown9 hgr9; have HK9 := hide hk9; clear hk9 hown9 hgr9))
            go_roundw
            case rel => exact ⟨j + 1, by omega, by go_num, HK9.out⟩
            case measure => simp [intOf]; omega
          · have hjn2 : j = n := by omega
            subst hjn2
            have hra := HK.out.at_
            have hrr := HK.out.reg
            rw [places_length] at hra
            rw [rgs_length] at hrr
            obtain ⟨aao, acap, rfl, _⟩ := ownsRow_shape hra
            obtain ⟨rao, rcap, rfl, _⟩ := ownsRow_shape hrr
            clear hra hrr
            have HR4 := hide (show ∀ r ∈ rgsOf st j, r.length = 4 from fun r hr => by
              simp only [rgsOf, List.mem_map] at hr
              obtain ⟨q, _, rfl⟩ := hr
              obtain ⟨a, b, c, d, e⟩ := regs4 HK.out.one.mach (q : Nat)
              rw [e]
              rfl)
            have c1 := K.out _ HK.out.one.below
            have hst := HK.out.step (step_c HK.out.one.mach p)
            have hpo := fun q hq => step_other st p q hq
            obtain ⟨hnl, i1, hnd⟩ := step_nums st p
            have hss := step_ses1 st p
            generalize Sd.stepS st p = st2 at *
            generalize Sd.stepB st p = bb at *
            have HST := hide hst
            have HPO := hide hpo
            rw [HNUM.out] at hnl hnd
            have HD := hide (fun c => dif_one hnd c)
            have HN2 := hide hnl
            have HSS := hide hss
            clear hst hpo hnl hnd hss hjl HK
            go_wp2_with fail
            subst hQ
            go_wp2_with fail
            refine HST.out.mono ?_
            rintro e w6 ⟨rfl, h6⟩
            have H6 := hide h6
            have HC2 := hide (mcells_c h6.one.mach)
            clear h6 HST c1
            go_wp2_with fail
            refine HC2.out.mono ?_
            rintro e w7 ⟨vn, rfl, hrn, hb7⟩
            have H7 := hide (H6.out.later hb7)
            generalize numsOf st2.cells = nums2 at *
            have hrn2 := hrn
            rw [HN2.out] at hrn2
            obtain ⟨nao, ncap, rfl, _⟩ := ownsRow_shape hrn2
            obtain ⟨wao, wcap, rfl, _⟩ := ownsRow_shape H7.out.was
            have HRN := hide hrn2
            clear hrn hrn2 hb7 HC2 H6
            generalize w6.heap.size = N6 at *
            have hM := HNL.out
            have HNE := hide HN2.out
            generalize hMM : nums.length = M at *
            have HMM := hide hMM
            clear hMM HN2
            go_wp2_with fail
            go_hide hQ
            go_loopw [16, 17] (fun ch c wl => ∃ i : Nat, i ≤ M ∧ c = .int .i64 i ∧ ch = .int .i64 (dif nums2 nums i : Int) ∧ Kept w2 wl N N1 L st2 (.slice wao M wcap) (.slice aao j acap) (.slice rao j rcap) nums (placesOf st j) (rgsOf st j) ∧ wl.ownsRow N6 3 1 (.slice nao M ncap) M (intsOf nums2)) (fun _ c _ => M - (intOf c).toNat)
            case atStart => exact ⟨0, Nat.zero_le _, rfl, rfl, H7.out, HRN.out⟩
            case round =>
              obtain ⟨i, hiM, rfl, rfl, hK2, hR2⟩ := hrel
              have HK2 := hide hK2
              have HR2 := hide hR2
              clear hK2 hR2 H7 HRN
              by_cases hil : i < M
              · obtain ⟨yv, hyv⟩ : ∃ t, nums2[i]? = some t := ⟨nums2[i]'(by rw [HNE.out]; exact hil), List.getElem?_eq_getElem _⟩
                obtain ⟨zv, hzv⟩ : ∃ t, nums[i]? = some t := ⟨nums[i]'(by rw [HMM.out]; exact hil), List.getElem?_eq_getElem _⟩
                obtain ⟨gn, cn, en, _, _, _, _, hcn, _⟩ := ownsRow_pos HR2.out (by omega)
                cases en
                have hwas := HK2.out.was
                rw [HMM.out] at hwas
                obtain ⟨gw, cw, ew, _, _, _, _, hcw, _⟩ := ownsRow_pos hwas (by omega)
                cases ew
                have m1 := hcn i _ (intsOf_at _ _ _ hyv)
                have m2 := hcw i _ (intsOf_at _ _ _ hzv)
                have hdf : dif nums2 nums (i + 1) = dif nums2 nums i + if yv = zv then 0 else 1 := by
                  show dif nums2 nums i + (if nums2[i]? = nums[i]? then 0 else 1) = _
                  rw [hyv, hzv]
                  simp
                have hd1 := HD.out i
                have HDF := hide hdf
                clear hcn hcw hyv hzv hwas hdf
                generalize dif nums2 nums i = di at *
                by_cases he : yv = zv
                · have hf : (yv != zv) = false := by simpa using he
                  have hdf := HDF.out
                  rw [if_pos he] at hdf
                  have HDG := hide hdf
                  clear he HDF hdf
                  go_wp2_with fail
                  go_quiet (fail)
                  go_wp2
                  go_roundw
                  case rel => exact ⟨i + 1, by omega, by go_num, by rw [HDG.out]; rfl, HK2.out.drewN _, HR2.out⟩
                  case measure => simp [intOf]; omega
                · have hf : (yv != zv) = true := by simpa using he
                  have hdf := HDF.out
                  rw [if_neg he] at hdf
                  have HDG := hide hdf
                  clear he HDF hdf
                  go_wp2_with fail
                  go_quiet (fail)
                  go_wp2
                  go_roundw
                  case rel => exact ⟨i + 1, by omega, by go_num, by rw [HDG.out]; go_num, HK2.out.drewN _, HR2.out⟩
                  case measure => simp [intOf]; omega
              · obtain rfl : M = i := by omega
                have hd1 := HD.out M
                clear HR2
                generalize dif nums2 nums M = di at *
                have hdi : (di : Int) ≤ 1 := by omega
                go_wp2_with fail
                subst hQ
                go_wp2_with fail
                go_hide hQ
                go_loopw [18] (fun c wl => ∃ q : Nat, q ≤ j ∧ c = .int .i64 q ∧ Kept w2 wl N N1 L st2 (.slice wao M wcap) (.slice aao j acap) (.slice rao j rcap) nums (placesOf st j) (rgsOf st j)) (fun c _ => j - (intOf c).toNat)
                case atStart => exact ⟨0, Nat.zero_le _, rfl, HK2.out⟩
                case round =>
                  obtain ⟨q, hqj, rfl, hK3⟩ := hrel
                  have HK3 := hide hK3
                  clear hK3 HK2
                  have c1 := K.out _ HK3.out.one.below
                  by_cases hql : q < j
                  · by_cases hqp : (q : Int) = p
                    · have hf : ((q : Int) != p) = false := by simpa using hqp
                      clear hqp
                      go_wp2_with fail
                      go_quiet (fail)
                      go_wp2
                      go_roundw
                      case rel => exact ⟨q + 1, by omega, by go_num, HK3.out.drewN _⟩
                      case measure => simp [intOf]; omega
                    · have hf : ((q : Int) != p) = true := by simpa using hqp
                      obtain ⟨po1, po2⟩ := HPO.out (q : Int) hqp
                      obtain ⟨r0, r1, r2, r3, hr⟩ := regs4 HK3.out.one.mach q
                      rw [po2] at hr
                      obtain ⟨ga, ca, ea, _, _, _, _, hca, _⟩ := ownsRow_pos HK3.out.at_ (by rw [places_length]; omega)
                      obtain ⟨gr, cr, er, _, _, _, _, hcr, _⟩ := ownsRow_pos HK3.out.reg (by rw [rgs_length]; omega)
                      rw [places_length] at ea
                      rw [rgs_length] at er
                      cases ea
                      cases er
                      have m1 := hca q _ (intsOf_at _ _ _ (places_at st hql))
                      obtain ⟨t0, t1, t2, t3⟩ := regCells_at (rgsOf st j) HR4.out q r0 r1 r2 r3 (by rw [rgs_at st hql, hr])
                      have n0 := hcr _ _ t0
                      have n1 := hcr _ _ t1
                      have n2 := hcr _ _ t2
                      have n3 := hcr _ _ t3
                      have q58 : ∀ w : World, (Op.equalIn 10000 58 (.agg #[.int .i64 r0, .int .i64 r1, .int .i64 r2, .int .i64 r3]) (.agg #[.int .i64 r0, .int .i64 r1, .int .i64 r2, .int .i64 r3])).run Try.prog w = .ok true w := fun w => by
                        have := regs_eq w r0 r1 r2 r3 r0 r1 r2 r3
                        simpa using this
                      have hA := fun (w' : World) (h : One w2 w' L st2) => mat_c h.mach q
                      have hG := fun (w' : World) (h : One w2 w' L st2) => mregs_c h.mach q
                      rw [po1] at hA
                      rw [po2, hr] at hG
                      unfold regVal at hG
                      simp only [List.map_cons, List.map_nil] at hG
                      have HA := hide hA
                      have HG := hide hG
                      have lt1 := World.block_lt_of_cell? wr ⟨g, off + k, none⟩ c1
                      have lt2 := World.block_lt_of_cell? wr ⟨ga, q, none⟩ m1
                      have lt3 := World.block_lt_of_cell? wr ⟨gr, q * 4, none⟩ n0
                      simp only at lt1 lt2 lt3
                      clear hA hG hca hcr t0 t1 t2 t3 hr po1 po2 hqp
                      generalize Sd.placeOf st (q : Nat) = pl at *
                      generalize hpls : placesOf st j = pls at *
                      generalize hrgl : rgsOf st j = rgl at *
                      have hpll : pls.length = j := by rw [← hpls]; exact places_length st j
                      have hrll : rgl.length = j := by rw [← hrgl]; exact rgs_length st j
                      have HPL := hide hpls
                      have HRL := hide hrgl
                      clear hpls hrgl
                      go_wp2_with fail
                      go_region_held3 (fun wt => wt.cell? ⟨g, off + k, none⟩ = some (.int .i64 p) ∧ wt.cell? ⟨ga, q, none⟩ = some (.int .i64 pl) ∧ wt.cell? ⟨gr, q * 4, none⟩ = some (.int .i64 r0) ∧ wt.cell? ⟨gr, q * 4 + 1, none⟩ = some (.int .i64 r1) ∧ wt.cell? ⟨gr, q * 4 + 2, none⟩ = some (.int .i64 r2) ∧ wt.cell? ⟨gr, q * 4 + 3, none⟩ = some (.int .i64 r3))
                        (first | exact KS.out | go_keep)
                        ((first
                          | (go_at_call 42; refine (HA.out _ (HK3.out.one.drewN 1)).mono ?_; rintro e w' ⟨rfl, rfl⟩)
                          | (go_at_call 43; refine (HG.out _ (HK3.out.one.drewN 1)).mono ?_; rintro e w9 ⟨rfl, hb0⟩; have HK9 := hide ((HK3.out.drewN 1).later hb0); have hb9 := (show Below wr.heap.size wr w9 from ⟨hb0.os, hb0.tape, hb0.output, hb0.size, hb0.block⟩); have KS := hide (And.intro ((hb9.cell (p := ⟨g, off + k, none⟩) lt1).trans c1) (And.intro ((hb9.cell (p := ⟨ga, q, none⟩) lt2).trans m1) (And.intro ((hb9.cell (p := ⟨gr, q * 4, none⟩) lt3).trans n0) (And.intro ((hb9.cell (p := ⟨gr, q * 4 + 1, none⟩) lt3).trans n1) (And.intro ((hb9.cell (p := ⟨gr, q * 4 + 2, none⟩) lt3).trans n2) ((hb9.cell (p := ⟨gr, q * 4 + 3, none⟩) lt3).trans n3)))))))))
                      go_wp2
                      go_roundw
                      case rel => exact ⟨q + 1, by omega, by go_num, HK9.out⟩
                      case measure => simp [intOf]; omega
                  · have hqj2 : q = j := by omega
                    have HONE := hide HK3.out.one
                    clear hql c1 HK3
                    go_wp2_with fail
                    subst hQ
                    go_wp2
                    go_roundw
                    case rel => exact ⟨k + 1, st2, by omega, by omega, by go_num, HSS.out.trans HSL2.out, HONE.out⟩
                    case measure => simp [intOf]; omega
      · have hsp : (k < len ∧ ¬ (k : Int) < 100) ∨ ¬ k < len := by omega
        have HBE := hide (HB2.out.trans (HT.out.below.mono HB2.out.size))
        clear HT
        rcases hsp with ⟨h1, h2⟩ | h1 <;> clear hlt <;> go_wp2_with fail
        all_goals
          go_ret
          exact ⟨rfl, HBE.out⟩
end Go.Proofs.Ytaoonjamlcdfaaa
