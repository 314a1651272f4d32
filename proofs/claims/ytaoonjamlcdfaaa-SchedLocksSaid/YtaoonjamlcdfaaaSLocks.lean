/-
  The walk of the law SchedLocks.
-/
import Derived.Test.YtaoonjamlcdfaaaLocker
namespace Go.Proofs.Ytaoonjamlcdfaaa
open Go.RowKit

theorem lprogs_succ (ls : Nat → List Int) (n : Nat) : Lk.progs ls (n + 1) = Lk.progs ls n ++ [Lk.prog (ls n)] := by
  unfold Lk.progs
  rw [List.range_succ, List.map_append]
  rfl

set_option maxRecDepth 100000 in
set_option maxHeartbeats 8000000 in
theorem locks_c (v0 : Value) (xs : Nat → Nat → Int) (lens : Nat → Nat) (nl : Nat) (v1 : Value) (z : Nat → Int) (olen : Nat) (w : World) (hp : LstsAt w.heap.size w v0 xs lens nl) (hz : IntsAt w.heap.size w v1 z olen) :
    Calls Try.prog 12 #[v0, v1] w fun e w' => e = .returned (.bool true) ∧ Below w.heap.size w w' := by
  obtain ⟨ao, cap, rfl, _, _, hcell⟩ := hp
  obtain ⟨zo, zcap, rfl, hzc, hzm, hzn, hzell⟩ := hz
  obtain ⟨i0, hi, hz0, hz1, hz2⟩ := info_parts row69_info
  have HC := hide hcell
  have HZ := hide hzell
  have HZN := hide hzn
  clear hcell hzell hzn
  go_enter Try.func12, Try.ntmps12
  go_wp2_with fail
  refine (sworks_c w).mono ?_
  rintro e w1 ⟨rfl, hb⟩
  have HB1 := hide hb
  have hst : Owned (w1.alloc (.cells #[] 69)) w1.heap.size (.slice (some ⟨w1.heap.size, 0, none⟩) 0 0) [] [] :=
    ⟨⟨rfl, .inr ⟨w1.heap.size, 0, #[], rfl, Nat.le_refl _, heap_alloc_new w1 _, Nat.le_refl _, Nat.zero_le _, rfl, rfl⟩⟩, rfl, fun j p pv h => by simp at h, fun u h => by simp at h⟩
  have HST := hide hst
  have HB0 := hide ((Below.refl w1.heap.size w1).alloc (Nat.le_refl _) (.cells #[] 69))
  have sz1 := hb.size
  clear hb hst
  have HLS : ∃ ls : Nat → List Int, ls = fun k => ten (xs k) (lens k) := ⟨_, rfl⟩
  obtain ⟨ls, hls⟩ := HLS
  have HLE := hide hls
  clear hls
  go_wp2_with fail
  go_loopw [5, 6, 7] (fun o s i wr => ∃ (k : Nat) (vals : List Value), k ≤ nl ∧ k ≤ 8 ∧ i = .int .i64 k ∧ s = .int .u64 (umod (sumZ (fun k => (ls k).sum) k)) ∧ Owned wr w1.heap.size o vals (Lk.progs ls k) ∧ Below w1.heap.size w1 wr) (fun _ _ i _ => nl - (intOf i).toNat)
  case atStart => exact ⟨0, [], Nat.zero_le _, by decide, rfl, rfl, HST.out, HB0.out⟩
  case round =>
    obtain ⟨k, vals, hk, hk8, rfl, rfl, hO, hb⟩ := hrel
    have HO := hide hO
    have HB := hide hb
    clear hO hb HST HB0
    by_cases hlt : k < nl ∧ k < 8
    · obtain ⟨hlt1, hlt2⟩ := hlt
      have hk8' : (k : Int) < 8 := by omega
      obtain ⟨g, off, rfl, hg, hcs⟩ := HC.out (by omega)
      obtain ⟨lv, hlv, hia⟩ := hcs k hlt1
      have K := hide (fun (w' : World) (h : Below w1.heap.size w1 w') => ((HB1.out.trans (h.mono sz1)).cell (p := ⟨g, off + k, none⟩) (by show g < _; omega)).trans hlv)
      have KI := hide (fun (w' : World) (h : Below w1.heap.size w1 w') => hia.lift (HB1.out.trans (h.mono sz1)))
      have c1 := K.out _ HB.out
      have hsw := locker_c (w := wr) (KI.out _ HB.out) (by have := HB.out.size; omega)
      have hlk : ten (xs k) (lens k) = ls k := by rw [HLE.out]
      rw [hlk] at hsw
      have HSW := hide hsw
      have hrow := HO.out.row
      have hlen : (Lk.progs ls k).length = k := by simp [Lk.progs]
      rw [hlen] at hrow
      obtain ⟨oao, ocap, rfl, _⟩ := ownsRow_shape hrow
      obtain ⟨lao, lcap, rfl, _⟩ := hia
      have HRW := hide (fun (w3 : World) (h : Below wr.heap.size wr w3) => row_below hrow h)
      have HPU := hide (fun (w3 w4 : World) (pv v' : Value) (hb : Below wr.heap.size wr w3) (h1 : w3.ownsRow wr.heap.size 95 4 pv (Lk.prog (ls k)).length (qcells (Lk.prog (ls k)))) (hone : pv.oneCell' = true) (h2 : w4.ownsRow w1.heap.size 69 1 v' (k + 1) (vals ++ [pv])) (hgr : (w3.alloc (.cells #[pv] 69)).grownBy w4 (Value.slice oao k ocap).ownBlock) => show Owned w4 w1.heap.size v' (vals ++ [pv]) (Lk.progs ls (k + 1)) ∧ Below w1.heap.size w1 w4 from by
        have hsz := HB.out.size
        have := HO.out.push hb (ownsRow_base h1 hsz) hone (by rw [hlen]; exact h2) hgr
        rw [← lprogs_succ] at this
        refine ⟨this, (HB.out.trans (hb.mono hsz)).trans ((((Below.refl w3.heap.size w3).alloc (Nat.le_refl _) (.cells #[pv] 69)).mono (Nat.le_trans hsz hb.size)).trans ⟨hgr.os, hgr.tape, hgr.output, hgr.size, fun q hq => hgr.block q (by have := hb.size; simp; omega) (fun e => by have := (hrow.lt q e.symm).1; omega)⟩)⟩)
      have hszr := HB.out.size
      clear hrow hlen hcs hlv hsw HO
      go_wp2_with (first
        | (go_at_call 51; refine HSW.out.mono ?_; rintro e w3 ⟨pv, rfl, hpr, hb3⟩; obtain ⟨pao, pcap, rfl, _⟩ := ownsRow_shape hpr; have HB3 := hide hb3; have HPR := hide hpr; have sz3 := hb3.size; clear hpr hb3)
        | (at_builtin; refine wpList_append_own _ rfl (.tmp 28) (.tmp 34) 52 rfl w1.heap.size 69 i0 _ 1 24 Try.underlying52 hi hz0 hz1 hz2 rfl (by decide) (.slice oao k ocap) k vals rfl (HRW.out _ (HB3.out.alloc HB3.out.size _)) ⟨w3.heap.size, 0, none⟩ 1 1 [.slice pao (Lk.prog (ls k)).length pcap] rfl rfl (cells_new _ [.slice pao (Lk.prog (ls k)).length pcap] _) (by simp [Value.oneCell']) (by simp only [maxLen]; omega) (by omega) (by simp; omega) ?_; intro v4 w4 hown4 hgr4 _; obtain ⟨hO4, hB4⟩ := HPU.out w3 w4 _ _ HB3.out HPR.out rfl hown4 hgr4; have HO4 := hide hO4; have HB4 := hide hB4; clear hown4 hgr4 hO4 hB4))
      clear HPU HRW HSW HB3 HPR HB c1
      have c4 := K.out _ HB4.out
      have HKI := hide (KI.out _ HB4.out)
      go_hide hQ
      go_loopw [6, 8] (fun s i wi => ∃ (j : Nat), j ≤ lens k ∧ j ≤ 10 ∧ i = .int .i64 j ∧ s = .int .u64 (umod (sumZ (fun k => (ls k).sum) k + sumTo (xs k) j)) ∧ wi = w4) (fun _ i _ => lens k - (intOf i).toNat)
      case atStart => exact ⟨0, Nat.zero_le _, by decide, rfl, by simp [sumTo], rfl⟩
      case round =>
        obtain ⟨j, hj, hj10, rfl, rfl, rfl⟩ := hrel
        by_cases hjl : j < lens k ∧ j < 10
        · obtain ⟨hjl1, hjl2⟩ := hjl
          have hjl2' : (j : Int) < 10 := by omega
          obtain ⟨_, _, e, _, _, _, hcc⟩ := HKI.out
          cases e
          obtain ⟨gl, loff, rfl, _, hcs⟩ := hcc (by omega)
          have c5 := hcs j hjl1
          have hsum : sumTo (xs k) (j + 1) = sumTo (xs k) j + xs k j := rfl
          have HSM := hide hsum
          clear hcs hcc hsum
          generalize xs k j = d at *
          generalize hS : sumZ (fun k => (ls k).sum) k + sumTo (xs k) j = S at *
          have hu : IntKind.u64.wrap (umod S + IntKind.u64.wrap d) = umod (S + d) := by rw [umod_wrap d, umod_wrap, umod_add]
          have HSS := hide hS
          clear hS
          go_wp2
          go_roundw
          case rel => exact ⟨j + 1, by omega, by omega, by go_num, by rw [HSM.out, ← Int.add_assoc, HSS.out], by first | rfl | trivial⟩
          case measure => simp [intOf]; omega
        · have hsp : (j < lens k ∧ j = 10) ∨ j = lens k := by omega
          have HSE := hide (show sumZ (fun k => (ls k).sum) (k + 1) = sumZ (fun k => (ls k).sum) k + sumTo (xs k) j by
            show _ + (ls k).sum = _
            rw [HLE.out]
            dsimp only
            rw [show ten (xs k) (lens k) = (List.range j).map (xs k) by unfold ten; rw [show min (lens k) 10 = j by omega], sum_range])
          clear hjl
          rcases hsp with ⟨h1, h2⟩ | h1
          · subst h2
            go_wp2_with fail
            subst hQ
            go_wp2
            go_roundw
            case rel => exact ⟨k + 1, _, by omega, by omega, by go_num, by rw [HSE.out], HO4.out, HB4.out⟩
            case measure => simp [intOf]; omega
          · subst h1
            go_wp2_with fail
            subst hQ
            go_wp2
            go_roundw
            case rel => exact ⟨k + 1, _, by omega, by omega, by go_num, by rw [HSE.out], HO4.out, HB4.out⟩
            case measure => simp [intOf]; omega
    · have hlen : (Lk.progs ls k).length = k := by simp [Lk.progs]
      have hrow := HO.out.row
      rw [hlen] at hrow
      obtain ⟨oao, ocap, rfl, _⟩ := ownsRow_shape hrow
      have HBE := hide (HB1.out.trans (HB.out.mono sz1))
      clear hrow
      by_cases h0 : k = 0
      · subst h0
        obtain rfl : nl = 0 := by omega
        clear hlt
        go_wp2
        go_ret
        exact ⟨rfl, HBE.out⟩
      · have l1 : ((k : Int) == 0) = false := by rw [beq_eq_false_iff_ne]; omega
        have hsp : (k < nl ∧ ¬ (k : Int) < 8) ∨ ¬ k < nl := by omega
        have hten : ∀ j, (ls j).length ≤ 10 := fun j => by rw [HLE.out]; exact ten_length _ _
        have hmk := sched_make (w := wr) 2 (Nat.le_refl _) HO.out.prgs
        rw [Lk.makes ls k (by omega) hk8 hten, hlen] at hmk
        have HM := hide hmk
        have HEN := hide (fun x n => Lk.ends ls k hk8 hten x n)
        have HMS := hide ((made_ses 2 (Lk.progs ls k)).trans hlen)
        obtain ⟨c, hc⟩ : ∃ c, c = min olen 400 := ⟨_, rfl⟩
        have h400 : (if 400 < (olen : Int) then (400 : Int) else (olen : Int)) = (c : Int) := by split <;> omega
        have hcc : (c : Int) ≤ (zcap : Int) := by omega
        have hpk : ∃ g off, (0 < c → zo = some ⟨g, off, none⟩) ∧ (0 < c → g < w.heap.size) ∧ ∀ i, i < c → w.cell? ⟨g, off + i, none⟩ = some (.int .i64 (z i)) := by
          by_cases hpos : 0 < olen
          · obtain ⟨g, off, e, hg, hcs⟩ := HZ.out hpos
            exact ⟨g, off, fun _ => e, fun _ => hg, fun i hi => hcs i (by omega)⟩
          · exact ⟨0, 0, fun h => by omega, fun h => by omega, fun i hi => by omega⟩
        have HPK := hide hpk
        have hc2 : c ≤ 400 := by omega
        have hk1 : 0 < k := by omega
        have szw : w.heap.size ≤ wr.heap.size := Nat.le_trans sz1 HB.out.size
        clear hlen hmk hten hpk hc HO h0
        generalize Lk.progs ls k = ps at *
        rcases hsp with ⟨h1, h2⟩ | h1 <;> clear hlt <;> go_wp2_with fail
        all_goals
          refine HM.out.mono ?_
          rintro e w3 ⟨L, rfl, hLB, hm, hb⟩
          have H3 := hide (show One wr w3 L (Sd.made 2 ps) from ⟨hm, hb, hLB⟩)
          clear hLB hm hb HM
          generalize Sd.made 2 ps = st0 at *
          obtain ⟨g, off, p1, p2, p3⟩ := HPK.out
          have hrun := H3.out.steps (run_c (g := g) (off := off) (cap := zcap) (len := c) (ao := zo) H3.out.mach z (by omega) p1 (fun hp => ⟨Nat.lt_of_lt_of_le (p2 hp) (Nat.le_trans szw H3.out.size), fun hmay => by have := (H3.out.mach.lt _ hmay).1; have := H3.out.hB; have := p2 hp; omega⟩)
            (fun i hi => ((HBE.out.trans (H3.out.below.mono szw)).cell (p := ⟨g, off + i, none⟩) (p2 (by omega))).trans (p3 i hi)))
          have HRN := hide hrun
          obtain ⟨q1, q2, q3, q4⟩ := HEN.out z c
          have HQ := hide (And.intro q1 (And.intro q2 (And.intro q3 q4)))
          have hsl : (Sd.runN st0 z c).ses.length = k := (runN_ses st0 z c).trans HMS.out
          clear p1 p2 p3 hrun q1 q2 q3 q4 H3 HPK HEN
          generalize Sd.cntN st0 z c = cn at *
          generalize Sd.runN st0 z c = st1 at *
          go_wp2_with fail
          refine HRN.out.mono ?_
          rintro e w4 ⟨rfl, h4⟩
          have hfair := h4.steps (fair_c h4.mach (by rw [hsl]; exact hk1) 40000 (by decide))
          rw [hsl, show (40000 : Int).toNat = 40000 from rfl, HQ.out.1] at hfair
          have HF := hide hfair
          clear h4 hfair HRN
          generalize Sd.cntL st1 (turnsOf k 40000) = cl at *
          generalize Sd.runL st1 (turnsOf k 40000) = st2 at *
          go_wp2_with fail
          refine HF.out.mono ?_
          rintro e w5 ⟨rfl, h5⟩
          have hcells := mcells_c h5.mach
          have HB5 := hide (HBE.out.trans (h5.below.mono szw))
          have s5 := Nat.le_trans szw h5.size
          rw [numsOf_length, HQ.out.2.1] at hcells
          have HCL := hide hcells
          have H5 := hide h5
          clear h5 hcells HF
          go_wp2_with fail
          refine HCL.out.mono ?_
          rintro e w6 ⟨v6, rfl, hr6, hb6⟩
          obtain ⟨g6, c6, rfl, _, _, _, _, hcs6, _⟩ := ownsRow_pos hr6 (by decide)
          have c7 := hcs6 1 _ (nums_at (l := st2.cells) (k := 1) (by rw [HQ.out.2.1]; decide))
          rw [show ((1 : Nat) : Int) = 1 from rfl, HQ.out.2.2.1] at c7
          have hho := mholder_c (H5.out.mach.later hb6) 0
          rw [HQ.out.2.2.2] at hho
          have HHO := hide hho
          clear hho
          have hu : IntKind.u64.wrap (wrap64 (sumZ (fun k => (ls k).sum) k)) = umod (sumZ (fun k => (ls k).sum) k) := by rw [umod_wrap, umod_of_wrap]
          have HB6 := hide (HB5.out.trans (hb6.mono s5))
          clear hr6 hcs6 hb6 HCL HB5 HQ H5
          generalize sumZ (fun k => (ls k).sum) k = S at *
          go_wp2_with (go_at_call 52; refine HHO.out.mono ?_; rintro e w7 ⟨rfl, rfl⟩)
          go_ret
          exact ⟨rfl, HB6.out⟩
end Go.Proofs.Ytaoonjamlcdfaaa
