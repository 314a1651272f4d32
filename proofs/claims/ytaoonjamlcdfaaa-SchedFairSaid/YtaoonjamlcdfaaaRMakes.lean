/-
  The walk of the reference's Make.
-/
import Derived.Test.YtaoonjamlcdfaaaRMake
namespace Go.Proofs.Ytaoonjamlcdfaaa
open Go.RowKit

section
variable {w : World} {st : St}
set_option maxRecDepth 100000 in
set_option maxHeartbeats 8000000 in
theorem rmake_loop (n : Nat) (ao : Option Addr) (cap : Nat) (ps : List (List In)) (hn1 : 1 ≤ n) (hn2 : n ≤ 64) (hl0 : ps.length ≠ 0) (hl : ps.length ≤ 16) {B : Nat} (hB : B ≤ w.heap.size) (hgood : Sd.scan n 0 ps = none → Sd.Good ⟨Cs.new n, ps.map fresh⟩)
    (hp : 0 < ps.length → ∃ g off, ao = some ⟨g, off, none⟩ ∧ g < B ∧ ∀ j p, ps[j]? = some p → ∃ pv, w.cell? ⟨g, off + j, none⟩ = some pv ∧ PrgAt B w pv p) :
    Calls Try.prog 46 #[.int .i64 n, .slice ao ps.length cap] w (RMakePost w (Sd.scan n 0 ps) ps.length ⟨Cs.new n, ps.map fresh⟩) := by
  obtain ⟨g, off, rfl, hg, hps⟩ := hp (by omega)
  obtain ⟨i0, hi, hz0, hz1, hz2⟩ := info_parts rses_info
  obtain ⟨j0, hj, hy0, hy1, hy2⟩ := info_parts instr_info
  have HM := hide (rmake_ok n hn1 hn2 w)
  have HP := hide hps
  obtain ⟨r, hr⟩ : ∃ r, r = Sd.scan n 0 ps := ⟨_, rfl⟩
  rw [← hr]
  rw [← hr] at hgood
  have HGD := hide hgood
  have HR := hide hr
  have ST : ∀ (w2 : World) (b v y z : Nat), RMem w2 w.heap.size b v y z (Cs.new n) → Below w.heap.size w w2 →
      RHalf w (w2.alloc (.cells #[.pointer (some ⟨b, 0, none⟩), .slice none 0 0] 107)) ⟨w.heap.size, w2.heap.size, b, v, y, z, .slice none 0 0, [], []⟩ ⟨Cs.new n, []⟩ := by
    intro w2 b v y z hm hb
    have hal : Below w2.heap.size w2 (w2.alloc (.cells #[.pointer (some ⟨b, 0, none⟩), .slice none 0 0] 107)) := (Below.refl _ _).alloc (Nat.le_refl _) _
    have hs := hb.size
    exact ⟨hs, Blk.new _ _ _, hm.later hal, rsess_nil, hb.trans (hal.mono hs), Nat.le_refl _, by simp; omega⟩
  have HST := hide ST
  have l0 : ((ps.length : Int) < 1) = False := by simp; omega
  have l2 : (ps.length : Int) ≤ 16 := by omega
  clear hp hps hr ST hgood
  go_enter Try.func46, Try.ntmps46
  go_wp2_with (go_at_call 27; refine HM.out.mono ?_; rintro e w2 ⟨b, v, y, z, rfl, hm, hb⟩; have H0 := hide (HST.out _ _ _ _ _ hm hb); clear hm hb)
  go_loopw [10] (fun i wr => ∃ (k : Nat) (L : RLay), k ≤ ps.length ∧ i = .int .i64 k ∧ L.b = w2.heap.size ∧ RHalf w wr L ⟨Cs.new n, (ps.take k).map fresh⟩ ∧ r = Sd.scan n k (ps.drop k)) (fun i _ => ps.length - (intOf i).toNat)
  case atStart => exact ⟨0, _, Nat.zero_le _, rfl, rfl, H0.out, HR.out⟩
  case round =>
    obtain ⟨k, L, hk, rfl, hLb, hH, hrk⟩ := hrel
    have HH := hide hH
    have HLB := hide hLb
    clear hH H0 HR HM HST
    by_cases hlt : k < ps.length
    · obtain ⟨p, hpk⟩ : ∃ t, ps[k]? = some t := ⟨ps[k], List.getElem?_eq_getElem hlt⟩
      obtain ⟨pv, hpv, hpp⟩ := HP.out k p hpk
      rw [Sd.scan_step hpk] at hrk
      have HRK := hide hrk
      have HPK := hide hpk
      clear hrk hpk
      have hbw := HH.out.below
      have cp := (hbw.cell (p := ⟨g, off + k, none⟩) (by show g < _; omega)).trans hpv
      have HPP := hide ((hpp.below (hbw.mono hB)).mono hB)
      obtain ⟨apo, capp, hpe, _, _, hpn, _⟩ := hpp
      have HPE := hide hpe
      have HPN := hide hpn
      subst hpe
      clear hbw hpv hpn
      by_cases hlong : 64 < p.length
      · have hr := HRK.out
        rw [if_pos hlong] at hr
        subst hr
        have HB := hide HH.out.below
        clear HH HRK HP
        go_wp2
        go_ret3
        exact ⟨rfl, HB.out⟩
      · have hr := HRK.out
        rw [if_neg hlong] at hr
        have HR := hide hr
        have hl64 : (p.length : Int) ≤ 64 := by omega
        have szr := HH.out.below.size
        clear hr HRK HP
        go_wp2_with fail
        go_hide hQ
        go_loopw [12] (fun i wi => ∃ j : Nat, j ≤ p.length ∧ i = .int .i64 j ∧ (p.take j).all (fun i => Sd.right i n p.length) = true ∧ Below wr.heap.size wr wi) (fun i _ => p.length - (intOf i).toNat)
        case atStart => exact ⟨0, Nat.zero_le _, rfl, rfl, Below.refl _ _⟩
        case round =>
          obtain ⟨j, hjl, rfl, ha, hb⟩ := hrel
          have HA := hide ha
          have HB := hide hb
          clear ha hb
          have HPI := hide (HPP.out.below (HB.out.mono szr))
          by_cases hjlt : j < p.length
          · obtain ⟨i, hi⟩ : ∃ t, p[j]? = some t := ⟨p[j], List.getElem?_eq_getElem hjlt⟩
            obtain ⟨_, _, epv, _, _, _, hcs⟩ := HPI.out
            cases epv
            obtain ⟨gp, offp, rfl, _, hcs⟩ := hcs (by omega)
            obtain ⟨q0, q1, q2, q3⟩ := qcells_off hi hcs
            have HW := hide (rright_c i n p.length wr)
            have HT := hide (fun (hr : Sd.right i n p.length = true) => rights_take hi HA.out hr)
            have HN := hide (fun (hr : Sd.right i n p.length = false) => rights_not hi hr)
            unfold inAgg at HW
            clear HA hcs hi HPI
            generalize Sd.right i n p.length = rr at *
            go_wp2_with fail
            refine HW.out.mono ?_
            rintro e w5 ⟨rfl, hb5⟩
            have HB5 := hide (HB.out.trans (hb5.mono HB.out.size))
            clear hb5 HW HB
            cases rr with
            | true =>
              go_wp2
              go_roundw
              case rel => exact ⟨j + 1, by omega, by go_num, HT.out (by simp), HB5.out⟩
              case measure => simp [intOf]; omega
            | false =>
              have hrf := HN.out (by simp)
              have hr := HR.out
              rw [hrf] at hr
              simp only [Bool.false_eq_true, if_false] at hr
              subst hr
              have HBE := hide (HH.out.below.trans (HB5.out.mono szr))
              clear HR hrf HN HT
              go_wp2_with fail
              subst hQ
              go_wp2
              go_ret3
              exact ⟨rfl, HBE.out⟩
          · obtain rfl : j = p.length := by omega
            have hrt : Sd.rights p n = true := by
              have := HA.out
              rw [List.take_length] at this
              exact this
            have hr := HR.out
            rw [hrt] at hr
            simp only [if_true] at hr
            have HR2 := hide hr
            have H3 := hide (HH.out.later HB.out)
            clear hr HR hrt HA
            go_wp2_with fail
            subst hQ
            obtain ⟨LB, Lb, Lm, Lv, Ly, Lz, sv, bs, pvs⟩ := L
            have hLb := HLB.out
            dsimp only at hLb H3
            subst hLb
            have hlen : ((ps.take k).map fresh).length = k := by simp; omega
            have hrow := H3.out.ses.row
            dsimp only at hrow
            rw [hlen] at hrow
            obtain ⟨sao, scap, rfl, _⟩ := ownsRow_shape hrow
            have c1 := H3.out.heads.2
            have HRW := hide (fun (w6 : World) (h : Below wr.heap.size wr w6) => ownsRow_only hrow (Only.of_below (S := fun k => wr.heap.size ≤ k) h fun _ h => h) (fun j hj => by have := (hrow.lt j hj).2; omega))
            have HPU := hide (fun (w4 w5 : World) (sv' pv : Value) (hbw : Below wr.heap.size wr w4) (hrow : w4.ownsRow LB 95 4 pv p.length (qcells p)) (hown : w5.ownsRow LB 108 1 sv' (k + 1) (bs.map (fun k => .pointer (some ⟨k, 0, none⟩)) ++ [.pointer (some ⟨w4.heap.size, 0, none⟩)])) (hgr : ((w4.alloc (.cells (sesCells pv (fresh p)) 110)).alloc (.cells #[.pointer (some ⟨w4.heap.size, 0, none⟩)] 108)).grownBy w5 (Value.slice sao k scap).ownBlock) => by
              have := H3.out.push hbw hrow (by rw [hlen]; exact hown) hgr
              exact this)
            have sz3 := H3.out.size
            have lt1 := H3.out.blk.lt
            dsimp only at sz3 lt1 c1 hrow
            have HTK := hide (show (ps.take (k + 1)).map fresh = (ps.take k).map fresh ++ [fresh p] by
              rw [List.take_add_one, HPK.out]; simp)
            have hal : Below wr.heap.size wr (wr.alloc (.cells #[] 95)) := (Below.refl _ _).alloc (Nat.le_refl _) _
            have HSZ := hide (show LB ≤ ((wr.alloc (.cells #[] 95)).drew).heap.size by show LB ≤ (wr.alloc _).heap.size; simp; omega)
            have HE := hide (show ((wr.alloc (.cells #[] 95)).drew).ownsRow LB 95 4 (.slice (some ⟨wr.heap.size, 0, none⟩) 0 0) 0 [] from
              ⟨rfl, .inr ⟨wr.heap.size, 0, #[], rfl, sz3, heap_alloc_new wr _, Nat.le_refl _, Nat.zero_le _, rfl, rfl⟩⟩)
            have HBW := hide (fun (w1 : World) (hgr : ((wr.alloc (.cells #[] 95)).drew).grownBy w1 (Value.slice (some ⟨wr.heap.size, 0, none⟩) 0 0).ownBlock) => show Below wr.heap.size wr w1 from (below_drewN hal 1).trans ⟨hgr.os, hgr.tape, hgr.output, hgr.size, fun q hq => hgr.block q (by show q < (wr.alloc _).heap.size; simp; omega) (by simp [Value.ownBlock]; omega)⟩)
            have HCE := hide (show ∀ ad, apo = some ad → ∀ j u, (qcells p)[j]? = some u → ((wr.alloc (.cells #[] 95)).drew).cell? (ad.add j) = some u from by
              intro ad had j u hju
              have hpos : 0 < p.length := by
                have := (List.getElem?_eq_some_iff.1 hju).1
                rw [qcells_length] at this
                omega
              obtain ⟨_, _, epv, _, _, _, hcs⟩ := HPI.out
              cases epv
              obtain ⟨ga, oa, e, _, hc⟩ := hcs hpos
              rw [had] at e
              cases e
              rw [Addr.add_lit]
              have := hc j u hju
              exact (World.cell?_alloc_lt wr (.cells #[] 95) ⟨ga, oa + j, none⟩ (World.block_lt_of_cell? wr ⟨ga, oa + j, none⟩ this)).trans this)
            have HNO := hide (show apo = none → p.length = 0 ∧ capp = 0 from fun e => by
              obtain ⟨_, _, epv, hc1, _, hn, _⟩ := HPI.out
              cases epv
              have := hn e
              omega)
            have HQL := hide (show (qcells p).length = p.length * 4 from qcells_length p)
            have k0 := (World.cell?_alloc_lt wr (.cells #[] 95) ⟨w2.heap.size, 1, none⟩ (World.block_lt_of_cell? wr ⟨w2.heap.size, 1, none⟩ c1)).trans c1
            clear hrow hlen H3 hal HPI HPP HPE HPN HPK HH HB HLB
            go_wp2_with fail
            go_region_law (first
              | (refine step_append_any rfl (.tmp 68) (.tmp 69) 69 rfl LB 95 j0 _ 4 32 Try.underlying69 hj hy0 hy1 hy2 rfl (by decide) (.slice (some ⟨wr.heap.size, 0, none⟩) 0 0) 0 [] (by simp [Act.eval]) HE.out apo p.length capp (qcells p) (by simp [Act.eval]) HQL.out HNO.out HCE.out (qcells_one _) (by simp only [maxLen]; omega) (by omega) HSZ.out ?_; intro v4 w4 hown4 hgr4; rw [Nat.zero_add, List.nil_append] at hown4; obtain ⟨ao4, cap4, rfl, _⟩ := ownsRow_shape hown4; have hbw := HBW.out _ hgr4; have k1 := (hbw.cell (p := ⟨w2.heap.size, 1, none⟩) lt1).trans c1; have k2 := (World.cell?_alloc_lt w4 (.cells #[.slice ao4 p.length cap4, .int .i64 0, .int .i64 0, .int .i64 0, .int .i64 0, .int .i64 0] 110) ⟨w2.heap.size, 1, none⟩ (World.block_lt_of_cell? w4 ⟨w2.heap.size, 1, none⟩ k1)).trans k1; have k3 := (World.cell?_alloc_lt _ (.cells #[.pointer (some ⟨w4.heap.size, 0, none⟩)] 108) ⟨w2.heap.size, 1, none⟩ (World.block_lt_of_cell? _ ⟨w2.heap.size, 1, none⟩ k2)).trans k2)
              | (refine step_append_own rfl (.tmp 67) (.tmp 73) 105 rfl LB 108 i0 _ 1 8 Try.underlying105 hi hz0 hz1 hz2 rfl (by decide) (.slice sao k scap) k (bs.map fun k => .pointer (some ⟨k, 0, none⟩)) rfl (HRW.out _ ((hbw.alloc hbw.size _).alloc (Nat.le_trans hbw.size (by simp)) _)) ⟨w4.heap.size + 1, 0, none⟩ 1 1 [.pointer (some ⟨w4.heap.size, 0, none⟩)] rfl rfl (cells_new' _ (w4.heap.size + 1) (by simp) [.pointer (some ⟨w4.heap.size, 0, none⟩)] _) (by simp [Value.oneCell']) (by simp only [maxLen]; omega) (by omega) (by have := hbw.size; simp; omega) ?_; intro v5 w5 hown hgr; obtain ⟨⟨q1, q2⟩, hpu⟩ := HPU.out _ _ _ _ hbw hown4 hown hgr; obtain ⟨ao5, cap5, rfl, _⟩ := ownsRow_shape hown; have HPU2 := hide hpu; clear hpu hown hgr hown4 hgr4 k1 k2 k3))
            all_goals go_wp2_with fail
            all_goals (try go_roundw)
            all_goals first
              | exact ⟨k + 1, ⟨LB, w2.heap.size, Lm, Lv, Ly, Lz, _, _, _⟩, by omega, by go_num, rfl, by rw [HTK.out]; exact HPU2.out, HR2.out⟩
              | (simp [intOf]; omega)
    · obtain rfl : k = ps.length := by omega
      obtain ⟨LB, Lb, Lm, Lv, Ly, Lz, sv, bs, pvs⟩ := L
      have hLb := HLB.out
      dsimp only at hLb HH
      subst hLb
      rw [List.take_length] at HH
      rw [List.drop_length] at hrk
      have hr : r = none := hrk
      subst hr
      have HM := hide (HH.out.mach (HGD.out rfl))
      have HB := hide HH.out.below
      have HSZ := hide HH.out.hB
      clear HGD hrk HP HLB HH
      go_wp2
      go_ret3
      exact ⟨⟨LB, w2.heap.size, Lm, Lv, Ly, Lz, sv, bs, pvs⟩, rfl, HSZ.out, HM.out, HB.out⟩

/-- The reference's Make: a machine of the programs, or why there is none. -/
theorem ref_make (cells : Int) {B : Nat} {v : Value} {ps : List (List In)} (hB : B ≤ w.heap.size) (hp : PrgsAt B w v ps) :
    Calls Try.prog 46 #[.int .i64 cells, v] w (RMakePost w (Sd.makeE cells ps) ps.length (Sd.made cells ps)) := by
  obtain ⟨ao, cap, rfl, _, _, _, hc⟩ := hp
  by_cases h1 : cells < 1 ∨ 64 < cells
  · have e : Sd.makeE cells ps = some (0, 2) := by unfold Sd.makeE; rw [if_pos (by omega)]
    rw [e]
    exact rmake_cells cells ao ps.length cap h1
  · by_cases h2 : ps.length = 0 ∨ 16 < ps.length
    · have e : Sd.makeE cells ps = some (0, 2) := by unfold Sd.makeE; rw [if_pos (by omega)]
      rw [e]
      exact rmake_lens cells ao ps.length cap (by omega) h2
    · have e : Sd.makeE cells ps = Sd.scan cells 0 ps := by unfold Sd.makeE; rw [if_neg (by omega)]
      have hg := fun h => Sd.made_good (cells := cells) (ps := ps) h
      rw [e] at hg ⊢
      unfold Sd.made at hg ⊢
      obtain ⟨n, rfl⟩ : ∃ n : Nat, cells = n := ⟨cells.toNat, by omega⟩
      exact rmake_loop n ao cap ps (by omega) (by omega) (by omega) (by omega) hB hg hc
end
end Go.Proofs.Ytaoonjamlcdfaaa
