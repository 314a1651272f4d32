/-
  The walk of the law LedgerPlays.
-/
import Derived.Deep.RegionHeld3
import Derived.Test.YtmlkoehkodbomaaActs
import Derived.Test.YtmlkoehkodbomaaRefBack
import Derived.Test.YtmlkoehkodbomaaRefIs
namespace Go.Proofs.Ytmlkoehkodbomaa
open Go.RowKit

/-- The two ledgers share no block. -/
theorem apart {w : World} {B b c : Nat} {sv vl vk : Value} {f f' : Int} {l l' : List Sp} (h : Led w B b sv f l) (r : Rf w B c vl vk f' l') : ∀ k, foot b sv k → ¬ foot2 c vl vk k := by
  rintro k (rfl | hk) (rfl | hk' | hk')
  · exact h.blk.ne_ r.blk (by decide) rfl
  · exact own_blk_ne r.rowL h.blk (by decide) hk'
  · exact own_blk_ne r.rowK h.blk (by decide) hk'
  · exact own_blk_ne h.row r.blk (by decide) hk
  · exact own_own_ne h.row r.rowL (by decide) k hk hk'
  · exact own_own_ne h.row r.rowK (by decide) k hk hk'

theorem Rf.base {w : World} {B B' b : Nat} {vl vk : Value} {f : Int} {l : List Sp} (h : Rf w B b vl vk f l) (hB : B' ≤ B) : Rf w B' b vl vk f l :=
  ⟨Nat.le_trans hB h.hb, h.blk, ownsRow_base h.rowL hB, ownsRow_base h.rowK hB⟩

theorem Rf.drewN1 {w : World} {B b : Nat} {vl vk : Value} {f : Int} {l : List Sp} (h : Rf w B b vl vk f l) : Rf w.drew B b vl vk f l := ⟨h.hb, h.blk, h.rowL, h.rowK⟩

/-- Both ledgers, alike. -/
structure Both (w : World) (B b c : Nat) (f : Int) (l : List Sp) : Prop where
  led : ∃ sv, Led w B b sv f l
  ref : ∃ vl vk, Rf w B c vl vk f l
  good : Lg.Good f l
  size : B ≤ w.heap.size

theorem Both.later {w w' : World} {B b c : Nat} {f : Int} {l : List Sp} (h : Both w B b c f l) (hb : Below w.heap.size w w') : Both w' B b c f l := by
  obtain ⟨⟨sv, hl⟩, ⟨vl, vk, hr⟩, hg, hs⟩ := h
  exact ⟨⟨sv, hl.later hb⟩, ⟨vl, vk, hr.later hb⟩, hg, Nat.le_trans hs hb.size⟩

/-- A call on the ledger, then the same on the reference. -/
theorem both_step {w : World} {B b c : Nat} {f : Int} {l l' : List Sp} {x : Int} (h : Both w B b c f l) (hg : Lg.Good f l') {F1 F2 : FuncId} {args1 args2 : Array Value}
    (h1 : ∀ sv, Led w B b sv f l → Calls Try.prog F1 args1 w (Turned B b sv f l' x w)) (h2 : ∀ (w1 : World) vl vk, B ≤ w1.heap.size → Rf w1 B c vl vk f l → Calls Try.prog F2 args2 w1 (Turned2 B c vl vk f l' x w1)) :
    Calls Try.prog F1 args1 w fun e w1 => e = .returned (.int .i64 x) ∧ Below B w w1 ∧ Calls Try.prog F2 args2 w1 fun e w2 => e = .returned (.int .i64 x) ∧ Below B w w2 ∧ Both w2 B b c f l' := by
  obtain ⟨⟨sv, hl⟩, ⟨vl, vk, hr⟩, _, hs⟩ := h
  refine (h1 sv hl).mono ?_
  rintro e w1 ⟨rfl, sv', hl1, hO1, _⟩
  have hB1 := hO1.below hs hl.foot_ge
  have hr1 := hr.only hO1 (fun k hk hk' => apart hl hr k hk' hk)
  have hs1 := Nat.le_trans hs hO1.size
  refine ⟨rfl, hB1, (h2 w1 vl vk hs1 hr1).mono ?_⟩
  rintro e w2 ⟨rfl, vl', vk', hr2, hO2⟩
  have hl2 := hl1.only hO2 (fun k hk hk' => apart hl1 hr1 k hk hk')
  exact ⟨rfl, hB1.trans (hO2.below hs1 hr1.foot_ge), ⟨sv', hl2⟩, ⟨vl', vk', hr2⟩, hg, Nat.le_trans hs1 hO2.size⟩

theorem same_lists {w : World} {B1 B2 : Nat} {v1 v2 : Value} {kd : Bool} {l : List Sp} (h1 : w.ownsRow B1 48 2 v1 (Lg.of kd l).length (pairs (Lg.of kd l))) (h2 : w.ownsRow B2 48 2 v2 (Lg.of kd l).length (pairs (Lg.of kd l))) (hl : l.length ≤ 256) :
    Calls Try.prog 26 #[v1, v2] w fun e w' => e = .returned (.bool true) ∧ ∃ n, w' = w.drewN n := by
  rw [pairs_prs] at h1 h2
  have he : (ends (Lg.of kd l)).length = (Lg.of kd l).length := by simp [ends]
  rw [← he] at h1 h2
  have hb : sameB (ends (Lg.of kd l)) (ends (Lg.of kd l)) = true := by simp [sameB]
  have := same_c h1 h2 (by have := Lg.length_of_le kd l; omega)
  rwa [hb] at this

theorem offB_true {x : Int} (h0 : 0 ≤ x) (h1 : x ≤ 1099511627776) : offB x = true := by simp [offB, h0, h1]
theorem offB_false {x : Int} (h : x < 0 ∨ 1099511627776 < x) : offB x = false := by simp [offB]; omega

/-- Both refuse: then the fixed whole answers. -/
theorem plays_bad (x : Int) (w : World) (v : Value) (h : x < 0 ∨ 1099511627776 < x) : Calls Try.prog 4 #[.int .i64 x, v] w fun e w' => e = .returned (.bool true) ∧ Below w.heap.size w w' := by
  have HA := hide (make_bad x w h)
  have HB := hide (rmake_bad x w (offB_false h))
  clear h
  go_enter Try.func4, Try.ntmps4
  go_wp2_with (first | (go_at_call 11; refine HA.out.mono ?_; rintro e w' ⟨rfl, rfl⟩) | (go_at_call 17; refine HB.out.mono ?_; rintro e w' ⟨rfl, rfl⟩) | (go_at_call 9; refine (works_c w).mono ?_; rintro e w' ⟨rfl, hb⟩; have HW := hide hb; clear hb))
  go_ret
  exact ⟨rfl, HW.out⟩

set_option maxRecDepth 100000 in
set_option maxHeartbeats 8000000 in
theorem plays_ok (x : Int) (w : World) (v : Value) (ac : Nat → Ac) (len : Nat) (ha : ActsAt w.heap.size w v ac len) (h0 : 0 ≤ x) (h1 : x ≤ 1099511627776) : Calls Try.prog 4 #[.int .i64 x, v] w fun e w' => e = .returned (.bool true) ∧ Below w.heap.size w w' := by
  obtain ⟨ao, cap, rfl, ha⟩ := ha
  have HACT := hide ha
  clear ha
  go_enter Try.func4, Try.ntmps4
  go_wp2_with fail
  refine (make_ok x w h0 h1).mono ?_
  rintro e w1 ⟨rfl, hL1, hB1⟩
  have HL1 := hide hL1
  have HB1 := hide hB1
  have sz1 := hB1.size
  clear hL1 hB1
  go_wp2_with fail
  refine (rmake_ok x w1 (offB_true h0 h1)).mono ?_
  rintro e w2 ⟨rfl, hR2, hB2⟩
  have HBoth := hide (show Both w2 w.heap.size w.heap.size w1.heap.size x [] from ⟨⟨_, HL1.out.later hB2⟩, ⟨_, _, hR2.base sz1⟩, Lg.good_nil h0 h1, Nat.le_trans sz1 hB2.size⟩)
  have HB2 := hide (HB1.out.trans (hB2.mono sz1))
  clear hR2 hB2 HL1 HB1
  generalize hc : w1.heap.size = c at *
  clear hc
  go_wp2_with fail
  go_loopw [9] (fun i wr => ∃ (k : Nat) (l : List Sp), k ≤ len ∧ i = .int .i64 k ∧ Both wr w.heap.size w.heap.size c x l ∧ Below w.heap.size w wr) (fun i _ => len - (intOf i).toNat)
  case atStart => exact ⟨0, [], Nat.zero_le _, rfl, HBoth.out, HB2.out⟩
  case round =>
    obtain ⟨k, l, hk, rfl, hb, hB⟩ := hrel
    have HT := hide hb
    have HB := hide hB
    have sz := hb.size
    clear hb hB
    by_cases hlt : k < len ∧ k < 150
    · obtain ⟨hlt, h150⟩ := hlt
      obtain ⟨g, off, rfl, hg, hcs⟩ := HACT.out (by omega)
      obtain ⟨a1, a2, a3⟩ := hcs k hlt
      have k1 := (HB.out.cell (p := ⟨g, off + k * 3, none⟩) hg).trans a1
      have k2 := (HB.out.cell (p := ⟨g, off + k * 3 + 1, none⟩) hg).trans a2
      have k3 := (HB.out.cell (p := ⟨g, off + k * 3 + 2, none⟩) hg).trans a3
      clear hcs a1 a2 a3
      obtain ⟨vl, vk, hRf⟩ := HT.out.ref
      have HG := hide HT.out.good
      have HE := hide (rend_c hRf.drewN1 HG.out)
      have hfb : 0 ≤ Lg.fin x l ∧ Lg.fin x l ≤ 1099511627776 := ⟨by have := HG.out.fin_ge; omega, HG.out.top⟩
      have HW := hide (where_c (ac k) (Lg.fin x l))
      clear hRf
      generalize Lg.fin x l = z at *
      generalize hwb : whereB (ac k) z = to at *
      have hi0 : (0 : Int) ≤ (k : Int) := Int.natCast_nonneg _
      have hi1 : (k : Int) < (len : Int) := by omega
      have hgl : g < wr.heap.size := by omega
      clear hwb
      go_wp2_with fail
      go_region_held3 (fun w' => w'.cell? ⟨g, off + k * 3, none⟩ = some (.int .i64 (ac k).d) ∧ w'.cell? ⟨g, off + k * 3 + 1, none⟩ = some (.int .i64 (ac k).n) ∧ w'.cell? ⟨g, off + k * 3 + 2, none⟩ = some (.bool (ac k).near))
        (first | go_keep | (go_split_ands; refine ⟨?_, ?_, ?_⟩ <;> (rw [hbw.cell (by simp; omega)]; assumption)))
        ((first | (go_at_call 19; refine HE.out.mono ?_; rintro e w' ⟨rfl, nd, rfl⟩) | (go_at_call 18; refine (HW.out _ hfb.1 hfb.2).mono ?_; rintro e w3 ⟨rfl, hbw⟩)))
      have T3 := hide (HT.out.later ⟨hbw.os, hbw.tape, hbw.output, hbw.size, hbw.block⟩)
      have B3 := hide (HB.out.trans (Below.mono (B := wr.heap.size) ⟨hbw.os, hbw.tape, hbw.output, hbw.size, hbw.block⟩ sz))
      have d1 := (hbw.cell (p := ⟨g, off + k * 3, none⟩) (by simp; omega)).trans k1
      clear hbw HT HB k1 k2 k3
      have hmb := among_bd (ac k).d 7 (by decide)
      have HD := hide (among_c (ac k).d 7)
      rcases (show among (ac k).d 7 = 0 ∨ among (ac k).d 7 = 1 ∨ among (ac k).d 7 = 2 ∨ among (ac k).d 7 = 3 ∨ among (ac k).d 7 = 4 ∨ among (ac k).d 7 = 5 ∨ among (ac k).d 7 = 6 from by omega) with hm | hm | hm | hm | hm | hm | hm
      · rw [hm] at HD
        clear hm hmb
        go_wp2_with fail
        refine (HD.out w3 (by decide) (by decide)).mono ?_
        rintro e w4 ⟨rfl, rfl⟩
        have hst := both_step (F1 := 13) (args1 := #[.pointer (some ⟨w.heap.size, 0, none⟩), .int .i64 to]) (F2 := 20) (args2 := #[.pointer (some ⟨c, 0, none⟩), .int .i64 to, .bool true]) T3.out (Lg.good_add HG.out to true) (fun sv hl => accept_c hl HG.out T3.out.size to) (fun w1 vl vk hs hr => radd_c hr HG.out hs to true)
        have HST := hide hst
        clear hst
        go_wp2_with fail
        refine HST.out.mono ?_
        rintro e w4 ⟨rfl, hb4, hst2⟩
        have HST2 := hide hst2
        have B4 := hide (B3.out.trans hb4)
        clear hb4 hst2
        go_wp2_with fail
        refine HST2.out.mono ?_
        rintro e w5 ⟨rfl, hb5, hT5⟩
        have T5 := hide hT5
        have B5 := hide (B3.out.trans hb5)
        clear hb5 hT5 HST HST2
        generalize hl' : Lg.addL x l to true = l' at *
        generalize Lg.addE x l to true = x' at *
        clear hl'
        obtain ⟨sv5, hl5⟩ := T5.out.led
        obtain ⟨vl5, vk5, hr5⟩ := T5.out.ref
        have HF := hide (from_c _ _ _ _ hl5.blk)
        have HE1 := hide (end_c hl5 T5.out.good)
        clear hl5 hr5
        go_wp2_with fail
        refine HF.out.mono ?_
        rintro e w6 ⟨rfl, rfl⟩
        go_wp2_with fail
        refine HE1.out.mono ?_
        rintro e w6 ⟨rfl, n6, rfl⟩
        have HE2 := hide (rend_c (T5.out.ref.choose_spec.choose_spec.drewN n6) T5.out.good)
        have T6 := hide (T5.out.later (show Below w5.heap.size w5 (w5.drewN n6) from below_drewN (Below.refl _ _) n6))
        have B6 := hide (below_drewN B5.out n6)
        go_wp2_with fail
        refine HE2.out.mono ?_
        rintro e w7 ⟨rfl, n7, rfl⟩
        generalize Lg.fin x l' = z' at *
        have T7 := hide (T6.out.later (show Below (w5.drewN n6).heap.size (w5.drewN n6) ((w5.drewN n6).drewN n7) from below_drewN (Below.refl _ _) n7))
        have B7 := hide (below_drewN B6.out n7)
        clear HF HE1 HE2 T6 B6
        rw [World.drewN_drewN] at T7 B7
        obtain ⟨w8, hw8⟩ : ∃ w8, w5.drewN (n6 + n7) = w8 := ⟨_, rfl⟩
        rw [hw8] at T7 B7
        try rw [World.drewN_drewN]
        rw [hw8]
        clear hw8
        obtain ⟨sva, hla⟩ := T7.out.led
        have HA := hide (accepted_c hla T7.out.good.len)
        have sza := T7.out.size
        clear hla
        go_wp2_with fail
        refine HA.out.mono ?_
        rintro e wa ⟨va, rfl, hra, hba⟩
        have Ta := hide (T7.out.later hba)
        have Ba := hide (B7.out.trans (hba.mono sza))
        have Ra := hide hra
        obtain ⟨vlb, vkb, hlb⟩ := Ta.out.ref
        have HO := hide (of_c hlb Ta.out.good.len true)
        have szb := Ta.out.size
        clear hra hba hlb HA T7 B7
        go_wp2_with fail
        refine HO.out.mono ?_
        rintro e wb ⟨vb, rfl, hrb, hbb⟩
        have Tb := hide (Ta.out.later hbb)
        have Bb := hide (Ba.out.trans (hbb.mono szb))
        have Ra2 := hide (ownsRow_only Ra.out (Only.of_below (S := fun k => wa.heap.size ≤ k) hbb fun _ h => h) (fun k hk => by have := (Ra.out.lt k hk).2; omega))
        have HS := hide (same_lists Ra2.out hrb Tb.out.good.len)
        have szc := Tb.out.size
        clear hrb hbb HO Ta Ba Ra Ra2
        go_wp2_with fail
        refine HS.out.mono ?_
        rintro e wc ⟨rfl, nc, rfl⟩
        have T72 := hide (Tb.out.later (show Below wb.heap.size wb (wb.drewN nc) from below_drewN (Below.refl _ _) nc))
        have B72 := hide (below_drewN Bb.out nc)
        clear HS Tb Bb
        obtain ⟨sva2, hla2⟩ := T72.out.led
        have HA2 := hide (skipped_c hla2 T72.out.good.len)
        have sza2 := T72.out.size
        clear hla2
        go_wp2_with fail
        refine HA2.out.mono ?_
        rintro e wa2 ⟨va2, rfl, hra2, hba2⟩
        have Ta2 := hide (T72.out.later hba2)
        have Ba2 := hide (B72.out.trans (hba2.mono sza2))
        have Ra2 := hide hra2
        obtain ⟨vlb2, vkb2, hlb2⟩ := Ta2.out.ref
        have HO2 := hide (of_c hlb2 Ta2.out.good.len false)
        have szb2 := Ta2.out.size
        clear hra2 hba2 hlb2 HA2 T72 B72
        go_wp2_with fail
        refine HO2.out.mono ?_
        rintro e wb2 ⟨vb2, rfl, hrb2, hbb2⟩
        have Tb2 := hide (Ta2.out.later hbb2)
        have Bb2 := hide (Ba2.out.trans (hbb2.mono szb2))
        have Ra22 := hide (ownsRow_only Ra2.out (Only.of_below (S := fun k => wa2.heap.size ≤ k) hbb2 fun _ h => h) (fun k hk => by have := (Ra2.out.lt k hk).2; omega))
        have HS2 := hide (same_lists Ra22.out hrb2 Tb2.out.good.len)
        have szc2 := Tb2.out.size
        clear hrb2 hbb2 HO2 Ta2 Ba2 Ra2 Ra22
        go_wp2_with fail
        refine HS2.out.mono ?_
        rintro e wc2 ⟨rfl, nc2, rfl⟩
        have T722 := hide (Tb2.out.later (show Below wb2.heap.size wb2 (wb2.drewN nc2) from below_drewN (Below.refl _ _) nc2))
        have B722 := hide (below_drewN Bb2.out nc2)
        clear HS2 Tb2 Bb2
        go_wp2
        go_roundw
        case rel => exact ⟨k + 1, l', by omega, by go_num, T722.out, B722.out⟩
        case measure => simp [intOf]; omega
      · rw [hm] at HD
        clear hm hmb
        go_wp2_with fail
        refine (HD.out w3 (by decide) (by decide)).mono ?_
        rintro e w4 ⟨rfl, rfl⟩
        have hst := both_step (F1 := 13) (args1 := #[.pointer (some ⟨w.heap.size, 0, none⟩), .int .i64 to]) (F2 := 20) (args2 := #[.pointer (some ⟨c, 0, none⟩), .int .i64 to, .bool true]) T3.out (Lg.good_add HG.out to true) (fun sv hl => accept_c hl HG.out T3.out.size to) (fun w1 vl vk hs hr => radd_c hr HG.out hs to true)
        have HST := hide hst
        clear hst
        go_wp2_with fail
        refine HST.out.mono ?_
        rintro e w4 ⟨rfl, hb4, hst2⟩
        have HST2 := hide hst2
        have B4 := hide (B3.out.trans hb4)
        clear hb4 hst2
        go_wp2_with fail
        refine HST2.out.mono ?_
        rintro e w5 ⟨rfl, hb5, hT5⟩
        have T5 := hide hT5
        have B5 := hide (B3.out.trans hb5)
        clear hb5 hT5 HST HST2
        generalize hl' : Lg.addL x l to true = l' at *
        generalize Lg.addE x l to true = x' at *
        clear hl'
        obtain ⟨sv5, hl5⟩ := T5.out.led
        obtain ⟨vl5, vk5, hr5⟩ := T5.out.ref
        have HF := hide (from_c _ _ _ _ hl5.blk)
        have HE1 := hide (end_c hl5 T5.out.good)
        clear hl5 hr5
        go_wp2_with fail
        refine HF.out.mono ?_
        rintro e w6 ⟨rfl, rfl⟩
        go_wp2_with fail
        refine HE1.out.mono ?_
        rintro e w6 ⟨rfl, n6, rfl⟩
        have HE2 := hide (rend_c (T5.out.ref.choose_spec.choose_spec.drewN n6) T5.out.good)
        have T6 := hide (T5.out.later (show Below w5.heap.size w5 (w5.drewN n6) from below_drewN (Below.refl _ _) n6))
        have B6 := hide (below_drewN B5.out n6)
        go_wp2_with fail
        refine HE2.out.mono ?_
        rintro e w7 ⟨rfl, n7, rfl⟩
        generalize Lg.fin x l' = z' at *
        have T7 := hide (T6.out.later (show Below (w5.drewN n6).heap.size (w5.drewN n6) ((w5.drewN n6).drewN n7) from below_drewN (Below.refl _ _) n7))
        have B7 := hide (below_drewN B6.out n7)
        clear HF HE1 HE2 T6 B6
        rw [World.drewN_drewN] at T7 B7
        obtain ⟨w8, hw8⟩ : ∃ w8, w5.drewN (n6 + n7) = w8 := ⟨_, rfl⟩
        rw [hw8] at T7 B7
        try rw [World.drewN_drewN]
        rw [hw8]
        clear hw8
        obtain ⟨sva, hla⟩ := T7.out.led
        have HA := hide (accepted_c hla T7.out.good.len)
        have sza := T7.out.size
        clear hla
        go_wp2_with fail
        refine HA.out.mono ?_
        rintro e wa ⟨va, rfl, hra, hba⟩
        have Ta := hide (T7.out.later hba)
        have Ba := hide (B7.out.trans (hba.mono sza))
        have Ra := hide hra
        obtain ⟨vlb, vkb, hlb⟩ := Ta.out.ref
        have HO := hide (of_c hlb Ta.out.good.len true)
        have szb := Ta.out.size
        clear hra hba hlb HA T7 B7
        go_wp2_with fail
        refine HO.out.mono ?_
        rintro e wb ⟨vb, rfl, hrb, hbb⟩
        have Tb := hide (Ta.out.later hbb)
        have Bb := hide (Ba.out.trans (hbb.mono szb))
        have Ra2 := hide (ownsRow_only Ra.out (Only.of_below (S := fun k => wa.heap.size ≤ k) hbb fun _ h => h) (fun k hk => by have := (Ra.out.lt k hk).2; omega))
        have HS := hide (same_lists Ra2.out hrb Tb.out.good.len)
        have szc := Tb.out.size
        clear hrb hbb HO Ta Ba Ra Ra2
        go_wp2_with fail
        refine HS.out.mono ?_
        rintro e wc ⟨rfl, nc, rfl⟩
        have T72 := hide (Tb.out.later (show Below wb.heap.size wb (wb.drewN nc) from below_drewN (Below.refl _ _) nc))
        have B72 := hide (below_drewN Bb.out nc)
        clear HS Tb Bb
        obtain ⟨sva2, hla2⟩ := T72.out.led
        have HA2 := hide (skipped_c hla2 T72.out.good.len)
        have sza2 := T72.out.size
        clear hla2
        go_wp2_with fail
        refine HA2.out.mono ?_
        rintro e wa2 ⟨va2, rfl, hra2, hba2⟩
        have Ta2 := hide (T72.out.later hba2)
        have Ba2 := hide (B72.out.trans (hba2.mono sza2))
        have Ra2 := hide hra2
        obtain ⟨vlb2, vkb2, hlb2⟩ := Ta2.out.ref
        have HO2 := hide (of_c hlb2 Ta2.out.good.len false)
        have szb2 := Ta2.out.size
        clear hra2 hba2 hlb2 HA2 T72 B72
        go_wp2_with fail
        refine HO2.out.mono ?_
        rintro e wb2 ⟨vb2, rfl, hrb2, hbb2⟩
        have Tb2 := hide (Ta2.out.later hbb2)
        have Bb2 := hide (Ba2.out.trans (hbb2.mono szb2))
        have Ra22 := hide (ownsRow_only Ra2.out (Only.of_below (S := fun k => wa2.heap.size ≤ k) hbb2 fun _ h => h) (fun k hk => by have := (Ra2.out.lt k hk).2; omega))
        have HS2 := hide (same_lists Ra22.out hrb2 Tb2.out.good.len)
        have szc2 := Tb2.out.size
        clear hrb2 hbb2 HO2 Ta2 Ba2 Ra2 Ra22
        go_wp2_with fail
        refine HS2.out.mono ?_
        rintro e wc2 ⟨rfl, nc2, rfl⟩
        have T722 := hide (Tb2.out.later (show Below wb2.heap.size wb2 (wb2.drewN nc2) from below_drewN (Below.refl _ _) nc2))
        have B722 := hide (below_drewN Bb2.out nc2)
        clear HS2 Tb2 Bb2
        go_wp2
        go_roundw
        case rel => exact ⟨k + 1, l', by omega, by go_num, T722.out, B722.out⟩
        case measure => simp [intOf]; omega
      · rw [hm] at HD
        clear hm hmb
        go_wp2_with fail
        refine (HD.out w3 (by decide) (by decide)).mono ?_
        rintro e w4 ⟨rfl, rfl⟩
        have hst := both_step (F1 := 13) (args1 := #[.pointer (some ⟨w.heap.size, 0, none⟩), .int .i64 to]) (F2 := 20) (args2 := #[.pointer (some ⟨c, 0, none⟩), .int .i64 to, .bool true]) T3.out (Lg.good_add HG.out to true) (fun sv hl => accept_c hl HG.out T3.out.size to) (fun w1 vl vk hs hr => radd_c hr HG.out hs to true)
        have HST := hide hst
        clear hst
        go_wp2_with fail
        refine HST.out.mono ?_
        rintro e w4 ⟨rfl, hb4, hst2⟩
        have HST2 := hide hst2
        have B4 := hide (B3.out.trans hb4)
        clear hb4 hst2
        go_wp2_with fail
        refine HST2.out.mono ?_
        rintro e w5 ⟨rfl, hb5, hT5⟩
        have T5 := hide hT5
        have B5 := hide (B3.out.trans hb5)
        clear hb5 hT5 HST HST2
        generalize hl' : Lg.addL x l to true = l' at *
        generalize Lg.addE x l to true = x' at *
        clear hl'
        obtain ⟨sv5, hl5⟩ := T5.out.led
        obtain ⟨vl5, vk5, hr5⟩ := T5.out.ref
        have HF := hide (from_c _ _ _ _ hl5.blk)
        have HE1 := hide (end_c hl5 T5.out.good)
        clear hl5 hr5
        go_wp2_with fail
        refine HF.out.mono ?_
        rintro e w6 ⟨rfl, rfl⟩
        go_wp2_with fail
        refine HE1.out.mono ?_
        rintro e w6 ⟨rfl, n6, rfl⟩
        have HE2 := hide (rend_c (T5.out.ref.choose_spec.choose_spec.drewN n6) T5.out.good)
        have T6 := hide (T5.out.later (show Below w5.heap.size w5 (w5.drewN n6) from below_drewN (Below.refl _ _) n6))
        have B6 := hide (below_drewN B5.out n6)
        go_wp2_with fail
        refine HE2.out.mono ?_
        rintro e w7 ⟨rfl, n7, rfl⟩
        generalize Lg.fin x l' = z' at *
        have T7 := hide (T6.out.later (show Below (w5.drewN n6).heap.size (w5.drewN n6) ((w5.drewN n6).drewN n7) from below_drewN (Below.refl _ _) n7))
        have B7 := hide (below_drewN B6.out n7)
        clear HF HE1 HE2 T6 B6
        rw [World.drewN_drewN] at T7 B7
        obtain ⟨w8, hw8⟩ : ∃ w8, w5.drewN (n6 + n7) = w8 := ⟨_, rfl⟩
        rw [hw8] at T7 B7
        try rw [World.drewN_drewN]
        rw [hw8]
        clear hw8
        obtain ⟨sva, hla⟩ := T7.out.led
        have HA := hide (accepted_c hla T7.out.good.len)
        have sza := T7.out.size
        clear hla
        go_wp2_with fail
        refine HA.out.mono ?_
        rintro e wa ⟨va, rfl, hra, hba⟩
        have Ta := hide (T7.out.later hba)
        have Ba := hide (B7.out.trans (hba.mono sza))
        have Ra := hide hra
        obtain ⟨vlb, vkb, hlb⟩ := Ta.out.ref
        have HO := hide (of_c hlb Ta.out.good.len true)
        have szb := Ta.out.size
        clear hra hba hlb HA T7 B7
        go_wp2_with fail
        refine HO.out.mono ?_
        rintro e wb ⟨vb, rfl, hrb, hbb⟩
        have Tb := hide (Ta.out.later hbb)
        have Bb := hide (Ba.out.trans (hbb.mono szb))
        have Ra2 := hide (ownsRow_only Ra.out (Only.of_below (S := fun k => wa.heap.size ≤ k) hbb fun _ h => h) (fun k hk => by have := (Ra.out.lt k hk).2; omega))
        have HS := hide (same_lists Ra2.out hrb Tb.out.good.len)
        have szc := Tb.out.size
        clear hrb hbb HO Ta Ba Ra Ra2
        go_wp2_with fail
        refine HS.out.mono ?_
        rintro e wc ⟨rfl, nc, rfl⟩
        have T72 := hide (Tb.out.later (show Below wb.heap.size wb (wb.drewN nc) from below_drewN (Below.refl _ _) nc))
        have B72 := hide (below_drewN Bb.out nc)
        clear HS Tb Bb
        obtain ⟨sva2, hla2⟩ := T72.out.led
        have HA2 := hide (skipped_c hla2 T72.out.good.len)
        have sza2 := T72.out.size
        clear hla2
        go_wp2_with fail
        refine HA2.out.mono ?_
        rintro e wa2 ⟨va2, rfl, hra2, hba2⟩
        have Ta2 := hide (T72.out.later hba2)
        have Ba2 := hide (B72.out.trans (hba2.mono sza2))
        have Ra2 := hide hra2
        obtain ⟨vlb2, vkb2, hlb2⟩ := Ta2.out.ref
        have HO2 := hide (of_c hlb2 Ta2.out.good.len false)
        have szb2 := Ta2.out.size
        clear hra2 hba2 hlb2 HA2 T72 B72
        go_wp2_with fail
        refine HO2.out.mono ?_
        rintro e wb2 ⟨vb2, rfl, hrb2, hbb2⟩
        have Tb2 := hide (Ta2.out.later hbb2)
        have Bb2 := hide (Ba2.out.trans (hbb2.mono szb2))
        have Ra22 := hide (ownsRow_only Ra2.out (Only.of_below (S := fun k => wa2.heap.size ≤ k) hbb2 fun _ h => h) (fun k hk => by have := (Ra2.out.lt k hk).2; omega))
        have HS2 := hide (same_lists Ra22.out hrb2 Tb2.out.good.len)
        have szc2 := Tb2.out.size
        clear hrb2 hbb2 HO2 Ta2 Ba2 Ra2 Ra22
        go_wp2_with fail
        refine HS2.out.mono ?_
        rintro e wc2 ⟨rfl, nc2, rfl⟩
        have T722 := hide (Tb2.out.later (show Below wb2.heap.size wb2 (wb2.drewN nc2) from below_drewN (Below.refl _ _) nc2))
        have B722 := hide (below_drewN Bb2.out nc2)
        clear HS2 Tb2 Bb2
        go_wp2
        go_roundw
        case rel => exact ⟨k + 1, l', by omega, by go_num, T722.out, B722.out⟩
        case measure => simp [intOf]; omega
      · rw [hm] at HD
        clear hm hmb
        go_wp2_with fail
        refine (HD.out w3 (by decide) (by decide)).mono ?_
        rintro e w4 ⟨rfl, rfl⟩
        have hst := both_step (F1 := 12) (args1 := #[.pointer (some ⟨w.heap.size, 0, none⟩), .int .i64 to]) (F2 := 20) (args2 := #[.pointer (some ⟨c, 0, none⟩), .int .i64 to, .bool false]) T3.out (Lg.good_add HG.out to false) (fun sv hl => skip_c hl HG.out T3.out.size to) (fun w1 vl vk hs hr => radd_c hr HG.out hs to false)
        have HST := hide hst
        clear hst
        go_wp2_with fail
        refine HST.out.mono ?_
        rintro e w4 ⟨rfl, hb4, hst2⟩
        have HST2 := hide hst2
        have B4 := hide (B3.out.trans hb4)
        clear hb4 hst2
        go_wp2_with fail
        refine HST2.out.mono ?_
        rintro e w5 ⟨rfl, hb5, hT5⟩
        have T5 := hide hT5
        have B5 := hide (B3.out.trans hb5)
        clear hb5 hT5 HST HST2
        generalize hl' : Lg.addL x l to false = l' at *
        generalize Lg.addE x l to false = x' at *
        clear hl'
        obtain ⟨sv5, hl5⟩ := T5.out.led
        obtain ⟨vl5, vk5, hr5⟩ := T5.out.ref
        have HF := hide (from_c _ _ _ _ hl5.blk)
        have HE1 := hide (end_c hl5 T5.out.good)
        clear hl5 hr5
        go_wp2_with fail
        refine HF.out.mono ?_
        rintro e w6 ⟨rfl, rfl⟩
        go_wp2_with fail
        refine HE1.out.mono ?_
        rintro e w6 ⟨rfl, n6, rfl⟩
        have HE2 := hide (rend_c (T5.out.ref.choose_spec.choose_spec.drewN n6) T5.out.good)
        have T6 := hide (T5.out.later (show Below w5.heap.size w5 (w5.drewN n6) from below_drewN (Below.refl _ _) n6))
        have B6 := hide (below_drewN B5.out n6)
        go_wp2_with fail
        refine HE2.out.mono ?_
        rintro e w7 ⟨rfl, n7, rfl⟩
        generalize Lg.fin x l' = z' at *
        have T7 := hide (T6.out.later (show Below (w5.drewN n6).heap.size (w5.drewN n6) ((w5.drewN n6).drewN n7) from below_drewN (Below.refl _ _) n7))
        have B7 := hide (below_drewN B6.out n7)
        clear HF HE1 HE2 T6 B6
        rw [World.drewN_drewN] at T7 B7
        obtain ⟨w8, hw8⟩ : ∃ w8, w5.drewN (n6 + n7) = w8 := ⟨_, rfl⟩
        rw [hw8] at T7 B7
        try rw [World.drewN_drewN]
        rw [hw8]
        clear hw8
        obtain ⟨sva, hla⟩ := T7.out.led
        have HA := hide (accepted_c hla T7.out.good.len)
        have sza := T7.out.size
        clear hla
        go_wp2_with fail
        refine HA.out.mono ?_
        rintro e wa ⟨va, rfl, hra, hba⟩
        have Ta := hide (T7.out.later hba)
        have Ba := hide (B7.out.trans (hba.mono sza))
        have Ra := hide hra
        obtain ⟨vlb, vkb, hlb⟩ := Ta.out.ref
        have HO := hide (of_c hlb Ta.out.good.len true)
        have szb := Ta.out.size
        clear hra hba hlb HA T7 B7
        go_wp2_with fail
        refine HO.out.mono ?_
        rintro e wb ⟨vb, rfl, hrb, hbb⟩
        have Tb := hide (Ta.out.later hbb)
        have Bb := hide (Ba.out.trans (hbb.mono szb))
        have Ra2 := hide (ownsRow_only Ra.out (Only.of_below (S := fun k => wa.heap.size ≤ k) hbb fun _ h => h) (fun k hk => by have := (Ra.out.lt k hk).2; omega))
        have HS := hide (same_lists Ra2.out hrb Tb.out.good.len)
        have szc := Tb.out.size
        clear hrb hbb HO Ta Ba Ra Ra2
        go_wp2_with fail
        refine HS.out.mono ?_
        rintro e wc ⟨rfl, nc, rfl⟩
        have T72 := hide (Tb.out.later (show Below wb.heap.size wb (wb.drewN nc) from below_drewN (Below.refl _ _) nc))
        have B72 := hide (below_drewN Bb.out nc)
        clear HS Tb Bb
        obtain ⟨sva2, hla2⟩ := T72.out.led
        have HA2 := hide (skipped_c hla2 T72.out.good.len)
        have sza2 := T72.out.size
        clear hla2
        go_wp2_with fail
        refine HA2.out.mono ?_
        rintro e wa2 ⟨va2, rfl, hra2, hba2⟩
        have Ta2 := hide (T72.out.later hba2)
        have Ba2 := hide (B72.out.trans (hba2.mono sza2))
        have Ra2 := hide hra2
        obtain ⟨vlb2, vkb2, hlb2⟩ := Ta2.out.ref
        have HO2 := hide (of_c hlb2 Ta2.out.good.len false)
        have szb2 := Ta2.out.size
        clear hra2 hba2 hlb2 HA2 T72 B72
        go_wp2_with fail
        refine HO2.out.mono ?_
        rintro e wb2 ⟨vb2, rfl, hrb2, hbb2⟩
        have Tb2 := hide (Ta2.out.later hbb2)
        have Bb2 := hide (Ba2.out.trans (hbb2.mono szb2))
        have Ra22 := hide (ownsRow_only Ra2.out (Only.of_below (S := fun k => wa2.heap.size ≤ k) hbb2 fun _ h => h) (fun k hk => by have := (Ra2.out.lt k hk).2; omega))
        have HS2 := hide (same_lists Ra22.out hrb2 Tb2.out.good.len)
        have szc2 := Tb2.out.size
        clear hrb2 hbb2 HO2 Ta2 Ba2 Ra2 Ra22
        go_wp2_with fail
        refine HS2.out.mono ?_
        rintro e wc2 ⟨rfl, nc2, rfl⟩
        have T722 := hide (Tb2.out.later (show Below wb2.heap.size wb2 (wb2.drewN nc2) from below_drewN (Below.refl _ _) nc2))
        have B722 := hide (below_drewN Bb2.out nc2)
        clear HS2 Tb2 Bb2
        go_wp2
        go_roundw
        case rel => exact ⟨k + 1, l', by omega, by go_num, T722.out, B722.out⟩
        case measure => simp [intOf]; omega
      · rw [hm] at HD
        clear hm hmb
        go_wp2_with fail
        refine (HD.out w3 (by decide) (by decide)).mono ?_
        rintro e w4 ⟨rfl, rfl⟩
        have hst := both_step (F1 := 12) (args1 := #[.pointer (some ⟨w.heap.size, 0, none⟩), .int .i64 to]) (F2 := 20) (args2 := #[.pointer (some ⟨c, 0, none⟩), .int .i64 to, .bool false]) T3.out (Lg.good_add HG.out to false) (fun sv hl => skip_c hl HG.out T3.out.size to) (fun w1 vl vk hs hr => radd_c hr HG.out hs to false)
        have HST := hide hst
        clear hst
        go_wp2_with fail
        refine HST.out.mono ?_
        rintro e w4 ⟨rfl, hb4, hst2⟩
        have HST2 := hide hst2
        have B4 := hide (B3.out.trans hb4)
        clear hb4 hst2
        go_wp2_with fail
        refine HST2.out.mono ?_
        rintro e w5 ⟨rfl, hb5, hT5⟩
        have T5 := hide hT5
        have B5 := hide (B3.out.trans hb5)
        clear hb5 hT5 HST HST2
        generalize hl' : Lg.addL x l to false = l' at *
        generalize Lg.addE x l to false = x' at *
        clear hl'
        obtain ⟨sv5, hl5⟩ := T5.out.led
        obtain ⟨vl5, vk5, hr5⟩ := T5.out.ref
        have HF := hide (from_c _ _ _ _ hl5.blk)
        have HE1 := hide (end_c hl5 T5.out.good)
        clear hl5 hr5
        go_wp2_with fail
        refine HF.out.mono ?_
        rintro e w6 ⟨rfl, rfl⟩
        go_wp2_with fail
        refine HE1.out.mono ?_
        rintro e w6 ⟨rfl, n6, rfl⟩
        have HE2 := hide (rend_c (T5.out.ref.choose_spec.choose_spec.drewN n6) T5.out.good)
        have T6 := hide (T5.out.later (show Below w5.heap.size w5 (w5.drewN n6) from below_drewN (Below.refl _ _) n6))
        have B6 := hide (below_drewN B5.out n6)
        go_wp2_with fail
        refine HE2.out.mono ?_
        rintro e w7 ⟨rfl, n7, rfl⟩
        generalize Lg.fin x l' = z' at *
        have T7 := hide (T6.out.later (show Below (w5.drewN n6).heap.size (w5.drewN n6) ((w5.drewN n6).drewN n7) from below_drewN (Below.refl _ _) n7))
        have B7 := hide (below_drewN B6.out n7)
        clear HF HE1 HE2 T6 B6
        rw [World.drewN_drewN] at T7 B7
        obtain ⟨w8, hw8⟩ : ∃ w8, w5.drewN (n6 + n7) = w8 := ⟨_, rfl⟩
        rw [hw8] at T7 B7
        try rw [World.drewN_drewN]
        rw [hw8]
        clear hw8
        obtain ⟨sva, hla⟩ := T7.out.led
        have HA := hide (accepted_c hla T7.out.good.len)
        have sza := T7.out.size
        clear hla
        go_wp2_with fail
        refine HA.out.mono ?_
        rintro e wa ⟨va, rfl, hra, hba⟩
        have Ta := hide (T7.out.later hba)
        have Ba := hide (B7.out.trans (hba.mono sza))
        have Ra := hide hra
        obtain ⟨vlb, vkb, hlb⟩ := Ta.out.ref
        have HO := hide (of_c hlb Ta.out.good.len true)
        have szb := Ta.out.size
        clear hra hba hlb HA T7 B7
        go_wp2_with fail
        refine HO.out.mono ?_
        rintro e wb ⟨vb, rfl, hrb, hbb⟩
        have Tb := hide (Ta.out.later hbb)
        have Bb := hide (Ba.out.trans (hbb.mono szb))
        have Ra2 := hide (ownsRow_only Ra.out (Only.of_below (S := fun k => wa.heap.size ≤ k) hbb fun _ h => h) (fun k hk => by have := (Ra.out.lt k hk).2; omega))
        have HS := hide (same_lists Ra2.out hrb Tb.out.good.len)
        have szc := Tb.out.size
        clear hrb hbb HO Ta Ba Ra Ra2
        go_wp2_with fail
        refine HS.out.mono ?_
        rintro e wc ⟨rfl, nc, rfl⟩
        have T72 := hide (Tb.out.later (show Below wb.heap.size wb (wb.drewN nc) from below_drewN (Below.refl _ _) nc))
        have B72 := hide (below_drewN Bb.out nc)
        clear HS Tb Bb
        obtain ⟨sva2, hla2⟩ := T72.out.led
        have HA2 := hide (skipped_c hla2 T72.out.good.len)
        have sza2 := T72.out.size
        clear hla2
        go_wp2_with fail
        refine HA2.out.mono ?_
        rintro e wa2 ⟨va2, rfl, hra2, hba2⟩
        have Ta2 := hide (T72.out.later hba2)
        have Ba2 := hide (B72.out.trans (hba2.mono sza2))
        have Ra2 := hide hra2
        obtain ⟨vlb2, vkb2, hlb2⟩ := Ta2.out.ref
        have HO2 := hide (of_c hlb2 Ta2.out.good.len false)
        have szb2 := Ta2.out.size
        clear hra2 hba2 hlb2 HA2 T72 B72
        go_wp2_with fail
        refine HO2.out.mono ?_
        rintro e wb2 ⟨vb2, rfl, hrb2, hbb2⟩
        have Tb2 := hide (Ta2.out.later hbb2)
        have Bb2 := hide (Ba2.out.trans (hbb2.mono szb2))
        have Ra22 := hide (ownsRow_only Ra2.out (Only.of_below (S := fun k => wa2.heap.size ≤ k) hbb2 fun _ h => h) (fun k hk => by have := (Ra2.out.lt k hk).2; omega))
        have HS2 := hide (same_lists Ra22.out hrb2 Tb2.out.good.len)
        have szc2 := Tb2.out.size
        clear hrb2 hbb2 HO2 Ta2 Ba2 Ra2 Ra22
        go_wp2_with fail
        refine HS2.out.mono ?_
        rintro e wc2 ⟨rfl, nc2, rfl⟩
        have T722 := hide (Tb2.out.later (show Below wb2.heap.size wb2 (wb2.drewN nc2) from below_drewN (Below.refl _ _) nc2))
        have B722 := hide (below_drewN Bb2.out nc2)
        clear HS2 Tb2 Bb2
        go_wp2
        go_roundw
        case rel => exact ⟨k + 1, l', by omega, by go_num, T722.out, B722.out⟩
        case measure => simp [intOf]; omega
      · rw [hm] at HD
        clear hm hmb
        go_wp2_with fail
        refine (HD.out w3 (by decide) (by decide)).mono ?_
        rintro e w4 ⟨rfl, rfl⟩
        have hst := both_step (F1 := 21) (args1 := #[.pointer (some ⟨w.heap.size, 0, none⟩), .int .i64 to]) (F2 := 22) (args2 := #[.pointer (some ⟨c, 0, none⟩), .int .i64 to]) T3.out (Lg.good_back HG.out to) (fun sv hl => back_c hl HG.out to) (fun w1 vl vk hs hr => rback_c hr HG.out hs to)
        have HST := hide hst
        clear hst
        go_wp2_with fail
        refine HST.out.mono ?_
        rintro e w4 ⟨rfl, hb4, hst2⟩
        have HST2 := hide hst2
        have B4 := hide (B3.out.trans hb4)
        clear hb4 hst2
        go_wp2_with fail
        refine HST2.out.mono ?_
        rintro e w5 ⟨rfl, hb5, hT5⟩
        have T5 := hide hT5
        have B5 := hide (B3.out.trans hb5)
        clear hb5 hT5 HST HST2
        generalize hl' : Lg.backL x l to = l' at *
        generalize Lg.backE x l to = x' at *
        clear hl'
        obtain ⟨sv5, hl5⟩ := T5.out.led
        obtain ⟨vl5, vk5, hr5⟩ := T5.out.ref
        have HF := hide (from_c _ _ _ _ hl5.blk)
        have HE1 := hide (end_c hl5 T5.out.good)
        clear hl5 hr5
        go_wp2_with fail
        refine HF.out.mono ?_
        rintro e w6 ⟨rfl, rfl⟩
        go_wp2_with fail
        refine HE1.out.mono ?_
        rintro e w6 ⟨rfl, n6, rfl⟩
        have HE2 := hide (rend_c (T5.out.ref.choose_spec.choose_spec.drewN n6) T5.out.good)
        have T6 := hide (T5.out.later (show Below w5.heap.size w5 (w5.drewN n6) from below_drewN (Below.refl _ _) n6))
        have B6 := hide (below_drewN B5.out n6)
        go_wp2_with fail
        refine HE2.out.mono ?_
        rintro e w7 ⟨rfl, n7, rfl⟩
        generalize Lg.fin x l' = z' at *
        have T7 := hide (T6.out.later (show Below (w5.drewN n6).heap.size (w5.drewN n6) ((w5.drewN n6).drewN n7) from below_drewN (Below.refl _ _) n7))
        have B7 := hide (below_drewN B6.out n7)
        clear HF HE1 HE2 T6 B6
        rw [World.drewN_drewN] at T7 B7
        obtain ⟨w8, hw8⟩ : ∃ w8, w5.drewN (n6 + n7) = w8 := ⟨_, rfl⟩
        rw [hw8] at T7 B7
        try rw [World.drewN_drewN]
        rw [hw8]
        clear hw8
        obtain ⟨sva, hla⟩ := T7.out.led
        have HA := hide (accepted_c hla T7.out.good.len)
        have sza := T7.out.size
        clear hla
        go_wp2_with fail
        refine HA.out.mono ?_
        rintro e wa ⟨va, rfl, hra, hba⟩
        have Ta := hide (T7.out.later hba)
        have Ba := hide (B7.out.trans (hba.mono sza))
        have Ra := hide hra
        obtain ⟨vlb, vkb, hlb⟩ := Ta.out.ref
        have HO := hide (of_c hlb Ta.out.good.len true)
        have szb := Ta.out.size
        clear hra hba hlb HA T7 B7
        go_wp2_with fail
        refine HO.out.mono ?_
        rintro e wb ⟨vb, rfl, hrb, hbb⟩
        have Tb := hide (Ta.out.later hbb)
        have Bb := hide (Ba.out.trans (hbb.mono szb))
        have Ra2 := hide (ownsRow_only Ra.out (Only.of_below (S := fun k => wa.heap.size ≤ k) hbb fun _ h => h) (fun k hk => by have := (Ra.out.lt k hk).2; omega))
        have HS := hide (same_lists Ra2.out hrb Tb.out.good.len)
        have szc := Tb.out.size
        clear hrb hbb HO Ta Ba Ra Ra2
        go_wp2_with fail
        refine HS.out.mono ?_
        rintro e wc ⟨rfl, nc, rfl⟩
        have T72 := hide (Tb.out.later (show Below wb.heap.size wb (wb.drewN nc) from below_drewN (Below.refl _ _) nc))
        have B72 := hide (below_drewN Bb.out nc)
        clear HS Tb Bb
        obtain ⟨sva2, hla2⟩ := T72.out.led
        have HA2 := hide (skipped_c hla2 T72.out.good.len)
        have sza2 := T72.out.size
        clear hla2
        go_wp2_with fail
        refine HA2.out.mono ?_
        rintro e wa2 ⟨va2, rfl, hra2, hba2⟩
        have Ta2 := hide (T72.out.later hba2)
        have Ba2 := hide (B72.out.trans (hba2.mono sza2))
        have Ra2 := hide hra2
        obtain ⟨vlb2, vkb2, hlb2⟩ := Ta2.out.ref
        have HO2 := hide (of_c hlb2 Ta2.out.good.len false)
        have szb2 := Ta2.out.size
        clear hra2 hba2 hlb2 HA2 T72 B72
        go_wp2_with fail
        refine HO2.out.mono ?_
        rintro e wb2 ⟨vb2, rfl, hrb2, hbb2⟩
        have Tb2 := hide (Ta2.out.later hbb2)
        have Bb2 := hide (Ba2.out.trans (hbb2.mono szb2))
        have Ra22 := hide (ownsRow_only Ra2.out (Only.of_below (S := fun k => wa2.heap.size ≤ k) hbb2 fun _ h => h) (fun k hk => by have := (Ra2.out.lt k hk).2; omega))
        have HS2 := hide (same_lists Ra22.out hrb2 Tb2.out.good.len)
        have szc2 := Tb2.out.size
        clear hrb2 hbb2 HO2 Ta2 Ba2 Ra2 Ra22
        go_wp2_with fail
        refine HS2.out.mono ?_
        rintro e wc2 ⟨rfl, nc2, rfl⟩
        have T722 := hide (Tb2.out.later (show Below wb2.heap.size wb2 (wb2.drewN nc2) from below_drewN (Below.refl _ _) nc2))
        have B722 := hide (below_drewN Bb2.out nc2)
        clear HS2 Tb2 Bb2
        go_wp2
        go_roundw
        case rel => exact ⟨k + 1, l', by omega, by go_num, T722.out, B722.out⟩
        case measure => simp [intOf]; omega
      · rw [hm] at HD
        clear hm hmb
        go_wp2_with fail
        refine (HD.out w3 (by decide) (by decide)).mono ?_
        rintro e w4 ⟨rfl, rfl⟩
        obtain ⟨sv3, hl3⟩ := T3.out.led
        have HI1 := hide (isat_c hl3 HG.out.len to)
        have sz3 := T3.out.size
        clear hl3
        go_wp2_with fail
        refine HI1.out.mono ?_
        rintro e w4 ⟨rfl, hb4⟩
        have T4 := hide (T3.out.later hb4)
        have B4 := hide (B3.out.trans (hb4.mono sz3))
        obtain ⟨vl4, vk4, hr4⟩ := T4.out.ref
        have HI2 := hide (ris_c hr4 HG.out.len to)
        clear hb4 hr4
        go_wp2_with fail
        refine HI2.out.mono ?_
        rintro e w5 ⟨rfl, rfl⟩
        have T5 := hide T4.out
        have B5 := hide B4.out
        clear T4 B4 HI1 HI2
        generalize Lg.isB l to = bb at *
        generalize Lg.isE l to = x' at *
        obtain ⟨w5, hw5⟩ : ∃ w5, w4 = w5 := ⟨_, rfl⟩
        rw [hw5] at T5 B5 ⊢
        clear hw5
        obtain ⟨l', hl'⟩ : ∃ l', l = l' := ⟨_, rfl⟩
        rw [hl'] at T5
        obtain ⟨sv5, hl5⟩ := T5.out.led
        obtain ⟨vl5, vk5, hr5⟩ := T5.out.ref
        have HF := hide (from_c _ _ _ _ hl5.blk)
        have HE1 := hide (end_c hl5 T5.out.good)
        clear hl5 hr5
        go_wp2_with fail
        refine HF.out.mono ?_
        rintro e w6 ⟨rfl, rfl⟩
        go_wp2_with fail
        refine HE1.out.mono ?_
        rintro e w6 ⟨rfl, n6, rfl⟩
        have HE2 := hide (rend_c (T5.out.ref.choose_spec.choose_spec.drewN n6) T5.out.good)
        have T6 := hide (T5.out.later (show Below w5.heap.size w5 (w5.drewN n6) from below_drewN (Below.refl _ _) n6))
        have B6 := hide (below_drewN B5.out n6)
        go_wp2_with fail
        refine HE2.out.mono ?_
        rintro e w7 ⟨rfl, n7, rfl⟩
        generalize Lg.fin x l' = z' at *
        have T7 := hide (T6.out.later (show Below (w5.drewN n6).heap.size (w5.drewN n6) ((w5.drewN n6).drewN n7) from below_drewN (Below.refl _ _) n7))
        have B7 := hide (below_drewN B6.out n7)
        clear HF HE1 HE2 T6 B6
        rw [World.drewN_drewN] at T7 B7
        obtain ⟨w8, hw8⟩ : ∃ w8, w5.drewN (n6 + n7) = w8 := ⟨_, rfl⟩
        rw [hw8] at T7 B7
        try rw [World.drewN_drewN]
        rw [hw8]
        clear hw8
        obtain ⟨sva, hla⟩ := T7.out.led
        have HA := hide (accepted_c hla T7.out.good.len)
        have sza := T7.out.size
        clear hla
        go_wp2_with fail
        refine HA.out.mono ?_
        rintro e wa ⟨va, rfl, hra, hba⟩
        have Ta := hide (T7.out.later hba)
        have Ba := hide (B7.out.trans (hba.mono sza))
        have Ra := hide hra
        obtain ⟨vlb, vkb, hlb⟩ := Ta.out.ref
        have HO := hide (of_c hlb Ta.out.good.len true)
        have szb := Ta.out.size
        clear hra hba hlb HA T7 B7
        go_wp2_with fail
        refine HO.out.mono ?_
        rintro e wb ⟨vb, rfl, hrb, hbb⟩
        have Tb := hide (Ta.out.later hbb)
        have Bb := hide (Ba.out.trans (hbb.mono szb))
        have Ra2 := hide (ownsRow_only Ra.out (Only.of_below (S := fun k => wa.heap.size ≤ k) hbb fun _ h => h) (fun k hk => by have := (Ra.out.lt k hk).2; omega))
        have HS := hide (same_lists Ra2.out hrb Tb.out.good.len)
        have szc := Tb.out.size
        clear hrb hbb HO Ta Ba Ra Ra2
        go_wp2_with fail
        refine HS.out.mono ?_
        rintro e wc ⟨rfl, nc, rfl⟩
        have T72 := hide (Tb.out.later (show Below wb.heap.size wb (wb.drewN nc) from below_drewN (Below.refl _ _) nc))
        have B72 := hide (below_drewN Bb.out nc)
        clear HS Tb Bb
        obtain ⟨sva2, hla2⟩ := T72.out.led
        have HA2 := hide (skipped_c hla2 T72.out.good.len)
        have sza2 := T72.out.size
        clear hla2
        go_wp2_with fail
        refine HA2.out.mono ?_
        rintro e wa2 ⟨va2, rfl, hra2, hba2⟩
        have Ta2 := hide (T72.out.later hba2)
        have Ba2 := hide (B72.out.trans (hba2.mono sza2))
        have Ra2 := hide hra2
        obtain ⟨vlb2, vkb2, hlb2⟩ := Ta2.out.ref
        have HO2 := hide (of_c hlb2 Ta2.out.good.len false)
        have szb2 := Ta2.out.size
        clear hra2 hba2 hlb2 HA2 T72 B72
        go_wp2_with fail
        refine HO2.out.mono ?_
        rintro e wb2 ⟨vb2, rfl, hrb2, hbb2⟩
        have Tb2 := hide (Ta2.out.later hbb2)
        have Bb2 := hide (Ba2.out.trans (hbb2.mono szb2))
        have Ra22 := hide (ownsRow_only Ra2.out (Only.of_below (S := fun k => wa2.heap.size ≤ k) hbb2 fun _ h => h) (fun k hk => by have := (Ra2.out.lt k hk).2; omega))
        have HS2 := hide (same_lists Ra22.out hrb2 Tb2.out.good.len)
        have szc2 := Tb2.out.size
        clear hrb2 hbb2 HO2 Ta2 Ba2 Ra2 Ra22
        go_wp2_with fail
        refine HS2.out.mono ?_
        rintro e wc2 ⟨rfl, nc2, rfl⟩
        have T722 := hide (Tb2.out.later (show Below wb2.heap.size wb2 (wb2.drewN nc2) from below_drewN (Below.refl _ _) nc2))
        have B722 := hide (below_drewN Bb2.out nc2)
        clear HS2 Tb2 Bb2
        go_wp2
        go_roundw
        case rel => exact ⟨k + 1, l', by omega, by go_num, T722.out, B722.out⟩
        case measure => simp [intOf]; omega
    · by_cases hlt2 : k < len
      · have h150 : ¬ k < 150 := by omega
        clear hlt
        go_wp2_with (go_at_call 9; refine (works_c wr).mono ?_; rintro e w' ⟨rfl, hb⟩; have HW := hide (HB.out.trans (hb.mono sz)); clear hb)
        go_ret
        exact ⟨rfl, HW.out⟩
      · clear hlt
        go_wp2_with (go_at_call 9; refine (works_c wr).mono ?_; rintro e w' ⟨rfl, hb⟩; have HW := hide (HB.out.trans (hb.mono sz)); clear hb)
        go_ret
        exact ⟨rfl, HW.out⟩

theorem plays_c (x : Int) (w : World) (v : Value) (ac : Nat → Ac) (len : Nat) (ha : ActsAt w.heap.size w v ac len) : Calls Try.prog 4 #[.int .i64 x, v] w fun e w' => e = .returned (.bool true) ∧ Below w.heap.size w w' := by
  by_cases h : 0 ≤ x ∧ x ≤ 1099511627776
  · exact plays_ok x w v ac len ha h.1 h.2
  · exact plays_bad x w v (by omega)

end Go.Proofs.Ytmlkoehkodbomaa
