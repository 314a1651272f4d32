/-
  The walk of the law LedgerCopies.
-/
import Derived.Test.YtmlkoehkodbomaaTwo
namespace Go.Proofs.Ytmlkoehkodbomaa
open Go.RowKit

theorem ActsAt.below {w w1 : World} {v : Value} {ac : Nat → Ac} {len : Nat} (ha : ActsAt w.heap.size w v ac len) (hB1 : Below w.heap.size w w1) : ActsAt w1.heap.size w1 v ac len := by
  have sz1 := hB1.size
  obtain ⟨ao, cap, hv, hc⟩ := ha
  refine ⟨ao, cap, hv, fun hpos => ?_⟩
  obtain ⟨g, off, e, hg, hcs⟩ := hc hpos
  refine ⟨g, off, e, by omega, fun j hj => ?_⟩
  obtain ⟨c1, c2, c3⟩ := hcs j hj
  exact ⟨(hB1.cell (p := ⟨g, off + j * 3, none⟩) hg).trans c1, (hB1.cell (p := ⟨g, off + j * 3 + 1, none⟩) hg).trans c2, (hB1.cell (p := ⟨g, off + j * 3 + 2, none⟩) hg).trans c3⟩

theorem same_self (p : List (Int × Int)) : sameB p p = true := by simp [sameB]
theorem Led.from_ {w : World} {B b : Nat} {s : Value} {f : Int} {l : List Sp} (h : Led w B b s f l) : Calls Try.prog 25 #[.pointer (some ⟨b, 0, none⟩)] w fun e w' => e = .returned (.int .i64 f) ∧ w = w' := from_c _ _ _ _ h.blk
theorem Gives.len {kd : Bool} {l : List Sp} {w w' : World} {v : Value} (h : w'.ownsRow w.heap.size 48 2 v (Lg.of kd l).length (pairs (Lg.of kd l))) (hl : l = []) : ∃ ao cap, v = .slice ao 0 cap := by
  subst hl
  obtain ⟨ao, cap, rfl, _⟩ := ownsRow_shape h
  exact ⟨ao, cap, rfl⟩

set_option maxRecDepth 100000 in
set_option maxHeartbeats 8000000 in
theorem copies_c (x : Int) (w : World) (v : Value) (ac : Nat → Ac) (len : Nat) (ha : ActsAt w.heap.size w v ac len) : Calls Try.prog 7 #[.int .i64 x, v] w fun e w' => e = .returned (.bool true) ∧ Below w.heap.size w w' := by
  go_enter Try.func7, Try.ntmps7
  go_wp2_with fail
  refine (works_c w).mono ?_
  rintro e w1 ⟨rfl, hB1⟩
  have HB1 := hide hB1
  have sz1 := hB1.size
  have HBU := hide (built_c x w1 v ac len (ha.below hB1))
  clear ha hB1
  generalize among x 1000 = a at *
  go_wp2_with fail
  refine HBU.out.mono ?_
  rintro e w2 ⟨rfl, sv, l, hL, hG, hA, hB2⟩
  have HL := hide hL
  have HG := hide hG
  have HB2 := hide (HB1.out.trans (hB2.mono sz1))
  have sz2 := hB2.size
  have hlen := hG.len
  clear hL hG hA hB2 HB1 HBU
  generalize hBB : w1.heap.size = B at *
  clear hBB
  go_wp2_with fail
  refine (copy_c HL.out hlen).mono ?_
  rintro e w3 ⟨c, t, rfl, hL3, hB3⟩
  have HT := hide (two_start (w0 := w) HL.out sz1 sz2 hL3 hB3)
  have HB3 := hide (HB2.out.trans (hB3.mono (Nat.le_trans sz1 sz2)))
  clear hL3 hB3 HL HB2
  generalize hCC : w2.heap.size = C at *
  clear hCC
  have hfb : 0 ≤ Lg.fin a l ∧ Lg.fin a l ≤ 1099511627776 := ⟨by have := HG.out.fin_ge; have := HG.out.lo; omega, HG.out.top⟩
  have GA := hide (Lg.good_add HG.out (Lg.fin a l + 5) true)
  have GN := hide (Lg.good_nil HG.out.lo HG.out.hi)
  have BL := hide (Lg.backL_from GA.out)
  have BE := hide (Lg.backE_from GA.out)
  have KK := hide (fun (k : Nat) (h : k < w.heap.size) => h)
  generalize hZ : Lg.fin a l = z at *
  have HZ := hide hZ
  clear hZ
  go_wp2_with fail
  have HEnd := hide (fun (w9 : World) (b9 B9 : Nat) (s9 : Value) (hL9 : Led w9 B9 b9 s9 a l) => by have := end_c hL9 HG.out; rw [HZ.out] at this; exact this)
  have hE : Calls Try.prog 16 #[.pointer (some ⟨B, 0, none⟩)] w3 fun e w' => e = .returned (.int .i64 z) ∧ ∃ n, w' = w3.drewN n := by
    obtain ⟨s, t, h1, _⟩ := HT.out.ex
    exact HEnd.out _ _ _ _ h1
  refine hE.mono ?_
  clear hE
  rintro e w4 ⟨rfl, n4, rfl⟩
  have HT4 := hide (HT.out.drewN n4)
  have HB4 := hide (below_drewN HB3.out n4)
  clear HT HB3
  generalize w3.drewN n4 = w4 at *
  have hE : Calls Try.prog 14 #[.pointer (some ⟨B, 0, none⟩)] w4 (Gives true l w4) := by
    obtain ⟨s, t, h1, _⟩ := HT4.out.ex
    exact accepted_c h1 hlen
  go_wp2_with fail
  refine hE.mono ?_
  clear hE
  rintro e w5 ⟨va, rfl, hr5, hb5⟩
  have HT5 := hide (HT4.out.beside hb5 hr5)
  have sz4 : w.heap.size ≤ w4.heap.size := HB4.out.size
  have HB5 := hide (HB4.out.trans (hb5.mono sz4))
  have HR5 := hide hr5
  have HKA := hide (fun (k : Nat) (h : k < w.heap.size) => (Or.inl h : k < w.heap.size ∨ va.ownBlock = some k))
  have HKV := hide (fun (k : Nat) (h : va.ownBlock = some k) => (Or.inr h : k < w.heap.size ∨ va.ownBlock = some k))
  have sz5 : w.heap.size ≤ w5.heap.size := HB5.out.size
  clear hr5 hb5 HT4 HB4
  generalize hKd : (fun k => k < w.heap.size ∨ va.ownBlock = some k) = K at *
  have HKA : Hid (∀ k, k < w.heap.size → K k) := by rw [← hKd]; exact HKA
  have HKV : Hid (∀ k, va.ownBlock = some k → K k) := by rw [← hKd]; exact HKV
  clear hKd
  go_wp2_with fail
  have hE := HT5.out.right (F := 13) (args := #[.pointer (some ⟨c, 0, none⟩), .int .i64 (z + 5)]) (fun s h => by have := accept_c h HG.out HT5.out.hC (z + 5); exact this)
  refine hE.mono ?_
  clear hE
  rintro e w6 ⟨rfl, hO6, hT6⟩
  have HB6 := hide (HB5.out.trans (below_only hO6 sz5 HKA.out))
  have sz6 : w.heap.size ≤ w6.heap.size := HB6.out.size
  have HR6 := hide (ownsRow_only HR5.out hO6 (fun k hk hn => hn (HKV.out k hk)))
  have HT6 := hide hT6
  clear hO6 hT6 HB5 HT5 HR5
  generalize Lg.addL a l (z + 5) true = l6 at *
  have hE : Calls Try.prog 25 #[.pointer (some ⟨c, 0, none⟩)] w6 fun e w' => e = .returned (.int .i64 a) ∧ w6 = w' := by
    obtain ⟨s, t, _, h1, _⟩ := HT6.out.ex
    exact h1.from_
  go_wp2_with fail
  refine hE.mono ?_
  clear hE
  rintro e w7 ⟨rfl, rfl⟩
  go_wp2_with fail
  have hE := HT6.out.right (F := 21) (args := #[.pointer (some ⟨c, 0, none⟩), .int .i64 a]) (r' := []) (x := 0) (fun s h => by have := back_c h GA.out a; rw [BL.out, BE.out] at this; exact this)
  refine hE.mono ?_
  clear hE
  rintro e w8 ⟨rfl, hO8, hT8⟩
  have HB8 := hide (HB6.out.trans (below_only hO8 sz6 HKA.out))
  have sz8 : w.heap.size ≤ w8.heap.size := HB8.out.size
  have HR8 := hide (ownsRow_only HR6.out hO8 (fun k hk hn => hn (HKV.out k hk)))
  have HT8 := hide hT8
  clear hO8 hT8 HB6 HT6 HR6 GA BL BE
  have hE : Calls Try.prog 16 #[.pointer (some ⟨B, 0, none⟩)] w8 fun e w' => e = .returned (.int .i64 z) ∧ ∃ n, w' = w8.drewN n := by
    obtain ⟨s, t, h1, _⟩ := HT8.out.ex
    exact HEnd.out _ _ _ _ h1
  go_wp2_with fail
  refine hE.mono ?_
  clear hE
  rintro e w9 ⟨rfl, n9, rfl⟩
  have HT9 := hide (HT8.out.drewN n9)
  have HB9 := hide (below_drewN HB8.out n9)
  have HR9 := hide (show (w8.drewN n9).ownsRow w4.heap.size 48 2 va (Lg.of true l).length (pairs (Lg.of true l)) from HR8.out)
  have sz9 : w.heap.size ≤ (w8.drewN n9).heap.size := HB9.out.size
  clear HT8 HB8 HR8
  generalize w8.drewN n9 = w9 at *
  have hE : Calls Try.prog 14 #[.pointer (some ⟨B, 0, none⟩)] w9 (Gives true l w9) := by
    obtain ⟨s, t, h1, _⟩ := HT9.out.ex
    exact accepted_c h1 hlen
  go_wp2_with fail
  refine hE.mono ?_
  clear hE
  rintro e w10 ⟨vb, rfl, hr, hb⟩
  have HT10 := hide (HT9.out.later hb)
  have HB10 := hide (HB9.out.trans (hb.mono sz9))
  have sz10 : w.heap.size ≤ w10.heap.size := HB10.out.size
  have HRA := hide (show w10.ownsRow w4.heap.size 48 2 va (Lg.of true l).length (pairs (Lg.of true l)) from ownsRow_only HR9.out (Only.of_below (S := fun k => w9.heap.size ≤ k) hb fun _ h => h) (fun k hk => by have := (HR9.out.lt k hk).2; omega))
  have HRB := hide hr
  clear hr hb HT9 HB9 HR9
  go_wp2_with fail
  have hE : Calls Try.prog 26 #[vb, va] w10 fun e w' => e = .returned (.bool true) ∧ ∃ n, w' = w10.drewN n := by
    have h1 := HRB.out
    have h2 := HRA.out
    have hl : (Lg.of true l).length = (ends (Lg.of true l)).length := by simp [ends]
    rw [pairs_prs, hl] at h1 h2
    have := same_c h1 h2 (by have := Lg.length_of_le true l; simp [ends]; omega)
    rw [same_self] at this
    exact this
  refine hE.mono ?_
  clear hE HRA HRB
  rintro e w11 ⟨rfl, n11, rfl⟩
  have HT11 := hide (HT10.out.drewN n11)
  have HB11 := hide (below_drewN HB10.out n11)
  clear HT10 HB10
  generalize w10.drewN n11 = w11 at *
  have hE : Calls Try.prog 16 #[.pointer (some ⟨c, 0, none⟩)] w11 fun e w' => e = .returned (.int .i64 a) ∧ ∃ n, w' = w11.drewN n := by
    obtain ⟨s, t, _, h1, _⟩ := HT11.out.ex
    exact end_c h1 GN.out
  go_wp2_with fail
  refine hE.mono ?_
  clear hE
  rintro e w12 ⟨rfl, n12, rfl⟩
  have HT12 := hide (HT11.out.drewN n12)
  have HB12 := hide (below_drewN HB11.out n12)
  clear HT11 HB11
  generalize w11.drewN n12 = w12 at *
  have hE : Calls Try.prog 25 #[.pointer (some ⟨B, 0, none⟩)] w12 fun e w' => e = .returned (.int .i64 a) ∧ w12 = w' := by
    obtain ⟨s, t, h1, _⟩ := HT12.out.ex
    exact h1.from_
  go_wp2_with fail
  refine hE.mono ?_
  clear hE
  rintro e w13 ⟨rfl, rfl⟩
  have hE : Calls Try.prog 14 #[.pointer (some ⟨c, 0, none⟩)] w12 (Gives true [] w12) := by
    obtain ⟨s, t, _, h1, _⟩ := HT12.out.ex
    exact accepted_c h1 (by simp)
  have sz12 : w.heap.size ≤ w12.heap.size := HB12.out.size
  go_wp2_with fail
  refine hE.mono ?_
  clear hE
  rintro e w14 ⟨vc, rfl, hr, hb⟩
  obtain ⟨ao, cap, rfl⟩ := Gives.len hr rfl
  have HT14 := hide (HT12.out.later hb)
  have HB14 := hide (HB12.out.trans (hb.mono sz12))
  clear hr hb HT12 HB12
  have hE : Calls Try.prog 15 #[.pointer (some ⟨c, 0, none⟩)] w14 (Gives false [] w14) := by
    obtain ⟨s, t, _, h1, _⟩ := HT14.out.ex
    exact skipped_c h1 (by simp)
  have sz14 : w.heap.size ≤ w14.heap.size := HB14.out.size
  go_wp2_with fail
  refine hE.mono ?_
  clear hE
  rintro e w15 ⟨vd, rfl, hr, hb⟩
  obtain ⟨ao2, cap2, rfl⟩ := Gives.len hr rfl
  have HB15 := hide (HB14.out.trans (hb.mono sz14))
  clear hr hb HT14 HB14
  go_wp2
  go_ret
  exact ⟨rfl, HB15.out⟩

end Go.Proofs.Ytmlkoehkodbomaa
