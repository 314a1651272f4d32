/-
  The walk of the law CellKeeps.
-/
import Derived.Test.YtaoonjamlcdfaaaSame
import Derived.Test.YtaoonjamlcdfaaaCounts
namespace Go.Proofs.Ytaoonjamlcdfaaa
open Go.RowKit

namespace Cs
theorem numsOf_storeL {l : List Cl} {k : Int} {t : Cl} (h : get l k = some t) (v : Int) : numsOf (storeL l k v) = (numsOf l).set k.toNat v := by
  have h0 := (get_some h).1
  simp only [storeL, h, put_at h0, numsOf, write, List.map_set]
theorem get_store {l : List Cl} {k : Int} {t : Cl} (h : get l k = some t) (v : Int) : get (storeL l k v) k = some (write t v) := by
  obtain ⟨h0, h1, h2⟩ := get_some h
  have hk : k.toNat < l.length := by omega
  simp only [storeL, h, put_at h0]
  unfold get
  rw [if_pos h0]
  simp [hk]
end Cs
theorem numsOf_length (l : List Cl) : (numsOf l).length = l.length := by simp [numsOf]
theorem intsOf_set (p : List Int) (k : Nat) (v : Int) : intsOf (p.set k v) = (intsOf p).set k (.int .i64 v) := by simp [intsOf, List.map_set]

/-- What All hands back, kept behind what turns other blocks. -/
theorem row_below {w w' : World} {B n e size : Nat} {v : Value} {xs : List Value} (h : w.ownsRow B e size v n xs) (hb : Below w.heap.size w w') : w'.ownsRow B e size v n xs :=
  ownsRow_only h (Only.of_below (S := fun k => w.heap.size ≤ k) hb fun _ h => h) (fun k hk => by have := (h.lt k hk).2; omega)

set_option maxRecDepth 100000 in
set_option maxHeartbeats 8000000 in
theorem keeps_c (n0 : Int) (v0 : Value) (x : Nat → Int) (len : Nat) (at0 v : Int) (w : World) (ha : IntsAt w.heap.size w v0 x len) : Calls Try.prog 4 #[.int .i64 n0, v0, .int .i64 at0, .int .i64 v] w fun e w' => e = .returned (.bool true) ∧ Below w.heap.size w w' := by
  obtain ⟨ao, cap, rfl, _, _, _, hcell⟩ := ha
  have HC := hide hcell
  clear hcell
  have hnb := among_bd n0 64 (by decide)
  have HAM := hide (among_c n0 64)
  obtain ⟨n, hn⟩ : ∃ n : Nat, 1 + among n0 64 = n := ⟨(1 + among n0 64).toNat, by omega⟩
  have hn1 : 1 ≤ n := by omega
  have hn2 : n ≤ 64 := by omega
  generalize among n0 64 = m at *
  have s1 : IntKind.i64.wrap (1 + m) = (n : Int) := by rw [IntKind.wrap_i64]; omega
  clear hn hnb
  go_enter Try.func4, Try.ntmps4
  go_wp2_with fail
  refine (works_c w).mono ?_
  rintro e w1 ⟨rfl, hB1⟩
  have HB1 := hide hB1
  have sz1 := hB1.size
  clear hB1
  go_wp2_with fail
  refine (HAM.out w1 (by decide) (by decide)).mono ?_
  rintro e w2 ⟨rfl, rfl⟩
  go_wp2_with fail
  refine (make_ok n hn1 hn2 w1).mono ?_
  rintro e w2 ⟨b, g, rfl, hm, hb⟩
  have H2 := hide (made_held hm hb)
  clear hm hb s1 HAM
  go_wp2_with fail
  go_loopw [11] (fun i wr => ∃ (k : Nat) (l : List Cl), k ≤ len ∧ i = .int .i64 k ∧ l.length = n ∧ Held w1 wr b g n l) (fun i _ => len - (intOf i).toNat)
  case atStart => exact ⟨0, _, Nat.zero_le _, rfl, Cs.new_length n, H2.out⟩
  case round =>
    obtain ⟨k, l, hk, rfl, hln, hH⟩ := hrel
    have HH := hide hH
    clear hH H2
    by_cases hlt : k < len ∧ k < 100
    · obtain ⟨hk1, hk2⟩ := hlt
      have hk2' : (k : Int) < 100 := by omega
      obtain ⟨ga, off, rfl, hga, hcs⟩ := HC.out (by omega)
      have K := hide (fun (w' : World) (hb : Below w1.heap.size w1 w') => ((HB1.out.trans (hb.mono sz1)).cell (p := ⟨ga, off + k, none⟩) hga).trans (hcs k hk1))
      have c1 := K.out wr HH.out.below
      clear hcs
      have HA := hide (among_c (x k) n)
      have HAB := hide (among_bd (x k) n (by omega))
      generalize x k = y at *
      have HT := hide (fun q => (HH.out.drewN 1).turn (store_c (HH.out.drewN 1).mem q y))
      have HL := hide (fun q => (Cs.storeL_length l q y).trans hln)
      clear HH
      go_wp2_with fail
      go_region_held3 (fun w' => w'.cell? ⟨ga, off + k, none⟩ = some (.int .i64 y))
        (first | go_keep | exact K.out _ h3.below)
        ((first | (go_at_call 18; refine (HA.out _ (by omega) (by omega)).mono ?_; rintro e w' ⟨rfl, rfl⟩) | (go_at_call 21; refine (HT.out _).mono ?_; rintro e w3 ⟨rfl, h3⟩)))
      go_wp2
      go_roundw
      case rel => exact ⟨k + 1, _, by omega, by go_num, HL.out _, h3⟩
      case measure => simp [intOf]; omega
    · have hsp : (k < len ∧ ¬ (k : Int) < 100) ∨ ¬ k < len := by omega
      rcases hsp with ⟨h1, h2⟩ | h1 <;> clear hlt <;> go_wp2_with fail
      all_goals
        obtain ⟨hq0, hq1⟩ := among_bd at0 n (by omega)
        have HA := hide (among_c at0 n)
        generalize among at0 n = q at *
        obtain ⟨t, ht⟩ := Cs.get_in (l := l) hq0 (by omega)
        have hN := hide (Cs.numsOf_storeL ht v)
        have hG := hide (Cs.get_store ht v)
        have e1 : Cs.loadE l q = 0 := by simp only [Cs.loadE, ht]
        have e2 : Cs.loadE (Cs.storeL l q v) q = 0 := by simp only [Cs.loadE, hG.out]
        have e3 : Cs.loadV (Cs.storeL l q v) q = v := by simp only [Cs.loadV, hG.out, Cs.write]
        have hl2 : (numsOf l).length = n := (numsOf_length l).trans hln
        have hl3 : (numsOf (Cs.storeL l q v)).length = n := (numsOf_length _).trans ((Cs.storeL_length l q v).trans hln)
        have E1 := hide e1
        have E2 := hide e2
        have E3 := hide e3
        have L2 := hide hl2
        have L3 := hide hl3
        clear e1 e2 e3 hl2 hl3 hG ht hln
        refine (all_c HH.out.mem).mono ?_
        rintro e w3 ⟨va, rfl, hr3, hb3⟩
        have H3 := hide (HH.out.later hb3)
        have hg3 := HH.out.mem.lt.2
        have hszr := HH.out.size
        rw [L2.out] at hr3
        have R3 := hide hr3
        have hB3 := hr3.lt
        clear HH hr3 hb3
        go_wp2_with fail
        refine (HA.out w3 (by omega) (by omega)).mono ?_
        rintro e w4 ⟨rfl, rfl⟩
        have hST := store_c H3.out.mem q v
        rw [E1.out] at hST
        have HST := hide (hST)
        clear hST E1 HA
        go_wp2_with fail
        have hT := H3.out.turn HST.out
        have HO := hide HST.out
        refine HST.out.mono ?_
        rintro e w4 ⟨rfl, hm4, ho4⟩
        have H4 := hide (show Held w1 w4 b g n (Cs.storeL l q v) from ⟨hm4, only_below H3.out.below ho4 H3.out.size H3.out.mem.lt.1⟩)
        have R4 := hide (ownsRow_only R3.out ho4 (fun j hj e => by have := (hB3 j hj).1; omega))
        clear hT HO HST hm4 ho4 H3 R3 hB3 hg3
        go_wp2_with fail
        refine (all_c H4.out.mem).mono ?_
        rintro e w5 ⟨vb, rfl, hr5, hb5⟩
        have H5 := hide (H4.out.later hb5)
        have R5 := hide (row_below R4.out hb5)
        rw [L3.out] at hr5
        have S5 := hide hr5
        have hS5 := hide hr5.lt
        have hR5 := hide R4.out.lt
        clear H4 R4 hr5 hb5
        have hLD := load_c H5.out.mem q
        rw [E2.out, E3.out] at hLD
        have HLD := hide hLD
        clear hLD E2 E3
        go_wp2_with fail
        refine HLD.out.mono ?_
        rintro e w6 ⟨rfl, rfl⟩
        obtain ⟨gv, cv, rfl, _, _, hgv, _, hcv, hfv⟩ := ownsRow_pos R5.out (by omega)
        have hs := (R5.out.stored q.toNat (.int .i64 v)).1
        rw [← intsOf_set, ← hN.out] at hs
        have HS := hide hs
        have hne : ∀ j, vb.ownBlock = some j → j ≠ gv := by
          intro j hj e
          have := (hS5.out j hj).1
          have := (hR5.out gv rfl).2
          omega
        have hs2 := ownsRow_far (p := ⟨gv, q.toNat, none⟩) S5.out (fun e => hne gv e rfl) (.int .i64 v)
        have HS2 := hide hs2
        have HB6 := hide (show Below w.heap.size w (w5.setCell ⟨gv, q.toNat, none⟩ (.int .i64 v)) from (HB1.out.trans (H5.out.below.mono sz1)).trans ((Only.refl (fun k => k = gv) w5).setCell (p := ⟨gv, q.toNat, none⟩) (.inl rfl) _ |>.below (by have := H5.out.size; omega) (fun k hk => by have := R5.out.lt gv rfl; have := H5.out.size; have := hR5.out gv rfl; omega)))
        have c1 : ∃ u, w5.cell? ⟨gv, q.toNat, none⟩ = some (.int .i64 u) := by
          have hlt : q.toNat < (numsOf l).length := by rw [L2.out]; omega
          exact ⟨(numsOf l)[q.toNat], hcv _ _ (intsOf_at _ _ _ (List.getElem?_eq_getElem hlt))⟩
        obtain ⟨u, c1⟩ := c1
        have f1 := hfv q.toNat
        clear hs hs2 hne hcv hfv R5 S5 hS5 hR5 H5 hgv
        go_wp2_with fail
        have hp := numsOf_length (Cs.storeL l q v)
        have hSM : Calls Try.prog 23 #[vb, .slice (some ⟨gv, 0, none⟩) n cv] (w5.setCell ⟨gv, q.toNat, none⟩ (.int .i64 v)) fun e w' => e = .returned (.bool true) ∧ ∃ nd, w' = (w5.setCell ⟨gv, q.toNat, none⟩ (.int .i64 v)).drewN nd := by
          have r1 := HS.out
          have r2 := HS2.out
          rw [← L3.out] at r1 r2
          have := same_c (rdI_of r2) (rdI_of r1) (by rw [L3.out]; omega)
          rwa [same_self, L3.out] at this
        obtain ⟨ab, cb, rfl, _⟩ := ownsRow_shape HS2.out
        refine hSM.mono ?_
        clear hSM hp HS HS2 L2 L3 hN
        rintro e w7 ⟨rfl, nd, rfl⟩
        go_wp2
        go_ret
        exact ⟨rfl, below_drewN HB6.out nd⟩
end Go.Proofs.Ytaoonjamlcdfaaa
