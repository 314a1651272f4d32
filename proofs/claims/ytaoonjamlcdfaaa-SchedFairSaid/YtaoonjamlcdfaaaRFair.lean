/-
  The contracts of the reference's Done and Fair.
-/
import Derived.Test.YtaoonjamlcdfaaaRStepC
import Derived.Test.YtaoonjamlcdfaaaFair
namespace Go.Proofs.Ytaoonjamlcdfaaa
open Go.RowKit

theorem runL_ses (st : St) (l : List Int) : (Sd.runL st l).ses.length = st.ses.length := by
  induction l generalizing st with
  | nil => rfl
  | cons p l ih =>
    refine (ih _).trans ?_
    unfold Sd.stepS
    split
    · rfl
    · split
      · rfl
      · simp

section
variable {w : World} {L : RLay} {st : St}
set_option maxHeartbeats 4000000 in
theorem rdone_c (h : RMach w L st) : Calls Try.prog 75 #[.pointer (some ⟨L.b, 0, none⟩)] w fun e w' => e = .returned (.bool (Sd.doneB st)) ∧ ∃ n, w' = w.drewN n := by
  obtain ⟨ao, cap, hsv, _⟩ := ownsRow_shape h.ses.row
  have hfew := h.good.few
  have c1 := h.heads.2
  rw [hsv] at c1
  have HO := hide (fun n (k : Int) => rover_c (h.drewN n) k)
  have HT := hide (fun (k : Nat) (s : Ss) (hs : st.ses[k]? = some s) => show Sd.overB st (k : Int) = Sd.over s from by
    have hg : Sd.get st.ses (k : Int) = some s := by
      unfold Sd.get
      rw [if_pos (by omega), Int.toNat_natCast]
      exact hs
    simp only [Sd.overB, hg])
  clear h hsv
  go_enter Try.func75, Try.ntmps75
  go_wp2
  go_loopw [3] (fun i wr => ∃ (k n : Nat), k ≤ st.ses.length ∧ i = .int .i64 k ∧ (st.ses.take k).all Sd.over = true ∧ wr = w.drewN n) (fun i _ => st.ses.length - (intOf i).toNat)
  case atStart => exact ⟨0, 0, Nat.zero_le _, rfl, rfl, rfl⟩
  case round =>
    obtain ⟨k, n, hk, rfl, ha, rfl⟩ := hrel
    have HA := hide ha
    clear ha
    by_cases hlt : k < st.ses.length
    · obtain ⟨s, hs⟩ : ∃ t, st.ses[k]? = some t := ⟨st.ses[k], List.getElem?_eq_getElem hlt⟩
      have hov := HO.out n k
      rw [HT.out k s hs] at hov
      have HOV := hide hov
      have HD1 := hide (fun (ho : Sd.over s = true) => done_take hs HA.out ho)
      have HD2 := hide (fun (ho : Sd.over s = false) => done_not hs ho)
      clear hov hs HA HO
      generalize Sd.over s = o at *
      go_wp2_with fail
      refine HOV.out.mono ?_
      rintro e w2 ⟨rfl, n2, rfl⟩
      clear HOV
      cases o with
      | true =>
        go_wp2
        go_roundw
        case rel => exact ⟨k + 1, _, by omega, by go_num, HD1.out (by simp), rfl⟩
        case measure => simp [intOf]; omega
      | false =>
        go_wp2
        go_ret
        exact ⟨ret_bool (HD2.out (by simp)).symm, _, rfl⟩
    · obtain rfl : k = st.ses.length := by omega
      go_wp2
      go_ret
      refine ⟨ret_bool ?_, n, rfl⟩
      have := HA.out
      rw [List.take_length] at this
      unfold Sd.doneB
      exact this.symm

set_option maxRecDepth 100000 in
set_option maxHeartbeats 8000000 in
theorem rfair_c (h : RMach w L st) (hne : 0 < st.ses.length) (most : Int) (hmost : most ≤ 1000000) :
    Calls Try.prog 53 #[.pointer (some ⟨L.b, 0, none⟩), .int .i64 most] w (RSteps L (Sd.runL st (turnsOf st.ses.length most.toNat)) (.tuple #[.int .i64 (Sd.cntL st (turnsOf st.ses.length most.toNat) : Int), .bool (Sd.doneB (Sd.runL st (turnsOf st.ses.length most.toNat)))]) w) := by
  have HH := hide h
  obtain ⟨so, scap, hsv, _⟩ := ownsRow_shape h.ses.row
  have HSV := hide hsv
  have hfew := h.good.few
  clear h hsv
  generalize hns : st.ses.length = ns at *
  go_enter Try.func53, Try.ntmps53
  go_wp2
  go_loopw [6, 7] (fun c i wr => ∃ (k : Nat), k ≤ most.toNat ∧ i = .int .i64 k ∧ c = .int .i64 (Sd.cntL st (turnsOf ns k) : Int) ∧ RMach wr L (Sd.runL st (turnsOf ns k)) ∧ Only L.may w wr) (fun _ i _ => most.toNat - (intOf i).toNat)
  case atStart => exact ⟨0, Nat.zero_le _, rfl, rfl, HH.out, Only.refl _ _⟩
  case round =>
    obtain ⟨k, hk, rfl, rfl, hM, ho⟩ := hrel
    have hcl := Sd.cntL_le st (turnsOf ns k)
    rw [turnsOf_length] at hcl
    have HM := hide hM
    have HO := hide ho
    have HD := hide (fun n => rdone_c (hM.drewN n))
    clear hM ho HH
    by_cases hlt : k < most.toNat
    · have hlt2 : (k : Int) < most := by omega
      cases hdn : Sd.doneB (Sd.runL st (turnsOf ns k)) with
      | true =>
        obtain ⟨q, hq⟩ := turnsOf_add ns k (most.toNat - k)
        rw [show k + (most.toNat - k) = most.toNat by omega] at hq
        obtain ⟨r1, r2⟩ := Sd.done_run hdn q
        have e1 : Sd.runL st (turnsOf ns most.toNat) = Sd.runL st (turnsOf ns k) := by rw [hq, Sd.runL_append, r1]
        have e2 : Sd.cntL st (turnsOf ns most.toNat) = Sd.cntL st (turnsOf ns k) := by rw [hq, Sd.cntL_append, r2]; rfl
        have HE := hide (And.intro e1 (And.intro e2 hdn))
        rw [hdn] at HD
        clear hq r1 r2 e1 e2 hdn
        generalize Sd.cntL st (turnsOf ns k) = c at *
        go_wp2_with fail
        refine (HD.out 0).mono ?_
        rintro e w2 ⟨rfl, n, hw2⟩
        have HM2 := hide (show RMach w2 L (Sd.runL st (turnsOf ns k)) by rw [hw2]; exact (HM.out.drewN 0).drewN n)
        have HO2 := hide (show Only L.may w w2 by rw [hw2]; exact (HO.out.drewN 0).drewN n)
        have HD2 := hide (rdone_c HM2.out)
        rw [HE.out.2.2] at HD2
        clear hw2 HD HM HO
        go_wp2_with fail
        refine HD2.out.mono ?_
        rintro e w3 ⟨rfl, n3, rfl⟩
        go_wp2
        go_ret2
        rw [HE.out.1, HE.out.2.1, HE.out.2.2]
        exact ⟨rfl, HM2.out.drewN _, HO2.out.drewN _⟩
      | false =>
        rw [hdn] at HD
        clear hdn
        have hrem : Int.tmod (k : Int) (ns : Int) = ((k % ns : Nat) : Int) := rfl
        have hz : ((ns : Int) = 0) = False := by simp; omega
        have hmod : k % ns < ns := Nat.mod_lt _ hne
        have hwr : IntKind.i64.wrap ((k % ns : Nat) : Int) = ((k % ns : Nat) : Int) := by rw [IntKind.wrap_i64]; omega
        have hr1 := Sd.runL_snoc st (turnsOf ns k) ((k % ns : Nat) : Int)
        have hr2 := Sd.cntL_snoc st (turnsOf ns k) ((k % ns : Nat) : Int)
        rw [← turnsOf_succ] at hr1 hr2
        have HR := hide (And.intro hr1 hr2)
        have HSL := hide (show (Sd.runL st (turnsOf ns k)).ses.length = ns from (runL_ses st _).trans hns)
        have hbl : (Sd.stepB (Sd.runL st (turnsOf ns k)) ((k % ns : Nat) : Int)).toNat ≤ 1 := Bool.toNat_le _
        generalize Sd.runL st (turnsOf ns k) = st1 at *
        generalize Sd.cntL st (turnsOf ns k) = c at *
        clear hmod hr1 hr2
        generalize ((k % ns : Nat) : Int) = p at *
        go_wp2_with fail
        refine (HD.out 0).mono ?_
        rintro e w2 ⟨rfl, n, hw2⟩
        have HM2 := hide (show RMach w2 L st1 by rw [hw2]; exact (HM.out.drewN 0).drewN n)
        have HO2 := hide (show Only L.may w w2 by rw [hw2]; exact (HO.out.drewN 0).drewN n)
        have c1 := HM2.out.heads.2
        rw [HSV.out] at c1
        have HST := hide (rstep_c HM2.out p)
        clear hw2 HD HM HO
        go_wp2_with fail
        refine HST.out.mono ?_
        rintro e w3 ⟨rfl, hm3, ho3⟩
        have HM3 := hide hm3
        have HO3 := hide (HO2.out.trans ho3 (fun _ _ h => h))
        clear hm3 ho3 HST HM2 HO2 c1
        generalize Sd.stepB st1 p = sb at *
        cases sb with
        | true =>
          go_wp2
          go_roundw
          case rel => exact ⟨k + 1, by omega, by go_num, by rw [HR.out.2]; go_num, by rw [HR.out.1]; exact HM3.out, HO3.out⟩
          case measure => simp [intOf]; omega
        | false =>
          go_wp2
          go_roundw
          case rel => exact ⟨k + 1, by omega, by go_num, by rw [HR.out.2]; rfl, by rw [HR.out.1]; exact HM3.out, HO3.out⟩
          case measure => simp [intOf]; omega
    · have hk2 : k = most.toNat := by omega
      have hge : most ≤ (k : Int) := by omega
      have HE := hide hk2
      have HD2 := hide (rdone_c HM.out)
      clear hlt HD
      go_wp2_with fail
      refine HD2.out.mono ?_
      rintro e w3 ⟨rfl, n3, rfl⟩
      go_wp2
      go_ret2
      rw [← HE.out]
      exact ⟨rfl, HM.out.drewN _, HO.out.drewN _⟩
end
end Go.Proofs.Ytaoonjamlcdfaaa
