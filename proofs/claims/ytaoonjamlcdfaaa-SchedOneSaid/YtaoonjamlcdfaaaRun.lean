/-
  The contracts of a machine's Step and Run.
-/
import Derived.Test.YtaoonjamlcdfaaaStepL
namespace Go.Proofs.Ytaoonjamlcdfaaa
open Go.RowKit

section
variable {w w' : World} {L : Lay} {st : St} {s : Ss} {i : In}
theorem Only.may_trans {w'' : World} (h : Only L.may w w') (k : Only L.may w' w'') : Only L.may w w'' := h.trans k (fun _ _ h => h)

theorem step_c (h : Mach w L st) (pick : Int) : Calls Try.prog 45 #[.pointer (some ⟨L.b, 0, none⟩), .int .i64 pick] w (Steps L (Sd.stepS st pick) (.bool (Sd.stepB st pick)) w) := by
  cases hs : Sd.get st.ses pick with
  | none =>
    have e1 : Sd.stepS st pick = st := by simp only [Sd.stepS, hs]
    have e2 : Sd.stepB st pick = false := by simp only [Sd.stepB, Sd.overB, hs]; rfl
    rw [e1, e2]
    refine (step_none h hs).mono ?_
    rintro e w' ⟨rfl, n, rfl⟩
    exact ⟨rfl, h.drewN n, (Only.refl _ _).drewN n⟩
  | some s =>
    cases ho : s.p[s.at_]? with
    | none =>
      have e1 : Sd.stepS st pick = st := by simp only [Sd.stepS, hs, ho]
      have e2 : Sd.stepB st pick = false := by
        have := List.getElem?_eq_none_iff.1 ho
        simp only [Sd.stepB, Sd.overB, hs, Sd.over, this, decide_true]; rfl
      rw [e1, e2]
      refine (step_over h hs ho).mono ?_
      rintro e w' ⟨rfl, n, rfl⟩
      exact ⟨rfl, h.drewN n, (Only.refl _ _).drewN n⟩
    | some i =>
      have e1 : Sd.stepS st pick = ⟨(Sd.act st.cells s i pick).1, st.ses.set pick.toNat (Sd.act st.cells s i pick).2⟩ := by simp only [Sd.stepS, hs, ho]
      have e2 : Sd.stepB st pick = true := by
        have hlt := (List.getElem?_eq_some_iff.1 ho).1
        simp only [Sd.stepB, Sd.overB, hs, Sd.over]
        simp
        omega
      rw [e1, e2]
      have hr := (h.good.fit s (Sd.get_mem hs)).ok i (List.mem_of_getElem? ho)
      obtain ⟨o1, o2⟩ := Sd.right_op hr
      by_cases h6 : i.op ≤ 6
      · exact step_move h hs ho h6
      · rcases (show i.op = 7 ∨ i.op = 8 ∨ i.op = 9 ∨ i.op = 10 from by omega) with e | e | e | e
        · by_cases hz : Sd.rg s.r i.a = 0
          · exact step_zero h hs ho e hz
          · exact step_nonzero h hs ho e hz
        · exact step_go h hs ho e
        · by_cases hz : Cs.lockE st.cells i.c pick = 0
          · exact step_lock h hs ho e hz
          · exact step_busy h hs ho e hz
        · exact step_free h hs ho e

/-- The state behind the steps of the first n picks, and how many did something. -/
def Sd.runN (st : St) (x : Nat → Int) : Nat → St
  | 0 => st
  | n + 1 => Sd.stepS (Sd.runN st x n) (x n)
def Sd.cntN (st : St) (x : Nat → Int) : Nat → Nat
  | 0 => 0
  | n + 1 => Sd.cntN st x n + (Sd.stepB (Sd.runN st x n) (x n)).toNat
theorem Sd.cntN_le (st : St) (x : Nat → Int) (n : Nat) : Sd.cntN st x n ≤ n := by
  induction n with
  | zero => exact Nat.le_refl _
  | succ n ih =>
    have : (Sd.stepB (Sd.runN st x n) (x n)).toNat ≤ 1 := Bool.toNat_le _
    unfold Sd.cntN
    omega

set_option maxHeartbeats 4000000 in
/-- Run over picks that lie in memory, by a fact that each step keeps. -/
theorem run_gen {mv : Value} {g off cap len : Nat} {ao : Option Addr} (x : Nat → Int) (P : Nat → Nat → World → Prop) (hlen : len ≤ 1000000) (h0 : P 0 0 w)
    (hao : 0 < len → ao = some ⟨g, off, none⟩) (hcell : ∀ i n w', i < len → P i n w' → w'.cell? ⟨g, off + i, none⟩ = some (.int .i64 (x i)))
    (hstep : ∀ i n w', i < len → P i n w' → Calls Try.prog 45 #[mv, .int .i64 (x i)] w' fun e w'' => ∃ b, e = .returned (.bool b) ∧ P (i + 1) (n + b.toNat) w'') :
    Calls Try.prog 41 #[mv, .slice ao len cap] w fun e w' => ∃ n : Nat, e = .returned (.int .i64 n) ∧ P len n w' := by
  have H0 := hide h0
  have HC := hide hcell
  have HS := hide hstep
  have HA := hide hao
  clear h0 hcell hstep hao
  go_enter Try.func41, Try.ntmps41
  go_wp2
  go_loopw [5, 10] (fun c i wr => ∃ (k n : Nat), k ≤ len ∧ n ≤ k ∧ i = .int .i64 k ∧ c = .int .i64 n ∧ P k n wr) (fun _ i _ => len - (intOf i).toNat)
  case atStart => exact ⟨0, 0, Nat.zero_le _, Nat.le_refl _, rfl, rfl, H0.out⟩
  case round =>
    obtain ⟨k, n, hk, hn, rfl, rfl, hP⟩ := hrel
    have HP := hide hP
    clear hP H0
    by_cases hlt : k < len
    · have ha := HA.out (by omega)
      subst ha
      have c1 := HC.out k n _ hlt HP.out
      have hs := HS.out k n _ hlt HP.out
      have HSS := hide hs
      clear hs HS HC HA HP
      go_wp2_with fail
      refine HSS.out.mono ?_
      rintro e w2 ⟨b, rfl, hp⟩
      have HP2 := hide hp
      clear hp HSS c1
      cases b with
      | false =>
        go_wp2
        go_roundw
        case rel => exact ⟨k + 1, n, by omega, by omega, by go_num, rfl, HP2.out⟩
        case measure => simp [intOf]; omega
      | true =>
        go_wp2
        go_roundw
        case rel => exact ⟨k + 1, n + 1, by omega, by omega, by go_num, by go_num, HP2.out⟩
        case measure => simp [intOf]; omega
    · obtain rfl : k = len := by omega
      go_wp2
      go_ret
      exact ⟨n, rfl, HP.out⟩

/-- Run, of a machine. -/
theorem run_c {g off cap len : Nat} {ao : Option Addr} (h : Mach w L st) (x : Nat → Int) (hlen : len ≤ 1000000)
    (hao : 0 < len → ao = some ⟨g, off, none⟩) (hcell : 0 < len → g < w.heap.size ∧ ¬ L.may g) (hc : ∀ i, i < len → w.cell? ⟨g, off + i, none⟩ = some (.int .i64 (x i))) :
    Calls Try.prog 41 #[.pointer (some ⟨L.b, 0, none⟩), .slice ao len cap] w (Steps L (Sd.runN st x len) (.int .i64 (Sd.cntN st x len)) w) := by
  refine (run_gen x (fun i n w' => Mach w' L (Sd.runN st x i) ∧ Only L.may w w' ∧ n = Sd.cntN st x i) hlen ⟨h, Only.refl _ _, rfl⟩ hao ?_ ?_).mono ?_
  · rintro i n w' hi ⟨_, ho, _⟩
    obtain ⟨h1, h2⟩ := hcell (by omega)
    rw [← hc i hi]
    exact World.cell?_of_block (w := w) (a := ⟨g, off + i, none⟩) (ho.block g h1 h2)
  · rintro i n w' hi ⟨hm, ho, rfl⟩
    refine (step_c hm (x i)).mono ?_
    rintro e w'' ⟨rfl, hm2, ho2⟩
    exact ⟨_, rfl, hm2, ho.may_trans ho2, rfl⟩
  · rintro e w' ⟨n, rfl, hm, ho, rfl⟩
    exact ⟨rfl, hm, ho⟩
end
end Go.Proofs.Ytaoonjamlcdfaaa
