/-
  The walk of the law SchedSteps.
-/
import Derived.Test.YtaoonjamlcdfaaaSSame
import Derived.Test.YtaoonjamlcdfaaaArgsP
namespace Go.Proofs.Ytaoonjamlcdfaaa
open Go.RowKit

/-- A machine and the reference's; the second lies behind the first. -/
structure RTwin (w0 w : World) (L1 : Lay) (L2 : RLay) (s1 s2 : St) : Prop where
  one : One w0 w L1 s1
  two : RMach w L2 s2
  sep : ∀ k, L1.all k → k < L2.B
  hB : w0.heap.size ≤ L2.B
section
variable {w0 w w' : World} {L1 : Lay} {L2 : RLay} {s1 s2 st' : St}
theorem rtwin_start {w2 : World} (h : One w0 w L1 s1) (hm : RMach w2 L2 s2) (hb : Below w.heap.size w w2) (hB : w.heap.size ≤ L2.B) : RTwin w0 w2 L1 L2 s1 s2 :=
  ⟨h.later hb, hm, fun k hk => by have := (h.mach.all_lt hk).2; omega, by have := h.size; omega⟩
theorem RTwin.later (h : RTwin w0 w L1 L2 s1 s2) (hb : Below w.heap.size w w') : RTwin w0 w' L1 L2 s1 s2 := ⟨h.one.later hb, h.two.later hb, h.sep, h.hB⟩
theorem RTwin.drewN (h : RTwin w0 w L1 L2 s1 s2) (n : Nat) : RTwin w0 (w.drewN n) L1 L2 s1 s2 := ⟨h.one.drewN n, h.two.drewN n, h.sep, h.hB⟩
theorem RTwin.at1 {F : Nat} {args : Array Value} {x : Value} (h : RTwin w0 w L1 L2 s1 s2) (hc : Calls Try.prog F args w (Steps L1 st' x w)) : Calls Try.prog F args w fun e w' => e = .returned x ∧ RTwin w0 w' L1 L2 st' s2 :=
  hc.mono fun _ _ ⟨he, hm, ho⟩ => ⟨he, ⟨hm, Only.then h.one.below ho h.one.size (fun k hk => by have := (h.one.mach.lt k hk).1; have := h.one.hB; omega), h.one.hB⟩,
    h.two.only ho (fun k hk hm => by have := (h.two.all_lt hk).1; have := h.sep k (Lay.may_all hm); omega), h.sep, h.hB⟩
theorem RTwin.at2 {F : Nat} {args : Array Value} {x : Value} (h : RTwin w0 w L1 L2 s1 s2) (hc : Calls Try.prog F args w (RSteps L2 st' x w)) : Calls Try.prog F args w fun e w' => e = .returned x ∧ RTwin w0 w' L1 L2 s1 st' :=
  hc.mono fun _ _ ⟨he, hm, ho⟩ => ⟨he, ⟨h.one.mach.only ho (fun k hk hm => by have := h.sep k hk; have := (h.two.lt k hm).1; omega),
    Only.then h.one.below ho h.one.size (fun k hk => by have := (h.two.lt k hk).1; have := h.hB; omega), h.one.hB⟩, hm, h.sep, h.hB⟩
end

set_option maxRecDepth 100000 in
set_option maxHeartbeats 16000000 in
theorem steps_c (cells : Int) (v1 : Value) (ps0 : List (List In)) (v2 : Value) (x : Nat → Int) (len : Nat) (w : World) (hp : PrgsAt w.heap.size w v1 ps0) (ha : IntsAt w.heap.size w v2 x len) :
    Calls Try.prog 10 #[.int .i64 cells, v1, v2] w fun e w' => e = .returned (.bool true) ∧ Below w.heap.size w w' := by
  obtain ⟨ao, cap, rfl, _, _, _, hcell⟩ := ha
  have HC := hide hcell
  have HP := hide hp
  clear hcell hp
  go_enter Try.func10, Try.ntmps10
  go_wp2_with fail
  refine (few_c HP.out (Nat.le_refl _)).mono ?_
  rintro e w2 ⟨v, rfl, hpr, hb⟩
  have HB2 := hide hb
  have HP2 := hide hpr
  generalize fewOf ps0 = ps at *
  clear hb hpr HP
  go_wp2_with fail
  have hmk := sched_make cells (Nat.le_refl _) HP2.out
  cases hE : Sd.makeE cells ps with
  | some r =>
    obtain ⟨j, r⟩ := r
    rw [hE] at hmk
    have HM := hide hmk
    clear hmk
    refine HM.out.mono ?_
    rintro e w3 ⟨rfl, hb⟩
    have HB3 := hide (HB2.out.trans (hb.mono HB2.out.size))
    have hmk2 := ref_make cells hb.size (HP2.out.below hb)
    rw [hE] at hmk2
    have HM2 := hide hmk2
    clear hb hmk2 HM hE HP2
    go_wp2_with fail
    refine HM2.out.mono ?_
    rintro e w4 ⟨rfl, hb⟩
    have HB4 := hide (HB3.out.trans (hb.mono HB3.out.size))
    clear hb HM2
    go_wp2_with fail
    refine (sworks_c w4).mono ?_
    rintro e w5 ⟨rfl, hb⟩
    have HB5 := hide (HB4.out.trans (hb.mono HB4.out.size))
    clear hb
    go_wp2
    go_ret
    exact ⟨rfl, HB5.out⟩
  | none =>
    rw [hE] at hmk
    have HM := hide hmk
    clear hmk
    refine HM.out.mono ?_
    rintro e w3 ⟨L1, rfl, hLB, hm, hb⟩
    have H3 := hide (show One w2 w3 L1 (Sd.made cells ps) from ⟨hm, hb, hLB⟩)
    have hmk2 := ref_make cells hb.size (HP2.out.below hb)
    rw [hE] at hmk2
    have HM2 := hide hmk2
    clear hb hmk2 HM hE HP2 hm hLB
    go_wp2_with fail
    refine HM2.out.mono ?_
    rintro e w4 ⟨L2, rfl, hLB, hm, hb⟩
    have H4 := hide (rtwin_start H3.out hm hb hLB)
    clear hb hm hLB HM2 H3
    generalize Sd.made cells ps = st0 at *
    go_wp2_with fail
    go_loopw [13] (fun i wr => ∃ (k : Nat) (st : St), k ≤ len ∧ k ≤ 300 ∧ i = .int .i64 k ∧ RTwin w2 wr L1 L2 st st) (fun i _ => len - (intOf i).toNat)
    case atStart => exact ⟨0, _, Nat.zero_le _, by decide, rfl, H4.out⟩
    case round =>
      obtain ⟨k, st, hk, hk2, rfl, hT⟩ := hrel
      have HT := hide hT
      clear hT H4
      by_cases hlt : k < len ∧ k < 300
      · obtain ⟨hk1, hk3⟩ := hlt
        have hk3' : (k : Int) < 300 := by omega
        obtain ⟨g, off, rfl, hg, hcs⟩ := HC.out (by omega)
        have K := hide (fun (w' : World) (hb : Below w2.heap.size w2 w') => ((HB2.out.trans (hb.mono HB2.out.size)).cell (p := ⟨g, off + k, none⟩) hg).trans (hcs k hk1))
        have c1 := K.out wr HT.out.one.below
        clear hcs
        generalize x k = p at *
        have h45 := fun (w' : World) (s2 : St) (h : RTwin w2 w' L1 L2 st s2) => h.at1 (step_c h.one.mach p)
        have h47 := fun (w' : World) (s1 : St) (h : RTwin w2 w' L1 L2 s1 st) => h.at2 (rstep_c h.two p)
        have H48 := hide (fun (w' : World) (s1 : St) (h : RTwin w2 w' L1 L2 s1 s1) => ssame_c ⟨h.one.mach, h.two⟩)
        generalize Sd.stepS st p = st3 at *
        generalize Sd.stepB st p = bb at *
        have H45 := hide h45
        have H47 := hide h47
        clear h45 h47
        go_wp2_with fail
        go_region_held3 (fun wt => wt.cell? ⟨g, off + k, none⟩ = some (.int .i64 p))
          (first | go_keep | exact K.out _ h7.one.below | exact K.out _ h6.one.below | exact K.out _ h5.one.below)
          ((first
            | (go_at_call 45; refine (H45.out _ _ (by first | exact HT.out.drewN 1 | exact h6)).mono ?_; rintro e w5 ⟨rfl, h5⟩)
            | (go_at_call 47; refine (H47.out _ _ (by first | exact HT.out.drewN 1 | exact h5)).mono ?_; rintro e w6 ⟨rfl, h6⟩)
            | (go_at_call 48; refine (H48.out _ st3 (by first | exact h6 | exact h5)).mono ?_; rintro e w7 ⟨rfl, hb7⟩; have h7 : RTwin w2 w7 L1 L2 st3 st3 := by first | exact h6.later hb7 | exact h5.later hb7)))
        all_goals go_wp2_with fail
        all_goals (try go_roundw)
        all_goals first
          | exact ⟨k + 1, st3, by omega, by omega, by go_num, h7⟩
          | (simp [intOf]; omega)
      · have hsp : (k < len ∧ ¬ (k : Int) < 300) ∨ ¬ k < len := by omega
        have HBE := hide (HB2.out.trans (HT.out.one.below.mono HB2.out.size))
        clear HT
        rcases hsp with ⟨h1, h2⟩ | h1 <;> clear hlt <;> go_wp2_with fail
        all_goals
          refine (sworks_c _).mono ?_
          rintro e w5 ⟨rfl, hb⟩
          have HB5 := hide (HBE.out.trans (hb.mono HBE.out.size))
          clear hb
          go_wp2
          go_ret
          exact ⟨rfl, HB5.out⟩
end Go.Proofs.Ytaoonjamlcdfaaa
