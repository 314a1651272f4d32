/-
  The contracts of Lock and Free.
-/
import Derived.Test.YtaoonjamlcdfaaaCell
namespace Go.Proofs.Ytaoonjamlcdfaaa
open Go.RowKit

section
variable {w : World} {B b g cap : Nat} {l : List Cl}

theorem held_some (h : Mem w B b g cap l) {k : Int} {t : Cl} (hg : Cs.get l k = some t) (who : Int) : Calls Try.prog 60 #[.pointer (some ⟨b, 0, none⟩), .int .i64 k, .int .i64 who] w fun e w' => e = .returned (.tuple #[.pointer (some ⟨g, k.toNat * 3, none⟩), .int .i64 (if Cs.isWho who = true then 0 else 2)]) ∧ w = w' := by
  have HA := hide (at_some h hg)
  clear h hg
  by_cases h0 : who < 0
  · have e : Cs.isWho who = false := by simp [Cs.isWho]; omega
    rw [e]
    clear e
    go_enter Try.func60, Try.ntmps60
    go_wp2_with (go_at_call 56; refine HA.out.mono ?_; rintro e w' ⟨rfl, rfl⟩)
    go_ret2
    exact ⟨rfl, rfl⟩
  · by_cases h1 : who < 16
    · have e : Cs.isWho who = true := by simp [Cs.isWho]; omega
      rw [e]
      clear e
      go_enter Try.func60, Try.ntmps60
      go_wp2_with (go_at_call 56; refine HA.out.mono ?_; rintro e w' ⟨rfl, rfl⟩)
      go_ret2
      exact ⟨rfl, rfl⟩
    · have e : Cs.isWho who = false := by simp [Cs.isWho]; omega
      rw [e]
      clear e
      have h2 : 16 ≤ who := by omega
      go_enter Try.func60, Try.ntmps60
      go_wp2_with (go_at_call 56; refine HA.out.mono ?_; rintro e w' ⟨rfl, rfl⟩)
      go_ret2
      exact ⟨rfl, rfl⟩

theorem held_none (h : Mem w B b g cap l) {k : Int} (hg : Cs.get l k = none) (who : Int) : Calls Try.prog 60 #[.pointer (some ⟨b, 0, none⟩), .int .i64 k, .int .i64 who] w fun e w' => e = .returned (.tuple #[.pointer none, .int .i64 2]) ∧ w = w' := by
  have HA := hide (at_none h hg)
  clear h hg
  go_enter Try.func60, Try.ntmps60
  go_wp2_with (go_at_call 56; refine HA.out.mono ?_; rintro e w' ⟨rfl, rfl⟩)
  go_ret2
  exact ⟨rfl, rfl⟩

theorem owned (h : Mem w B b g cap l) {k : Int} {t : Cl} (hg : Cs.get l k = some t) (who : Int) (x : Value) :
    Turns B b g cap (Cs.put l k ⟨t.v, who, t.wr⟩) x w (.returned x) (w.setCell ⟨g, k.toNat * 3 + 1, none⟩ (.int .i64 who)) := by
  obtain ⟨h0, h1, h2⟩ := Cs.get_some hg
  refine ⟨rfl, ?_, (Only.refl (fun k => k = g) w).setCell (p := ⟨g, k.toNat * 3 + 1, none⟩) (.inl rfl) _⟩
  rw [Cs.put_at h0]
  exact h.own h2 who

theorem lock_c (h : Mem w B b g cap l) (k who : Int) : Calls Try.prog 24 #[.pointer (some ⟨b, 0, none⟩), .int .i64 k, .int .i64 who] w (Turns B b g cap (Cs.lockL l k who) (.int .i64 (Cs.lockE l k who)) w) := by
  cases hg : Cs.get l k with
  | some t =>
    obtain ⟨h0, h1, h2⟩ := Cs.get_some hg
    have hc := (h.cells h2).2.1
    have hf := h.frozen (k.toNat * 3 + 1)
    have HA := held_some h hg who
    have F := hide (fun x => Turns.same h (.int .i64 x))
    have O := hide (owned h hg who (.int .i64 0))
    by_cases hw : Cs.isWho who = true
    · by_cases hb : t.by_ = -1
      · have e1 : Cs.lockE l k who = 0 := by simp only [Cs.lockE, hg, if_pos hw, if_pos hb]
        have e2 : Cs.lockL l k who = Cs.put l k ⟨t.v, who, t.wr⟩ := by simp only [Cs.lockL, hg, if_pos hw, if_pos hb]
        have hq : (t.by_ == -1) = true := by simpa using hb
        rw [e1, e2]
        rw [if_pos hw] at HA
        have HA := hide HA
        clear h hg h2 e1 e2 hb F hw
        go_enter Try.func24, Try.ntmps24
        go_wp2_with (first | go_step3 | (go_at_call 60; refine HA.out.mono ?_; rintro e w' ⟨rfl, rfl⟩))
        go_ret
        exact O.out
      · have e1 : Cs.lockE l k who = 8 := by simp only [Cs.lockE, hg, if_pos hw, if_neg hb]
        have e2 : Cs.lockL l k who = l := by simp only [Cs.lockL, hg, if_pos hw, if_neg hb]
        have hq : (t.by_ == -1) = false := by simpa using hb
        rw [e1, e2]
        rw [if_pos hw] at HA
        have HA := hide HA
        clear h hg h2 e1 e2 hb O hw
        go_enter Try.func24, Try.ntmps24
        go_wp2_with (first | go_step3 | (go_at_call 60; refine HA.out.mono ?_; rintro e w' ⟨rfl, rfl⟩))
        go_ret
        exact F.out 8
    · have e1 : Cs.lockE l k who = 2 := by simp only [Cs.lockE, hg, if_neg hw]
      have e2 : Cs.lockL l k who = l := by simp only [Cs.lockL, hg, if_neg hw]
      rw [e1, e2]
      rw [if_neg hw] at HA
      have HA := hide HA
      clear h hg h2 e1 e2 O hw
      go_enter Try.func24, Try.ntmps24
      go_wp2_with (first | go_step3 | (go_at_call 60; refine HA.out.mono ?_; rintro e w' ⟨rfl, rfl⟩))
      go_ret
      exact F.out 2
  | none =>
    have HA := hide (held_none h hg who)
    have F := hide (Turns.same h (.int .i64 2))
    have e1 : Cs.lockE l k who = 2 := by simp only [Cs.lockE, hg]
    have e2 : Cs.lockL l k who = l := by simp only [Cs.lockL, hg]
    rw [e1, e2]
    clear h hg e1 e2
    go_enter Try.func24, Try.ntmps24
    go_wp2_with (first | go_step3 | (go_at_call 60; refine HA.out.mono ?_; rintro e w' ⟨rfl, rfl⟩))
    go_ret
    exact F.out

theorem free_c (h : Mem w B b g cap l) (k who : Int) : Calls Try.prog 25 #[.pointer (some ⟨b, 0, none⟩), .int .i64 k, .int .i64 who] w (Turns B b g cap (Cs.freeL l k who) (.int .i64 (Cs.freeE l k who)) w) := by
  cases hg : Cs.get l k with
  | some t =>
    obtain ⟨h0, h1, h2⟩ := Cs.get_some hg
    have hc := (h.cells h2).2.1
    have hf := h.frozen (k.toNat * 3 + 1)
    have HA := held_some h hg who
    have F := hide (fun x => Turns.same h (.int .i64 x))
    have O := hide (owned h hg (-1) (.int .i64 0))
    by_cases hw : Cs.isWho who = true
    · by_cases hb : t.by_ = who
      · have e1 : Cs.freeE l k who = 0 := by simp only [Cs.freeE, hg, if_pos hw, if_pos hb]
        have e2 : Cs.freeL l k who = Cs.put l k ⟨t.v, -1, t.wr⟩ := by simp only [Cs.freeL, hg, if_pos hw, if_pos hb]
        have hq : (t.by_ == who) = true := by simpa using hb
        rw [e1, e2]
        rw [if_pos hw] at HA
        have HA := hide HA
        clear h hg h2 e1 e2 hb F hw
        go_enter Try.func25, Try.ntmps25
        go_wp2_with (first | go_step3 | (go_at_call 60; refine HA.out.mono ?_; rintro e w' ⟨rfl, rfl⟩))
        go_ret
        exact O.out
      · have e1 : Cs.freeE l k who = 5 := by simp only [Cs.freeE, hg, if_pos hw, if_neg hb]
        have e2 : Cs.freeL l k who = l := by simp only [Cs.freeL, hg, if_pos hw, if_neg hb]
        have hq : (t.by_ == who) = false := by simpa using hb
        rw [e1, e2]
        rw [if_pos hw] at HA
        have HA := hide HA
        clear h hg h2 e1 e2 hb O hw
        go_enter Try.func25, Try.ntmps25
        go_wp2_with (first | go_step3 | (go_at_call 60; refine HA.out.mono ?_; rintro e w' ⟨rfl, rfl⟩))
        go_ret
        exact F.out 5
    · have e1 : Cs.freeE l k who = 2 := by simp only [Cs.freeE, hg, if_neg hw]
      have e2 : Cs.freeL l k who = l := by simp only [Cs.freeL, hg, if_neg hw]
      rw [e1, e2]
      rw [if_neg hw] at HA
      have HA := hide HA
      clear h hg h2 e1 e2 O hw
      go_enter Try.func25, Try.ntmps25
      go_wp2_with (first | go_step3 | (go_at_call 60; refine HA.out.mono ?_; rintro e w' ⟨rfl, rfl⟩))
      go_ret
      exact F.out 2
  | none =>
    have HA := hide (held_none h hg who)
    have F := hide (Turns.same h (.int .i64 2))
    have e1 : Cs.freeE l k who = 2 := by simp only [Cs.freeE, hg]
    have e2 : Cs.freeL l k who = l := by simp only [Cs.freeL, hg]
    rw [e1, e2]
    clear h hg e1 e2
    go_enter Try.func25, Try.ntmps25
    go_wp2_with (first | go_step3 | (go_at_call 60; refine HA.out.mono ?_; rintro e w' ⟨rfl, rfl⟩))
    go_ret
    exact F.out
end
end Go.Proofs.Ytaoonjamlcdfaaa
