/-
  The contracts of a memory's small functions.
-/
import Derived.Test.YtaoonjamlcdfaaaMem
import Derived.IntWalk
namespace Go.Proofs.Ytaoonjamlcdfaaa
open Go.RowKit

section
variable {w : World} {B b g cap : Nat} {l : List Cl}

theorem is_c (h : Mem w B b g cap l) : Calls Try.prog 58 #[.pointer (some ⟨b, 0, none⟩)] w fun e w' => e = .returned (.bool true) ∧ w = w' := by
  have c0 := h.blk.cell 0
  simp at c0
  have hp := h.pos
  clear h
  have hp' : (0 : Int) < (l.length : Int) := by omega
  go_enter Try.func58, Try.ntmps58
  go_wp2
  go_ret
  exact ⟨rfl, rfl⟩

theorem at_in (h : Mem w B b g cap l) (k : Int) (h0 : 0 ≤ k) (h1 : k < l.length) : Calls Try.prog 56 #[.pointer (some ⟨b, 0, none⟩), .int .i64 k] w fun e w' => e = .returned (.tuple #[.pointer (some ⟨g, k.toNat * 3, none⟩), .int .i64 0]) ∧ w = w' := by
  have HI := hide (is_c h)
  have c0 := h.blk.cell 0
  simp at c0
  clear h
  go_enter Try.func56, Try.ntmps56
  go_wp2_with (first | go_step3 | (go_at_call 58; refine HI.out.mono ?_; rintro e w' ⟨rfl, rfl⟩))
  go_ret2
  exact ⟨rfl, rfl⟩

theorem at_out (h : Mem w B b g cap l) (k : Int) (h0 : k < 0 ∨ (l.length : Int) ≤ k) : Calls Try.prog 56 #[.pointer (some ⟨b, 0, none⟩), .int .i64 k] w fun e w' => e = .returned (.tuple #[.pointer none, .int .i64 2]) ∧ w = w' := by
  have HI := hide (is_c h)
  have c0 := h.blk.cell 0
  simp at c0
  clear h
  by_cases h1 : k < 0
  · clear h0
    go_enter Try.func56, Try.ntmps56
    go_wp2_with (first | go_step3 | (go_at_call 58; refine HI.out.mono ?_; rintro e w' ⟨rfl, rfl⟩))
    go_ret2
    exact ⟨rfl, rfl⟩
  · have h2 : (l.length : Int) ≤ k := by omega
    clear h0
    go_enter Try.func56, Try.ntmps56
    go_wp2_with (first | go_step3 | (go_at_call 58; refine HI.out.mono ?_; rintro e w' ⟨rfl, rfl⟩))
    go_ret2
    exact ⟨rfl, rfl⟩

theorem write_c (v wr x : Int) (o : Nat) (c0 : w.cell? ⟨g, o, none⟩ = some (.int .i64 x)) (c2 : w.cell? ⟨g, o + 2, none⟩ = some (.int .i64 wr)) (f0 : w.frozen? ⟨g, o, none⟩ = false) (f2 : w.frozen? ⟨g, o + 2, none⟩ = false) :
    Calls Try.prog 57 #[.pointer (some ⟨g, o, none⟩), .int .i64 v] w fun e w' => e = .returned (.tuple #[]) ∧ (w.setCell ⟨g, o, none⟩ (.int .i64 v)).setCell ⟨g, o + 2, none⟩ (.int .i64 (wrap64 (wr + 1))) = w' := by
  go_enter Try.func57, Try.ntmps57
  go_wp2
  go_end0
  exact ⟨rfl, rfl⟩

theorem at_some (h : Mem w B b g cap l) {k : Int} {t : Cl} (hg : Cs.get l k = some t) : Calls Try.prog 56 #[.pointer (some ⟨b, 0, none⟩), .int .i64 k] w fun e w' => e = .returned (.tuple #[.pointer (some ⟨g, k.toNat * 3, none⟩), .int .i64 0]) ∧ w = w' := by
  obtain ⟨h0, h1, _⟩ := Cs.get_some hg
  exact at_in h k h0 h1
theorem at_none (h : Mem w B b g cap l) {k : Int} (hg : Cs.get l k = none) : Calls Try.prog 56 #[.pointer (some ⟨b, 0, none⟩), .int .i64 k] w fun e w' => e = .returned (.tuple #[.pointer none, .int .i64 2]) ∧ w = w' := at_out h k (Cs.get_none hg)

/-- What a call that only reads leaves. -/
def Reads (v : Value) (w : World) (e : Ending) (w' : World) : Prop := e = .returned v ∧ w = w'

/-- What a call that turns a memory's cells leaves. -/
def Turns (B b g cap : Nat) (l' : List Cl) (v : Value) (w : World) (e : Ending) (w' : World) : Prop :=
  e = .returned v ∧ Mem w' B b g cap l' ∧ Only (fun k => k = g) w w'
theorem Turns.same (h : Mem w B b g cap l) (v : Value) : Turns B b g cap l v w (.returned v) w := ⟨rfl, h, Only.refl _ _⟩

theorem load_c (h : Mem w B b g cap l) (k : Int) : Calls Try.prog 19 #[.pointer (some ⟨b, 0, none⟩), .int .i64 k] w (Reads (.tuple #[.int .i64 (Cs.loadV l k), .int .i64 (Cs.loadE l k)]) w) := by
  cases hg : Cs.get l k with
  | some t =>
    have HA := hide (at_some h hg)
    obtain ⟨h0, h1, h2⟩ := Cs.get_some hg
    have hc := (h.cells h2).1
    simp only [Cs.loadV, Cs.loadE, hg]
    clear h h2 hg
    go_enter Try.func19, Try.ntmps19
    go_wp2_with (go_at_call 56; refine HA.out.mono ?_; rintro e w' ⟨rfl, rfl⟩)
    go_ret2
    exact ⟨rfl, rfl⟩
  | none =>
    have HA := hide (at_none h hg)
    simp only [Cs.loadV, Cs.loadE, hg]
    clear h hg
    go_enter Try.func19, Try.ntmps19
    go_wp2_with (go_at_call 56; refine HA.out.mono ?_; rintro e w' ⟨rfl, rfl⟩)
    go_ret2
    exact ⟨rfl, rfl⟩

theorem holder_c (h : Mem w B b g cap l) (k : Int) : Calls Try.prog 26 #[.pointer (some ⟨b, 0, none⟩), .int .i64 k] w (Reads (.int .i64 (Cs.holder l k)) w) := by
  cases hg : Cs.get l k with
  | some t =>
    have HA := hide (at_some h hg)
    obtain ⟨h0, h1, h2⟩ := Cs.get_some hg
    have hc := (h.cells h2).2.1
    simp only [Cs.holder, hg]
    clear h h2 hg
    go_enter Try.func26, Try.ntmps26
    go_wp2_with (go_at_call 56; refine HA.out.mono ?_; rintro e w' ⟨rfl, rfl⟩)
    go_ret
    exact ⟨rfl, rfl⟩
  | none =>
    have HA := hide (at_none h hg)
    simp only [Cs.holder, hg]
    clear h hg
    go_enter Try.func26, Try.ntmps26
    go_wp2_with (go_at_call 56; refine HA.out.mono ?_; rintro e w' ⟨rfl, rfl⟩)
    go_ret
    exact ⟨rfl, rfl⟩

theorem writes_c (h : Mem w B b g cap l) (k : Int) : Calls Try.prog 20 #[.pointer (some ⟨b, 0, none⟩), .int .i64 k] w (Reads (.int .i64 (Cs.writes l k)) w) := by
  cases hg : Cs.get l k with
  | some t =>
    have HA := hide (at_some h hg)
    obtain ⟨h0, h1, h2⟩ := Cs.get_some hg
    have hc := (h.cells h2).2.2
    simp only [Cs.writes, hg]
    clear h h2 hg
    go_enter Try.func20, Try.ntmps20
    go_wp2_with (go_at_call 56; refine HA.out.mono ?_; rintro e w' ⟨rfl, rfl⟩)
    go_ret
    exact ⟨rfl, rfl⟩
  | none =>
    have HA := hide (at_none h hg)
    simp only [Cs.writes, hg]
    clear h hg
    go_enter Try.func20, Try.ntmps20
    go_wp2_with (go_at_call 56; refine HA.out.mono ?_; rintro e w' ⟨rfl, rfl⟩)
    go_ret
    exact ⟨rfl, rfl⟩

/-- What write leaves of a cell that is. -/
theorem written (h : Mem w B b g cap l) {k : Int} {t : Cl} (hg : Cs.get l k = some t) (v : Int) (x : Value) :
    Turns B b g cap (Cs.storeL l k v) x w (.returned x) ((w.setCell ⟨g, k.toNat * 3, none⟩ (.int .i64 v)).setCell ⟨g, k.toNat * 3 + 2, none⟩ (.int .i64 (wrap64 (t.wr + 1)))) := by
  obtain ⟨h0, h1, h2⟩ := Cs.get_some hg
  refine ⟨rfl, ?_, ((Only.refl (fun k => k = g) w).setCell (p := ⟨g, k.toNat * 3, none⟩) (.inl rfl) _).setCell (p := ⟨g, k.toNat * 3 + 2, none⟩) (.inl rfl) _⟩
  have e : Cs.storeL l k v = l.set k.toNat ⟨v, t.by_, wrap64 (t.wr + 1)⟩ := by
    simp only [Cs.storeL, hg, Cs.put_at h0, Cs.write]
  rw [e]
  exact h.write h2 v _
theorem write_at (h : Mem w B b g cap l) {k : Int} {t : Cl} (hg : Cs.get l k = some t) (v : Int) :
    Calls Try.prog 57 #[.pointer (some ⟨g, k.toNat * 3, none⟩), .int .i64 v] w (Turns B b g cap (Cs.storeL l k v) (.tuple #[]) w) := by
  obtain ⟨h0, h1, h2⟩ := Cs.get_some hg
  obtain ⟨c1, c2, c3⟩ := h.cells h2
  refine (write_c v t.wr t.v (k.toNat * 3) c1 c3 (h.frozen _) (h.frozen _)).mono ?_
  rintro e w' ⟨rfl, rfl⟩
  exact written h hg v _

theorem store_c (h : Mem w B b g cap l) (k v : Int) : Calls Try.prog 21 #[.pointer (some ⟨b, 0, none⟩), .int .i64 k, .int .i64 v] w (Turns B b g cap (Cs.storeL l k v) (.int .i64 (Cs.loadE l k)) w) := by
  cases hg : Cs.get l k with
  | some t =>
    have HA := hide (at_some h hg)
    have HW := hide (write_at h hg v)
    have e1 : Cs.loadE l k = 0 := by simp only [Cs.loadE, hg]
    rw [e1]
    clear h hg e1
    go_enter Try.func21, Try.ntmps21
    go_wp2_with (first | (go_at_call 56; refine HA.out.mono ?_; rintro e w' ⟨rfl, rfl⟩) | (go_at_call 57; refine HW.out.mono ?_; rintro e w' ⟨rfl, hm, ho⟩; have HM := hide hm; have HO := hide ho; clear hm ho))
    go_ret
    exact ⟨rfl, HM.out, HO.out⟩
  | none =>
    have HA := hide (at_none h hg)
    have F := hide (Turns.same h (.int .i64 2))
    have e1 : Cs.loadE l k = 2 := by simp only [Cs.loadE, hg]
    have e2 : Cs.storeL l k v = l := by simp only [Cs.storeL, hg]
    rw [e1, e2]
    clear h hg e1 e2
    go_enter Try.func21, Try.ntmps21
    go_wp2_with (go_at_call 56; refine HA.out.mono ?_; rintro e w' ⟨rfl, rfl⟩)
    go_ret
    exact F.out

theorem add_c (h : Mem w B b g cap l) (k d : Int) : Calls Try.prog 17 #[.pointer (some ⟨b, 0, none⟩), .int .i64 k, .int .i64 d] w (Turns B b g cap (Cs.addL l k d) (.tuple #[.int .i64 (Cs.loadV l k), .int .i64 (Cs.loadE l k)]) w) := by
  cases hg : Cs.get l k with
  | some t =>
    have HA := hide (at_some h hg)
    obtain ⟨h0, h1, h2⟩ := Cs.get_some hg
    have hc := (h.cells h2).1
    have HW := hide (write_at h hg (wrap64 (t.v + d)))
    have e1 : Cs.loadE l k = 0 := by simp only [Cs.loadE, hg]
    have e2 : Cs.loadV l k = t.v := by simp only [Cs.loadV, hg]
    have e3 : Cs.addL l k d = Cs.storeL l k (wrap64 (t.v + d)) := by simp only [Cs.addL, e2]
    rw [e1, e2, e3]
    clear h hg e1 e2 e3 h2
    go_enter Try.func17, Try.ntmps17
    go_wp2_with (first | (go_at_call 56; refine HA.out.mono ?_; rintro e w' ⟨rfl, rfl⟩) | (go_at_call 57; refine HW.out.mono ?_; rintro e w' ⟨rfl, hm, ho⟩; have HM := hide hm; have HO := hide ho; clear hm ho))
    go_ret2
    exact ⟨rfl, HM.out, HO.out⟩
  | none =>
    have HA := hide (at_none h hg)
    have F := hide (Turns.same h (.tuple #[.int .i64 0, .int .i64 2]))
    have e1 : Cs.loadE l k = 2 := by simp only [Cs.loadE, hg]
    have e2 : Cs.loadV l k = 0 := by simp only [Cs.loadV, hg]
    have e3 : Cs.addL l k d = l := by simp only [Cs.addL, Cs.storeL, hg]
    rw [e1, e2, e3]
    clear h hg e1 e2 e3
    go_enter Try.func17, Try.ntmps17
    go_wp2_with (go_at_call 56; refine HA.out.mono ?_; rintro e w' ⟨rfl, rfl⟩)
    go_ret2
    exact F.out

theorem swap_c (h : Mem w B b g cap l) (k was v : Int) : Calls Try.prog 30 #[.pointer (some ⟨b, 0, none⟩), .int .i64 k, .int .i64 was, .int .i64 v] w (Turns B b g cap (Cs.swapL l k was v) (.tuple #[.bool (Cs.swapB l k was), .int .i64 (Cs.loadE l k)]) w) := by
  cases hg : Cs.get l k with
  | some t =>
    have HA := hide (at_some h hg)
    obtain ⟨h0, h1, h2⟩ := Cs.get_some hg
    have hc := (h.cells h2).1
    have HW := hide (write_at h hg v)
    have e1 : Cs.loadE l k = 0 := by simp only [Cs.loadE, hg]
    have F := hide (Turns.same h (.tuple #[.bool false, .int .i64 0]))
    rw [e1]
    by_cases hv : t.v = was
    · have e2 : Cs.swapB l k was = true := by simp [Cs.swapB, hg, hv]
      have e3 : Cs.swapL l k was v = Cs.storeL l k v := by unfold Cs.swapL; rw [if_pos e2]
      have hq : (t.v == was) = true := by simpa using hv
      rw [e2, e3]
      clear h hg e1 e2 e3 h2 hv F
      go_enter Try.func30, Try.ntmps30
      go_wp2_with (first | (go_at_call 56; refine HA.out.mono ?_; rintro e w' ⟨rfl, rfl⟩) | (go_at_call 57; refine HW.out.mono ?_; rintro e w' ⟨rfl, hm, ho⟩; have HM := hide hm; have HO := hide ho; clear hm ho))
      go_ret2
      exact ⟨rfl, HM.out, HO.out⟩
    · have e2 : Cs.swapB l k was = false := by simp [Cs.swapB, hg, hv]
      have e3 : Cs.swapL l k was v = l := by unfold Cs.swapL; rw [if_neg (by rw [e2]; simp)]
      have hq : (t.v == was) = false := by simpa using hv
      rw [e2, e3]
      clear h hg e1 e2 e3 h2 hv
      go_enter Try.func30, Try.ntmps30
      go_wp2_with (first | (go_at_call 56; refine HA.out.mono ?_; rintro e w' ⟨rfl, rfl⟩) | (go_at_call 57; refine HW.out.mono ?_; rintro e w' ⟨rfl, hm, ho⟩; have HM := hide hm; have HO := hide ho; clear hm ho))
      go_ret2
      exact F.out
  | none =>
    have HA := hide (at_none h hg)
    have F := hide (Turns.same h (.tuple #[.bool false, .int .i64 2]))
    have e1 : Cs.loadE l k = 2 := by simp only [Cs.loadE, hg]
    have e2 : Cs.swapB l k was = false := by simp [Cs.swapB, hg]
    have e3 : Cs.swapL l k was v = l := by unfold Cs.swapL; rw [if_neg (by rw [e2]; simp)]
    rw [e1, e2, e3]
    clear h hg e1 e2 e3
    go_enter Try.func30, Try.ntmps30
    go_wp2_with (go_at_call 56; refine HA.out.mono ?_; rintro e w' ⟨rfl, rfl⟩)
    go_ret2
    exact F.out
end
end Go.Proofs.Ytaoonjamlcdfaaa
