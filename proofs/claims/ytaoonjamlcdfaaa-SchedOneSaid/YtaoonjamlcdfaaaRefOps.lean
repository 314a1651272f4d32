/-
  The contracts of the reference memory's functions.
-/
import Derived.Test.YtaoonjamlcdfaaaRef
namespace Go.Proofs.Ytaoonjamlcdfaaa
open Go.RowKit

section
variable {w : World} {B b v y z : Nat} {l : List Cl}

/-- What a call that turns the reference's cells leaves. -/
def RTurns (B b v y z : Nat) (l' : List Cl) (x : Value) (w : World) (e : Ending) (w' : World) : Prop :=
  e = .returned x ∧ RMem w' B b v y z l' ∧ Only (fun k => k = v ∨ k = y ∨ k = z) w w'
theorem RTurns.same (h : RMem w B b v y z l) (x : Value) : RTurns B b v y z l x w (.returned x) w := ⟨rfl, h, Only.refl _ _⟩

def inB (l : List Cl) (k : Int) : Bool := (Cs.get l k).isSome
theorem ris_c (h : RMem w B b v y z l) (k : Int) : Calls Try.prog 61 #[.pointer (some ⟨b, 0, none⟩), .int .i64 k] w fun e w' => e = .returned (.bool (inB l k)) ∧ w = w' := by
  have c0 := h.heads.1
  clear h
  by_cases h0 : 0 ≤ k
  · by_cases h1 : k < l.length
    · have e : inB l k = true := by
        obtain ⟨t, ht⟩ := Cs.get_in h0 h1
        simp [inB, ht]
      rw [e]
      clear e
      go_enter Try.func61, Try.ntmps61
      go_wp2
      go_ret
      exact ⟨rfl, rfl⟩
    · have e : inB l k = false := by
        cases hg : Cs.get l k with
        | none => simp [inB, hg]
        | some t => have := Cs.get_some hg; omega
      rw [e]
      clear e
      have h2 : (l.length : Int) ≤ k := by omega
      go_enter Try.func61, Try.ntmps61
      go_wp2
      go_ret
      exact ⟨rfl, rfl⟩
  · have e : inB l k = false := by
      cases hg : Cs.get l k with
      | none => simp [inB, hg]
      | some t => have := Cs.get_some hg; omega
    rw [e]
    clear e
    have h2 : k < 0 := by omega
    go_enter Try.func61, Try.ntmps61
    go_wp2
    go_ret
    exact ⟨rfl, rfl⟩
theorem ris_some (h : RMem w B b v y z l) {k : Int} {t : Cl} (hg : Cs.get l k = some t) : Calls Try.prog 61 #[.pointer (some ⟨b, 0, none⟩), .int .i64 k] w fun e w' => e = .returned (.bool true) ∧ w = w' := by
  have := ris_c h k
  rwa [show inB l k = true by simp [inB, hg]] at this
theorem ris_none (h : RMem w B b v y z l) {k : Int} (hg : Cs.get l k = none) : Calls Try.prog 61 #[.pointer (some ⟨b, 0, none⟩), .int .i64 k] w fun e w' => e = .returned (.bool false) ∧ w = w' := by
  have := ris_c h k
  rwa [show inB l k = false by simp [inB, hg]] at this

theorem rload_c (h : RMem w B b v y z l) (k : Int) : Calls Try.prog 28 #[.pointer (some ⟨b, 0, none⟩), .int .i64 k] w (Reads (.tuple #[.int .i64 (Cs.loadV l k), .int .i64 (Cs.loadE l k)]) w) := by
  have c0 := h.heads.1
  cases hg : Cs.get l k with
  | some t =>
    have HI := hide (ris_some h hg)
    obtain ⟨h0, h1, h2⟩ := Cs.get_some hg
    have d := (h.cells h2).1
    have e1 : Cs.loadE l k = 0 := by simp only [Cs.loadE, hg]
    have e2 : Cs.loadV l k = t.v := by simp only [Cs.loadV, hg]
    rw [e1, e2]
    clear h hg h2 e1 e2
    go_enter Try.func28, Try.ntmps28
    go_wp2_with (go_at_call 61; refine HI.out.mono ?_; rintro e w' ⟨rfl, rfl⟩)
    go_ret2
    exact ⟨rfl, rfl⟩
  | none =>
    have HI := hide (ris_none h hg)
    have e1 : Cs.loadE l k = 2 := by simp only [Cs.loadE, hg]
    have e2 : Cs.loadV l k = 0 := by simp only [Cs.loadV, hg]
    rw [e1, e2]
    clear h hg e1 e2
    go_enter Try.func28, Try.ntmps28
    go_wp2_with (go_at_call 61; refine HI.out.mono ?_; rintro e w' ⟨rfl, rfl⟩)
    go_ret2
    exact ⟨rfl, rfl⟩

theorem rholder_c (h : RMem w B b v y z l) (k : Int) : Calls Try.prog 35 #[.pointer (some ⟨b, 0, none⟩), .int .i64 k] w (Reads (.int .i64 (Cs.holder l k)) w) := by
  have c0 := h.heads.2.1
  cases hg : Cs.get l k with
  | some t =>
    have HI := hide (ris_some h hg)
    obtain ⟨h0, h1, h2⟩ := Cs.get_some hg
    have d := (h.cells h2).2.1
    have e1 : Cs.holder l k = t.by_ := by simp only [Cs.holder, hg]
    rw [e1]
    clear h hg h2 e1
    go_enter Try.func35, Try.ntmps35
    go_wp2_with (go_at_call 61; refine HI.out.mono ?_; rintro e w' ⟨rfl, rfl⟩)
    go_ret
    exact ⟨rfl, rfl⟩
  | none =>
    have HI := hide (ris_none h hg)
    have e1 : Cs.holder l k = -1 := by simp only [Cs.holder, hg]
    rw [e1]
    clear h hg e1
    go_enter Try.func35, Try.ntmps35
    go_wp2_with (go_at_call 61; refine HI.out.mono ?_; rintro e w' ⟨rfl, rfl⟩)
    go_ret
    exact ⟨rfl, rfl⟩

theorem rwrites_c (h : RMem w B b v y z l) (k : Int) : Calls Try.prog 36 #[.pointer (some ⟨b, 0, none⟩), .int .i64 k] w (Reads (.int .i64 (Cs.writes l k)) w) := by
  have c0 := h.heads.2.2
  cases hg : Cs.get l k with
  | some t =>
    have HI := hide (ris_some h hg)
    obtain ⟨h0, h1, h2⟩ := Cs.get_some hg
    have d := (h.cells h2).2.2
    have e1 : Cs.writes l k = t.wr := by simp only [Cs.writes, hg]
    rw [e1]
    clear h hg h2 e1
    go_enter Try.func36, Try.ntmps36
    go_wp2_with (go_at_call 61; refine HI.out.mono ?_; rintro e w' ⟨rfl, rfl⟩)
    go_ret
    exact ⟨rfl, rfl⟩
  | none =>
    have HI := hide (ris_none h hg)
    have e1 : Cs.writes l k = 0 := by simp only [Cs.writes, hg]
    rw [e1]
    clear h hg e1
    go_enter Try.func36, Try.ntmps36
    go_wp2_with (go_at_call 61; refine HI.out.mono ?_; rintro e w' ⟨rfl, rfl⟩)
    go_ret
    exact ⟨rfl, rfl⟩

theorem rstore_c (h : RMem w B b v y z l) (k x : Int) : Calls Try.prog 29 #[.pointer (some ⟨b, 0, none⟩), .int .i64 k, .int .i64 x] w (RTurns B b v y z (Cs.storeL l k x) (.int .i64 (Cs.loadE l k)) w) := by
  have c0 := h.heads.1
  have c2 := h.heads.2.2
  cases hg : Cs.get l k with
  | some t =>
    have HI := hide (ris_some h hg)
    obtain ⟨h0, h1, h2⟩ := Cs.get_some hg
    obtain ⟨d1, _, d3⟩ := h.cells h2
    have f1 := h.hv.frozen k.toNat
    have f3 := h.hz.frozen k.toNat
    have hk : k.toNat < l.length := by omega
    have e1 : Cs.loadE l k = 0 := by simp only [Cs.loadE, hg]
    have e2 : Cs.storeL l k x = l.set k.toNat ⟨x, t.by_, wrap64 (t.wr + 1)⟩ := by simp only [Cs.storeL, hg, Cs.put_at h0, Cs.write]
    have hf : RMem ((w.setCell ⟨v, k.toNat, none⟩ (.int .i64 x)).setCell ⟨z, k.toNat, none⟩ (.int .i64 (wrap64 (t.wr + 1)))) B b v y z (Cs.storeL l k x) := by
      have m1 := h.set_v h2 x
      have m2 := m1.set_z (k := k.toNat) (t := ⟨x, t.by_, t.wr⟩) (by simp [hk]) (wrap64 (t.wr + 1))
      rw [e2]
      simpa using m2
    have ho : Only (fun k => k = v ∨ k = y ∨ k = z) w ((w.setCell ⟨v, k.toNat, none⟩ (.int .i64 x)).setCell ⟨z, k.toNat, none⟩ (.int .i64 (wrap64 (t.wr + 1)))) :=
      ((Only.refl (fun k => k = v ∨ k = y ∨ k = z) w).setCell (p := ⟨v, k.toNat, none⟩) (.inl (.inl rfl)) _).setCell (p := ⟨z, k.toNat, none⟩) (.inl (.inr (.inr rfl))) _
    have HF := hide hf
    have HO := hide ho
    have n1 := h.nb.1
    have n2 := h.nvz
    rw [e1]
    clear h hg h2 e1 e2 hf ho hk
    go_enter Try.func29, Try.ntmps29
    go_wp2_with (go_at_call 61; refine HI.out.mono ?_; rintro e w' ⟨rfl, rfl⟩)
    go_ret
    exact ⟨rfl, HF.out, HO.out⟩
  | none =>
    have HI := hide (ris_none h hg)
    have F := hide (RTurns.same h (.int .i64 2))
    have e1 : Cs.loadE l k = 2 := by simp only [Cs.loadE, hg]
    have e2 : Cs.storeL l k x = l := by simp only [Cs.storeL, hg]
    rw [e1, e2]
    clear h hg e1 e2
    go_enter Try.func29, Try.ntmps29
    go_wp2_with (go_at_call 61; refine HI.out.mono ?_; rintro e w' ⟨rfl, rfl⟩)
    go_ret
    exact F.out

theorem rswap_c (h : RMem w B b v y z l) (k was x : Int) : Calls Try.prog 31 #[.pointer (some ⟨b, 0, none⟩), .int .i64 k, .int .i64 was, .int .i64 x] w (RTurns B b v y z (Cs.swapL l k was x) (.tuple #[.bool (Cs.swapB l k was), .int .i64 (Cs.loadE l k)]) w) := by
  have c0 := h.heads.1
  cases hg : Cs.get l k with
  | some t =>
    have HI := hide (ris_some h hg)
    obtain ⟨h0, h1, h2⟩ := Cs.get_some hg
    obtain ⟨d1, _, _⟩ := h.cells h2
    have hs := rstore_c h k x
    have e1 : Cs.loadE l k = 0 := by simp only [Cs.loadE, hg]
    rw [e1] at hs ⊢
    have HS := hide hs
    have F := hide (RTurns.same h (.tuple #[.bool false, .int .i64 0]))
    clear hs
    by_cases hv : t.v = was
    · have e2 : Cs.swapB l k was = true := by simp [Cs.swapB, hg, hv]
      have e3 : Cs.swapL l k was x = Cs.storeL l k x := by unfold Cs.swapL; rw [if_pos e2]
      have hq : (t.v != was) = false := by simpa using hv
      rw [e2, e3]
      clear h hg e1 e2 e3 h2 hv F
      go_enter Try.func31, Try.ntmps31
      go_wp2_with (first | (go_at_call 61; refine HI.out.mono ?_; rintro e w' ⟨rfl, rfl⟩) | (go_at_call 29; refine HS.out.mono ?_; rintro e w' ⟨rfl, hm, ho⟩; have HM := hide hm; have HO := hide ho; clear hm ho))
      go_ret2
      exact ⟨rfl, HM.out, HO.out⟩
    · have e2 : Cs.swapB l k was = false := by simp [Cs.swapB, hg, hv]
      have e3 : Cs.swapL l k was x = l := by unfold Cs.swapL; rw [if_neg (by rw [e2]; simp)]
      have hq : (t.v != was) = true := by simpa using hv
      rw [e2, e3]
      clear h hg e1 e2 e3 h2 hv HS
      go_enter Try.func31, Try.ntmps31
      go_wp2_with (go_at_call 61; refine HI.out.mono ?_; rintro e w' ⟨rfl, rfl⟩)
      go_ret2
      exact F.out
  | none =>
    have HI := hide (ris_none h hg)
    have F := hide (RTurns.same h (.tuple #[.bool false, .int .i64 2]))
    have e1 : Cs.loadE l k = 2 := by simp only [Cs.loadE, hg]
    have e2 : Cs.swapB l k was = false := by simp [Cs.swapB, hg]
    have e3 : Cs.swapL l k was x = l := by unfold Cs.swapL; rw [if_neg (by rw [e2]; simp)]
    rw [e1, e2, e3]
    clear h hg e1 e2 e3
    go_enter Try.func31, Try.ntmps31
    go_wp2_with (go_at_call 61; refine HI.out.mono ?_; rintro e w' ⟨rfl, rfl⟩)
    go_ret2
    exact F.out

theorem round_add (a d : Int) : IntKind.i64.wrap (IntKind.u64.wrap (IntKind.u64.wrap a + IntKind.u64.wrap d)) = wrap64 (a + d) := by
  rw [IntKind.wrap_i64, IntKind.wrap_u64, IntKind.wrap_u64, IntKind.wrap_u64]
  unfold wrap64
  omega
theorem round_add' (a d : Int) : wrap64 (IntKind.u64.wrap (IntKind.u64.wrap a + IntKind.u64.wrap d)) = wrap64 (a + d) := by
  rw [IntKind.wrap_u64, IntKind.wrap_u64, IntKind.wrap_u64]
  unfold wrap64
  omega

theorem radd_c (h : RMem w B b v y z l) (k d : Int) : Calls Try.prog 32 #[.pointer (some ⟨b, 0, none⟩), .int .i64 k, .int .i64 d] w (RTurns B b v y z (Cs.addL l k d) (.tuple #[.int .i64 (Cs.loadV l k), .int .i64 (Cs.loadE l k)]) w) := by
  have c0 := h.heads.1
  cases hg : Cs.get l k with
  | some t =>
    have HI := hide (ris_some h hg)
    obtain ⟨h0, h1, h2⟩ := Cs.get_some hg
    obtain ⟨d1, _, _⟩ := h.cells h2
    have e1 : Cs.loadE l k = 0 := by simp only [Cs.loadE, hg]
    have e2 : Cs.loadV l k = t.v := by simp only [Cs.loadV, hg]
    have e3 : Cs.addL l k d = Cs.storeL l k (wrap64 (t.v + d)) := by simp only [Cs.addL, e2]
    have HS := hide (rstore_c h k (wrap64 (t.v + d)))
    rw [e1, e2, e3]
    have r1 := round_add t.v d
    have r2 := round_add' t.v d
    clear h hg e1 e2 e3 h2
    go_enter Try.func32, Try.ntmps32
    go_wp2_with (first | (go_at_call 61; refine HI.out.mono ?_; rintro e w' ⟨rfl, rfl⟩) | (go_at_call 29; refine HS.out.mono ?_; rintro e w' ⟨rfl, hm, ho⟩; have HM := hide hm; have HO := hide ho; clear hm ho))
    go_ret2
    exact ⟨rfl, HM.out, HO.out⟩
  | none =>
    have HI := hide (ris_none h hg)
    have F := hide (RTurns.same h (.tuple #[.int .i64 0, .int .i64 2]))
    have e1 : Cs.loadE l k = 2 := by simp only [Cs.loadE, hg]
    have e2 : Cs.loadV l k = 0 := by simp only [Cs.loadV, hg]
    have e3 : Cs.addL l k d = l := by simp only [Cs.addL, Cs.storeL, hg]
    rw [e1, e2, e3]
    clear h hg e1 e2 e3
    go_enter Try.func32, Try.ntmps32
    go_wp2_with (go_at_call 61; refine HI.out.mono ?_; rintro e w' ⟨rfl, rfl⟩)
    go_ret2
    exact F.out

theorem rsession_c (who : Int) (w : World) : Calls Try.prog 62 #[.int .i64 who] w fun e w' => e = .returned (.bool (Cs.isWho who)) ∧ w = w' := by
  by_cases h0 : 0 ≤ who
  · by_cases h1 : who < 16
    · have e : Cs.isWho who = true := by simp [Cs.isWho]; omega
      rw [e]
      clear e
      go_enter Try.func62, Try.ntmps62
      go_wp2
      go_ret
      exact ⟨rfl, rfl⟩
    · have e : Cs.isWho who = false := by simp [Cs.isWho]; omega
      rw [e]
      clear e
      have h2 : 16 ≤ who := by omega
      go_enter Try.func62, Try.ntmps62
      go_wp2
      go_ret
      exact ⟨rfl, rfl⟩
  · have e : Cs.isWho who = false := by simp [Cs.isWho]; omega
    rw [e]
    clear e
    have h2 : who < 0 := by omega
    go_enter Try.func62, Try.ntmps62
    go_wp2
    go_ret
    exact ⟨rfl, rfl⟩

/-- Each cell is nobody's, or some session's. -/
def Ok (l : List Cl) : Prop := ∀ t ∈ l, t.by_ = -1 ∨ 0 ≤ t.by_
theorem RTurns.own (h : RMem w B b v y z l) {k : Int} {t : Cl} (hg : Cs.get l k = some t) (who : Int) (x : Value) :
    RTurns B b v y z (Cs.put l k ⟨t.v, who, t.wr⟩) x w (.returned x) (w.setCell ⟨y, k.toNat, none⟩ (.int .i64 who)) := by
  obtain ⟨h0, h1, h2⟩ := Cs.get_some hg
  refine ⟨rfl, ?_, (Only.refl (fun k => k = v ∨ k = y ∨ k = z) w).setCell (p := ⟨y, k.toNat, none⟩) (.inl (.inr (.inl rfl))) _⟩
  rw [Cs.put_at h0]
  exact h.set_y h2 who

theorem rlock_c (h : RMem w B b v y z l) (hok : Ok l) (k who : Int) : Calls Try.prog 33 #[.pointer (some ⟨b, 0, none⟩), .int .i64 k, .int .i64 who] w (RTurns B b v y z (Cs.lockL l k who) (.int .i64 (Cs.lockE l k who)) w) := by
  have c1 := h.heads.2.1
  have HW := hide (rsession_c who)
  have F := hide (fun x => RTurns.same h (.int .i64 x))
  cases hg : Cs.get l k with
  | some t =>
    have HI := hide (ris_some h hg)
    obtain ⟨h0, h1, h2⟩ := Cs.get_some hg
    have d := (h.cells h2).2.1
    have f := h.hy.frozen k.toNat
    have O := hide (RTurns.own h hg who (.int .i64 0))
    have ht := hok t (Cs.get_mem hg)
    by_cases hw : Cs.isWho who = true
    · rw [hw] at HW
      by_cases hb : t.by_ = -1
      · have e1 : Cs.lockE l k who = 0 := by simp only [Cs.lockE, hg, if_pos hw, if_pos hb]
        have e2 : Cs.lockL l k who = Cs.put l k ⟨t.v, who, t.wr⟩ := by simp only [Cs.lockL, hg, if_pos hw, if_pos hb]
        have hq : t.by_ < 0 := by omega
        rw [e1, e2]
        clear h hg h2 e1 e2 hb F hw ht hok
        go_enter Try.func33, Try.ntmps33
        go_wp2_with (first | (go_at_call 61; refine HI.out.mono ?_; rintro e w' ⟨rfl, rfl⟩) | (go_at_call 62; refine (HW.out _).mono ?_; rintro e w' ⟨rfl, rfl⟩))
        go_ret
        exact O.out
      · have e1 : Cs.lockE l k who = 8 := by simp only [Cs.lockE, hg, if_pos hw, if_neg hb]
        have e2 : Cs.lockL l k who = l := by simp only [Cs.lockL, hg, if_pos hw, if_neg hb]
        have hq : 0 ≤ t.by_ := by omega
        rw [e1, e2]
        clear h hg h2 e1 e2 hb O hw ht hok
        go_enter Try.func33, Try.ntmps33
        go_wp2_with (first | (go_at_call 61; refine HI.out.mono ?_; rintro e w' ⟨rfl, rfl⟩) | (go_at_call 62; refine (HW.out _).mono ?_; rintro e w' ⟨rfl, rfl⟩))
        go_ret
        exact F.out 8
    · have e1 : Cs.lockE l k who = 2 := by simp only [Cs.lockE, hg, if_neg hw]
      have e2 : Cs.lockL l k who = l := by simp only [Cs.lockL, hg, if_neg hw]
      have e3 : Cs.isWho who = false := by simpa using hw
      rw [e1, e2]
      rw [e3] at HW
      clear h hg h2 e1 e2 e3 O hw ht hok
      go_enter Try.func33, Try.ntmps33
      go_wp2_with (first | (go_at_call 61; refine HI.out.mono ?_; rintro e w' ⟨rfl, rfl⟩) | (go_at_call 62; refine (HW.out _).mono ?_; rintro e w' ⟨rfl, rfl⟩))
      go_ret
      exact F.out 2
  | none =>
    have HI := hide (ris_none h hg)
    have e1 : Cs.lockE l k who = 2 := by simp only [Cs.lockE, hg]
    have e2 : Cs.lockL l k who = l := by simp only [Cs.lockL, hg]
    rw [e1, e2]
    clear h hg e1 e2 hok
    go_enter Try.func33, Try.ntmps33
    go_wp2_with (go_at_call 61; refine HI.out.mono ?_; rintro e w' ⟨rfl, rfl⟩)
    go_ret
    exact F.out 2

theorem rfree_c (h : RMem w B b v y z l) (k who : Int) : Calls Try.prog 34 #[.pointer (some ⟨b, 0, none⟩), .int .i64 k, .int .i64 who] w (RTurns B b v y z (Cs.freeL l k who) (.int .i64 (Cs.freeE l k who)) w) := by
  have c1 := h.heads.2.1
  have HW := hide (rsession_c who)
  have F := hide (fun x => RTurns.same h (.int .i64 x))
  cases hg : Cs.get l k with
  | some t =>
    have HI := hide (ris_some h hg)
    obtain ⟨h0, h1, h2⟩ := Cs.get_some hg
    have d := (h.cells h2).2.1
    have f := h.hy.frozen k.toNat
    have O := hide (RTurns.own h hg (-1) (.int .i64 0))
    by_cases hw : Cs.isWho who = true
    · rw [hw] at HW
      by_cases hb : t.by_ = who
      · have e1 : Cs.freeE l k who = 0 := by simp only [Cs.freeE, hg, if_pos hw, if_pos hb]
        have e2 : Cs.freeL l k who = Cs.put l k ⟨t.v, -1, t.wr⟩ := by simp only [Cs.freeL, hg, if_pos hw, if_pos hb]
        have hq : (t.by_ != who) = false := by simpa using hb
        rw [e1, e2]
        clear h hg h2 e1 e2 hb F hw
        go_enter Try.func34, Try.ntmps34
        go_wp2_with (first | (go_at_call 61; refine HI.out.mono ?_; rintro e w' ⟨rfl, rfl⟩) | (go_at_call 62; refine (HW.out _).mono ?_; rintro e w' ⟨rfl, rfl⟩))
        go_ret
        exact O.out
      · have e1 : Cs.freeE l k who = 5 := by simp only [Cs.freeE, hg, if_pos hw, if_neg hb]
        have e2 : Cs.freeL l k who = l := by simp only [Cs.freeL, hg, if_pos hw, if_neg hb]
        have hq : (t.by_ != who) = true := by simpa using hb
        rw [e1, e2]
        clear h hg h2 e1 e2 hb O hw
        go_enter Try.func34, Try.ntmps34
        go_wp2_with (first | (go_at_call 61; refine HI.out.mono ?_; rintro e w' ⟨rfl, rfl⟩) | (go_at_call 62; refine (HW.out _).mono ?_; rintro e w' ⟨rfl, rfl⟩))
        go_ret
        exact F.out 5
    · have e1 : Cs.freeE l k who = 2 := by simp only [Cs.freeE, hg, if_neg hw]
      have e2 : Cs.freeL l k who = l := by simp only [Cs.freeL, hg, if_neg hw]
      have e3 : Cs.isWho who = false := by simpa using hw
      rw [e1, e2]
      rw [e3] at HW
      clear h hg h2 e1 e2 e3 O hw
      go_enter Try.func34, Try.ntmps34
      go_wp2_with (first | (go_at_call 61; refine HI.out.mono ?_; rintro e w' ⟨rfl, rfl⟩) | (go_at_call 62; refine (HW.out _).mono ?_; rintro e w' ⟨rfl, rfl⟩))
      go_ret
      exact F.out 2
  | none =>
    have HI := hide (ris_none h hg)
    have e1 : Cs.freeE l k who = 2 := by simp only [Cs.freeE, hg]
    have e2 : Cs.freeL l k who = l := by simp only [Cs.freeL, hg]
    rw [e1, e2]
    clear h hg e1 e2
    go_enter Try.func34, Try.ntmps34
    go_wp2_with (go_at_call 61; refine HI.out.mono ?_; rintro e w' ⟨rfl, rfl⟩)
    go_ret
    exact F.out 2
end
end Go.Proofs.Ytaoonjamlcdfaaa
