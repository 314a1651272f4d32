/-
  The contract of a machine's Step at what jumps, locks and frees.
-/
import Derived.Test.YtaoonjamlcdfaaaStep
namespace Go.Proofs.Ytaoonjamlcdfaaa
open Go.RowKit

section
variable {w w' wt : World} {L : Lay} {st : St} {s : Ss} {k j bx : Nat} {pv : Value} {i : In}
theorem Mv.later (h : Mv w wt L st k j pv s i bx) (hb : Below wt.heap.size wt w') : Mv w w' L st k j pv s i bx := by
  refine ⟨h.mach.later hb, h.hs, h.hj, h.hp, h.box.below hb h.box.lt, h.hbx, h.size, h.gl, h.only.trans (Only.of_below (S := fun k => wt.heap.size ≤ k) hb fun _ h => h) (fun q hq hq2 => ?_)⟩
  have := h.only.size
  omega
theorem moves_idle (h : Mv w wt L st k j pv s i bx) (hop : 7 ≤ i.op) :
    Calls Try.prog 70 #[.pointer (some ⟨L.b, 0, none⟩), .pointer (some ⟨j, 0, none⟩), inAgg i] wt fun e w' => e = .returned (.bool false) ∧ Mv w w' L st k j pv s i bx := by
  refine (moves_none hop).mono ?_
  rintro e w' ⟨he, rfl⟩
  exact ⟨he, h.later ((Below.refl _ _).alloc (Nat.le_refl _) _)⟩
theorem Mv.lock (h : Mv w wt L st k j pv s i bx) (c who : Int) : Calls Try.prog 24 #[.pointer (some ⟨L.m, 0, none⟩), .int .i64 c, .int .i64 who] wt fun e w' => e = .returned (.int .i64 (Cs.lockE st.cells c who)) ∧ Mv w w' L ⟨Cs.lockL st.cells c who, st.ses⟩ k j pv s i bx :=
  h.cells (lock_c h.mach.mem c who) (Cs.lockL_length _ _ _) (Cs.all_lock _ _ h.mach.good.own)
theorem Mv.free (h : Mv w wt L st k j pv s i bx) (c who : Int) : Calls Try.prog 25 #[.pointer (some ⟨L.m, 0, none⟩), .int .i64 c, .int .i64 who] wt fun e w' => e = .returned (.int .i64 (Cs.freeE st.cells c who)) ∧ Mv w w' L ⟨Cs.freeL st.cells c who, st.ses⟩ k j pv s i bx :=
  h.cells (free_c h.mach.mem c who) (Cs.freeL_length _ _ _) (Cs.all_free _ _ h.mach.good.own)

set_option maxRecDepth 100000 in
set_option maxHeartbeats 8000000 in
theorem step_go (h : Mach w L st) {pick : Int} (hs : Sd.get st.ses pick = some s) (ho : s.p[s.at_]? = some i) (hop8 : i.op = 8) : Calls Try.prog 45 #[.pointer (some ⟨L.b, 0, none⟩), .int .i64 pick] w (Steps L ⟨(Sd.act st.cells s i pick).1, st.ses.set pick.toNat (Sd.act st.cells s i pick).2⟩ (.bool true) w) := by
  have hop : 7 ≤ i.op := by omega
  have HOP := hide hop8
  clear hop8
  obtain ⟨_, _, j, pv, _, _, e1, _, hse, hf⟩ := h.at_ hs
  have hs' := get_nat hs
  have HN := hide (session_some h hs e1)
  have hlt : s.at_ < s.p.length := (List.getElem?_eq_some_iff.1 ho).1
  have hov : Sd.over s = false := by simp [Sd.over]; omega
  have HO := over_c hse
  rw [hov] at HO
  have HO := hide HO
  have hr := hf.ok i (List.mem_of_getElem? ho)
  have hlen := hf.len
  have HM := hide h
  clear hse hf hov h
  go_enter Try.func45, Try.ntmps45
  go_wp2_with (first | (go_at_call 68; refine HN.out.mono ?_; rintro e w' ⟨rfl, rfl⟩) | (go_at_call 69; refine HO.out.mono ?_; rintro e w2 ⟨rfl, nd, hw2⟩; have HM2 := hide (show Mach w2 L st by rw [hw2]; exact HM.out.drewN nd); have O2 := hide (show Only L.may w w2 by rw [hw2]; exact (Only.refl _ _).drewN nd); clear hw2))
  have h2 := HM2.out
  clear HM HN HO HM2
  obtain ⟨pg, pc, d0, d1, c0, c1, c2, c3, _⟩ := h2.rd hs ho e1
  obtain ⟨pv2, M⟩ := Mv.start h2 hs' e1 i
  have HM := hide (fun n => moves_idle (M.drewN n) hop)
  have hi : (s.at_ : Int) < (s.p.length : Int) := by omega
  clear h2 M
  have z0 := (World.cell?_alloc_lt w2 (.cells #[.int .i64 0, .int .i64 0, .int .i64 0, .int .i64 0] 95) ⟨j, 0, none⟩ (World.block_lt_of_cell? w2 ⟨j, 0, none⟩ d0)).trans d0
  have z1 := (World.cell?_alloc_lt w2 (.cells #[.int .i64 0, .int .i64 0, .int .i64 0, .int .i64 0] 95) ⟨j, 1, none⟩ (World.block_lt_of_cell? w2 ⟨j, 1, none⟩ d1)).trans d1
  have z2 := (World.cell?_alloc_lt w2 (.cells #[.int .i64 0, .int .i64 0, .int .i64 0, .int .i64 0] 95) ⟨pg, s.at_ * 4, none⟩ (World.block_lt_of_cell? w2 ⟨pg, s.at_ * 4, none⟩ c0)).trans c0
  have z3 := (World.cell?_alloc_lt w2 (.cells #[.int .i64 0, .int .i64 0, .int .i64 0, .int .i64 0] 95) ⟨pg, s.at_ * 4 + 1, none⟩ (World.block_lt_of_cell? w2 ⟨pg, s.at_ * 4 + 1, none⟩ c1)).trans c1
  have z4 := (World.cell?_alloc_lt w2 (.cells #[.int .i64 0, .int .i64 0, .int .i64 0, .int .i64 0] 95) ⟨pg, s.at_ * 4 + 2, none⟩ (World.block_lt_of_cell? w2 ⟨pg, s.at_ * 4 + 2, none⟩ c2)).trans c2
  have z5 := (World.cell?_alloc_lt w2 (.cells #[.int .i64 0, .int .i64 0, .int .i64 0, .int .i64 0] 95) ⟨pg, s.at_ * 4 + 3, none⟩ (World.block_lt_of_cell? w2 ⟨pg, s.at_ * 4 + 3, none⟩ c3)).trans c3
  go_region
  have HM1 := hide (show Calls Try.prog 70 #[.pointer (some ⟨L.b, 0, none⟩), .pointer (some ⟨j, 0, none⟩), inAgg i] ((w2.alloc (.cells #[.int .i64 i.op, .int .i64 i.c, .int .i64 i.a, .int .i64 i.b] 95)).drew) (fun e w' => e = .returned (.bool false) ∧ Mv w2 w' L st pick.toNat j pv2 s i w2.heap.size) from HM.out 1)
  have X0 := hide (show ((w2.alloc (.cells #[.int .i64 i.op, .int .i64 i.c, .int .i64 i.a, .int .i64 i.b] 95)).drew).cell? ⟨w2.heap.size, 0, none⟩ = some (.int .i64 i.op) ∧ ((w2.alloc (.cells #[.int .i64 i.op, .int .i64 i.c, .int .i64 i.a, .int .i64 i.b] 95)).drew).cell? ⟨w2.heap.size, 1, none⟩ = some (.int .i64 i.c) ∧ ((w2.alloc (.cells #[.int .i64 i.op, .int .i64 i.c, .int .i64 i.a, .int .i64 i.b] 95)).drew).cell? ⟨w2.heap.size, 2, none⟩ = some (.int .i64 i.a) ∧ ((w2.alloc (.cells #[.int .i64 i.op, .int .i64 i.c, .int .i64 i.a, .int .i64 i.b] 95)).drew).cell? ⟨w2.heap.size, 3, none⟩ = some (.int .i64 i.b) from ⟨(Blk.new w2 95 _).cell 0, (Blk.new w2 95 _).cell 1, (Blk.new w2 95 _).cell 2, (Blk.new w2 95 _).cell 3⟩)
  generalize (w2.alloc (.cells #[.int .i64 i.op, .int .i64 i.c, .int .i64 i.a, .int .i64 i.b] 95)).drew = wx at *
  obtain ⟨x0, x1, x2, x3⟩ := X0.out
  clear HM X0 d0 d1 c0 c1 c2 c3 z0 z1 z2 z3 z4 z5
  go_wp2_with fail
  refine HM1.out.mono ?_
  rintro e w5 ⟨rfl, h5⟩
  obtain ⟨b0, b1, b2, b3⟩ := h5.bcells
  have y0 := h5.mach.heads.1
  have y1 := h5.ses.cell_at.2
  have y2 := h5.ses.blk.frozen 1
  have HO2 := hide (O2.out.trans h5.only (fun _ _ h => h))
  have H5 := hide h5
  clear h5 HM1 O2 x0 x1 x2 x3
  have hop8 := HOP.out
  obtain ⟨t0, t1⟩ := Sd.right_to hr (.inr hop8)
  have h6 := H5.out.place i.b.toNat (by omega)
  rw [Int.toNat_of_nonneg t0] at h6
  have hact : Sd.act st.cells s i pick = (st.cells, { s with at_ := i.b.toNat }) := by simp [Sd.act, hop8]
  have HFN := hide (show Steps L ⟨(Sd.act st.cells s i pick).1, st.ses.set pick.toNat (Sd.act st.cells s i pick).2⟩ (.bool true) w (.returned (.bool true)) (w5.setCell ⟨j, 1, none⟩ (.int .i64 (i.b))) by
    rw [hact]
    exact ⟨rfl, h6.mach, HO2.out.trans ((Only.refl (fun q => q = j) w5).setCell (p := ⟨j, 1, none⟩) (.inl rfl) _ |>.may_ses e1) (fun _ _ h => h)⟩)
  clear h6 hact
  rw [hop8] at b0
  clear H5 HO2 hr ho hs hs'
  go_wp2_with (first | go_step3)
  go_ret
  exact HFN.out

set_option maxRecDepth 100000 in
set_option maxHeartbeats 8000000 in
theorem step_zero (h : Mach w L st) {pick : Int} (hs : Sd.get st.ses pick = some s) (ho : s.p[s.at_]? = some i) (hop8 : i.op = 7) (hz : Sd.rg s.r i.a = 0) : Calls Try.prog 45 #[.pointer (some ⟨L.b, 0, none⟩), .int .i64 pick] w (Steps L ⟨(Sd.act st.cells s i pick).1, st.ses.set pick.toNat (Sd.act st.cells s i pick).2⟩ (.bool true) w) := by
  have hop : 7 ≤ i.op := by omega
  have HOP := hide hop8
  clear hop8
  obtain ⟨_, _, j, pv, _, _, e1, _, hse, hf⟩ := h.at_ hs
  have hs' := get_nat hs
  have HN := hide (session_some h hs e1)
  have hlt : s.at_ < s.p.length := (List.getElem?_eq_some_iff.1 ho).1
  have hov : Sd.over s = false := by simp [Sd.over]; omega
  have HO := over_c hse
  rw [hov] at HO
  have HO := hide HO
  have hr := hf.ok i (List.mem_of_getElem? ho)
  have hlen := hf.len
  have HM := hide h
  clear hse hf hov h
  go_enter Try.func45, Try.ntmps45
  go_wp2_with (first | (go_at_call 68; refine HN.out.mono ?_; rintro e w' ⟨rfl, rfl⟩) | (go_at_call 69; refine HO.out.mono ?_; rintro e w2 ⟨rfl, nd, hw2⟩; have HM2 := hide (show Mach w2 L st by rw [hw2]; exact HM.out.drewN nd); have O2 := hide (show Only L.may w w2 by rw [hw2]; exact (Only.refl _ _).drewN nd); clear hw2))
  have h2 := HM2.out
  clear HM HN HO HM2
  obtain ⟨pg, pc, d0, d1, c0, c1, c2, c3, _⟩ := h2.rd hs ho e1
  obtain ⟨pv2, M⟩ := Mv.start h2 hs' e1 i
  have HM := hide (fun n => moves_idle (M.drewN n) hop)
  have hi : (s.at_ : Int) < (s.p.length : Int) := by omega
  clear h2 M
  have z0 := (World.cell?_alloc_lt w2 (.cells #[.int .i64 0, .int .i64 0, .int .i64 0, .int .i64 0] 95) ⟨j, 0, none⟩ (World.block_lt_of_cell? w2 ⟨j, 0, none⟩ d0)).trans d0
  have z1 := (World.cell?_alloc_lt w2 (.cells #[.int .i64 0, .int .i64 0, .int .i64 0, .int .i64 0] 95) ⟨j, 1, none⟩ (World.block_lt_of_cell? w2 ⟨j, 1, none⟩ d1)).trans d1
  have z2 := (World.cell?_alloc_lt w2 (.cells #[.int .i64 0, .int .i64 0, .int .i64 0, .int .i64 0] 95) ⟨pg, s.at_ * 4, none⟩ (World.block_lt_of_cell? w2 ⟨pg, s.at_ * 4, none⟩ c0)).trans c0
  have z3 := (World.cell?_alloc_lt w2 (.cells #[.int .i64 0, .int .i64 0, .int .i64 0, .int .i64 0] 95) ⟨pg, s.at_ * 4 + 1, none⟩ (World.block_lt_of_cell? w2 ⟨pg, s.at_ * 4 + 1, none⟩ c1)).trans c1
  have z4 := (World.cell?_alloc_lt w2 (.cells #[.int .i64 0, .int .i64 0, .int .i64 0, .int .i64 0] 95) ⟨pg, s.at_ * 4 + 2, none⟩ (World.block_lt_of_cell? w2 ⟨pg, s.at_ * 4 + 2, none⟩ c2)).trans c2
  have z5 := (World.cell?_alloc_lt w2 (.cells #[.int .i64 0, .int .i64 0, .int .i64 0, .int .i64 0] 95) ⟨pg, s.at_ * 4 + 3, none⟩ (World.block_lt_of_cell? w2 ⟨pg, s.at_ * 4 + 3, none⟩ c3)).trans c3
  go_region
  have HM1 := hide (show Calls Try.prog 70 #[.pointer (some ⟨L.b, 0, none⟩), .pointer (some ⟨j, 0, none⟩), inAgg i] ((w2.alloc (.cells #[.int .i64 i.op, .int .i64 i.c, .int .i64 i.a, .int .i64 i.b] 95)).drew) (fun e w' => e = .returned (.bool false) ∧ Mv w2 w' L st pick.toNat j pv2 s i w2.heap.size) from HM.out 1)
  have X0 := hide (show ((w2.alloc (.cells #[.int .i64 i.op, .int .i64 i.c, .int .i64 i.a, .int .i64 i.b] 95)).drew).cell? ⟨w2.heap.size, 0, none⟩ = some (.int .i64 i.op) ∧ ((w2.alloc (.cells #[.int .i64 i.op, .int .i64 i.c, .int .i64 i.a, .int .i64 i.b] 95)).drew).cell? ⟨w2.heap.size, 1, none⟩ = some (.int .i64 i.c) ∧ ((w2.alloc (.cells #[.int .i64 i.op, .int .i64 i.c, .int .i64 i.a, .int .i64 i.b] 95)).drew).cell? ⟨w2.heap.size, 2, none⟩ = some (.int .i64 i.a) ∧ ((w2.alloc (.cells #[.int .i64 i.op, .int .i64 i.c, .int .i64 i.a, .int .i64 i.b] 95)).drew).cell? ⟨w2.heap.size, 3, none⟩ = some (.int .i64 i.b) from ⟨(Blk.new w2 95 _).cell 0, (Blk.new w2 95 _).cell 1, (Blk.new w2 95 _).cell 2, (Blk.new w2 95 _).cell 3⟩)
  generalize (w2.alloc (.cells #[.int .i64 i.op, .int .i64 i.c, .int .i64 i.a, .int .i64 i.b] 95)).drew = wx at *
  obtain ⟨x0, x1, x2, x3⟩ := X0.out
  clear HM X0 d0 d1 c0 c1 c2 c3 z0 z1 z2 z3 z4 z5
  go_wp2_with fail
  refine HM1.out.mono ?_
  rintro e w5 ⟨rfl, h5⟩
  obtain ⟨b0, b1, b2, b3⟩ := h5.bcells
  have y0 := h5.mach.heads.1
  have y1 := h5.ses.cell_at.2
  have y2 := h5.ses.blk.frozen 1
  have HO2 := hide (O2.out.trans h5.only (fun _ _ h => h))
  have H5 := hide h5
  clear h5 HM1 O2 x0 x1 x2 x3
  have hop8 := HOP.out
  obtain ⟨t0, t1⟩ := Sd.right_to hr (.inl hop8)
  obtain ⟨a0, a4⟩ := Sd.right_a hr (by omega)
  have rc := H5.out.rcell a0 a4
  rw [hz] at rc
  have h6 := fun n => (H5.out.drewN n).place i.b.toNat (by omega)
  rw [Int.toNat_of_nonneg t0] at h6
  have hact : Sd.act st.cells s i pick = (st.cells, { s with at_ := i.b.toNat }) := by simp [Sd.act, hop8, hz]
  have HFN := hide (fun nq => show Steps L ⟨(Sd.act st.cells s i pick).1, st.ses.set pick.toNat (Sd.act st.cells s i pick).2⟩ (.bool true) w (.returned (.bool true)) ((w5.drewN nq).setCell ⟨j, 1, none⟩ (.int .i64 (i.b))) from by
    rw [hact]
    exact ⟨rfl, (h6 nq).mach, HO2.out.trans (((Only.refl (fun q => q = j) w5).drewN nq).setCell (p := ⟨j, 1, none⟩) (.inl rfl) _ |>.may_ses e1) (fun _ _ h => h)⟩)
  clear h6 hact
  rw [hop8] at b0
  clear H5 HO2 hr ho hs hs'
  go_wp2_with (first | go_step3)
  go_quiet (fail)
  go_wp2_with (first | go_step3)
  go_ret
  exact HFN.out _

set_option maxRecDepth 100000 in
set_option maxHeartbeats 8000000 in
theorem step_nonzero (h : Mach w L st) {pick : Int} (hs : Sd.get st.ses pick = some s) (ho : s.p[s.at_]? = some i) (hop8 : i.op = 7) (hz : ¬ Sd.rg s.r i.a = 0) : Calls Try.prog 45 #[.pointer (some ⟨L.b, 0, none⟩), .int .i64 pick] w (Steps L ⟨(Sd.act st.cells s i pick).1, st.ses.set pick.toNat (Sd.act st.cells s i pick).2⟩ (.bool true) w) := by
  have hop : 7 ≤ i.op := by omega
  have HOP := hide hop8
  clear hop8
  obtain ⟨_, _, j, pv, _, _, e1, _, hse, hf⟩ := h.at_ hs
  have hs' := get_nat hs
  have HN := hide (session_some h hs e1)
  have hlt : s.at_ < s.p.length := (List.getElem?_eq_some_iff.1 ho).1
  have hov : Sd.over s = false := by simp [Sd.over]; omega
  have HO := over_c hse
  rw [hov] at HO
  have HO := hide HO
  have hr := hf.ok i (List.mem_of_getElem? ho)
  have hlen := hf.len
  have HM := hide h
  clear hse hf hov h
  go_enter Try.func45, Try.ntmps45
  go_wp2_with (first | (go_at_call 68; refine HN.out.mono ?_; rintro e w' ⟨rfl, rfl⟩) | (go_at_call 69; refine HO.out.mono ?_; rintro e w2 ⟨rfl, nd, hw2⟩; have HM2 := hide (show Mach w2 L st by rw [hw2]; exact HM.out.drewN nd); have O2 := hide (show Only L.may w w2 by rw [hw2]; exact (Only.refl _ _).drewN nd); clear hw2))
  have h2 := HM2.out
  clear HM HN HO HM2
  obtain ⟨pg, pc, d0, d1, c0, c1, c2, c3, _⟩ := h2.rd hs ho e1
  obtain ⟨pv2, M⟩ := Mv.start h2 hs' e1 i
  have HM := hide (fun n => moves_idle (M.drewN n) hop)
  have hi : (s.at_ : Int) < (s.p.length : Int) := by omega
  clear h2 M
  have z0 := (World.cell?_alloc_lt w2 (.cells #[.int .i64 0, .int .i64 0, .int .i64 0, .int .i64 0] 95) ⟨j, 0, none⟩ (World.block_lt_of_cell? w2 ⟨j, 0, none⟩ d0)).trans d0
  have z1 := (World.cell?_alloc_lt w2 (.cells #[.int .i64 0, .int .i64 0, .int .i64 0, .int .i64 0] 95) ⟨j, 1, none⟩ (World.block_lt_of_cell? w2 ⟨j, 1, none⟩ d1)).trans d1
  have z2 := (World.cell?_alloc_lt w2 (.cells #[.int .i64 0, .int .i64 0, .int .i64 0, .int .i64 0] 95) ⟨pg, s.at_ * 4, none⟩ (World.block_lt_of_cell? w2 ⟨pg, s.at_ * 4, none⟩ c0)).trans c0
  have z3 := (World.cell?_alloc_lt w2 (.cells #[.int .i64 0, .int .i64 0, .int .i64 0, .int .i64 0] 95) ⟨pg, s.at_ * 4 + 1, none⟩ (World.block_lt_of_cell? w2 ⟨pg, s.at_ * 4 + 1, none⟩ c1)).trans c1
  have z4 := (World.cell?_alloc_lt w2 (.cells #[.int .i64 0, .int .i64 0, .int .i64 0, .int .i64 0] 95) ⟨pg, s.at_ * 4 + 2, none⟩ (World.block_lt_of_cell? w2 ⟨pg, s.at_ * 4 + 2, none⟩ c2)).trans c2
  have z5 := (World.cell?_alloc_lt w2 (.cells #[.int .i64 0, .int .i64 0, .int .i64 0, .int .i64 0] 95) ⟨pg, s.at_ * 4 + 3, none⟩ (World.block_lt_of_cell? w2 ⟨pg, s.at_ * 4 + 3, none⟩ c3)).trans c3
  go_region
  have HM1 := hide (show Calls Try.prog 70 #[.pointer (some ⟨L.b, 0, none⟩), .pointer (some ⟨j, 0, none⟩), inAgg i] ((w2.alloc (.cells #[.int .i64 i.op, .int .i64 i.c, .int .i64 i.a, .int .i64 i.b] 95)).drew) (fun e w' => e = .returned (.bool false) ∧ Mv w2 w' L st pick.toNat j pv2 s i w2.heap.size) from HM.out 1)
  have X0 := hide (show ((w2.alloc (.cells #[.int .i64 i.op, .int .i64 i.c, .int .i64 i.a, .int .i64 i.b] 95)).drew).cell? ⟨w2.heap.size, 0, none⟩ = some (.int .i64 i.op) ∧ ((w2.alloc (.cells #[.int .i64 i.op, .int .i64 i.c, .int .i64 i.a, .int .i64 i.b] 95)).drew).cell? ⟨w2.heap.size, 1, none⟩ = some (.int .i64 i.c) ∧ ((w2.alloc (.cells #[.int .i64 i.op, .int .i64 i.c, .int .i64 i.a, .int .i64 i.b] 95)).drew).cell? ⟨w2.heap.size, 2, none⟩ = some (.int .i64 i.a) ∧ ((w2.alloc (.cells #[.int .i64 i.op, .int .i64 i.c, .int .i64 i.a, .int .i64 i.b] 95)).drew).cell? ⟨w2.heap.size, 3, none⟩ = some (.int .i64 i.b) from ⟨(Blk.new w2 95 _).cell 0, (Blk.new w2 95 _).cell 1, (Blk.new w2 95 _).cell 2, (Blk.new w2 95 _).cell 3⟩)
  generalize (w2.alloc (.cells #[.int .i64 i.op, .int .i64 i.c, .int .i64 i.a, .int .i64 i.b] 95)).drew = wx at *
  obtain ⟨x0, x1, x2, x3⟩ := X0.out
  clear HM X0 d0 d1 c0 c1 c2 c3 z0 z1 z2 z3 z4 z5
  go_wp2_with fail
  refine HM1.out.mono ?_
  rintro e w5 ⟨rfl, h5⟩
  obtain ⟨b0, b1, b2, b3⟩ := h5.bcells
  have y0 := h5.mach.heads.1
  have y1 := h5.ses.cell_at.2
  have y2 := h5.ses.blk.frozen 1
  have HO2 := hide (O2.out.trans h5.only (fun _ _ h => h))
  have H5 := hide h5
  clear h5 HM1 O2 x0 x1 x2 x3
  have hop8 := HOP.out
  obtain ⟨t0, t1⟩ := Sd.right_to hr (.inl hop8)
  obtain ⟨a0, a4⟩ := Sd.right_a hr (by omega)
  have rc := H5.out.rcell a0 a4
  have h6 := fun n => (H5.out.drewN n).place (s.at_ + 1) (by omega)
  rw [show ((s.at_ + 1 : Nat) : Int) = (s.at_ : Int) + 1 by omega] at h6
  have s1 : IntKind.i64.wrap ((s.at_ : Int) + 1) = (s.at_ : Int) + 1 := IntWalk.i64_in _ (by omega)
  have hact : Sd.act st.cells s i pick = (st.cells, { s with at_ := s.at_ + 1 }) := by simp [Sd.act, hop8, hz]
  have hz2 : (Sd.rg s.r i.a == 0) = false := by simp [hz]
  have HFN := hide (fun nq => show Steps L ⟨(Sd.act st.cells s i pick).1, st.ses.set pick.toNat (Sd.act st.cells s i pick).2⟩ (.bool true) w (.returned (.bool true)) ((w5.drewN nq).setCell ⟨j, 1, none⟩ (.int .i64 ((s.at_ : Int) + 1))) from by
    rw [hact]
    exact ⟨rfl, (h6 nq).mach, HO2.out.trans (((Only.refl (fun q => q = j) w5).drewN nq).setCell (p := ⟨j, 1, none⟩) (.inl rfl) _ |>.may_ses e1) (fun _ _ h => h)⟩)
  clear h6 hact
  rw [hop8] at b0
  clear H5 HO2 hr ho hs hs'
  go_wp2_with (first | go_step3)
  go_quiet (fail)
  go_wp2_with (first | go_step3)
  go_ret
  exact HFN.out _

end
end Go.Proofs.Ytaoonjamlcdfaaa
