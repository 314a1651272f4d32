/-
  The contract of the reference's Step at what reads and writes cells.
-/
import Derived.Test.YtaoonjamlcdfaaaRStepA
namespace Go.Proofs.Ytaoonjamlcdfaaa
open Go.RowKit

section
variable {w wt w' : World} {L : RLay} {st : St} {s : Ss} {k j bx : Nat} {pv : Value} {i : In}
set_option maxRecDepth 100000 in
set_option maxHeartbeats 8000000 in
theorem rstep_load (h : RMach w L st) {pick : Int} (hs : Sd.get st.ses pick = some s) (ho : s.p[s.at_]? = some i) (hop8 : i.op = 2) : Calls Try.prog 47 #[.pointer (some ⟨L.b, 0, none⟩), .int .i64 pick] w (RSteps L ⟨(Sd.act st.cells s i pick).1, st.ses.set pick.toNat (Sd.act st.cells s i pick).2⟩ (.bool true) w) := by
  have HOP := hide hop8
  clear hop8
  obtain ⟨sg, scap, j, pv, hsv, _, e1, e2, hse, hf⟩ := h.at_ hs
  have hs' := get_nat hs
  obtain ⟨k0, k1, _⟩ := Sd.get_some hs
  have hlt : s.at_ < s.p.length := (List.getElem?_eq_some_iff.1 ho).1
  have hov : Sd.overB st pick = false := by simp [Sd.overB, hs, Sd.over]; omega
  have HO := rover_c h pick
  rw [hov] at HO
  have HO := hide HO
  have hr := hf.ok i (List.mem_of_getElem? ho)
  have hlen := hf.len
  have HM := hide h
  have HSV := hide hsv
  clear hse hf hov h hsv
  go_enter Try.func47, Try.ntmps47
  go_wp2_with fail
  refine HO.out.mono ?_
  rintro e w2 ⟨rfl, nd, hw2⟩
  have HM2 := hide (show RMach w2 L st by rw [hw2]; exact HM.out.drewN nd)
  have O2 := hide (show Only L.may w w2 by rw [hw2]; exact (Only.refl _ _).drewN nd)
  clear hw2 HO HM
  have h2 := HM2.out
  have a1 := h2.heads.2
  rw [HSV.out] at a1
  obtain ⟨sg', scap', j', _, hv', a2, e1', _⟩ := h2.at_ hs
  rw [HSV.out] at hv'
  cases hv'
  rw [e1] at e1'
  cases e1'
  obtain ⟨pg, pc, d0, d1, c0, c1, c2, c3, _⟩ := h2.rd hs ho e1
  obtain ⟨pv2, M⟩ := RMv.start h2 hs' e1 i
  have HMM := hide (M.drewN 1)
  have hi : (s.at_ : Int) < (s.p.length : Int) := by omega
  have s1 : IntKind.i64.wrap ((s.at_ : Int) + 1) = (s.at_ : Int) + 1 := IntWalk.i64_in _ (by omega)
  clear h2 M HM2
  have z0 := (World.cell?_alloc_lt w2 (.cells #[.int .i64 0, .int .i64 0, .int .i64 0, .int .i64 0] 95) ⟨j, 0, none⟩ (World.block_lt_of_cell? w2 ⟨j, 0, none⟩ d0)).trans d0
  have z1 := (World.cell?_alloc_lt w2 (.cells #[.int .i64 0, .int .i64 0, .int .i64 0, .int .i64 0] 95) ⟨j, 1, none⟩ (World.block_lt_of_cell? w2 ⟨j, 1, none⟩ d1)).trans d1
  have z2 := (World.cell?_alloc_lt w2 (.cells #[.int .i64 0, .int .i64 0, .int .i64 0, .int .i64 0] 95) ⟨pg, s.at_ * 4, none⟩ (World.block_lt_of_cell? w2 ⟨pg, s.at_ * 4, none⟩ c0)).trans c0
  have z3 := (World.cell?_alloc_lt w2 (.cells #[.int .i64 0, .int .i64 0, .int .i64 0, .int .i64 0] 95) ⟨pg, s.at_ * 4 + 1, none⟩ (World.block_lt_of_cell? w2 ⟨pg, s.at_ * 4 + 1, none⟩ c1)).trans c1
  have z4 := (World.cell?_alloc_lt w2 (.cells #[.int .i64 0, .int .i64 0, .int .i64 0, .int .i64 0] 95) ⟨pg, s.at_ * 4 + 2, none⟩ (World.block_lt_of_cell? w2 ⟨pg, s.at_ * 4 + 2, none⟩ c2)).trans c2
  have z5 := (World.cell?_alloc_lt w2 (.cells #[.int .i64 0, .int .i64 0, .int .i64 0, .int .i64 0] 95) ⟨pg, s.at_ * 4 + 3, none⟩ (World.block_lt_of_cell? w2 ⟨pg, s.at_ * 4 + 3, none⟩ c3)).trans c3
  go_wp2_with fail
  go_region
  have H5 := hide (show RMv w2 ((w2.alloc (.cells #[.int .i64 i.op, .int .i64 i.c, .int .i64 i.a, .int .i64 i.b] 95)).drew) L st pick.toNat j pv2 s i w2.heap.size from HMM.out)
  generalize (w2.alloc (.cells #[.int .i64 i.op, .int .i64 i.c, .int .i64 i.a, .int .i64 i.b] 95)).drew = wx at *
  obtain ⟨b0, b1, b2, b3⟩ := H5.out.bcells
  have y0 := H5.out.mach.heads.1
  have y1 := H5.out.ses.cell_at.2
  have hop8 := HOP.out
  rw [hop8] at b0
  have bxj : w2.heap.size ≠ j := fun e => by have := H5.out.gl _ H5.out.jall; omega
  clear HMM d0 d1 c0 c1 c2 c3 z0 z1 z2 z3 z4 z5 a1 a2
  obtain ⟨a0, a4⟩ := Sd.right_a hr (by omega)
  have rc := H5.out.rcell a0 a4
  have rf := H5.out.ses.blk.frozen (2 + i.a.toNat)
  have hact : Sd.act st.cells s i pick = (st.cells, { s with r := Sd.sr s.r i.a (Cs.loadV st.cells i.c), at_ := s.at_ + 1 }) := by simp [Sd.act, hop8]
  have HLD := hide (fun n => rload_c (H5.out.drewN n).mach.mem i.c)
  generalize Cs.loadV st.cells i.c = v at *
  generalize Cs.loadE st.cells i.c = ve at *
  have HFN := hide (fun (wt : World) (h : RMv w2 wt L ⟨st.cells, st.ses.set pick.toNat { s with r := Sd.sr s.r i.a v }⟩ pick.toNat j pv2 { s with r := Sd.sr s.r i.a v } i w2.heap.size) => show (wt.cell? ⟨j, 1, none⟩ = some (.int .i64 (s.at_ : Int)) ∧ wt.frozen? ⟨j, 1, none⟩ = false) ∧ RSteps L ⟨(Sd.act st.cells s i pick).1, st.ses.set pick.toNat (Sd.act st.cells s i pick).2⟩ (.bool true) w (.returned (.bool true)) (wt.setCell ⟨j, 1, none⟩ (.int .i64 ((s.at_ : Int) + 1))) from by
    obtain ⟨f1, f2, f3⟩ := h.fin ((s.at_ : Int) + 1) (by omega) (by show (s.at_ : Int) + 1 ≤ (s.p.length : Int); omega)
    refine ⟨f1, rfl, ?_, O2.out.trans f3 (fun _ _ h => h)⟩
    rw [hact]
    simpa [List.set_set] using f2)
  clear hr ho hs hs' hact O2 HOP hop8
  go_wp2_with (first | go_step3)
  go_region_held3 (fun wt => wt.cell? ⟨L.b, 0, none⟩ = some (.pointer (some ⟨L.m, 0, none⟩)) ∧ wt.cell? ⟨w2.heap.size, 1, none⟩ = some (.int .i64 i.c))
    (go_keep)
    ((go_at_call 28; refine (HLD.out _).mono ?_; rintro e w' ⟨rfl, rfl⟩))
  have H5b := hide (show RMv w2 (wx.drewN 1) L st pick.toNat j pv2 s i w2.heap.size from H5.out.drewN 1)
  clear rc rf b0 b1 b2 b3 y0 y1 HLD H5
  generalize wx.drewN 1 = wy at *
  obtain ⟨_, b1, b2, b3⟩ := H5b.out.bcells
  have rc := H5b.out.rcell a0 a4
  have rf := H5b.out.ses.blk.frozen (2 + i.a.toNat)
  have H6 := hide (show RMv w2 ((wy.setCell ⟨j, 2 + i.a.toNat, none⟩ (.int .i64 v)).drew) L ⟨st.cells, st.ses.set pick.toNat { s with r := Sd.sr s.r i.a v }⟩ pick.toNat j pv2 { s with r := Sd.sr s.r i.a v } i w2.heap.size from (H5b.out.drewN 1).reg i.a v)
  go_wp2_with (first | go_step3)
  go_region
  obtain ⟨⟨g1, g2⟩, hE⟩ := HFN.out _ H6.out
  have HE := hide hE
  clear hE HFN H6 H5b
  go_wp2_with (first | go_step3)
  go_ret
  exact HE.out

set_option maxRecDepth 100000 in
set_option maxHeartbeats 8000000 in
theorem rstep_store (h : RMach w L st) {pick : Int} (hs : Sd.get st.ses pick = some s) (ho : s.p[s.at_]? = some i) (hop8 : i.op = 3) : Calls Try.prog 47 #[.pointer (some ⟨L.b, 0, none⟩), .int .i64 pick] w (RSteps L ⟨(Sd.act st.cells s i pick).1, st.ses.set pick.toNat (Sd.act st.cells s i pick).2⟩ (.bool true) w) := by
  have HOP := hide hop8
  clear hop8
  obtain ⟨sg, scap, j, pv, hsv, _, e1, e2, hse, hf⟩ := h.at_ hs
  have hs' := get_nat hs
  obtain ⟨k0, k1, _⟩ := Sd.get_some hs
  have hlt : s.at_ < s.p.length := (List.getElem?_eq_some_iff.1 ho).1
  have hov : Sd.overB st pick = false := by simp [Sd.overB, hs, Sd.over]; omega
  have HO := rover_c h pick
  rw [hov] at HO
  have HO := hide HO
  have hr := hf.ok i (List.mem_of_getElem? ho)
  have hlen := hf.len
  have HM := hide h
  have HSV := hide hsv
  clear hse hf hov h hsv
  go_enter Try.func47, Try.ntmps47
  go_wp2_with fail
  refine HO.out.mono ?_
  rintro e w2 ⟨rfl, nd, hw2⟩
  have HM2 := hide (show RMach w2 L st by rw [hw2]; exact HM.out.drewN nd)
  have O2 := hide (show Only L.may w w2 by rw [hw2]; exact (Only.refl _ _).drewN nd)
  clear hw2 HO HM
  have h2 := HM2.out
  have a1 := h2.heads.2
  rw [HSV.out] at a1
  obtain ⟨sg', scap', j', _, hv', a2, e1', _⟩ := h2.at_ hs
  rw [HSV.out] at hv'
  cases hv'
  rw [e1] at e1'
  cases e1'
  obtain ⟨pg, pc, d0, d1, c0, c1, c2, c3, _⟩ := h2.rd hs ho e1
  obtain ⟨pv2, M⟩ := RMv.start h2 hs' e1 i
  have HMM := hide (M.drewN 1)
  have hi : (s.at_ : Int) < (s.p.length : Int) := by omega
  have s1 : IntKind.i64.wrap ((s.at_ : Int) + 1) = (s.at_ : Int) + 1 := IntWalk.i64_in _ (by omega)
  clear h2 M HM2
  have z0 := (World.cell?_alloc_lt w2 (.cells #[.int .i64 0, .int .i64 0, .int .i64 0, .int .i64 0] 95) ⟨j, 0, none⟩ (World.block_lt_of_cell? w2 ⟨j, 0, none⟩ d0)).trans d0
  have z1 := (World.cell?_alloc_lt w2 (.cells #[.int .i64 0, .int .i64 0, .int .i64 0, .int .i64 0] 95) ⟨j, 1, none⟩ (World.block_lt_of_cell? w2 ⟨j, 1, none⟩ d1)).trans d1
  have z2 := (World.cell?_alloc_lt w2 (.cells #[.int .i64 0, .int .i64 0, .int .i64 0, .int .i64 0] 95) ⟨pg, s.at_ * 4, none⟩ (World.block_lt_of_cell? w2 ⟨pg, s.at_ * 4, none⟩ c0)).trans c0
  have z3 := (World.cell?_alloc_lt w2 (.cells #[.int .i64 0, .int .i64 0, .int .i64 0, .int .i64 0] 95) ⟨pg, s.at_ * 4 + 1, none⟩ (World.block_lt_of_cell? w2 ⟨pg, s.at_ * 4 + 1, none⟩ c1)).trans c1
  have z4 := (World.cell?_alloc_lt w2 (.cells #[.int .i64 0, .int .i64 0, .int .i64 0, .int .i64 0] 95) ⟨pg, s.at_ * 4 + 2, none⟩ (World.block_lt_of_cell? w2 ⟨pg, s.at_ * 4 + 2, none⟩ c2)).trans c2
  have z5 := (World.cell?_alloc_lt w2 (.cells #[.int .i64 0, .int .i64 0, .int .i64 0, .int .i64 0] 95) ⟨pg, s.at_ * 4 + 3, none⟩ (World.block_lt_of_cell? w2 ⟨pg, s.at_ * 4 + 3, none⟩ c3)).trans c3
  go_wp2_with fail
  go_region
  have H5 := hide (show RMv w2 ((w2.alloc (.cells #[.int .i64 i.op, .int .i64 i.c, .int .i64 i.a, .int .i64 i.b] 95)).drew) L st pick.toNat j pv2 s i w2.heap.size from HMM.out)
  generalize (w2.alloc (.cells #[.int .i64 i.op, .int .i64 i.c, .int .i64 i.a, .int .i64 i.b] 95)).drew = wx at *
  obtain ⟨b0, b1, b2, b3⟩ := H5.out.bcells
  have y0 := H5.out.mach.heads.1
  have y1 := H5.out.ses.cell_at.2
  have hop8 := HOP.out
  rw [hop8] at b0
  have bxj : w2.heap.size ≠ j := fun e => by have := H5.out.gl _ H5.out.jall; omega
  clear HMM d0 d1 c0 c1 c2 c3 z0 z1 z2 z3 z4 z5 a1 a2
  obtain ⟨a0, a4⟩ := Sd.right_a hr (by omega)
  have rc := H5.out.rcell a0 a4
  have rf := H5.out.ses.blk.frozen (2 + i.a.toNat)
  have hact : Sd.act st.cells s i pick = (Cs.storeL st.cells i.c (Sd.rg s.r i.a), { s with at_ := s.at_ + 1 }) := by simp [Sd.act, hop8]
  have F := hide (fun n => (H5.out.drewN n).cells (rstore_c (H5.out.drewN n).mach.mem i.c (Sd.rg s.r i.a)) (Cs.storeL_length _ _ _) (Cs.ok_store _ _ H5.out.mach.good.own))
  have GR := hide (fun (wt : World) (st' : St) (h : RMv w2 wt L st' pick.toNat j pv2 s i w2.heap.size) => And.intro h.mach.heads.1 (And.intro h.bcells.2.1 (And.intro h.bcells.2.2.1 (h.rcell a0 a4))))
  generalize Sd.rg s.r i.a = v at *
  generalize Cs.storeL st.cells i.c v = l' at *
  generalize Cs.loadE st.cells i.c = ve at *
  have HFN := hide (fun (wt : World) (h : RMv w2 wt L ⟨l', st.ses⟩ pick.toNat j pv2 s i w2.heap.size) => show (wt.cell? ⟨j, 1, none⟩ = some (.int .i64 (s.at_ : Int)) ∧ wt.frozen? ⟨j, 1, none⟩ = false) ∧ RSteps L ⟨(Sd.act st.cells s i pick).1, st.ses.set pick.toNat (Sd.act st.cells s i pick).2⟩ (.bool true) w (.returned (.bool true)) (wt.setCell ⟨j, 1, none⟩ (.int .i64 ((s.at_ : Int) + 1))) from by
    obtain ⟨f1, f2, f3⟩ := h.fin ((s.at_ : Int) + 1) (by omega) (by omega)
    refine ⟨f1, rfl, ?_, O2.out.trans f3 (fun _ _ h => h)⟩
    rw [hact]
    simpa [List.set_set] using f2)
  clear hr ho hs hs' hact O2 HOP hop8
  clear rf
  go_wp2_with (first | go_step3)
  go_region_held3 (fun wt => wt.cell? ⟨L.b, 0, none⟩ = some (.pointer (some ⟨L.m, 0, none⟩)) ∧ wt.cell? ⟨w2.heap.size, 1, none⟩ = some (.int .i64 i.c) ∧ wt.cell? ⟨w2.heap.size, 2, none⟩ = some (.int .i64 i.a) ∧ wt.cell? ⟨j, 2 + i.a.toNat, none⟩ = some (.int .i64 v))
    (first | exact GR.out _ _ h5 | go_keep)
    ((go_at_call 29; refine (F.out _).mono ?_; rintro e w5 ⟨rfl, h5⟩))
  obtain ⟨⟨g1, g2⟩, hE⟩ := HFN.out _ h5
  have HE := hide hE
  clear hE HFN F GR h5 H5 rc b0 b1 b2 b3 y0 y1
  go_wp2_with (first | go_step3)
  go_ret
  exact HE.out

set_option maxRecDepth 100000 in
set_option maxHeartbeats 8000000 in
theorem rstep_add (h : RMach w L st) {pick : Int} (hs : Sd.get st.ses pick = some s) (ho : s.p[s.at_]? = some i) (hop8 : i.op = 5) : Calls Try.prog 47 #[.pointer (some ⟨L.b, 0, none⟩), .int .i64 pick] w (RSteps L ⟨(Sd.act st.cells s i pick).1, st.ses.set pick.toNat (Sd.act st.cells s i pick).2⟩ (.bool true) w) := by
  have HOP := hide hop8
  clear hop8
  obtain ⟨sg, scap, j, pv, hsv, _, e1, e2, hse, hf⟩ := h.at_ hs
  have hs' := get_nat hs
  obtain ⟨k0, k1, _⟩ := Sd.get_some hs
  have hlt : s.at_ < s.p.length := (List.getElem?_eq_some_iff.1 ho).1
  have hov : Sd.overB st pick = false := by simp [Sd.overB, hs, Sd.over]; omega
  have HO := rover_c h pick
  rw [hov] at HO
  have HO := hide HO
  have hr := hf.ok i (List.mem_of_getElem? ho)
  have hlen := hf.len
  have HM := hide h
  have HSV := hide hsv
  clear hse hf hov h hsv
  go_enter Try.func47, Try.ntmps47
  go_wp2_with fail
  refine HO.out.mono ?_
  rintro e w2 ⟨rfl, nd, hw2⟩
  have HM2 := hide (show RMach w2 L st by rw [hw2]; exact HM.out.drewN nd)
  have O2 := hide (show Only L.may w w2 by rw [hw2]; exact (Only.refl _ _).drewN nd)
  clear hw2 HO HM
  have h2 := HM2.out
  have a1 := h2.heads.2
  rw [HSV.out] at a1
  obtain ⟨sg', scap', j', _, hv', a2, e1', _⟩ := h2.at_ hs
  rw [HSV.out] at hv'
  cases hv'
  rw [e1] at e1'
  cases e1'
  obtain ⟨pg, pc, d0, d1, c0, c1, c2, c3, _⟩ := h2.rd hs ho e1
  obtain ⟨pv2, M⟩ := RMv.start h2 hs' e1 i
  have HMM := hide (M.drewN 1)
  have hi : (s.at_ : Int) < (s.p.length : Int) := by omega
  have s1 : IntKind.i64.wrap ((s.at_ : Int) + 1) = (s.at_ : Int) + 1 := IntWalk.i64_in _ (by omega)
  clear h2 M HM2
  have z0 := (World.cell?_alloc_lt w2 (.cells #[.int .i64 0, .int .i64 0, .int .i64 0, .int .i64 0] 95) ⟨j, 0, none⟩ (World.block_lt_of_cell? w2 ⟨j, 0, none⟩ d0)).trans d0
  have z1 := (World.cell?_alloc_lt w2 (.cells #[.int .i64 0, .int .i64 0, .int .i64 0, .int .i64 0] 95) ⟨j, 1, none⟩ (World.block_lt_of_cell? w2 ⟨j, 1, none⟩ d1)).trans d1
  have z2 := (World.cell?_alloc_lt w2 (.cells #[.int .i64 0, .int .i64 0, .int .i64 0, .int .i64 0] 95) ⟨pg, s.at_ * 4, none⟩ (World.block_lt_of_cell? w2 ⟨pg, s.at_ * 4, none⟩ c0)).trans c0
  have z3 := (World.cell?_alloc_lt w2 (.cells #[.int .i64 0, .int .i64 0, .int .i64 0, .int .i64 0] 95) ⟨pg, s.at_ * 4 + 1, none⟩ (World.block_lt_of_cell? w2 ⟨pg, s.at_ * 4 + 1, none⟩ c1)).trans c1
  have z4 := (World.cell?_alloc_lt w2 (.cells #[.int .i64 0, .int .i64 0, .int .i64 0, .int .i64 0] 95) ⟨pg, s.at_ * 4 + 2, none⟩ (World.block_lt_of_cell? w2 ⟨pg, s.at_ * 4 + 2, none⟩ c2)).trans c2
  have z5 := (World.cell?_alloc_lt w2 (.cells #[.int .i64 0, .int .i64 0, .int .i64 0, .int .i64 0] 95) ⟨pg, s.at_ * 4 + 3, none⟩ (World.block_lt_of_cell? w2 ⟨pg, s.at_ * 4 + 3, none⟩ c3)).trans c3
  go_wp2_with fail
  go_region
  have H5 := hide (show RMv w2 ((w2.alloc (.cells #[.int .i64 i.op, .int .i64 i.c, .int .i64 i.a, .int .i64 i.b] 95)).drew) L st pick.toNat j pv2 s i w2.heap.size from HMM.out)
  generalize (w2.alloc (.cells #[.int .i64 i.op, .int .i64 i.c, .int .i64 i.a, .int .i64 i.b] 95)).drew = wx at *
  obtain ⟨b0, b1, b2, b3⟩ := H5.out.bcells
  have y0 := H5.out.mach.heads.1
  have y1 := H5.out.ses.cell_at.2
  have hop8 := HOP.out
  rw [hop8] at b0
  have bxj : w2.heap.size ≠ j := fun e => by have := H5.out.gl _ H5.out.jall; omega
  clear HMM d0 d1 c0 c1 c2 c3 z0 z1 z2 z3 z4 z5 a1 a2
  obtain ⟨a0, a4⟩ := Sd.right_a hr (by omega)
  have rc := H5.out.rcell a0 a4
  have rf := H5.out.ses.blk.frozen (2 + i.a.toNat)
  have hact : Sd.act st.cells s i pick = (Cs.addL st.cells i.c i.b, { s with r := Sd.sr s.r i.a (Cs.loadV st.cells i.c), at_ := s.at_ + 1 }) := by simp [Sd.act, hop8]
  have F := hide (fun n => (H5.out.drewN n).cells (radd_c (H5.out.drewN n).mach.mem i.c i.b) (Cs.addL_length _ _ _) (Cs.ok_add _ _ H5.out.mach.good.own))
  have GR := hide (fun (wt : World) (st' : St) (h : RMv w2 wt L st' pick.toNat j pv2 s i w2.heap.size) => And.intro h.mach.heads.1 (And.intro h.bcells.2.1 h.bcells.2.2.2))
  have GC := hide (fun (wt : World) (st' : St) (h : RMv w2 wt L st' pick.toNat j pv2 s i w2.heap.size) => And.intro h.bcells.2.2.1 (And.intro (h.rcell a0 a4) (h.ses.blk.frozen (2 + i.a.toNat))))
  generalize Cs.loadV st.cells i.c = v at *
  generalize Cs.addL st.cells i.c i.b = l' at *
  generalize Cs.loadE st.cells i.c = ve at *
  have HFN := hide (fun (wt : World) (h : RMv w2 wt L ⟨l', st.ses.set pick.toNat { s with r := Sd.sr s.r i.a v }⟩ pick.toNat j pv2 { s with r := Sd.sr s.r i.a v } i w2.heap.size) => show (wt.cell? ⟨j, 1, none⟩ = some (.int .i64 (s.at_ : Int)) ∧ wt.frozen? ⟨j, 1, none⟩ = false) ∧ RSteps L ⟨(Sd.act st.cells s i pick).1, st.ses.set pick.toNat (Sd.act st.cells s i pick).2⟩ (.bool true) w (.returned (.bool true)) (wt.setCell ⟨j, 1, none⟩ (.int .i64 ((s.at_ : Int) + 1))) from by
    obtain ⟨f1, f2, f3⟩ := h.fin ((s.at_ : Int) + 1) (by omega) (by show (s.at_ : Int) + 1 ≤ (s.p.length : Int); omega)
    refine ⟨f1, rfl, ?_, O2.out.trans f3 (fun _ _ h => h)⟩
    rw [hact]
    simpa [List.set_set] using f2)
  clear hr ho hs hs' hact O2 HOP hop8
  clear rf
  go_wp2_with (first | go_step3)
  go_region_held3 (fun wt => wt.cell? ⟨L.b, 0, none⟩ = some (.pointer (some ⟨L.m, 0, none⟩)) ∧ wt.cell? ⟨w2.heap.size, 1, none⟩ = some (.int .i64 i.c) ∧ wt.cell? ⟨w2.heap.size, 3, none⟩ = some (.int .i64 i.b))
    (first | exact GR.out _ _ h5 | go_keep)
    ((go_at_call 32; refine (F.out _).mono ?_; rintro e w5 ⟨rfl, h5⟩))
  obtain ⟨c1, c2, c3⟩ := GC.out _ _ h5
  have H6 := hide (show RMv w2 ((w5.setCell ⟨j, 2 + i.a.toNat, none⟩ (.int .i64 v)).drew) L ⟨l', st.ses.set pick.toNat { s with r := Sd.sr s.r i.a v }⟩ pick.toNat j pv2 { s with r := Sd.sr s.r i.a v } i w2.heap.size from (h5.drewN 1).reg i.a v)
  clear h5 F GR GC H5 rc b0 b1 b2 b3 y0 y1
  go_wp2_with (first | go_step3)
  go_region
  obtain ⟨⟨g1, g2⟩, hE⟩ := HFN.out _ H6.out
  have HE := hide hE
  clear hE HFN H6
  go_wp2_with (first | go_step3)
  go_ret
  exact HE.out

set_option maxRecDepth 100000 in
set_option maxHeartbeats 8000000 in
theorem rstep_lock (h : RMach w L st) {pick : Int} (hs : Sd.get st.ses pick = some s) (ho : s.p[s.at_]? = some i) (hop8 : i.op = 9) (hz : Cs.lockE st.cells i.c pick = 0) : Calls Try.prog 47 #[.pointer (some ⟨L.b, 0, none⟩), .int .i64 pick] w (RSteps L ⟨(Sd.act st.cells s i pick).1, st.ses.set pick.toNat (Sd.act st.cells s i pick).2⟩ (.bool true) w) := by
  have HOP := hide hop8
  clear hop8
  obtain ⟨sg, scap, j, pv, hsv, _, e1, e2, hse, hf⟩ := h.at_ hs
  have hs' := get_nat hs
  obtain ⟨k0, k1, _⟩ := Sd.get_some hs
  have hlt : s.at_ < s.p.length := (List.getElem?_eq_some_iff.1 ho).1
  have hov : Sd.overB st pick = false := by simp [Sd.overB, hs, Sd.over]; omega
  have HO := rover_c h pick
  rw [hov] at HO
  have HO := hide HO
  have hr := hf.ok i (List.mem_of_getElem? ho)
  have hlen := hf.len
  have HM := hide h
  have HSV := hide hsv
  clear hse hf hov h hsv
  go_enter Try.func47, Try.ntmps47
  go_wp2_with fail
  refine HO.out.mono ?_
  rintro e w2 ⟨rfl, nd, hw2⟩
  have HM2 := hide (show RMach w2 L st by rw [hw2]; exact HM.out.drewN nd)
  have O2 := hide (show Only L.may w w2 by rw [hw2]; exact (Only.refl _ _).drewN nd)
  clear hw2 HO HM
  have h2 := HM2.out
  have a1 := h2.heads.2
  rw [HSV.out] at a1
  obtain ⟨sg', scap', j', _, hv', a2, e1', _⟩ := h2.at_ hs
  rw [HSV.out] at hv'
  cases hv'
  rw [e1] at e1'
  cases e1'
  obtain ⟨pg, pc, d0, d1, c0, c1, c2, c3, _⟩ := h2.rd hs ho e1
  obtain ⟨pv2, M⟩ := RMv.start h2 hs' e1 i
  have HMM := hide (M.drewN 1)
  have hi : (s.at_ : Int) < (s.p.length : Int) := by omega
  have s1 : IntKind.i64.wrap ((s.at_ : Int) + 1) = (s.at_ : Int) + 1 := IntWalk.i64_in _ (by omega)
  clear h2 M HM2
  have z0 := (World.cell?_alloc_lt w2 (.cells #[.int .i64 0, .int .i64 0, .int .i64 0, .int .i64 0] 95) ⟨j, 0, none⟩ (World.block_lt_of_cell? w2 ⟨j, 0, none⟩ d0)).trans d0
  have z1 := (World.cell?_alloc_lt w2 (.cells #[.int .i64 0, .int .i64 0, .int .i64 0, .int .i64 0] 95) ⟨j, 1, none⟩ (World.block_lt_of_cell? w2 ⟨j, 1, none⟩ d1)).trans d1
  have z2 := (World.cell?_alloc_lt w2 (.cells #[.int .i64 0, .int .i64 0, .int .i64 0, .int .i64 0] 95) ⟨pg, s.at_ * 4, none⟩ (World.block_lt_of_cell? w2 ⟨pg, s.at_ * 4, none⟩ c0)).trans c0
  have z3 := (World.cell?_alloc_lt w2 (.cells #[.int .i64 0, .int .i64 0, .int .i64 0, .int .i64 0] 95) ⟨pg, s.at_ * 4 + 1, none⟩ (World.block_lt_of_cell? w2 ⟨pg, s.at_ * 4 + 1, none⟩ c1)).trans c1
  have z4 := (World.cell?_alloc_lt w2 (.cells #[.int .i64 0, .int .i64 0, .int .i64 0, .int .i64 0] 95) ⟨pg, s.at_ * 4 + 2, none⟩ (World.block_lt_of_cell? w2 ⟨pg, s.at_ * 4 + 2, none⟩ c2)).trans c2
  have z5 := (World.cell?_alloc_lt w2 (.cells #[.int .i64 0, .int .i64 0, .int .i64 0, .int .i64 0] 95) ⟨pg, s.at_ * 4 + 3, none⟩ (World.block_lt_of_cell? w2 ⟨pg, s.at_ * 4 + 3, none⟩ c3)).trans c3
  go_wp2_with fail
  go_region
  have H5 := hide (show RMv w2 ((w2.alloc (.cells #[.int .i64 i.op, .int .i64 i.c, .int .i64 i.a, .int .i64 i.b] 95)).drew) L st pick.toNat j pv2 s i w2.heap.size from HMM.out)
  generalize (w2.alloc (.cells #[.int .i64 i.op, .int .i64 i.c, .int .i64 i.a, .int .i64 i.b] 95)).drew = wx at *
  obtain ⟨b0, b1, b2, b3⟩ := H5.out.bcells
  have y0 := H5.out.mach.heads.1
  have y1 := H5.out.ses.cell_at.2
  have hop8 := HOP.out
  rw [hop8] at b0
  have bxj : w2.heap.size ≠ j := fun e => by have := H5.out.gl _ H5.out.jall; omega
  clear HMM d0 d1 c0 c1 c2 c3 z0 z1 z2 z3 z4 z5 a1 a2
  have F := hide (fun n => (H5.out.drewN n).cells (rlock_c (H5.out.drewN n).mach.mem H5.out.mach.good.own i.c pick) (Cs.lockL_length _ _ _) (Cs.all_lock _ _ H5.out.mach.good.own))
  rw [hz] at F
  have hact : Sd.act st.cells s i pick = (Cs.lockL st.cells i.c pick, { s with at_ := s.at_ + 1 }) := by simp [Sd.act, hop8, hz]
  have GR := hide (fun (wt : World) (st' : St) (h : RMv w2 wt L st' pick.toNat j pv2 s i w2.heap.size) => And.intro h.mach.heads.1 h.bcells.2.1)
  generalize Cs.lockL st.cells i.c pick = l' at *
  have HFN := hide (fun (wt : World) (h : RMv w2 wt L ⟨l', st.ses⟩ pick.toNat j pv2 s i w2.heap.size) => show (wt.cell? ⟨j, 1, none⟩ = some (.int .i64 (s.at_ : Int)) ∧ wt.frozen? ⟨j, 1, none⟩ = false) ∧ RSteps L ⟨(Sd.act st.cells s i pick).1, st.ses.set pick.toNat (Sd.act st.cells s i pick).2⟩ (.bool true) w (.returned (.bool true)) (wt.setCell ⟨j, 1, none⟩ (.int .i64 ((s.at_ : Int) + 1))) from by
    obtain ⟨f1, f2, f3⟩ := h.fin ((s.at_ : Int) + 1) (by omega) (by omega)
    refine ⟨f1, rfl, ?_, O2.out.trans f3 (fun _ _ h => h)⟩
    rw [hact]
    simpa [List.set_set] using f2)
  clear hr ho hs hs' hact O2 HOP hop8
  go_wp2_with (first | go_step3)
  go_region_held3 (fun wt => wt.cell? ⟨L.b, 0, none⟩ = some (.pointer (some ⟨L.m, 0, none⟩)) ∧ wt.cell? ⟨w2.heap.size, 1, none⟩ = some (.int .i64 i.c))
    (first | exact GR.out _ _ h5 | go_keep)
    ((go_at_call 33; refine (F.out _).mono ?_; rintro e w5 ⟨rfl, h5⟩))
  obtain ⟨⟨g1, g2⟩, hE⟩ := HFN.out _ h5
  have HE := hide hE
  clear hE HFN F GR h5 H5 b0 b1 b2 b3 y0 y1
  go_wp2_with (first | go_step3)
  go_ret
  exact HE.out

set_option maxRecDepth 100000 in
set_option maxHeartbeats 8000000 in
theorem rstep_busy (h : RMach w L st) {pick : Int} (hs : Sd.get st.ses pick = some s) (ho : s.p[s.at_]? = some i) (hop8 : i.op = 9) (hz : ¬ Cs.lockE st.cells i.c pick = 0) : Calls Try.prog 47 #[.pointer (some ⟨L.b, 0, none⟩), .int .i64 pick] w (RSteps L ⟨(Sd.act st.cells s i pick).1, st.ses.set pick.toNat (Sd.act st.cells s i pick).2⟩ (.bool true) w) := by
  have HOP := hide hop8
  clear hop8
  obtain ⟨sg, scap, j, pv, hsv, _, e1, e2, hse, hf⟩ := h.at_ hs
  have hs' := get_nat hs
  obtain ⟨k0, k1, _⟩ := Sd.get_some hs
  have hlt : s.at_ < s.p.length := (List.getElem?_eq_some_iff.1 ho).1
  have hov : Sd.overB st pick = false := by simp [Sd.overB, hs, Sd.over]; omega
  have HO := rover_c h pick
  rw [hov] at HO
  have HO := hide HO
  have hr := hf.ok i (List.mem_of_getElem? ho)
  have hlen := hf.len
  have HM := hide h
  have HSV := hide hsv
  clear hse hf hov h hsv
  go_enter Try.func47, Try.ntmps47
  go_wp2_with fail
  refine HO.out.mono ?_
  rintro e w2 ⟨rfl, nd, hw2⟩
  have HM2 := hide (show RMach w2 L st by rw [hw2]; exact HM.out.drewN nd)
  have O2 := hide (show Only L.may w w2 by rw [hw2]; exact (Only.refl _ _).drewN nd)
  clear hw2 HO HM
  have h2 := HM2.out
  have a1 := h2.heads.2
  rw [HSV.out] at a1
  obtain ⟨sg', scap', j', _, hv', a2, e1', _⟩ := h2.at_ hs
  rw [HSV.out] at hv'
  cases hv'
  rw [e1] at e1'
  cases e1'
  obtain ⟨pg, pc, d0, d1, c0, c1, c2, c3, _⟩ := h2.rd hs ho e1
  obtain ⟨pv2, M⟩ := RMv.start h2 hs' e1 i
  have HMM := hide (M.drewN 1)
  have hi : (s.at_ : Int) < (s.p.length : Int) := by omega
  have s1 : IntKind.i64.wrap ((s.at_ : Int) + 1) = (s.at_ : Int) + 1 := IntWalk.i64_in _ (by omega)
  clear h2 M HM2
  have z0 := (World.cell?_alloc_lt w2 (.cells #[.int .i64 0, .int .i64 0, .int .i64 0, .int .i64 0] 95) ⟨j, 0, none⟩ (World.block_lt_of_cell? w2 ⟨j, 0, none⟩ d0)).trans d0
  have z1 := (World.cell?_alloc_lt w2 (.cells #[.int .i64 0, .int .i64 0, .int .i64 0, .int .i64 0] 95) ⟨j, 1, none⟩ (World.block_lt_of_cell? w2 ⟨j, 1, none⟩ d1)).trans d1
  have z2 := (World.cell?_alloc_lt w2 (.cells #[.int .i64 0, .int .i64 0, .int .i64 0, .int .i64 0] 95) ⟨pg, s.at_ * 4, none⟩ (World.block_lt_of_cell? w2 ⟨pg, s.at_ * 4, none⟩ c0)).trans c0
  have z3 := (World.cell?_alloc_lt w2 (.cells #[.int .i64 0, .int .i64 0, .int .i64 0, .int .i64 0] 95) ⟨pg, s.at_ * 4 + 1, none⟩ (World.block_lt_of_cell? w2 ⟨pg, s.at_ * 4 + 1, none⟩ c1)).trans c1
  have z4 := (World.cell?_alloc_lt w2 (.cells #[.int .i64 0, .int .i64 0, .int .i64 0, .int .i64 0] 95) ⟨pg, s.at_ * 4 + 2, none⟩ (World.block_lt_of_cell? w2 ⟨pg, s.at_ * 4 + 2, none⟩ c2)).trans c2
  have z5 := (World.cell?_alloc_lt w2 (.cells #[.int .i64 0, .int .i64 0, .int .i64 0, .int .i64 0] 95) ⟨pg, s.at_ * 4 + 3, none⟩ (World.block_lt_of_cell? w2 ⟨pg, s.at_ * 4 + 3, none⟩ c3)).trans c3
  go_wp2_with fail
  go_region
  have H5 := hide (show RMv w2 ((w2.alloc (.cells #[.int .i64 i.op, .int .i64 i.c, .int .i64 i.a, .int .i64 i.b] 95)).drew) L st pick.toNat j pv2 s i w2.heap.size from HMM.out)
  generalize (w2.alloc (.cells #[.int .i64 i.op, .int .i64 i.c, .int .i64 i.a, .int .i64 i.b] 95)).drew = wx at *
  obtain ⟨b0, b1, b2, b3⟩ := H5.out.bcells
  have y0 := H5.out.mach.heads.1
  have y1 := H5.out.ses.cell_at.2
  have hop8 := HOP.out
  rw [hop8] at b0
  have bxj : w2.heap.size ≠ j := fun e => by have := H5.out.gl _ H5.out.jall; omega
  clear HMM d0 d1 c0 c1 c2 c3 z0 z1 z2 z3 z4 z5 a1 a2
  have F := hide (fun n => (H5.out.drewN n).cells (rlock_c (H5.out.drewN n).mach.mem H5.out.mach.good.own i.c pick) (Cs.lockL_length _ _ _) (Cs.all_lock _ _ H5.out.mach.good.own))
  have hact : Sd.act st.cells s i pick = (Cs.lockL st.cells i.c pick, { s with at_ := s.at_ }) := by simp [Sd.act, hop8, hz]
  have hz2 : (Cs.lockE st.cells i.c pick == 0) = false := by simp [hz]
  generalize Cs.lockE st.cells i.c pick = le at *
  have GR := hide (fun (wt : World) (st' : St) (h : RMv w2 wt L st' pick.toNat j pv2 s i w2.heap.size) => And.intro h.mach.heads.1 h.bcells.2.1)
  generalize Cs.lockL st.cells i.c pick = l' at *
  have HFN := hide (fun (wt : World) (h : RMv w2 wt L ⟨l', st.ses⟩ pick.toNat j pv2 s i w2.heap.size) => show (wt.cell? ⟨j, 1, none⟩ = some (.int .i64 (s.at_ : Int)) ∧ wt.frozen? ⟨j, 1, none⟩ = false) ∧ RSteps L ⟨(Sd.act st.cells s i pick).1, st.ses.set pick.toNat (Sd.act st.cells s i pick).2⟩ (.bool true) w (.returned (.bool true)) (wt.setCell ⟨j, 1, none⟩ (.int .i64 ((s.at_ : Int)))) from by
    obtain ⟨f1, f2, f3⟩ := h.fin ((s.at_ : Int)) (by omega) (by omega)
    refine ⟨f1, rfl, ?_, O2.out.trans f3 (fun _ _ h => h)⟩
    rw [hact]
    simpa [List.set_set] using f2)
  clear hr ho hs hs' hact O2 HOP hop8
  go_wp2_with (first | go_step3)
  go_region_held3 (fun wt => wt.cell? ⟨L.b, 0, none⟩ = some (.pointer (some ⟨L.m, 0, none⟩)) ∧ wt.cell? ⟨w2.heap.size, 1, none⟩ = some (.int .i64 i.c))
    (first | exact GR.out _ _ h5 | go_keep)
    ((go_at_call 33; refine (F.out _).mono ?_; rintro e w5 ⟨rfl, h5⟩))
  obtain ⟨⟨g1, g2⟩, hE⟩ := HFN.out _ h5
  have HE := hide hE
  clear hE HFN F GR h5 H5 b0 b1 b2 b3 y0 y1
  go_wp2_with (first | go_step3)
  go_ret
  exact HE.out

set_option maxRecDepth 100000 in
set_option maxHeartbeats 8000000 in
theorem rstep_free (h : RMach w L st) {pick : Int} (hs : Sd.get st.ses pick = some s) (ho : s.p[s.at_]? = some i) (hop8 : i.op = 10) : Calls Try.prog 47 #[.pointer (some ⟨L.b, 0, none⟩), .int .i64 pick] w (RSteps L ⟨(Sd.act st.cells s i pick).1, st.ses.set pick.toNat (Sd.act st.cells s i pick).2⟩ (.bool true) w) := by
  have HOP := hide hop8
  clear hop8
  obtain ⟨sg, scap, j, pv, hsv, _, e1, e2, hse, hf⟩ := h.at_ hs
  have hs' := get_nat hs
  obtain ⟨k0, k1, _⟩ := Sd.get_some hs
  have hlt : s.at_ < s.p.length := (List.getElem?_eq_some_iff.1 ho).1
  have hov : Sd.overB st pick = false := by simp [Sd.overB, hs, Sd.over]; omega
  have HO := rover_c h pick
  rw [hov] at HO
  have HO := hide HO
  have hr := hf.ok i (List.mem_of_getElem? ho)
  have hlen := hf.len
  have HM := hide h
  have HSV := hide hsv
  clear hse hf hov h hsv
  go_enter Try.func47, Try.ntmps47
  go_wp2_with fail
  refine HO.out.mono ?_
  rintro e w2 ⟨rfl, nd, hw2⟩
  have HM2 := hide (show RMach w2 L st by rw [hw2]; exact HM.out.drewN nd)
  have O2 := hide (show Only L.may w w2 by rw [hw2]; exact (Only.refl _ _).drewN nd)
  clear hw2 HO HM
  have h2 := HM2.out
  have a1 := h2.heads.2
  rw [HSV.out] at a1
  obtain ⟨sg', scap', j', _, hv', a2, e1', _⟩ := h2.at_ hs
  rw [HSV.out] at hv'
  cases hv'
  rw [e1] at e1'
  cases e1'
  obtain ⟨pg, pc, d0, d1, c0, c1, c2, c3, _⟩ := h2.rd hs ho e1
  obtain ⟨pv2, M⟩ := RMv.start h2 hs' e1 i
  have HMM := hide (M.drewN 1)
  have hi : (s.at_ : Int) < (s.p.length : Int) := by omega
  have s1 : IntKind.i64.wrap ((s.at_ : Int) + 1) = (s.at_ : Int) + 1 := IntWalk.i64_in _ (by omega)
  clear h2 M HM2
  have z0 := (World.cell?_alloc_lt w2 (.cells #[.int .i64 0, .int .i64 0, .int .i64 0, .int .i64 0] 95) ⟨j, 0, none⟩ (World.block_lt_of_cell? w2 ⟨j, 0, none⟩ d0)).trans d0
  have z1 := (World.cell?_alloc_lt w2 (.cells #[.int .i64 0, .int .i64 0, .int .i64 0, .int .i64 0] 95) ⟨j, 1, none⟩ (World.block_lt_of_cell? w2 ⟨j, 1, none⟩ d1)).trans d1
  have z2 := (World.cell?_alloc_lt w2 (.cells #[.int .i64 0, .int .i64 0, .int .i64 0, .int .i64 0] 95) ⟨pg, s.at_ * 4, none⟩ (World.block_lt_of_cell? w2 ⟨pg, s.at_ * 4, none⟩ c0)).trans c0
  have z3 := (World.cell?_alloc_lt w2 (.cells #[.int .i64 0, .int .i64 0, .int .i64 0, .int .i64 0] 95) ⟨pg, s.at_ * 4 + 1, none⟩ (World.block_lt_of_cell? w2 ⟨pg, s.at_ * 4 + 1, none⟩ c1)).trans c1
  have z4 := (World.cell?_alloc_lt w2 (.cells #[.int .i64 0, .int .i64 0, .int .i64 0, .int .i64 0] 95) ⟨pg, s.at_ * 4 + 2, none⟩ (World.block_lt_of_cell? w2 ⟨pg, s.at_ * 4 + 2, none⟩ c2)).trans c2
  have z5 := (World.cell?_alloc_lt w2 (.cells #[.int .i64 0, .int .i64 0, .int .i64 0, .int .i64 0] 95) ⟨pg, s.at_ * 4 + 3, none⟩ (World.block_lt_of_cell? w2 ⟨pg, s.at_ * 4 + 3, none⟩ c3)).trans c3
  go_wp2_with fail
  go_region
  have H5 := hide (show RMv w2 ((w2.alloc (.cells #[.int .i64 i.op, .int .i64 i.c, .int .i64 i.a, .int .i64 i.b] 95)).drew) L st pick.toNat j pv2 s i w2.heap.size from HMM.out)
  generalize (w2.alloc (.cells #[.int .i64 i.op, .int .i64 i.c, .int .i64 i.a, .int .i64 i.b] 95)).drew = wx at *
  obtain ⟨b0, b1, b2, b3⟩ := H5.out.bcells
  have y0 := H5.out.mach.heads.1
  have y1 := H5.out.ses.cell_at.2
  have hop8 := HOP.out
  rw [hop8] at b0
  have bxj : w2.heap.size ≠ j := fun e => by have := H5.out.gl _ H5.out.jall; omega
  clear HMM d0 d1 c0 c1 c2 c3 z0 z1 z2 z3 z4 z5 a1 a2
  have F := hide (fun n => (H5.out.drewN n).cells (rfree_c (H5.out.drewN n).mach.mem i.c pick) (Cs.freeL_length _ _ _) (Cs.all_free _ _ H5.out.mach.good.own))
  have hact : Sd.act st.cells s i pick = (Cs.freeL st.cells i.c pick, { s with at_ := s.at_ + 1 }) := by simp [Sd.act, hop8]
  generalize Cs.freeE st.cells i.c pick = le at *
  have GR := hide (fun (wt : World) (st' : St) (h : RMv w2 wt L st' pick.toNat j pv2 s i w2.heap.size) => And.intro h.mach.heads.1 h.bcells.2.1)
  generalize Cs.freeL st.cells i.c pick = l' at *
  have HFN := hide (fun (wt : World) (h : RMv w2 wt L ⟨l', st.ses⟩ pick.toNat j pv2 s i w2.heap.size) => show (wt.cell? ⟨j, 1, none⟩ = some (.int .i64 (s.at_ : Int)) ∧ wt.frozen? ⟨j, 1, none⟩ = false) ∧ RSteps L ⟨(Sd.act st.cells s i pick).1, st.ses.set pick.toNat (Sd.act st.cells s i pick).2⟩ (.bool true) w (.returned (.bool true)) (wt.setCell ⟨j, 1, none⟩ (.int .i64 ((s.at_ : Int) + 1))) from by
    obtain ⟨f1, f2, f3⟩ := h.fin ((s.at_ : Int) + 1) (by omega) (by omega)
    refine ⟨f1, rfl, ?_, O2.out.trans f3 (fun _ _ h => h)⟩
    rw [hact]
    simpa [List.set_set] using f2)
  clear hr ho hs hs' hact O2 HOP hop8
  go_wp2_with (first | go_step3)
  go_region_held3 (fun wt => wt.cell? ⟨L.b, 0, none⟩ = some (.pointer (some ⟨L.m, 0, none⟩)) ∧ wt.cell? ⟨w2.heap.size, 1, none⟩ = some (.int .i64 i.c))
    (first | exact GR.out _ _ h5 | go_keep)
    ((go_at_call 34; refine (F.out _).mono ?_; rintro e w5 ⟨rfl, h5⟩))
  obtain ⟨⟨g1, g2⟩, hE⟩ := HFN.out _ h5
  have HE := hide hE
  clear hE HFN F GR h5 H5 b0 b1 b2 b3 y0 y1
  go_wp2_with (first | go_step3)
  go_ret
  exact HE.out

end
end Go.Proofs.Ytaoonjamlcdfaaa
