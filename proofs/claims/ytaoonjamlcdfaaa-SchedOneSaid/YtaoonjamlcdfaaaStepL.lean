/-
  The contract of a machine's Step at what locks and frees.
-/
import Derived.Test.YtaoonjamlcdfaaaStepJ
namespace Go.Proofs.Ytaoonjamlcdfaaa
open Go.RowKit

section
variable {w w' wt : World} {L : Lay} {st : St} {s : Ss} {k j bx : Nat} {pv : Value} {i : In}
theorem list_set_same {α : Type} {l : List α} {n : Nat} {a : α} (h : l[n]? = some a) : l.set n a = l := by
  apply List.ext_getElem?
  intro m
  by_cases e : n = m
  · subst e
    have := (List.getElem?_eq_some_iff.1 h).1
    rw [List.getElem?_set_self this, h]
  · rw [List.getElem?_set_ne e]
set_option maxRecDepth 100000 in
set_option maxHeartbeats 8000000 in
theorem step_lock (h : Mach w L st) {pick : Int} (hs : Sd.get st.ses pick = some s) (ho : s.p[s.at_]? = some i) (hop8 : i.op = 9) (hz : Cs.lockE st.cells i.c pick = 0) : Calls Try.prog 45 #[.pointer (some ⟨L.b, 0, none⟩), .int .i64 pick] w (Steps L ⟨(Sd.act st.cells s i pick).1, st.ses.set pick.toNat (Sd.act st.cells s i pick).2⟩ (.bool true) w) := by
  have hop : 7 ≤ i.op := by omega
  have HOP := hide hop8
  clear hop8
  obtain ⟨_, _, j, pv, _, _, e1, _, hse, hf⟩ := h.at_ hs
  have hs' := get_nat hs
  have HN := hide (session_some h hs e1)
  have hlt : s.at_ < s.p.length := (List.getElem?_eq_some_iff.1 ho).1
  have hov : Sd.over s = false := by simp [Sd.over]; omega
  have HO := over_c hse
  rw [hov] at HO
  have HO := hide HO
  have hr := hf.ok i (List.mem_of_getElem? ho)
  have hlen := hf.len
  have HM := hide h
  clear hse hf hov h
  go_enter Try.func45, Try.ntmps45
  go_wp2_with (first | (go_at_call 68; refine HN.out.mono ?_; rintro e w' ⟨rfl, rfl⟩) | (go_at_call 69; refine HO.out.mono ?_; rintro e w2 ⟨rfl, nd, hw2⟩; have HM2 := hide (show Mach w2 L st by rw [hw2]; exact HM.out.drewN nd); have O2 := hide (show Only L.may w w2 by rw [hw2]; exact (Only.refl _ _).drewN nd); clear hw2))
  have h2 := HM2.out
  clear HM HN HO HM2
  obtain ⟨pg, pc, d0, d1, c0, c1, c2, c3, _⟩ := h2.rd hs ho e1
  obtain ⟨pv2, M⟩ := Mv.start h2 hs' e1 i
  have HM := hide (fun n => moves_idle (M.drewN n) hop)
  have hi : (s.at_ : Int) < (s.p.length : Int) := by omega
  clear h2 M
  have z0 := (World.cell?_alloc_lt w2 (.cells #[.int .i64 0, .int .i64 0, .int .i64 0, .int .i64 0] 95) ⟨j, 0, none⟩ (World.block_lt_of_cell? w2 ⟨j, 0, none⟩ d0)).trans d0
  have z1 := (World.cell?_alloc_lt w2 (.cells #[.int .i64 0, .int .i64 0, .int .i64 0, .int .i64 0] 95) ⟨j, 1, none⟩ (World.block_lt_of_cell? w2 ⟨j, 1, none⟩ d1)).trans d1
  have z2 := (World.cell?_alloc_lt w2 (.cells #[.int .i64 0, .int .i64 0, .int .i64 0, .int .i64 0] 95) ⟨pg, s.at_ * 4, none⟩ (World.block_lt_of_cell? w2 ⟨pg, s.at_ * 4, none⟩ c0)).trans c0
  have z3 := (World.cell?_alloc_lt w2 (.cells #[.int .i64 0, .int .i64 0, .int .i64 0, .int .i64 0] 95) ⟨pg, s.at_ * 4 + 1, none⟩ (World.block_lt_of_cell? w2 ⟨pg, s.at_ * 4 + 1, none⟩ c1)).trans c1
  have z4 := (World.cell?_alloc_lt w2 (.cells #[.int .i64 0, .int .i64 0, .int .i64 0, .int .i64 0] 95) ⟨pg, s.at_ * 4 + 2, none⟩ (World.block_lt_of_cell? w2 ⟨pg, s.at_ * 4 + 2, none⟩ c2)).trans c2
  have z5 := (World.cell?_alloc_lt w2 (.cells #[.int .i64 0, .int .i64 0, .int .i64 0, .int .i64 0] 95) ⟨pg, s.at_ * 4 + 3, none⟩ (World.block_lt_of_cell? w2 ⟨pg, s.at_ * 4 + 3, none⟩ c3)).trans c3
  go_region
  have HM1 := hide (show Calls Try.prog 70 #[.pointer (some ⟨L.b, 0, none⟩), .pointer (some ⟨j, 0, none⟩), inAgg i] ((w2.alloc (.cells #[.int .i64 i.op, .int .i64 i.c, .int .i64 i.a, .int .i64 i.b] 95)).drew) (fun e w' => e = .returned (.bool false) ∧ Mv w2 w' L st pick.toNat j pv2 s i w2.heap.size) from HM.out 1)
  have X0 := hide (show ((w2.alloc (.cells #[.int .i64 i.op, .int .i64 i.c, .int .i64 i.a, .int .i64 i.b] 95)).drew).cell? ⟨w2.heap.size, 0, none⟩ = some (.int .i64 i.op) ∧ ((w2.alloc (.cells #[.int .i64 i.op, .int .i64 i.c, .int .i64 i.a, .int .i64 i.b] 95)).drew).cell? ⟨w2.heap.size, 1, none⟩ = some (.int .i64 i.c) ∧ ((w2.alloc (.cells #[.int .i64 i.op, .int .i64 i.c, .int .i64 i.a, .int .i64 i.b] 95)).drew).cell? ⟨w2.heap.size, 2, none⟩ = some (.int .i64 i.a) ∧ ((w2.alloc (.cells #[.int .i64 i.op, .int .i64 i.c, .int .i64 i.a, .int .i64 i.b] 95)).drew).cell? ⟨w2.heap.size, 3, none⟩ = some (.int .i64 i.b) from ⟨(Blk.new w2 95 _).cell 0, (Blk.new w2 95 _).cell 1, (Blk.new w2 95 _).cell 2, (Blk.new w2 95 _).cell 3⟩)
  generalize (w2.alloc (.cells #[.int .i64 i.op, .int .i64 i.c, .int .i64 i.a, .int .i64 i.b] 95)).drew = wx at *
  obtain ⟨x0, x1, x2, x3⟩ := X0.out
  clear HM X0 d0 d1 c0 c1 c2 c3 z0 z1 z2 z3 z4 z5
  go_wp2_with fail
  refine HM1.out.mono ?_
  rintro e w5 ⟨rfl, h5⟩
  obtain ⟨b0, b1, b2, b3⟩ := h5.bcells
  have y0 := h5.mach.heads.1
  have y1 := h5.ses.cell_at.2
  have y2 := h5.ses.blk.frozen 1
  have HO2 := hide (O2.out.trans h5.only (fun _ _ h => h))
  have HO3 := O2
  have H5 := hide h5
  clear h5 HM1 O2 x0 x1 x2 x3
  have hop8 := HOP.out
  have F := hide (fun n => (H5.out.drewN n).lock i.c pick)
  rw [hz] at F
  have s1 : IntKind.i64.wrap ((s.at_ : Int) + 1) = (s.at_ : Int) + 1 := IntWalk.i64_in _ (by omega)
  have hact : Sd.act st.cells s i pick = (Cs.lockL st.cells i.c pick, { s with at_ := s.at_ + 1 }) := by simp [Sd.act, hop8, hz]
  have HFN := hide (fun (wt : World) (h : Mv w2 wt L ⟨Cs.lockL st.cells i.c pick, st.ses⟩ pick.toNat j pv2 s i w2.heap.size) => show Steps L ⟨(Sd.act st.cells s i pick).1, st.ses.set pick.toNat (Sd.act st.cells s i pick).2⟩ (.bool true) w (.returned (.bool true)) (wt.setCell ⟨j, 1, none⟩ (.int .i64 ((s.at_ : Int) + 1))) from by
    have h6 := h.place (s.at_ + 1) (by omega)
    rw [show ((s.at_ + 1 : Nat) : Int) = (s.at_ : Int) + 1 by omega] at h6
    rw [hact]
    exact ⟨rfl, h6.mach, HO3.out.trans h6.only (fun _ _ h => h)⟩)
  have G := hide (fun (wt : World) (l' : List Cl) (h : Mv w2 wt L ⟨l', st.ses⟩ pick.toNat j pv2 s i w2.heap.size) => And.intro h.mach.heads.1 (And.intro h.bcells.2.1 (And.intro h.ses.cell_at.2 (h.ses.blk.frozen 1))))
  rw [hop8] at b0
  clear H5 hr ho hs hs' HO2 HO3
  go_wp2_with (first | go_step3)
  go_region_held3 (fun wt => wt.cell? ⟨L.b, 0, none⟩ = some (.pointer (some ⟨L.m, 0, none⟩)) ∧ wt.cell? ⟨w2.heap.size, 1, none⟩ = some (.int .i64 i.c))
    (first | exact ⟨(G.out _ _ h5).1, (G.out _ _ h5).2.1⟩ | go_keep)
    ((go_at_call 24; refine (F.out _).mono ?_; rintro e w6 ⟨rfl, h5⟩))
  obtain ⟨_, _, g1, g2⟩ := G.out _ _ h5
  have H7 := hide (HFN.out _ h5)
  clear F G HFN h5 hact
  go_wp2_with (first | go_step3)
  go_ret
  exact H7.out

set_option maxRecDepth 100000 in
set_option maxHeartbeats 8000000 in
theorem step_busy (h : Mach w L st) {pick : Int} (hs : Sd.get st.ses pick = some s) (ho : s.p[s.at_]? = some i) (hop8 : i.op = 9) (hz : ¬ Cs.lockE st.cells i.c pick = 0) : Calls Try.prog 45 #[.pointer (some ⟨L.b, 0, none⟩), .int .i64 pick] w (Steps L ⟨(Sd.act st.cells s i pick).1, st.ses.set pick.toNat (Sd.act st.cells s i pick).2⟩ (.bool true) w) := by
  have hop : 7 ≤ i.op := by omega
  have HOP := hide hop8
  clear hop8
  obtain ⟨_, _, j, pv, _, _, e1, _, hse, hf⟩ := h.at_ hs
  have hs' := get_nat hs
  have HN := hide (session_some h hs e1)
  have hlt : s.at_ < s.p.length := (List.getElem?_eq_some_iff.1 ho).1
  have hov : Sd.over s = false := by simp [Sd.over]; omega
  have HO := over_c hse
  rw [hov] at HO
  have HO := hide HO
  have hr := hf.ok i (List.mem_of_getElem? ho)
  have hlen := hf.len
  have HM := hide h
  clear hse hf hov h
  go_enter Try.func45, Try.ntmps45
  go_wp2_with (first | (go_at_call 68; refine HN.out.mono ?_; rintro e w' ⟨rfl, rfl⟩) | (go_at_call 69; refine HO.out.mono ?_; rintro e w2 ⟨rfl, nd, hw2⟩; have HM2 := hide (show Mach w2 L st by rw [hw2]; exact HM.out.drewN nd); have O2 := hide (show Only L.may w w2 by rw [hw2]; exact (Only.refl _ _).drewN nd); clear hw2))
  have h2 := HM2.out
  clear HM HN HO HM2
  obtain ⟨pg, pc, d0, d1, c0, c1, c2, c3, _⟩ := h2.rd hs ho e1
  obtain ⟨pv2, M⟩ := Mv.start h2 hs' e1 i
  have HM := hide (fun n => moves_idle (M.drewN n) hop)
  have hi : (s.at_ : Int) < (s.p.length : Int) := by omega
  clear h2 M
  have z0 := (World.cell?_alloc_lt w2 (.cells #[.int .i64 0, .int .i64 0, .int .i64 0, .int .i64 0] 95) ⟨j, 0, none⟩ (World.block_lt_of_cell? w2 ⟨j, 0, none⟩ d0)).trans d0
  have z1 := (World.cell?_alloc_lt w2 (.cells #[.int .i64 0, .int .i64 0, .int .i64 0, .int .i64 0] 95) ⟨j, 1, none⟩ (World.block_lt_of_cell? w2 ⟨j, 1, none⟩ d1)).trans d1
  have z2 := (World.cell?_alloc_lt w2 (.cells #[.int .i64 0, .int .i64 0, .int .i64 0, .int .i64 0] 95) ⟨pg, s.at_ * 4, none⟩ (World.block_lt_of_cell? w2 ⟨pg, s.at_ * 4, none⟩ c0)).trans c0
  have z3 := (World.cell?_alloc_lt w2 (.cells #[.int .i64 0, .int .i64 0, .int .i64 0, .int .i64 0] 95) ⟨pg, s.at_ * 4 + 1, none⟩ (World.block_lt_of_cell? w2 ⟨pg, s.at_ * 4 + 1, none⟩ c1)).trans c1
  have z4 := (World.cell?_alloc_lt w2 (.cells #[.int .i64 0, .int .i64 0, .int .i64 0, .int .i64 0] 95) ⟨pg, s.at_ * 4 + 2, none⟩ (World.block_lt_of_cell? w2 ⟨pg, s.at_ * 4 + 2, none⟩ c2)).trans c2
  have z5 := (World.cell?_alloc_lt w2 (.cells #[.int .i64 0, .int .i64 0, .int .i64 0, .int .i64 0] 95) ⟨pg, s.at_ * 4 + 3, none⟩ (World.block_lt_of_cell? w2 ⟨pg, s.at_ * 4 + 3, none⟩ c3)).trans c3
  go_region
  have HM1 := hide (show Calls Try.prog 70 #[.pointer (some ⟨L.b, 0, none⟩), .pointer (some ⟨j, 0, none⟩), inAgg i] ((w2.alloc (.cells #[.int .i64 i.op, .int .i64 i.c, .int .i64 i.a, .int .i64 i.b] 95)).drew) (fun e w' => e = .returned (.bool false) ∧ Mv w2 w' L st pick.toNat j pv2 s i w2.heap.size) from HM.out 1)
  have X0 := hide (show ((w2.alloc (.cells #[.int .i64 i.op, .int .i64 i.c, .int .i64 i.a, .int .i64 i.b] 95)).drew).cell? ⟨w2.heap.size, 0, none⟩ = some (.int .i64 i.op) ∧ ((w2.alloc (.cells #[.int .i64 i.op, .int .i64 i.c, .int .i64 i.a, .int .i64 i.b] 95)).drew).cell? ⟨w2.heap.size, 1, none⟩ = some (.int .i64 i.c) ∧ ((w2.alloc (.cells #[.int .i64 i.op, .int .i64 i.c, .int .i64 i.a, .int .i64 i.b] 95)).drew).cell? ⟨w2.heap.size, 2, none⟩ = some (.int .i64 i.a) ∧ ((w2.alloc (.cells #[.int .i64 i.op, .int .i64 i.c, .int .i64 i.a, .int .i64 i.b] 95)).drew).cell? ⟨w2.heap.size, 3, none⟩ = some (.int .i64 i.b) from ⟨(Blk.new w2 95 _).cell 0, (Blk.new w2 95 _).cell 1, (Blk.new w2 95 _).cell 2, (Blk.new w2 95 _).cell 3⟩)
  generalize (w2.alloc (.cells #[.int .i64 i.op, .int .i64 i.c, .int .i64 i.a, .int .i64 i.b] 95)).drew = wx at *
  obtain ⟨x0, x1, x2, x3⟩ := X0.out
  clear HM X0 d0 d1 c0 c1 c2 c3 z0 z1 z2 z3 z4 z5
  go_wp2_with fail
  refine HM1.out.mono ?_
  rintro e w5 ⟨rfl, h5⟩
  obtain ⟨b0, b1, b2, b3⟩ := h5.bcells
  have y0 := h5.mach.heads.1
  have y1 := h5.ses.cell_at.2
  have y2 := h5.ses.blk.frozen 1
  have HO2 := hide (O2.out.trans h5.only (fun _ _ h => h))
  have HO3 := O2
  have H5 := hide h5
  clear h5 HM1 O2 x0 x1 x2 x3
  have hop8 := HOP.out
  have F := hide (fun n => (H5.out.drewN n).lock i.c pick)
  have hz2 : (Cs.lockE st.cells i.c pick == 0) = false := by simp [hz]
  generalize hle : Cs.lockE st.cells i.c pick = le at *
  have hact : Sd.act st.cells s i pick = (Cs.lockL st.cells i.c pick, s) := by
    simp [Sd.act, hop8, hle, hz]
  have HFN := hide (fun (wt : World) (h : Mv w2 wt L ⟨Cs.lockL st.cells i.c pick, st.ses⟩ pick.toNat j pv2 s i w2.heap.size) => show Steps L ⟨(Sd.act st.cells s i pick).1, st.ses.set pick.toNat (Sd.act st.cells s i pick).2⟩ (.bool true) w (.returned (.bool true)) wt from by
    have hm := h.mach
    rw [hact, list_set_same hs']
    exact ⟨rfl, hm, HO3.out.trans h.only (fun _ _ h => h)⟩)
  have G := hide (fun (wt : World) (l' : List Cl) (h : Mv w2 wt L ⟨l', st.ses⟩ pick.toNat j pv2 s i w2.heap.size) => And.intro h.mach.heads.1 (And.intro h.bcells.2.1 (And.intro h.ses.cell_at.2 (h.ses.blk.frozen 1))))
  rw [hop8] at b0
  clear H5 hr ho hs hs' HO2 HO3
  go_wp2_with (first | go_step3)
  go_region_held3 (fun wt => wt.cell? ⟨L.b, 0, none⟩ = some (.pointer (some ⟨L.m, 0, none⟩)) ∧ wt.cell? ⟨w2.heap.size, 1, none⟩ = some (.int .i64 i.c))
    (first | exact ⟨(G.out _ _ h5).1, (G.out _ _ h5).2.1⟩ | go_keep)
    ((go_at_call 24; refine (F.out _).mono ?_; rintro e w6 ⟨rfl, h5⟩))
  have H7 := hide (HFN.out _ h5)
  clear F G HFN h5 hact
  go_wp2_with (first | go_step3)
  go_ret
  exact H7.out

set_option maxRecDepth 100000 in
set_option maxHeartbeats 8000000 in
theorem step_free (h : Mach w L st) {pick : Int} (hs : Sd.get st.ses pick = some s) (ho : s.p[s.at_]? = some i) (hop8 : i.op = 10) : Calls Try.prog 45 #[.pointer (some ⟨L.b, 0, none⟩), .int .i64 pick] w (Steps L ⟨(Sd.act st.cells s i pick).1, st.ses.set pick.toNat (Sd.act st.cells s i pick).2⟩ (.bool true) w) := by
  have hop : 7 ≤ i.op := by omega
  have HOP := hide hop8
  clear hop8
  obtain ⟨_, _, j, pv, _, _, e1, _, hse, hf⟩ := h.at_ hs
  have hs' := get_nat hs
  have HN := hide (session_some h hs e1)
  have hlt : s.at_ < s.p.length := (List.getElem?_eq_some_iff.1 ho).1
  have hov : Sd.over s = false := by simp [Sd.over]; omega
  have HO := over_c hse
  rw [hov] at HO
  have HO := hide HO
  have hr := hf.ok i (List.mem_of_getElem? ho)
  have hlen := hf.len
  have HM := hide h
  clear hse hf hov h
  go_enter Try.func45, Try.ntmps45
  go_wp2_with (first | (go_at_call 68; refine HN.out.mono ?_; rintro e w' ⟨rfl, rfl⟩) | (go_at_call 69; refine HO.out.mono ?_; rintro e w2 ⟨rfl, nd, hw2⟩; have HM2 := hide (show Mach w2 L st by rw [hw2]; exact HM.out.drewN nd); have O2 := hide (show Only L.may w w2 by rw [hw2]; exact (Only.refl _ _).drewN nd); clear hw2))
  have h2 := HM2.out
  clear HM HN HO HM2
  obtain ⟨pg, pc, d0, d1, c0, c1, c2, c3, _⟩ := h2.rd hs ho e1
  obtain ⟨pv2, M⟩ := Mv.start h2 hs' e1 i
  have HM := hide (fun n => moves_idle (M.drewN n) hop)
  have hi : (s.at_ : Int) < (s.p.length : Int) := by omega
  clear h2 M
  have z0 := (World.cell?_alloc_lt w2 (.cells #[.int .i64 0, .int .i64 0, .int .i64 0, .int .i64 0] 95) ⟨j, 0, none⟩ (World.block_lt_of_cell? w2 ⟨j, 0, none⟩ d0)).trans d0
  have z1 := (World.cell?_alloc_lt w2 (.cells #[.int .i64 0, .int .i64 0, .int .i64 0, .int .i64 0] 95) ⟨j, 1, none⟩ (World.block_lt_of_cell? w2 ⟨j, 1, none⟩ d1)).trans d1
  have z2 := (World.cell?_alloc_lt w2 (.cells #[.int .i64 0, .int .i64 0, .int .i64 0, .int .i64 0] 95) ⟨pg, s.at_ * 4, none⟩ (World.block_lt_of_cell? w2 ⟨pg, s.at_ * 4, none⟩ c0)).trans c0
  have z3 := (World.cell?_alloc_lt w2 (.cells #[.int .i64 0, .int .i64 0, .int .i64 0, .int .i64 0] 95) ⟨pg, s.at_ * 4 + 1, none⟩ (World.block_lt_of_cell? w2 ⟨pg, s.at_ * 4 + 1, none⟩ c1)).trans c1
  have z4 := (World.cell?_alloc_lt w2 (.cells #[.int .i64 0, .int .i64 0, .int .i64 0, .int .i64 0] 95) ⟨pg, s.at_ * 4 + 2, none⟩ (World.block_lt_of_cell? w2 ⟨pg, s.at_ * 4 + 2, none⟩ c2)).trans c2
  have z5 := (World.cell?_alloc_lt w2 (.cells #[.int .i64 0, .int .i64 0, .int .i64 0, .int .i64 0] 95) ⟨pg, s.at_ * 4 + 3, none⟩ (World.block_lt_of_cell? w2 ⟨pg, s.at_ * 4 + 3, none⟩ c3)).trans c3
  go_region
  have HM1 := hide (show Calls Try.prog 70 #[.pointer (some ⟨L.b, 0, none⟩), .pointer (some ⟨j, 0, none⟩), inAgg i] ((w2.alloc (.cells #[.int .i64 i.op, .int .i64 i.c, .int .i64 i.a, .int .i64 i.b] 95)).drew) (fun e w' => e = .returned (.bool false) ∧ Mv w2 w' L st pick.toNat j pv2 s i w2.heap.size) from HM.out 1)
  have X0 := hide (show ((w2.alloc (.cells #[.int .i64 i.op, .int .i64 i.c, .int .i64 i.a, .int .i64 i.b] 95)).drew).cell? ⟨w2.heap.size, 0, none⟩ = some (.int .i64 i.op) ∧ ((w2.alloc (.cells #[.int .i64 i.op, .int .i64 i.c, .int .i64 i.a, .int .i64 i.b] 95)).drew).cell? ⟨w2.heap.size, 1, none⟩ = some (.int .i64 i.c) ∧ ((w2.alloc (.cells #[.int .i64 i.op, .int .i64 i.c, .int .i64 i.a, .int .i64 i.b] 95)).drew).cell? ⟨w2.heap.size, 2, none⟩ = some (.int .i64 i.a) ∧ ((w2.alloc (.cells #[.int .i64 i.op, .int .i64 i.c, .int .i64 i.a, .int .i64 i.b] 95)).drew).cell? ⟨w2.heap.size, 3, none⟩ = some (.int .i64 i.b) from ⟨(Blk.new w2 95 _).cell 0, (Blk.new w2 95 _).cell 1, (Blk.new w2 95 _).cell 2, (Blk.new w2 95 _).cell 3⟩)
  generalize (w2.alloc (.cells #[.int .i64 i.op, .int .i64 i.c, .int .i64 i.a, .int .i64 i.b] 95)).drew = wx at *
  obtain ⟨x0, x1, x2, x3⟩ := X0.out
  clear HM X0 d0 d1 c0 c1 c2 c3 z0 z1 z2 z3 z4 z5
  go_wp2_with fail
  refine HM1.out.mono ?_
  rintro e w5 ⟨rfl, h5⟩
  obtain ⟨b0, b1, b2, b3⟩ := h5.bcells
  have y0 := h5.mach.heads.1
  have y1 := h5.ses.cell_at.2
  have y2 := h5.ses.blk.frozen 1
  have HO2 := hide (O2.out.trans h5.only (fun _ _ h => h))
  have HO3 := O2
  have H5 := hide h5
  clear h5 HM1 O2 x0 x1 x2 x3
  have hop8 := HOP.out
  have F := hide (fun n => (H5.out.drewN n).free i.c pick)
  have s1 : IntKind.i64.wrap ((s.at_ : Int) + 1) = (s.at_ : Int) + 1 := IntWalk.i64_in _ (by omega)
  have hact : Sd.act st.cells s i pick = (Cs.freeL st.cells i.c pick, { s with at_ := s.at_ + 1 }) := by simp [Sd.act, hop8]
  have HFN := hide (fun (wt : World) (h : Mv w2 wt L ⟨Cs.freeL st.cells i.c pick, st.ses⟩ pick.toNat j pv2 s i w2.heap.size) => show Steps L ⟨(Sd.act st.cells s i pick).1, st.ses.set pick.toNat (Sd.act st.cells s i pick).2⟩ (.bool true) w (.returned (.bool true)) (wt.setCell ⟨j, 1, none⟩ (.int .i64 ((s.at_ : Int) + 1))) from by
    have h6 := h.place (s.at_ + 1) (by omega)
    rw [show ((s.at_ + 1 : Nat) : Int) = (s.at_ : Int) + 1 by omega] at h6
    rw [hact]
    exact ⟨rfl, h6.mach, HO3.out.trans h6.only (fun _ _ h => h)⟩)
  have G := hide (fun (wt : World) (l' : List Cl) (h : Mv w2 wt L ⟨l', st.ses⟩ pick.toNat j pv2 s i w2.heap.size) => And.intro h.mach.heads.1 (And.intro h.bcells.2.1 (And.intro h.ses.cell_at.2 (h.ses.blk.frozen 1))))
  rw [hop8] at b0
  clear H5 hr ho hs hs' HO2 HO3
  generalize Cs.freeE st.cells i.c pick = fe at *
  go_wp2_with (first | go_step3)
  go_region_held3 (fun wt => wt.cell? ⟨L.b, 0, none⟩ = some (.pointer (some ⟨L.m, 0, none⟩)) ∧ wt.cell? ⟨w2.heap.size, 1, none⟩ = some (.int .i64 i.c))
    (first | exact ⟨(G.out _ _ h5).1, (G.out _ _ h5).2.1⟩ | go_keep)
    ((go_at_call 25; refine (F.out _).mono ?_; rintro e w6 ⟨rfl, h5⟩))
  obtain ⟨_, _, g1, g2⟩ := G.out _ _ h5
  have H7 := hide (HFN.out _ h5)
  clear F G HFN h5 hact
  go_wp2_with (first | go_step3)
  go_ret
  exact H7.out

end
end Go.Proofs.Ytaoonjamlcdfaaa
