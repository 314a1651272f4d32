/-
  The contract of the reference's Step.
-/
import Derived.Test.YtaoonjamlcdfaaaRMach
namespace Go.Proofs.Ytaoonjamlcdfaaa
open Go.RowKit

/-- The reference's machine while an instruction is done: a session's, its instruction in a box. -/
structure RMv (w wt : World) (L : RLay) (st : St) (k j : Nat) (pv : Value) (s : Ss) (i : In) (bx : Nat) : Prop where
  mach : RMach wt L st
  hs : st.ses[k]? = some s
  hj : L.bs[k]? = some j
  hp : L.pvs[k]? = some pv
  box : Blk wt bx 95 #[.int .i64 i.op, .int .i64 i.c, .int .i64 i.a, .int .i64 i.b]
  hbx : w.heap.size ≤ bx
  gl : ∀ q, L.all q → q < w.heap.size
  only : Only L.may w wt
section
variable {w wt w' : World} {L : RLay} {st : St} {s : Ss} {k j bx : Nat} {pv : Value} {i : In}
theorem RMv.start (h : RMach w L st) (hs : st.ses[k]? = some s) (hj : L.bs[k]? = some j) (i : In) : ∃ pv, RMv w (w.alloc (.cells #[.int .i64 i.op, .int .i64 i.c, .int .i64 i.a, .int .i64 i.b] 95)) L st k j pv s i w.heap.size := by
  obtain ⟨j', pv, e1, e2, hse⟩ := h.ses.at_ hs
  exact ⟨pv, h.later ((Below.refl _ _).alloc (Nat.le_refl _) _), hs, hj, e2, Blk.new _ _ _, Nat.le_refl _, fun q hq => (h.all_lt hq).2, (Only.refl _ _).alloc _⟩
theorem RMv.drewN (h : RMv w wt L st k j pv s i bx) (n : Nat) : RMv w (wt.drewN n) L st k j pv s i bx := ⟨h.mach.drewN n, h.hs, h.hj, h.hp, h.box, h.hbx, h.gl, h.only.drewN n⟩
theorem RMv.ses (h : RMv w wt L st k j pv s i bx) : SesAt wt L.B 110 j pv s := h.mach.ses.ses k j pv s h.hj h.hp h.hs
theorem RMv.fit (h : RMv w wt L st k j pv s i bx) : Sd.Fit st.cells.length s := h.mach.good.fit s (List.mem_of_getElem? h.hs)
theorem RMv.bcells (h : RMv w wt L st k j pv s i bx) : wt.cell? ⟨bx, 0, none⟩ = some (.int .i64 i.op) ∧ wt.cell? ⟨bx, 1, none⟩ = some (.int .i64 i.c) ∧ wt.cell? ⟨bx, 2, none⟩ = some (.int .i64 i.a) ∧ wt.cell? ⟨bx, 3, none⟩ = some (.int .i64 i.b) := ⟨h.box.cell 0, h.box.cell 1, h.box.cell 2, h.box.cell 3⟩
theorem RMv.rcell (h : RMv w wt L st k j pv s i bx) {a : Int} (h0 : 0 ≤ a) (h4 : a < 4) : wt.cell? ⟨j, 2 + a.toNat, none⟩ = some (.int .i64 (Sd.rg s.r a)) := h.ses.cell_reg h0 h4
theorem RMv.jall (h : RMv w wt L st k j pv s i bx) : L.all j := .inr (.inr (.inr (.inr (.inl (List.mem_of_getElem? h.hj)))))
/-- The session turns. -/
theorem RMv.turn (h : RMv w wt L st k j pv s i bx) {s' : Ss} (hn : SesAt w' L.B 110 j pv s') (hf : Sd.Fit st.cells.length s') (ho : Only (fun q => q = j) wt w') : RMv w w' L ⟨st.cells, st.ses.set k s'⟩ k j pv s' i bx := by
  have hk : k < st.ses.length := (List.getElem?_eq_some_iff.1 h.hs).1
  have hjw := h.gl _ h.jall
  have hbx := h.hbx
  exact ⟨h.mach.turnSes h.hs h.hj h.hp hn hf ho, by simp [hk], h.hj, h.hp, h.box.only ho (fun e => by omega), h.hbx, h.gl, h.only.trans (ho.mono (T := L.may) (fun q _ e => .inr (by rw [e]; exact List.mem_of_getElem? h.hj))) (fun _ _ h => h)⟩
theorem RMv.reg (h : RMv w wt L st k j pv s i bx) (a v : Int) : RMv w (wt.setCell ⟨j, 2 + a.toNat, none⟩ (.int .i64 v)) L ⟨st.cells, st.ses.set k { s with r := Sd.sr s.r a v }⟩ k j pv { s with r := Sd.sr s.r a v } i bx :=
  h.turn (h.ses.set_reg (by decide) v) ⟨by simp [Sd.sr, h.fit.reg], h.fit.len, h.fit.ok, h.fit.place⟩ ((Only.refl (fun q => q = j) wt).setCell (p := ⟨j, 2 + a.toNat, none⟩) (.inl rfl) _)
theorem RMv.place (h : RMv w wt L st k j pv s i bx) (n : Nat) (hn : n ≤ s.p.length) : RMv w (wt.setCell ⟨j, 1, none⟩ (.int .i64 (n : Int))) L ⟨st.cells, st.ses.set k { s with at_ := n }⟩ k j pv { s with at_ := n } i bx :=
  h.turn (h.ses.set_at (by decide) n) ⟨h.fit.reg, h.fit.len, h.fit.ok, hn⟩ ((Only.refl (fun q => q = j) wt).setCell (p := ⟨j, 1, none⟩) (.inl rfl) _)
/-- The cells turn. -/
theorem RMv.cells (h : RMv w wt L st k j pv s i bx) {F : Nat} {args : Array Value} {x : Value} {l' : List Cl} (hc : Calls Try.prog F args wt (RTurns L.B L.m L.v L.y L.z l' x wt)) (hl : l'.length = st.cells.length) (hok : Ok l') :
    Calls Try.prog F args wt fun e w' => e = .returned x ∧ RMv w w' L ⟨l', st.ses⟩ k j pv s i bx :=
  hc.mono fun _ _ ⟨he, hm, ho⟩ => ⟨he, h.mach.turnCells hm hl hok ho, h.hs, h.hj, h.hp, h.box.only ho (fun e => by have := h.gl bx (.inr (.inr (.inl e))); have := h.hbx; omega), h.hbx, h.gl, h.only.trans (ho.mono (T := L.may) (fun q _ e => .inl e)) (fun _ _ h => h)⟩
/-- The place is stored last. -/
theorem RMv.fin (h : RMv w wt L st k j pv s i bx) (n : Int) (h0 : 0 ≤ n) (hn : n ≤ s.p.length) : (wt.cell? ⟨j, 1, none⟩ = some (.int .i64 (s.at_ : Int)) ∧ wt.frozen? ⟨j, 1, none⟩ = false) ∧
    RMach (wt.setCell ⟨j, 1, none⟩ (.int .i64 n)) L ⟨st.cells, st.ses.set k { s with at_ := n.toNat }⟩ ∧ Only L.may w (wt.setCell ⟨j, 1, none⟩ (.int .i64 n)) := by
  have hp := h.place n.toNat (by omega)
  rw [Int.toNat_of_nonneg h0] at hp
  exact ⟨⟨h.ses.cell_at.2, h.ses.blk.frozen 1⟩, hp.mach, hp.only⟩
theorem RMach.rd (h : RMach w L st) {pick : Int} (hs : Sd.get st.ses pick = some s) (ho : s.p[s.at_]? = some i) (hj : L.bs[pick.toNat]? = some j) : ∃ pg pc, Rd w j s i pg pc := by
  obtain ⟨_, _, j', pv, _, _, e1, _, hse, hf⟩ := h.at_ hs
  rw [hj] at e1
  cases e1
  have hlt : s.at_ < s.p.length := (List.getElem?_eq_some_iff.1 ho).1
  obtain ⟨pg, pc, hpv, _, _, hpgl, _, hpc, hpf⟩ := ownsRow_pos hse.prog (by omega)
  obtain ⟨q0, q1, q2, q3⟩ := qcells_at s.p s.at_ i ho
  obtain ⟨d0, d1⟩ := hse.cell_at
  rw [hpv] at d0
  exact ⟨pg, pc, d0, d1, hpc _ _ q0, hpc _ _ q1, hpc _ _ q2, hpc _ _ q3, hlt⟩

set_option maxRecDepth 100000 in
theorem rstep_over (h : RMach w L st) {pick : Int} (ho : Sd.overB st pick = true) : Calls Try.prog 47 #[.pointer (some ⟨L.b, 0, none⟩), .int .i64 pick] w fun e w' => e = .returned (.bool false) ∧ ∃ n, w' = w.drewN n := by
  have HO := rover_c h pick
  rw [ho] at HO
  have HO := hide HO
  clear h ho
  go_enter Try.func47, Try.ntmps47
  go_wp2_with (go_at_call 72; refine HO.out.mono ?_; rintro e w' ⟨rfl, nd, rfl⟩)
  go_ret
  exact ⟨rfl, _, rfl⟩

set_option maxRecDepth 100000 in
set_option maxHeartbeats 8000000 in
theorem rstep_set (h : RMach w L st) {pick : Int} (hs : Sd.get st.ses pick = some s) (ho : s.p[s.at_]? = some i) (hop8 : i.op = 1) : Calls Try.prog 47 #[.pointer (some ⟨L.b, 0, none⟩), .int .i64 pick] w (RSteps L ⟨(Sd.act st.cells s i pick).1, st.ses.set pick.toNat (Sd.act st.cells s i pick).2⟩ (.bool true) w) := by
  have HOP := hide hop8
  clear hop8
  obtain ⟨sg, scap, j, pv, hsv, _, e1, e2, hse, hf⟩ := h.at_ hs
  have hs' := get_nat hs
  obtain ⟨k0, k1, _⟩ := Sd.get_some hs
  have hlt : s.at_ < s.p.length := (List.getElem?_eq_some_iff.1 ho).1
  have hov : Sd.overB st pick = false := by simp [Sd.overB, hs, Sd.over]; omega
  have HO := rover_c h pick
  rw [hov] at HO
  have HO := hide HO
  have hr := hf.ok i (List.mem_of_getElem? ho)
  have hlen := hf.len
  have HM := hide h
  have HSV := hide hsv
  clear hse hf hov h hsv
  go_enter Try.func47, Try.ntmps47
  go_wp2_with fail
  refine HO.out.mono ?_
  rintro e w2 ⟨rfl, nd, hw2⟩
  have HM2 := hide (show RMach w2 L st by rw [hw2]; exact HM.out.drewN nd)
  have O2 := hide (show Only L.may w w2 by rw [hw2]; exact (Only.refl _ _).drewN nd)
  clear hw2 HO HM
  have h2 := HM2.out
  have a1 := h2.heads.2
  rw [HSV.out] at a1
  obtain ⟨sg', scap', j', _, hv', a2, e1', _⟩ := h2.at_ hs
  rw [HSV.out] at hv'
  cases hv'
  rw [e1] at e1'
  cases e1'
  obtain ⟨pg, pc, d0, d1, c0, c1, c2, c3, _⟩ := h2.rd hs ho e1
  obtain ⟨pv2, M⟩ := RMv.start h2 hs' e1 i
  have HMM := hide (M.drewN 1)
  have hi : (s.at_ : Int) < (s.p.length : Int) := by omega
  have s1 : IntKind.i64.wrap ((s.at_ : Int) + 1) = (s.at_ : Int) + 1 := IntWalk.i64_in _ (by omega)
  clear h2 M HM2
  have z0 := (World.cell?_alloc_lt w2 (.cells #[.int .i64 0, .int .i64 0, .int .i64 0, .int .i64 0] 95) ⟨j, 0, none⟩ (World.block_lt_of_cell? w2 ⟨j, 0, none⟩ d0)).trans d0
  have z1 := (World.cell?_alloc_lt w2 (.cells #[.int .i64 0, .int .i64 0, .int .i64 0, .int .i64 0] 95) ⟨j, 1, none⟩ (World.block_lt_of_cell? w2 ⟨j, 1, none⟩ d1)).trans d1
  have z2 := (World.cell?_alloc_lt w2 (.cells #[.int .i64 0, .int .i64 0, .int .i64 0, .int .i64 0] 95) ⟨pg, s.at_ * 4, none⟩ (World.block_lt_of_cell? w2 ⟨pg, s.at_ * 4, none⟩ c0)).trans c0
  have z3 := (World.cell?_alloc_lt w2 (.cells #[.int .i64 0, .int .i64 0, .int .i64 0, .int .i64 0] 95) ⟨pg, s.at_ * 4 + 1, none⟩ (World.block_lt_of_cell? w2 ⟨pg, s.at_ * 4 + 1, none⟩ c1)).trans c1
  have z4 := (World.cell?_alloc_lt w2 (.cells #[.int .i64 0, .int .i64 0, .int .i64 0, .int .i64 0] 95) ⟨pg, s.at_ * 4 + 2, none⟩ (World.block_lt_of_cell? w2 ⟨pg, s.at_ * 4 + 2, none⟩ c2)).trans c2
  have z5 := (World.cell?_alloc_lt w2 (.cells #[.int .i64 0, .int .i64 0, .int .i64 0, .int .i64 0] 95) ⟨pg, s.at_ * 4 + 3, none⟩ (World.block_lt_of_cell? w2 ⟨pg, s.at_ * 4 + 3, none⟩ c3)).trans c3
  go_wp2_with fail
  go_region
  have H5 := hide (show RMv w2 ((w2.alloc (.cells #[.int .i64 i.op, .int .i64 i.c, .int .i64 i.a, .int .i64 i.b] 95)).drew) L st pick.toNat j pv2 s i w2.heap.size from HMM.out)
  generalize (w2.alloc (.cells #[.int .i64 i.op, .int .i64 i.c, .int .i64 i.a, .int .i64 i.b] 95)).drew = wx at *
  obtain ⟨b0, b1, b2, b3⟩ := H5.out.bcells
  have y0 := H5.out.mach.heads.1
  have y1 := H5.out.ses.cell_at.2
  have hop8 := HOP.out
  rw [hop8] at b0
  have bxj : w2.heap.size ≠ j := fun e => by have := H5.out.gl _ H5.out.jall; omega
  clear HMM d0 d1 c0 c1 c2 c3 z0 z1 z2 z3 z4 z5 a1 a2
  obtain ⟨a0, a4⟩ := Sd.right_a hr (by omega)
  have rc := H5.out.rcell a0 a4
  have rf := H5.out.ses.blk.frozen (2 + i.a.toNat)
  have hact : Sd.act st.cells s i pick = (st.cells, { s with r := Sd.sr s.r i.a i.b, at_ := s.at_ + 1 }) := by simp [Sd.act, hop8]
  have H6 := hide (show RMv w2 ((wx.setCell ⟨j, 2 + i.a.toNat, none⟩ (.int .i64 i.b)).drew) L ⟨st.cells, st.ses.set pick.toNat { s with r := Sd.sr s.r i.a i.b }⟩ pick.toNat j pv2 { s with r := Sd.sr s.r i.a i.b } i w2.heap.size from (H5.out.drewN 1).reg i.a i.b)
  have HFN := hide (fun (wt : World) (h : RMv w2 wt L ⟨st.cells, st.ses.set pick.toNat { s with r := Sd.sr s.r i.a i.b }⟩ pick.toNat j pv2 { s with r := Sd.sr s.r i.a i.b } i w2.heap.size) => show (wt.cell? ⟨j, 1, none⟩ = some (.int .i64 (s.at_ : Int)) ∧ wt.frozen? ⟨j, 1, none⟩ = false) ∧ RSteps L ⟨(Sd.act st.cells s i pick).1, st.ses.set pick.toNat (Sd.act st.cells s i pick).2⟩ (.bool true) w (.returned (.bool true)) (wt.setCell ⟨j, 1, none⟩ (.int .i64 ((s.at_ : Int) + 1))) from by
    obtain ⟨f1, f2, f3⟩ := h.fin ((s.at_ : Int) + 1) (by omega) (by show (s.at_ : Int) + 1 ≤ (s.p.length : Int); omega)
    refine ⟨f1, rfl, ?_, O2.out.trans f3 (fun _ _ h => h)⟩
    rw [hact]
    simpa [List.set_set] using f2)
  clear hr ho hs hs' hact O2 HOP hop8
  go_wp2_with (first | go_step3)
  go_region
  obtain ⟨⟨g1, g2⟩, hE⟩ := HFN.out _ H6.out
  have HE := hide hE
  clear hE HFN H6 H5
  go_wp2_with (first | go_step3)
  go_ret
  exact HE.out

set_option maxRecDepth 100000 in
set_option maxHeartbeats 8000000 in
theorem rstep_more (h : RMach w L st) {pick : Int} (hs : Sd.get st.ses pick = some s) (ho : s.p[s.at_]? = some i) (hop8 : i.op = 6) : Calls Try.prog 47 #[.pointer (some ⟨L.b, 0, none⟩), .int .i64 pick] w (RSteps L ⟨(Sd.act st.cells s i pick).1, st.ses.set pick.toNat (Sd.act st.cells s i pick).2⟩ (.bool true) w) := by
  have HOP := hide hop8
  clear hop8
  obtain ⟨sg, scap, j, pv, hsv, _, e1, e2, hse, hf⟩ := h.at_ hs
  have hs' := get_nat hs
  obtain ⟨k0, k1, _⟩ := Sd.get_some hs
  have hlt : s.at_ < s.p.length := (List.getElem?_eq_some_iff.1 ho).1
  have hov : Sd.overB st pick = false := by simp [Sd.overB, hs, Sd.over]; omega
  have HO := rover_c h pick
  rw [hov] at HO
  have HO := hide HO
  have hr := hf.ok i (List.mem_of_getElem? ho)
  have hlen := hf.len
  have HM := hide h
  have HSV := hide hsv
  clear hse hf hov h hsv
  go_enter Try.func47, Try.ntmps47
  go_wp2_with fail
  refine HO.out.mono ?_
  rintro e w2 ⟨rfl, nd, hw2⟩
  have HM2 := hide (show RMach w2 L st by rw [hw2]; exact HM.out.drewN nd)
  have O2 := hide (show Only L.may w w2 by rw [hw2]; exact (Only.refl _ _).drewN nd)
  clear hw2 HO HM
  have h2 := HM2.out
  have a1 := h2.heads.2
  rw [HSV.out] at a1
  obtain ⟨sg', scap', j', _, hv', a2, e1', _⟩ := h2.at_ hs
  rw [HSV.out] at hv'
  cases hv'
  rw [e1] at e1'
  cases e1'
  obtain ⟨pg, pc, d0, d1, c0, c1, c2, c3, _⟩ := h2.rd hs ho e1
  obtain ⟨pv2, M⟩ := RMv.start h2 hs' e1 i
  have HMM := hide (M.drewN 1)
  have hi : (s.at_ : Int) < (s.p.length : Int) := by omega
  have s1 : IntKind.i64.wrap ((s.at_ : Int) + 1) = (s.at_ : Int) + 1 := IntWalk.i64_in _ (by omega)
  clear h2 M HM2
  have z0 := (World.cell?_alloc_lt w2 (.cells #[.int .i64 0, .int .i64 0, .int .i64 0, .int .i64 0] 95) ⟨j, 0, none⟩ (World.block_lt_of_cell? w2 ⟨j, 0, none⟩ d0)).trans d0
  have z1 := (World.cell?_alloc_lt w2 (.cells #[.int .i64 0, .int .i64 0, .int .i64 0, .int .i64 0] 95) ⟨j, 1, none⟩ (World.block_lt_of_cell? w2 ⟨j, 1, none⟩ d1)).trans d1
  have z2 := (World.cell?_alloc_lt w2 (.cells #[.int .i64 0, .int .i64 0, .int .i64 0, .int .i64 0] 95) ⟨pg, s.at_ * 4, none⟩ (World.block_lt_of_cell? w2 ⟨pg, s.at_ * 4, none⟩ c0)).trans c0
  have z3 := (World.cell?_alloc_lt w2 (.cells #[.int .i64 0, .int .i64 0, .int .i64 0, .int .i64 0] 95) ⟨pg, s.at_ * 4 + 1, none⟩ (World.block_lt_of_cell? w2 ⟨pg, s.at_ * 4 + 1, none⟩ c1)).trans c1
  have z4 := (World.cell?_alloc_lt w2 (.cells #[.int .i64 0, .int .i64 0, .int .i64 0, .int .i64 0] 95) ⟨pg, s.at_ * 4 + 2, none⟩ (World.block_lt_of_cell? w2 ⟨pg, s.at_ * 4 + 2, none⟩ c2)).trans c2
  have z5 := (World.cell?_alloc_lt w2 (.cells #[.int .i64 0, .int .i64 0, .int .i64 0, .int .i64 0] 95) ⟨pg, s.at_ * 4 + 3, none⟩ (World.block_lt_of_cell? w2 ⟨pg, s.at_ * 4 + 3, none⟩ c3)).trans c3
  go_wp2_with fail
  go_region
  have H5 := hide (show RMv w2 ((w2.alloc (.cells #[.int .i64 i.op, .int .i64 i.c, .int .i64 i.a, .int .i64 i.b] 95)).drew) L st pick.toNat j pv2 s i w2.heap.size from HMM.out)
  generalize (w2.alloc (.cells #[.int .i64 i.op, .int .i64 i.c, .int .i64 i.a, .int .i64 i.b] 95)).drew = wx at *
  obtain ⟨b0, b1, b2, b3⟩ := H5.out.bcells
  have y0 := H5.out.mach.heads.1
  have y1 := H5.out.ses.cell_at.2
  have hop8 := HOP.out
  rw [hop8] at b0
  have bxj : w2.heap.size ≠ j := fun e => by have := H5.out.gl _ H5.out.jall; omega
  clear HMM d0 d1 c0 c1 c2 c3 z0 z1 z2 z3 z4 z5 a1 a2
  obtain ⟨a0, a4⟩ := Sd.right_a hr (by omega)
  have rc := H5.out.rcell a0 a4
  have rf := H5.out.ses.blk.frozen (2 + i.a.toNat)
  have hact : Sd.act st.cells s i pick = (st.cells, { s with r := Sd.sr s.r i.a (wrap64 (Sd.rg s.r i.a + i.b)), at_ := s.at_ + 1 }) := by simp [Sd.act, hop8]
  have H6 := hide (show RMv w2 ((wx.setCell ⟨j, 2 + i.a.toNat, none⟩ (.int .i64 (wrap64 (Sd.rg s.r i.a + i.b)))).drew) L ⟨st.cells, st.ses.set pick.toNat { s with r := Sd.sr s.r i.a (wrap64 (Sd.rg s.r i.a + i.b)) }⟩ pick.toNat j pv2 { s with r := Sd.sr s.r i.a (wrap64 (Sd.rg s.r i.a + i.b)) } i w2.heap.size from (H5.out.drewN 1).reg i.a (wrap64 (Sd.rg s.r i.a + i.b)))
  have hrd := round_add (Sd.rg s.r i.a) i.b
  have hrd2 := round_add' (Sd.rg s.r i.a) i.b
  have HFN := hide (fun (wt : World) (h : RMv w2 wt L ⟨st.cells, st.ses.set pick.toNat { s with r := Sd.sr s.r i.a (wrap64 (Sd.rg s.r i.a + i.b)) }⟩ pick.toNat j pv2 { s with r := Sd.sr s.r i.a (wrap64 (Sd.rg s.r i.a + i.b)) } i w2.heap.size) => show (wt.cell? ⟨j, 1, none⟩ = some (.int .i64 (s.at_ : Int)) ∧ wt.frozen? ⟨j, 1, none⟩ = false) ∧ RSteps L ⟨(Sd.act st.cells s i pick).1, st.ses.set pick.toNat (Sd.act st.cells s i pick).2⟩ (.bool true) w (.returned (.bool true)) (wt.setCell ⟨j, 1, none⟩ (.int .i64 ((s.at_ : Int) + 1))) from by
    obtain ⟨f1, f2, f3⟩ := h.fin ((s.at_ : Int) + 1) (by omega) (by show (s.at_ : Int) + 1 ≤ (s.p.length : Int); omega)
    refine ⟨f1, rfl, ?_, O2.out.trans f3 (fun _ _ h => h)⟩
    rw [hact]
    simpa [List.set_set] using f2)
  clear hr ho hs hs' hact O2 HOP hop8
  generalize Sd.rg s.r i.a = rv at *
  go_wp2_with (first | go_step3)
  go_region
  obtain ⟨⟨g1, g2⟩, hE⟩ := HFN.out _ H6.out
  have HE := hide hE
  clear hE HFN H6 H5
  go_wp2_with (first | go_step3)
  go_ret
  exact HE.out

set_option maxRecDepth 100000 in
set_option maxHeartbeats 8000000 in
theorem rstep_zero (h : RMach w L st) {pick : Int} (hs : Sd.get st.ses pick = some s) (ho : s.p[s.at_]? = some i) (hop8 : i.op = 7) (hz : Sd.rg s.r i.a = 0) : Calls Try.prog 47 #[.pointer (some ⟨L.b, 0, none⟩), .int .i64 pick] w (RSteps L ⟨(Sd.act st.cells s i pick).1, st.ses.set pick.toNat (Sd.act st.cells s i pick).2⟩ (.bool true) w) := by
  have HOP := hide hop8
  clear hop8
  obtain ⟨sg, scap, j, pv, hsv, _, e1, e2, hse, hf⟩ := h.at_ hs
  have hs' := get_nat hs
  obtain ⟨k0, k1, _⟩ := Sd.get_some hs
  have hlt : s.at_ < s.p.length := (List.getElem?_eq_some_iff.1 ho).1
  have hov : Sd.overB st pick = false := by simp [Sd.overB, hs, Sd.over]; omega
  have HO := rover_c h pick
  rw [hov] at HO
  have HO := hide HO
  have hr := hf.ok i (List.mem_of_getElem? ho)
  have hlen := hf.len
  have HM := hide h
  have HSV := hide hsv
  clear hse hf hov h hsv
  go_enter Try.func47, Try.ntmps47
  go_wp2_with fail
  refine HO.out.mono ?_
  rintro e w2 ⟨rfl, nd, hw2⟩
  have HM2 := hide (show RMach w2 L st by rw [hw2]; exact HM.out.drewN nd)
  have O2 := hide (show Only L.may w w2 by rw [hw2]; exact (Only.refl _ _).drewN nd)
  clear hw2 HO HM
  have h2 := HM2.out
  have a1 := h2.heads.2
  rw [HSV.out] at a1
  obtain ⟨sg', scap', j', _, hv', a2, e1', _⟩ := h2.at_ hs
  rw [HSV.out] at hv'
  cases hv'
  rw [e1] at e1'
  cases e1'
  obtain ⟨pg, pc, d0, d1, c0, c1, c2, c3, _⟩ := h2.rd hs ho e1
  obtain ⟨pv2, M⟩ := RMv.start h2 hs' e1 i
  have HMM := hide (M.drewN 1)
  have hi : (s.at_ : Int) < (s.p.length : Int) := by omega
  have s1 : IntKind.i64.wrap ((s.at_ : Int) + 1) = (s.at_ : Int) + 1 := IntWalk.i64_in _ (by omega)
  clear h2 M HM2
  have z0 := (World.cell?_alloc_lt w2 (.cells #[.int .i64 0, .int .i64 0, .int .i64 0, .int .i64 0] 95) ⟨j, 0, none⟩ (World.block_lt_of_cell? w2 ⟨j, 0, none⟩ d0)).trans d0
  have z1 := (World.cell?_alloc_lt w2 (.cells #[.int .i64 0, .int .i64 0, .int .i64 0, .int .i64 0] 95) ⟨j, 1, none⟩ (World.block_lt_of_cell? w2 ⟨j, 1, none⟩ d1)).trans d1
  have z2 := (World.cell?_alloc_lt w2 (.cells #[.int .i64 0, .int .i64 0, .int .i64 0, .int .i64 0] 95) ⟨pg, s.at_ * 4, none⟩ (World.block_lt_of_cell? w2 ⟨pg, s.at_ * 4, none⟩ c0)).trans c0
  have z3 := (World.cell?_alloc_lt w2 (.cells #[.int .i64 0, .int .i64 0, .int .i64 0, .int .i64 0] 95) ⟨pg, s.at_ * 4 + 1, none⟩ (World.block_lt_of_cell? w2 ⟨pg, s.at_ * 4 + 1, none⟩ c1)).trans c1
  have z4 := (World.cell?_alloc_lt w2 (.cells #[.int .i64 0, .int .i64 0, .int .i64 0, .int .i64 0] 95) ⟨pg, s.at_ * 4 + 2, none⟩ (World.block_lt_of_cell? w2 ⟨pg, s.at_ * 4 + 2, none⟩ c2)).trans c2
  have z5 := (World.cell?_alloc_lt w2 (.cells #[.int .i64 0, .int .i64 0, .int .i64 0, .int .i64 0] 95) ⟨pg, s.at_ * 4 + 3, none⟩ (World.block_lt_of_cell? w2 ⟨pg, s.at_ * 4 + 3, none⟩ c3)).trans c3
  go_wp2_with fail
  go_region
  have H5 := hide (show RMv w2 ((w2.alloc (.cells #[.int .i64 i.op, .int .i64 i.c, .int .i64 i.a, .int .i64 i.b] 95)).drew) L st pick.toNat j pv2 s i w2.heap.size from HMM.out)
  generalize (w2.alloc (.cells #[.int .i64 i.op, .int .i64 i.c, .int .i64 i.a, .int .i64 i.b] 95)).drew = wx at *
  obtain ⟨b0, b1, b2, b3⟩ := H5.out.bcells
  have y0 := H5.out.mach.heads.1
  have y1 := H5.out.ses.cell_at.2
  have hop8 := HOP.out
  rw [hop8] at b0
  have bxj : w2.heap.size ≠ j := fun e => by have := H5.out.gl _ H5.out.jall; omega
  clear HMM d0 d1 c0 c1 c2 c3 z0 z1 z2 z3 z4 z5 a1 a2
  obtain ⟨a0, a4⟩ := Sd.right_a hr (by omega)
  have rc := H5.out.rcell a0 a4
  have rf := H5.out.ses.blk.frozen (2 + i.a.toNat)
  obtain ⟨t0, t1⟩ := Sd.right_to hr (.inl hop8)
  rw [hz] at rc
  have hact : Sd.act st.cells s i pick = (st.cells, { s with at_ := i.b.toNat }) := by simp [Sd.act, hop8, hz]
  have HFN := hide (fun (wt : World) (h : RMv w2 wt L st pick.toNat j pv2 s i w2.heap.size) => show (wt.cell? ⟨j, 1, none⟩ = some (.int .i64 (s.at_ : Int)) ∧ wt.frozen? ⟨j, 1, none⟩ = false) ∧ RSteps L ⟨(Sd.act st.cells s i pick).1, st.ses.set pick.toNat (Sd.act st.cells s i pick).2⟩ (.bool true) w (.returned (.bool true)) (wt.setCell ⟨j, 1, none⟩ (.int .i64 (i.b))) from by
    obtain ⟨f1, f2, f3⟩ := h.fin (i.b) (by omega) (by omega)
    refine ⟨f1, rfl, ?_, O2.out.trans f3 (fun _ _ h => h)⟩
    rw [hact]
    simpa [List.set_set] using f2)
  have HFD := hide (fun n => HFN.out _ (H5.out.drewN n))
  have G := hide (fun n => (H5.out.drewN n).bcells)
  clear hr ho hs hs' hact O2 HOP hop8
  go_wp2_with (first | go_step3)
  go_quiet (fail)
  rename_i nq
  obtain ⟨⟨g1, g2⟩, hE⟩ := HFD.out nq
  have HE := hide hE
  clear hE HFN HFD
  go_wp2_with (first | go_step3)
  go_ret
  exact HE.out

set_option maxRecDepth 100000 in
set_option maxHeartbeats 8000000 in
theorem rstep_nonzero (h : RMach w L st) {pick : Int} (hs : Sd.get st.ses pick = some s) (ho : s.p[s.at_]? = some i) (hop8 : i.op = 7) (hz : ¬ Sd.rg s.r i.a = 0) : Calls Try.prog 47 #[.pointer (some ⟨L.b, 0, none⟩), .int .i64 pick] w (RSteps L ⟨(Sd.act st.cells s i pick).1, st.ses.set pick.toNat (Sd.act st.cells s i pick).2⟩ (.bool true) w) := by
  have HOP := hide hop8
  clear hop8
  obtain ⟨sg, scap, j, pv, hsv, _, e1, e2, hse, hf⟩ := h.at_ hs
  have hs' := get_nat hs
  obtain ⟨k0, k1, _⟩ := Sd.get_some hs
  have hlt : s.at_ < s.p.length := (List.getElem?_eq_some_iff.1 ho).1
  have hov : Sd.overB st pick = false := by simp [Sd.overB, hs, Sd.over]; omega
  have HO := rover_c h pick
  rw [hov] at HO
  have HO := hide HO
  have hr := hf.ok i (List.mem_of_getElem? ho)
  have hlen := hf.len
  have HM := hide h
  have HSV := hide hsv
  clear hse hf hov h hsv
  go_enter Try.func47, Try.ntmps47
  go_wp2_with fail
  refine HO.out.mono ?_
  rintro e w2 ⟨rfl, nd, hw2⟩
  have HM2 := hide (show RMach w2 L st by rw [hw2]; exact HM.out.drewN nd)
  have O2 := hide (show Only L.may w w2 by rw [hw2]; exact (Only.refl _ _).drewN nd)
  clear hw2 HO HM
  have h2 := HM2.out
  have a1 := h2.heads.2
  rw [HSV.out] at a1
  obtain ⟨sg', scap', j', _, hv', a2, e1', _⟩ := h2.at_ hs
  rw [HSV.out] at hv'
  cases hv'
  rw [e1] at e1'
  cases e1'
  obtain ⟨pg, pc, d0, d1, c0, c1, c2, c3, _⟩ := h2.rd hs ho e1
  obtain ⟨pv2, M⟩ := RMv.start h2 hs' e1 i
  have HMM := hide (M.drewN 1)
  have hi : (s.at_ : Int) < (s.p.length : Int) := by omega
  have s1 : IntKind.i64.wrap ((s.at_ : Int) + 1) = (s.at_ : Int) + 1 := IntWalk.i64_in _ (by omega)
  clear h2 M HM2
  have z0 := (World.cell?_alloc_lt w2 (.cells #[.int .i64 0, .int .i64 0, .int .i64 0, .int .i64 0] 95) ⟨j, 0, none⟩ (World.block_lt_of_cell? w2 ⟨j, 0, none⟩ d0)).trans d0
  have z1 := (World.cell?_alloc_lt w2 (.cells #[.int .i64 0, .int .i64 0, .int .i64 0, .int .i64 0] 95) ⟨j, 1, none⟩ (World.block_lt_of_cell? w2 ⟨j, 1, none⟩ d1)).trans d1
  have z2 := (World.cell?_alloc_lt w2 (.cells #[.int .i64 0, .int .i64 0, .int .i64 0, .int .i64 0] 95) ⟨pg, s.at_ * 4, none⟩ (World.block_lt_of_cell? w2 ⟨pg, s.at_ * 4, none⟩ c0)).trans c0
  have z3 := (World.cell?_alloc_lt w2 (.cells #[.int .i64 0, .int .i64 0, .int .i64 0, .int .i64 0] 95) ⟨pg, s.at_ * 4 + 1, none⟩ (World.block_lt_of_cell? w2 ⟨pg, s.at_ * 4 + 1, none⟩ c1)).trans c1
  have z4 := (World.cell?_alloc_lt w2 (.cells #[.int .i64 0, .int .i64 0, .int .i64 0, .int .i64 0] 95) ⟨pg, s.at_ * 4 + 2, none⟩ (World.block_lt_of_cell? w2 ⟨pg, s.at_ * 4 + 2, none⟩ c2)).trans c2
  have z5 := (World.cell?_alloc_lt w2 (.cells #[.int .i64 0, .int .i64 0, .int .i64 0, .int .i64 0] 95) ⟨pg, s.at_ * 4 + 3, none⟩ (World.block_lt_of_cell? w2 ⟨pg, s.at_ * 4 + 3, none⟩ c3)).trans c3
  go_wp2_with fail
  go_region
  have H5 := hide (show RMv w2 ((w2.alloc (.cells #[.int .i64 i.op, .int .i64 i.c, .int .i64 i.a, .int .i64 i.b] 95)).drew) L st pick.toNat j pv2 s i w2.heap.size from HMM.out)
  generalize (w2.alloc (.cells #[.int .i64 i.op, .int .i64 i.c, .int .i64 i.a, .int .i64 i.b] 95)).drew = wx at *
  obtain ⟨b0, b1, b2, b3⟩ := H5.out.bcells
  have y0 := H5.out.mach.heads.1
  have y1 := H5.out.ses.cell_at.2
  have hop8 := HOP.out
  rw [hop8] at b0
  have bxj : w2.heap.size ≠ j := fun e => by have := H5.out.gl _ H5.out.jall; omega
  clear HMM d0 d1 c0 c1 c2 c3 z0 z1 z2 z3 z4 z5 a1 a2
  obtain ⟨a0, a4⟩ := Sd.right_a hr (by omega)
  have rc := H5.out.rcell a0 a4
  have rf := H5.out.ses.blk.frozen (2 + i.a.toNat)
  have hz2 : (Sd.rg s.r i.a == 0) = false := by simp [hz]
  have hact : Sd.act st.cells s i pick = (st.cells, { s with at_ := s.at_ + 1 }) := by simp [Sd.act, hop8, hz]
  have HFN := hide (fun (wt : World) (h : RMv w2 wt L st pick.toNat j pv2 s i w2.heap.size) => show (wt.cell? ⟨j, 1, none⟩ = some (.int .i64 (s.at_ : Int)) ∧ wt.frozen? ⟨j, 1, none⟩ = false) ∧ RSteps L ⟨(Sd.act st.cells s i pick).1, st.ses.set pick.toNat (Sd.act st.cells s i pick).2⟩ (.bool true) w (.returned (.bool true)) (wt.setCell ⟨j, 1, none⟩ (.int .i64 ((s.at_ : Int) + 1))) from by
    obtain ⟨f1, f2, f3⟩ := h.fin ((s.at_ : Int) + 1) (by omega) (by omega)
    refine ⟨f1, rfl, ?_, O2.out.trans f3 (fun _ _ h => h)⟩
    rw [hact]
    simpa [List.set_set] using f2)
  have HFD := hide (fun n => HFN.out _ (H5.out.drewN n))
  clear hr ho hs hs' hact O2 HOP hop8
  go_wp2_with (first | go_step3)
  go_quiet (fail)
  rename_i nq
  obtain ⟨⟨g1, g2⟩, hE⟩ := HFD.out nq
  have HE := hide hE
  clear hE HFN HFD
  go_wp2_with (first | go_step3)
  go_ret
  exact HE.out

set_option maxRecDepth 100000 in
set_option maxHeartbeats 8000000 in
theorem rstep_go (h : RMach w L st) {pick : Int} (hs : Sd.get st.ses pick = some s) (ho : s.p[s.at_]? = some i) (hop8 : i.op = 8) : Calls Try.prog 47 #[.pointer (some ⟨L.b, 0, none⟩), .int .i64 pick] w (RSteps L ⟨(Sd.act st.cells s i pick).1, st.ses.set pick.toNat (Sd.act st.cells s i pick).2⟩ (.bool true) w) := by
  have HOP := hide hop8
  clear hop8
  obtain ⟨sg, scap, j, pv, hsv, _, e1, e2, hse, hf⟩ := h.at_ hs
  have hs' := get_nat hs
  obtain ⟨k0, k1, _⟩ := Sd.get_some hs
  have hlt : s.at_ < s.p.length := (List.getElem?_eq_some_iff.1 ho).1
  have hov : Sd.overB st pick = false := by simp [Sd.overB, hs, Sd.over]; omega
  have HO := rover_c h pick
  rw [hov] at HO
  have HO := hide HO
  have hr := hf.ok i (List.mem_of_getElem? ho)
  have hlen := hf.len
  have HM := hide h
  have HSV := hide hsv
  clear hse hf hov h hsv
  go_enter Try.func47, Try.ntmps47
  go_wp2_with fail
  refine HO.out.mono ?_
  rintro e w2 ⟨rfl, nd, hw2⟩
  have HM2 := hide (show RMach w2 L st by rw [hw2]; exact HM.out.drewN nd)
  have O2 := hide (show Only L.may w w2 by rw [hw2]; exact (Only.refl _ _).drewN nd)
  clear hw2 HO HM
  have h2 := HM2.out
  have a1 := h2.heads.2
  rw [HSV.out] at a1
  obtain ⟨sg', scap', j', _, hv', a2, e1', _⟩ := h2.at_ hs
  rw [HSV.out] at hv'
  cases hv'
  rw [e1] at e1'
  cases e1'
  obtain ⟨pg, pc, d0, d1, c0, c1, c2, c3, _⟩ := h2.rd hs ho e1
  obtain ⟨pv2, M⟩ := RMv.start h2 hs' e1 i
  have HMM := hide (M.drewN 1)
  have hi : (s.at_ : Int) < (s.p.length : Int) := by omega
  have s1 : IntKind.i64.wrap ((s.at_ : Int) + 1) = (s.at_ : Int) + 1 := IntWalk.i64_in _ (by omega)
  clear h2 M HM2
  have z0 := (World.cell?_alloc_lt w2 (.cells #[.int .i64 0, .int .i64 0, .int .i64 0, .int .i64 0] 95) ⟨j, 0, none⟩ (World.block_lt_of_cell? w2 ⟨j, 0, none⟩ d0)).trans d0
  have z1 := (World.cell?_alloc_lt w2 (.cells #[.int .i64 0, .int .i64 0, .int .i64 0, .int .i64 0] 95) ⟨j, 1, none⟩ (World.block_lt_of_cell? w2 ⟨j, 1, none⟩ d1)).trans d1
  have z2 := (World.cell?_alloc_lt w2 (.cells #[.int .i64 0, .int .i64 0, .int .i64 0, .int .i64 0] 95) ⟨pg, s.at_ * 4, none⟩ (World.block_lt_of_cell? w2 ⟨pg, s.at_ * 4, none⟩ c0)).trans c0
  have z3 := (World.cell?_alloc_lt w2 (.cells #[.int .i64 0, .int .i64 0, .int .i64 0, .int .i64 0] 95) ⟨pg, s.at_ * 4 + 1, none⟩ (World.block_lt_of_cell? w2 ⟨pg, s.at_ * 4 + 1, none⟩ c1)).trans c1
  have z4 := (World.cell?_alloc_lt w2 (.cells #[.int .i64 0, .int .i64 0, .int .i64 0, .int .i64 0] 95) ⟨pg, s.at_ * 4 + 2, none⟩ (World.block_lt_of_cell? w2 ⟨pg, s.at_ * 4 + 2, none⟩ c2)).trans c2
  have z5 := (World.cell?_alloc_lt w2 (.cells #[.int .i64 0, .int .i64 0, .int .i64 0, .int .i64 0] 95) ⟨pg, s.at_ * 4 + 3, none⟩ (World.block_lt_of_cell? w2 ⟨pg, s.at_ * 4 + 3, none⟩ c3)).trans c3
  go_wp2_with fail
  go_region
  have H5 := hide (show RMv w2 ((w2.alloc (.cells #[.int .i64 i.op, .int .i64 i.c, .int .i64 i.a, .int .i64 i.b] 95)).drew) L st pick.toNat j pv2 s i w2.heap.size from HMM.out)
  generalize (w2.alloc (.cells #[.int .i64 i.op, .int .i64 i.c, .int .i64 i.a, .int .i64 i.b] 95)).drew = wx at *
  obtain ⟨b0, b1, b2, b3⟩ := H5.out.bcells
  have y0 := H5.out.mach.heads.1
  have y1 := H5.out.ses.cell_at.2
  have hop8 := HOP.out
  rw [hop8] at b0
  have bxj : w2.heap.size ≠ j := fun e => by have := H5.out.gl _ H5.out.jall; omega
  clear HMM d0 d1 c0 c1 c2 c3 z0 z1 z2 z3 z4 z5 a1 a2
  obtain ⟨t0, t1⟩ := Sd.right_to hr (.inr hop8)
  have hact : Sd.act st.cells s i pick = (st.cells, { s with at_ := i.b.toNat }) := by simp [Sd.act, hop8]
  have HFN := hide (fun (wt : World) (h : RMv w2 wt L st pick.toNat j pv2 s i w2.heap.size) => show (wt.cell? ⟨j, 1, none⟩ = some (.int .i64 (s.at_ : Int)) ∧ wt.frozen? ⟨j, 1, none⟩ = false) ∧ RSteps L ⟨(Sd.act st.cells s i pick).1, st.ses.set pick.toNat (Sd.act st.cells s i pick).2⟩ (.bool true) w (.returned (.bool true)) (wt.setCell ⟨j, 1, none⟩ (.int .i64 (i.b))) from by
    obtain ⟨f1, f2, f3⟩ := h.fin (i.b) (by omega) (by omega)
    refine ⟨f1, rfl, ?_, O2.out.trans f3 (fun _ _ h => h)⟩
    rw [hact]
    simpa [List.set_set] using f2)
  clear hr ho hs hs' hact O2 HOP hop8
  obtain ⟨⟨g1, g2⟩, hE⟩ := HFN.out _ H5.out
  have HE := hide hE
  clear hE HFN
  go_wp2_with (first | go_step3)
  go_ret
  exact HE.out

end
end Go.Proofs.Ytaoonjamlcdfaaa
