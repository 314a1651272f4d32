/-
  The contract of moves.
-/
import Derived.Test.YtaoonjamlcdfaaaTurnM
namespace Go.Proofs.Ytaoonjamlcdfaaa
open Go.RowKit

/-- What a step of a machine leaves: its answer, its new state; nothing but its own blocks turns. -/
def Steps (L : Lay) (st' : St) (x : Value) (w : World) (e : Ending) (w' : World) : Prop := e = .returned x ∧ Mach w' L st' ∧ Only L.may w w'

/-- A machine while an instruction is done: a session's, its instruction in a box. -/
structure Mv (w wt : World) (L : Lay) (st : St) (k j : Nat) (pv : Value) (s : Ss) (i : In) (bx : Nat) : Prop where
  mach : Mach wt L st
  hs : st.ses[k]? = some s
  hj : L.bs[k]? = some j
  hp : L.pvs[k]? = some pv
  box : Blk wt bx 95 #[.int .i64 i.op, .int .i64 i.c, .int .i64 i.a, .int .i64 i.b]
  hbx : w.heap.size ≤ bx
  size : L.B ≤ w.heap.size
  gl : ∀ q, L.may q → q < w.heap.size
  only : Only L.may w wt
section
variable {w wt w' : World} {L : Lay} {st : St} {s : Ss} {k j bx : Nat} {pv : Value} {i : In}
theorem Mv.start (h : Mach w L st) (hs : st.ses[k]? = some s) (hj : L.bs[k]? = some j) (i : In) : ∃ pv, Mv w (w.alloc (.cells #[.int .i64 i.op, .int .i64 i.c, .int .i64 i.a, .int .i64 i.b] 95)) L st k j pv s i w.heap.size := by
  obtain ⟨j', pv, e1, e2, hse⟩ := h.ses.at_ hs
  exact ⟨pv, h.later ((Below.refl _ _).alloc (Nat.le_refl _) _), hs, hj, e2, Blk.new _ _ _, Nat.le_refl _, h.size, fun q hq => (h.lt q hq).2, (Only.refl _ _).alloc _⟩
theorem Mv.drewN (h : Mv w wt L st k j pv s i bx) (n : Nat) : Mv w (wt.drewN n) L st k j pv s i bx := ⟨h.mach.drewN n, h.hs, h.hj, h.hp, h.box, h.hbx, h.size, h.gl, h.only.drewN n⟩
theorem Mv.ses (h : Mv w wt L st k j pv s i bx) : SesAt wt L.B 102 j pv s := h.mach.ses.ses k j pv s h.hj h.hp h.hs
theorem Mv.fit (h : Mv w wt L st k j pv s i bx) : Sd.Fit st.cells.length s := h.mach.good.fit s (List.mem_of_getElem? h.hs)
theorem Mv.ne (h : Mv w wt L st k j pv s i bx) : j ≠ L.b ∧ j ≠ bx ∧ L.g ≠ bx := by
  refine ⟨h.ses.blk.ne_ h.mach.blk (by decide), h.ses.blk.ne_ h.box (by decide), ?_⟩
  have := h.gl L.g (.inl rfl)
  have := h.hbx
  omega
theorem Mv.bcells (h : Mv w wt L st k j pv s i bx) : wt.cell? ⟨bx, 0, none⟩ = some (.int .i64 i.op) ∧ wt.cell? ⟨bx, 1, none⟩ = some (.int .i64 i.c) ∧ wt.cell? ⟨bx, 2, none⟩ = some (.int .i64 i.a) ∧ wt.cell? ⟨bx, 3, none⟩ = some (.int .i64 i.b) := ⟨h.box.cell 0, h.box.cell 1, h.box.cell 2, h.box.cell 3⟩
theorem Mv.rcell (h : Mv w wt L st k j pv s i bx) {a : Int} (h0 : 0 ≤ a) (h4 : a < 4) : wt.cell? ⟨j, 2 + a.toNat, none⟩ = some (.int .i64 (Sd.rg s.r a)) := h.ses.cell_reg h0 h4
/-- The session turns. -/
theorem Mv.turn (h : Mv w wt L st k j pv s i bx) {s' : Ss} (hn : SesAt w' L.B 102 j pv s') (hf : Sd.Fit st.cells.length s') (ho : Only (fun q => q = j) wt w') : Mv w w' L ⟨st.cells, st.ses.set k s'⟩ k j pv s' i bx := by
  have hk : k < st.ses.length := (List.getElem?_eq_some_iff.1 h.hs).1
  exact ⟨h.mach.turnSes h.hs h.hj h.hp hn hf ho, by simp [hk], h.hj, h.hp, h.box.only ho (fun e => h.ne.2.1 e.symm), h.hbx, h.size, h.gl, h.only.trans (ho.may_ses h.hj) (fun _ _ h => h)⟩
theorem Mv.reg (h : Mv w wt L st k j pv s i bx) (a v : Int) : Mv w (wt.setCell ⟨j, 2 + a.toNat, none⟩ (.int .i64 v)) L ⟨st.cells, st.ses.set k { s with r := Sd.sr s.r a v }⟩ k j pv { s with r := Sd.sr s.r a v } i bx :=
  h.turn (h.ses.set_reg (by decide) v) ⟨by simp [Sd.sr, h.fit.reg], h.fit.len, h.fit.ok, h.fit.place⟩ ((Only.refl (fun q => q = j) wt).setCell (p := ⟨j, 2 + a.toNat, none⟩) (.inl rfl) _)
theorem Mv.place (h : Mv w wt L st k j pv s i bx) (n : Nat) (hn : n ≤ s.p.length) : Mv w (wt.setCell ⟨j, 1, none⟩ (.int .i64 (n : Int))) L ⟨st.cells, st.ses.set k { s with at_ := n }⟩ k j pv { s with at_ := n } i bx :=
  h.turn (h.ses.set_at (by decide) n) ⟨h.fit.reg, h.fit.len, h.fit.ok, hn⟩ ((Only.refl (fun q => q = j) wt).setCell (p := ⟨j, 1, none⟩) (.inl rfl) _)
/-- The cells turn. -/
theorem Mv.cells (h : Mv w wt L st k j pv s i bx) {F : Nat} {args : Array Value} {x : Value} {l' : List Cl} (hc : Calls Try.prog F args wt (Turns L.B L.m L.g L.cap l' x wt)) (hl : l'.length = st.cells.length) (hok : Ok l') :
    Calls Try.prog F args wt fun e w' => e = .returned x ∧ Mv w w' L ⟨l', st.ses⟩ k j pv s i bx :=
  hc.mono fun _ _ ⟨he, hm, ho⟩ => ⟨he, h.mach.turnCells hm hl hok ho, h.hs, h.hj, h.hp, h.box.only ho (fun e => h.ne.2.2 e.symm), h.hbx, h.size, h.gl, h.only.trans ho.may_cells (fun _ _ h => h)⟩
theorem Mv.steps (h : Mv w wt L st k j pv s i bx) (x : Value) : Steps L st x w (.returned x) wt := ⟨rfl, h.mach, h.only⟩

/-- The state behind moves. -/
def Sd.mv (l : List Cl) (s : Ss) (i : In) : List Cl × Ss :=
  if i.op = 1 then (l, { s with r := Sd.sr s.r i.a i.b }) else
  if i.op = 2 then (l, { s with r := Sd.sr s.r i.a (Cs.loadV l i.c) }) else
  if i.op = 3 then (Cs.storeL l i.c (Sd.rg s.r i.a), s) else
  if i.op = 4 then (Cs.swapL l i.c (Sd.rg s.r i.b) (Sd.rg s.r i.a), { s with r := Sd.sr s.r i.b (if Cs.swapB l i.c (Sd.rg s.r i.b) = true then 1 else 0) }) else
  if i.op = 5 then (Cs.addL l i.c i.b, { s with r := Sd.sr s.r i.a (Cs.loadV l i.c) }) else
  (l, { s with r := Sd.sr s.r i.a (wrap64 (Sd.rg s.r i.a + i.b)) })

/-- What moves leaves. -/
def Moved (w : World) (L : Lay) (st : St) (k j : Nat) (s : Ss) (i : In) (e : Ending) (w' : World) : Prop :=
  e = .returned (.bool true) ∧ ∃ pv, Mv w w' L ⟨(Sd.mv st.cells s i).1, st.ses.set k (Sd.mv st.cells s i).2⟩ k j pv (Sd.mv st.cells s i).2 i w.heap.size

set_option maxRecDepth 100000 in
set_option maxHeartbeats 4000000 in
theorem moves_set (h : Mach w L st) (hs : st.ses[k]? = some s) (hj : L.bs[k]? = some j) (hr : Sd.right i st.cells.length s.p.length = true) (hop : i.op = 1) :
    Calls Try.prog 70 #[.pointer (some ⟨L.b, 0, none⟩), .pointer (some ⟨j, 0, none⟩), inAgg i] w (Moved w L st k j s i) := by
  obtain ⟨a0, a4⟩ := Sd.right_a hr (by omega)
  obtain ⟨pv, M⟩ := Mv.start h hs hj i
  have F := hide (fun n => (M.drewN n).reg i.a i.b)
  have em : Sd.mv st.cells s i = (st.cells, { s with r := Sd.sr s.r i.a i.b }) := by unfold Sd.mv; rw [if_pos hop]
  unfold Moved
  rw [em]
  obtain ⟨op, c, a, b⟩ := i
  dsimp only at hop a0 a4 F ⊢
  subst hop
  dsimp only [inAgg]
  have hc := M.rcell a0 a4
  have hfz := M.ses.blk.frozen (2 + a.toNat)
  clear h hs hj hr M em
  go_enter Try.func70, Try.ntmps70
  go_wp2_with (first | go_step3)
  go_region
  go_wp2_with (first | go_step3)
  go_ret
  exact ⟨rfl, pv, F.out 1⟩

set_option maxRecDepth 100000 in
set_option maxHeartbeats 4000000 in
theorem moves_load (h : Mach w L st) (hs : st.ses[k]? = some s) (hj : L.bs[k]? = some j) (hr : Sd.right i st.cells.length s.p.length = true) (hop : i.op = 2) :
    Calls Try.prog 70 #[.pointer (some ⟨L.b, 0, none⟩), .pointer (some ⟨j, 0, none⟩), inAgg i] w (Moved w L st k j s i) := by
  obtain ⟨a0, a4⟩ := Sd.right_a hr (by omega)
  obtain ⟨pv, M⟩ := Mv.start h hs hj i
  have F := hide (fun n => (M.drewN n).reg i.a (Cs.loadV st.cells i.c))
  have em : Sd.mv st.cells s i = (st.cells, { s with r := Sd.sr s.r i.a (Cs.loadV st.cells i.c) }) := by unfold Sd.mv; rw [if_neg (by omega), if_pos hop]
  unfold Moved
  rw [em]
  obtain ⟨op, c, a, b⟩ := i
  dsimp only at hop a0 a4 F ⊢
  subst hop
  dsimp only [inAgg]
  have hc := M.rcell a0 a4
  have hfz := M.ses.blk.frozen (2 + a.toNat)
  have hm := M.mach.heads.1
  obtain ⟨nb, nw, _⟩ := M.ne
  obtain ⟨_, b1, b2, _⟩ := M.bcells
  have HLD := hide (fun n => load_c (M.drewN n).mach.mem c)
  generalize Cs.loadV st.cells c = v at *
  generalize Cs.loadE st.cells c = v2 at *
  clear h hs hj hr M em
  dsimp only at b1 b2
  go_enter Try.func70, Try.ntmps70
  go_wp2_with (first | go_step3)
  go_region_held3 (fun wt => wt.cell? ⟨L.b, 0, none⟩ = some (.pointer (some ⟨L.m, 0, none⟩)) ∧ wt.cell? ⟨w.heap.size, 1, none⟩ = some (.int .i64 c) ∧ wt.cell? ⟨w.heap.size, 2, none⟩ = some (.int .i64 a))
    (go_keep)
    ((go_at_call 19; refine (HLD.out _).mono ?_; rintro e w' ⟨rfl, rfl⟩))
  go_wp2_with (first | go_step3)
  go_ret
  exact ⟨rfl, pv, F.out 1⟩

set_option maxRecDepth 100000 in
set_option maxHeartbeats 4000000 in
theorem moves_more (h : Mach w L st) (hs : st.ses[k]? = some s) (hj : L.bs[k]? = some j) (hr : Sd.right i st.cells.length s.p.length = true) (hop : i.op = 6) :
    Calls Try.prog 70 #[.pointer (some ⟨L.b, 0, none⟩), .pointer (some ⟨j, 0, none⟩), inAgg i] w (Moved w L st k j s i) := by
  obtain ⟨a0, a4⟩ := Sd.right_a hr (by omega)
  obtain ⟨pv, M⟩ := Mv.start h hs hj i
  have F := hide (fun n => (M.drewN n).reg i.a (wrap64 (Sd.rg s.r i.a + i.b)))
  have em : Sd.mv st.cells s i = (st.cells, { s with r := Sd.sr s.r i.a (wrap64 (Sd.rg s.r i.a + i.b)) }) := by unfold Sd.mv; rw [if_neg (by omega), if_neg (by omega), if_neg (by omega), if_neg (by omega), if_neg (by omega)]
  unfold Moved
  rw [em]
  obtain ⟨op, c, a, b⟩ := i
  dsimp only at hop a0 a4 F ⊢
  subst hop
  dsimp only [inAgg]
  have hc := M.rcell a0 a4
  have hfz := M.ses.blk.frozen (2 + a.toNat)
  generalize Sd.rg s.r a = v at *
  clear h hs hj hr M em
  go_enter Try.func70, Try.ntmps70
  go_wp2_with (first | go_step3)
  go_region
  go_wp2_with (first | go_step3)
  go_ret
  exact ⟨rfl, pv, F.out 1⟩

set_option maxRecDepth 100000 in
set_option maxHeartbeats 4000000 in
theorem moves_store (h : Mach w L st) (hs : st.ses[k]? = some s) (hj : L.bs[k]? = some j) (hr : Sd.right i st.cells.length s.p.length = true) (hop : i.op = 3) :
    Calls Try.prog 70 #[.pointer (some ⟨L.b, 0, none⟩), .pointer (some ⟨j, 0, none⟩), inAgg i] w (Moved w L st k j s i) := by
  obtain ⟨a0, a4⟩ := Sd.right_a hr (by omega)
  obtain ⟨pv, M⟩ := Mv.start h hs hj i
  have F := hide (fun n => (M.drewN n).cells (store_c (M.drewN n).mach.mem i.c (Sd.rg s.r i.a)) (Cs.storeL_length _ _ _) (Cs.ok_store _ _ h.good.own))
  have em : Sd.mv st.cells s i = (Cs.storeL st.cells i.c (Sd.rg s.r i.a), s) := by unfold Sd.mv; rw [if_neg (by omega), if_neg (by omega), if_pos hop]
  have hset : st.ses.set k s = st.ses := set_same _ _ _ hs
  unfold Moved
  rw [em, hset]
  obtain ⟨op, c, a, b⟩ := i
  dsimp only at hop a0 a4 F ⊢
  subst hop
  dsimp only [inAgg]
  have hc := M.rcell a0 a4
  have hm := M.mach.heads.1
  obtain ⟨_, b1, b2, _⟩ := M.bcells
  have HRC := hide (fun (wt : World) (st' : St) (h : Mv w wt L st' k j pv s ⟨3, c, a, b⟩ w.heap.size) => And.intro h.mach.heads.1 (And.intro h.bcells.2.1 (And.intro h.bcells.2.2.1 (h.rcell a0 a4))))
  generalize Sd.rg s.r a = v at *
  generalize Cs.storeL st.cells c v = l' at *
  generalize Cs.loadE st.cells c = v2 at *
  clear h hs hj hr M em hset
  dsimp only at b1 b2
  go_enter Try.func70, Try.ntmps70
  go_wp2_with (first | go_step3)
  go_region_held3 (fun wt => wt.cell? ⟨L.b, 0, none⟩ = some (.pointer (some ⟨L.m, 0, none⟩)) ∧ wt.cell? ⟨w.heap.size, 1, none⟩ = some (.int .i64 c) ∧ wt.cell? ⟨w.heap.size, 2, none⟩ = some (.int .i64 a) ∧ wt.cell? ⟨j, 2 + a.toNat, none⟩ = some (.int .i64 v))
    (first | exact HRC.out _ _ h5 | go_keep)
    ((go_at_call 21; refine (F.out _).mono ?_; rintro e w5 ⟨rfl, h5⟩))
  go_wp2_with (first | go_step3)
  go_ret
  exact ⟨rfl, pv, h5⟩

set_option maxRecDepth 100000 in
set_option maxHeartbeats 4000000 in
theorem moves_add (h : Mach w L st) (hs : st.ses[k]? = some s) (hj : L.bs[k]? = some j) (hr : Sd.right i st.cells.length s.p.length = true) (hop : i.op = 5) :
    Calls Try.prog 70 #[.pointer (some ⟨L.b, 0, none⟩), .pointer (some ⟨j, 0, none⟩), inAgg i] w (Moved w L st k j s i) := by
  obtain ⟨a0, a4⟩ := Sd.right_a hr (by omega)
  obtain ⟨pv, M⟩ := Mv.start h hs hj i
  have F := hide (fun n => (M.drewN n).cells (add_c (M.drewN n).mach.mem i.c i.b) (Cs.addL_length _ _ _) (Cs.ok_add _ _ h.good.own))
  have em : Sd.mv st.cells s i = (Cs.addL st.cells i.c i.b, { s with r := Sd.sr s.r i.a (Cs.loadV st.cells i.c) }) := by unfold Sd.mv; rw [if_neg (by omega), if_neg (by omega), if_neg (by omega), if_neg (by omega), if_pos hop]
  unfold Moved
  rw [em]
  obtain ⟨op, c, a, b⟩ := i
  dsimp only at hop a0 a4 F ⊢
  subst hop
  dsimp only [inAgg]
  have hm := M.mach.heads.1
  obtain ⟨nb, nw, _⟩ := M.ne
  obtain ⟨_, b1, b2, b3⟩ := M.bcells
  have HRC := hide (fun (wt : World) (st' : St) (h : Mv w wt L st' k j pv s ⟨5, c, a, b⟩ w.heap.size) => And.intro h.mach.heads.1 (And.intro h.bcells.2.1 (And.intro h.bcells.2.2.1 h.bcells.2.2.2)))
  have HRG := hide (fun (wt : World) (st' : St) (h : Mv w wt L st' k j pv s ⟨5, c, a, b⟩ w.heap.size) => h.rcell a0 a4)
  have HFZ := hide (fun (wt : World) (st' : St) (h : Mv w wt L st' k j pv s ⟨5, c, a, b⟩ w.heap.size) => h.ses.blk.frozen (2 + a.toNat))
  generalize Cs.loadV st.cells c = v at *
  generalize Cs.addL st.cells c b = l' at *
  generalize Cs.loadE st.cells c = v2 at *
  clear h hs hj hr M em
  dsimp only at b1 b2 b3
  go_enter Try.func70, Try.ntmps70
  go_wp2_with (first | go_step3)
  go_region_held3 (fun wt => wt.cell? ⟨L.b, 0, none⟩ = some (.pointer (some ⟨L.m, 0, none⟩)) ∧ wt.cell? ⟨w.heap.size, 1, none⟩ = some (.int .i64 c) ∧ wt.cell? ⟨w.heap.size, 2, none⟩ = some (.int .i64 a) ∧ wt.cell? ⟨w.heap.size, 3, none⟩ = some (.int .i64 b))
    (first | exact HRC.out _ _ h5 | go_keep)
    ((go_at_call 17; refine (F.out _).mono ?_; rintro e w5 ⟨rfl, h5⟩; have hrg := HRG.out _ _ h5; have hfz := HFZ.out _ _ h5))
  have h6 := hide (h5.reg a v)
  clear h5 hrg hfz
  go_wp2_with (first | go_step3)
  go_ret
  exact ⟨rfl, pv, h6.out⟩

set_option maxRecDepth 100000 in
set_option maxHeartbeats 4000000 in
theorem moves_none (hop : 7 ≤ i.op) :
    Calls Try.prog 70 #[.pointer (some ⟨L.b, 0, none⟩), .pointer (some ⟨j, 0, none⟩), inAgg i] w fun e w' => e = .returned (.bool false) ∧ w.alloc (.cells #[.int .i64 i.op, .int .i64 i.c, .int .i64 i.a, .int .i64 i.b] 95) = w' := by
  obtain ⟨op, c, a, b⟩ := i
  dsimp only at hop
  dsimp only [inAgg]
  have n1 : (op == 1) = false := by simp; omega
  have n2 : (op == 2) = false := by simp; omega
  have n3 : (op == 3) = false := by simp; omega
  have n4 : (op == 4) = false := by simp; omega
  have n5 : (op == 5) = false := by simp; omega
  have n6 : (op == 6) = false := by simp; omega
  clear hop
  go_enter Try.func70, Try.ntmps70
  go_wp2_with (first | go_step3)
  go_ret
  exact ⟨rfl, rfl⟩

set_option maxRecDepth 100000 in
set_option maxHeartbeats 8000000 in
theorem moves_swap (h : Mach w L st) (hs : st.ses[k]? = some s) (hj : L.bs[k]? = some j) (hr : Sd.right i st.cells.length s.p.length = true) (hop : i.op = 4) :
    Calls Try.prog 70 #[.pointer (some ⟨L.b, 0, none⟩), .pointer (some ⟨j, 0, none⟩), inAgg i] w (Moved w L st k j s i) := by
  obtain ⟨a0, a4⟩ := Sd.right_a hr (by omega)
  obtain ⟨p0, p4⟩ := Sd.right_b hr hop
  obtain ⟨pv, M⟩ := Mv.start h hs hj i
  have F := hide (fun n => (M.drewN n).cells (swap_c (M.drewN n).mach.mem i.c (Sd.rg s.r i.b) (Sd.rg s.r i.a)) (Cs.swapL_length _ _ _ _) (Cs.ok_swap _ _ _ h.good.own))
  have em : Sd.mv st.cells s i = (Cs.swapL st.cells i.c (Sd.rg s.r i.b) (Sd.rg s.r i.a), { s with r := Sd.sr s.r i.b (if Cs.swapB st.cells i.c (Sd.rg s.r i.b) = true then 1 else 0) }) := by unfold Sd.mv; rw [if_neg (by omega), if_neg (by omega), if_neg (by omega), if_pos hop]
  unfold Moved
  rw [em]
  obtain ⟨op, c, a, b⟩ := i
  dsimp only at hop a0 a4 p0 p4 F ⊢
  subst hop
  dsimp only [inAgg]
  have hm := M.mach.heads.1
  have hra := M.rcell a0 a4
  have hrb := M.rcell p0 p4
  obtain ⟨_, b1, b2, b3⟩ := M.bcells
  have HRC := hide (fun (wt : World) (st' : St) (h : Mv w wt L st' k j pv s ⟨4, c, a, b⟩ w.heap.size) => And.intro h.mach.heads.1 (And.intro h.bcells.2.1 (And.intro h.bcells.2.2.1 (And.intro h.bcells.2.2.2 (And.intro (h.rcell a0 a4) (h.rcell p0 p4))))))
  have HRG := hide (fun (wt : World) (st' : St) (h : Mv w wt L st' k j pv s ⟨4, c, a, b⟩ w.heap.size) => And.intro (h.rcell p0 p4) (And.intro h.bcells.2.2.2 (h.ses.blk.frozen (2 + b.toNat))))
  have HSS : ∀ x y : Int, Sd.sr (Sd.sr s.r b x) b y = Sd.sr s.r b y := fun x y => by simp [Sd.sr]
  generalize Sd.rg s.r a = v at *
  generalize Sd.rg s.r b = u at *
  generalize Cs.swapL st.cells c u v = l' at *
  generalize Cs.swapB st.cells c u = q at *
  generalize Cs.loadE st.cells c = v2 at *
  have HSE := hide HSS
  clear h hs hj hr M em HSS
  dsimp only at b1 b2 b3
  go_enter Try.func70, Try.ntmps70
  go_wp2_with (first | go_step3)
  go_region_held3 (fun wt => wt.cell? ⟨L.b, 0, none⟩ = some (.pointer (some ⟨L.m, 0, none⟩)) ∧ wt.cell? ⟨w.heap.size, 1, none⟩ = some (.int .i64 c) ∧ wt.cell? ⟨w.heap.size, 2, none⟩ = some (.int .i64 a) ∧ wt.cell? ⟨w.heap.size, 3, none⟩ = some (.int .i64 b) ∧ wt.cell? ⟨j, 2 + a.toNat, none⟩ = some (.int .i64 v) ∧ wt.cell? ⟨j, 2 + b.toNat, none⟩ = some (.int .i64 u))
    (first | exact HRC.out _ _ h5 | go_keep)
    ((go_at_call 30; refine (F.out _).mono ?_; rintro e w5 ⟨rfl, h5⟩))
  obtain ⟨d1, d2, d3⟩ := HRG.out _ _ h5
  have H5 := hide h5
  clear h5 hm hra hrb b1 b2 b3 F HRC HRG
  have H6 := hide (show Mv w ((w5.setCell ⟨j, 2 + b.toNat, none⟩ (.int .i64 0)).drew) L _ k j pv _ ⟨4, c, a, b⟩ _ from (H5.out.drewN 1).reg b 0)
  have G6 := hide (fun (wt : World) (st' : St) (s' : Ss) (h : Mv w wt L st' k j pv s' ⟨4, c, a, b⟩ w.heap.size) => And.intro (h.rcell p0 p4) (And.intro h.bcells.2.2.2 (h.ses.blk.frozen (2 + b.toNat))))
  cases q with
  | false =>
    clear G6
    go_wp2_with (first | go_step3)
    go_region
    go_wp2_with (first | go_step3)
    go_ret
    exact ⟨rfl, pv, H6.out⟩
  | true =>
    go_wp2_with (first | go_step3)
    go_region
    generalize (w5.setCell ⟨j, 2 + b.toNat, none⟩ (.int .i64 0)).drew = w6 at *
    obtain ⟨e1, e2, e3⟩ := G6.out _ _ _ H6.out
    have H7 := hide ((H6.out.drewN 1).reg b 1)
    clear G6 H6 d1 d2 d3
    go_wp2_with (first | go_step3)
    go_region
    go_wp2_with (first | go_step3)
    go_ret
    have h7 := H7.out
    simp only [HSE.out, List.set_set] at h7
    exact ⟨rfl, pv, h7⟩
end
end Go.Proofs.Ytaoonjamlcdfaaa
