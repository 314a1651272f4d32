/-
  The contract of a machine's Step.
-/
import Derived.Test.YtaoonjamlcdfaaaMoves
namespace Go.Proofs.Ytaoonjamlcdfaaa
open Go.RowKit

section
variable {w : World} {L : Lay} {st : St} {s : Ss} {k j : Nat} {i : In}
theorem moves_c (h : Mach w L st) (hs : st.ses[k]? = some s) (hj : L.bs[k]? = some j) (hr : Sd.right i st.cells.length s.p.length = true) (hop : i.op ≤ 6) :
    Calls Try.prog 70 #[.pointer (some ⟨L.b, 0, none⟩), .pointer (some ⟨j, 0, none⟩), inAgg i] w (Moved w L st k j s i) := by
  have h1 := (Sd.right_op hr).1
  rcases (show i.op = 1 ∨ i.op = 2 ∨ i.op = 3 ∨ i.op = 4 ∨ i.op = 5 ∨ i.op = 6 from by omega) with e | e | e | e | e | e
  · exact moves_set h hs hj hr e
  · exact moves_load h hs hj hr e
  · exact moves_store h hs hj hr e
  · exact moves_swap h hs hj hr e
  · exact moves_add h hs hj hr e
  · exact moves_more h hs hj hr e

/-- What moves does, and the next place: what the instruction does. -/
theorem Sd.act_mv (l : List Cl) (s : Ss) (i : In) (pick : Int) (h1 : 1 ≤ i.op) (hop : i.op ≤ 6) : Sd.act l s i pick = ((Sd.mv l s i).1, { (Sd.mv l s i).2 with at_ := s.at_ + 1 }) := by
  unfold Sd.act Sd.mv
  rcases (show i.op = 1 ∨ i.op = 2 ∨ i.op = 3 ∨ i.op = 4 ∨ i.op = 5 ∨ i.op = 6 from by omega) with e | e | e | e | e | e
  all_goals simp [e]
theorem Sd.mv_at (l : List Cl) (s : Ss) (i : In) : (Sd.mv l s i).2.at_ = s.at_ ∧ (Sd.mv l s i).2.p = s.p := by
  unfold Sd.mv
  repeat' split
  all_goals exact ⟨rfl, rfl⟩

theorem get_nat {l : List Ss} {pick : Int} {s : Ss} (h : Sd.get l pick = some s) : l[pick.toNat]? = some s := (Sd.get_some h).2.2

theorem step_none (h : Mach w L st) {pick : Int} (hs : Sd.get st.ses pick = none) : Calls Try.prog 45 #[.pointer (some ⟨L.b, 0, none⟩), .int .i64 pick] w fun e w' => e = .returned (.bool false) ∧ ∃ n, w' = w.drewN n := by
  have HN := hide (session_none h hs)
  clear h hs
  go_enter Try.func45, Try.ntmps45
  go_wp2_with (go_at_call 68; refine HN.out.mono ?_; rintro e w' ⟨rfl, rfl⟩)
  go_ret
  exact ⟨rfl, 0, rfl⟩

theorem step_over (h : Mach w L st) {pick : Int} (hs : Sd.get st.ses pick = some s) (ho : s.p[s.at_]? = none) : Calls Try.prog 45 #[.pointer (some ⟨L.b, 0, none⟩), .int .i64 pick] w fun e w' => e = .returned (.bool false) ∧ ∃ n, w' = w.drewN n := by
  obtain ⟨_, _, j, pv, _, _, e1, _, hse, hf⟩ := h.at_ hs
  have HN := hide (session_some h hs e1)
  have hov : Sd.over s = true := by
    have := List.getElem?_eq_none_iff.1 ho
    simp [Sd.over, this]
  have HO := over_c hse
  rw [hov] at HO
  have HO := hide HO
  clear h hs ho e1 hse hf hov
  go_enter Try.func45, Try.ntmps45
  go_wp2_with (first | (go_at_call 68; refine HN.out.mono ?_; rintro e w' ⟨rfl, rfl⟩) | (go_at_call 69; refine HO.out.mono ?_; rintro e w' ⟨rfl, nd, rfl⟩))
  go_ret
  exact ⟨rfl, _, rfl⟩

/-- What a step reads of a session that is not over. -/
structure Rd (w : World) (j : Nat) (s : Ss) (i : In) (pg pc : Nat) : Prop where
  p : w.cell? ⟨j, 0, none⟩ = some (.slice (some ⟨pg, 0, none⟩) s.p.length pc)
  a : w.cell? ⟨j, 1, none⟩ = some (.int .i64 (s.at_ : Int))
  c0 : w.cell? ⟨pg, s.at_ * 4, none⟩ = some (.int .i64 i.op)
  c1 : w.cell? ⟨pg, s.at_ * 4 + 1, none⟩ = some (.int .i64 i.c)
  c2 : w.cell? ⟨pg, s.at_ * 4 + 2, none⟩ = some (.int .i64 i.a)
  c3 : w.cell? ⟨pg, s.at_ * 4 + 3, none⟩ = some (.int .i64 i.b)
  lt : s.at_ < s.p.length
theorem Mach.rd (h : Mach w L st) {pick : Int} (hs : Sd.get st.ses pick = some s) (ho : s.p[s.at_]? = some i) (hj : L.bs[pick.toNat]? = some j) : ∃ pg pc, Rd w j s i pg pc := by
  obtain ⟨_, _, j', pv, _, _, e1, _, hse, hf⟩ := h.at_ hs
  rw [hj] at e1
  cases e1
  have hlt : s.at_ < s.p.length := (List.getElem?_eq_some_iff.1 ho).1
  obtain ⟨pg, pc, hpv, _, _, hpgl, _, hpc, hpf⟩ := ownsRow_pos hse.prog (by omega)
  obtain ⟨q0, q1, q2, q3⟩ := qcells_at s.p s.at_ i ho
  obtain ⟨d0, d1⟩ := hse.cell_at
  rw [hpv] at d0
  exact ⟨pg, pc, d0, d1, hpc _ _ q0, hpc _ _ q1, hpc _ _ q2, hpc _ _ q3, hlt⟩

set_option maxRecDepth 100000 in
set_option maxHeartbeats 8000000 in
theorem step_move (h : Mach w L st) {pick : Int} (hs : Sd.get st.ses pick = some s) (ho : s.p[s.at_]? = some i) (hop : i.op ≤ 6) : Calls Try.prog 45 #[.pointer (some ⟨L.b, 0, none⟩), .int .i64 pick] w (Steps L ⟨(Sd.act st.cells s i pick).1, st.ses.set pick.toNat (Sd.act st.cells s i pick).2⟩ (.bool true) w) := by
  obtain ⟨_, _, j, pv, _, _, e1, _, hse, hf⟩ := h.at_ hs
  have hs' := get_nat hs
  have HN := hide (session_some h hs e1)
  have hlt : s.at_ < s.p.length := (List.getElem?_eq_some_iff.1 ho).1
  have hov : Sd.over s = false := by simp [Sd.over]; omega
  have HO := over_c hse
  rw [hov] at HO
  have HO := hide HO
  have hr := hf.ok i (List.mem_of_getElem? ho)
  have hlen := hf.len
  have HM := hide h
  clear hse hf hov h
  go_enter Try.func45, Try.ntmps45
  go_wp2_with (first | (go_at_call 68; refine HN.out.mono ?_; rintro e w' ⟨rfl, rfl⟩) | (go_at_call 69; refine HO.out.mono ?_; rintro e w2 ⟨rfl, nd, hw2⟩; have HM2 := hide (show Mach w2 L st by rw [hw2]; exact HM.out.drewN nd); have O2 := hide (show Only L.may w w2 by rw [hw2]; exact (Only.refl _ _).drewN nd); clear hw2))
  have h2 := HM2.out
  clear HM HN HO HM2
  obtain ⟨pg, pc, d0, d1, c0, c1, c2, c3, _⟩ := h2.rd hs ho e1
  obtain ⟨pv2, M⟩ := Mv.start h2 hs' e1 i
  have HM := hide (fun n => moves_c (M.drewN n).mach hs' e1 hr hop)
  have hi : (s.at_ : Int) < (s.p.length : Int) := by omega
  have HH2 := hide h2
  have HMM := hide M
  clear h2 M
  have z0 := (World.cell?_alloc_lt w2 (.cells #[.int .i64 0, .int .i64 0, .int .i64 0, .int .i64 0] 95) ⟨j, 0, none⟩ (World.block_lt_of_cell? w2 ⟨j, 0, none⟩ d0)).trans d0
  have z1 := (World.cell?_alloc_lt w2 (.cells #[.int .i64 0, .int .i64 0, .int .i64 0, .int .i64 0] 95) ⟨j, 1, none⟩ (World.block_lt_of_cell? w2 ⟨j, 1, none⟩ d1)).trans d1
  have z2 := (World.cell?_alloc_lt w2 (.cells #[.int .i64 0, .int .i64 0, .int .i64 0, .int .i64 0] 95) ⟨pg, s.at_ * 4, none⟩ (World.block_lt_of_cell? w2 ⟨pg, s.at_ * 4, none⟩ c0)).trans c0
  have z3 := (World.cell?_alloc_lt w2 (.cells #[.int .i64 0, .int .i64 0, .int .i64 0, .int .i64 0] 95) ⟨pg, s.at_ * 4 + 1, none⟩ (World.block_lt_of_cell? w2 ⟨pg, s.at_ * 4 + 1, none⟩ c1)).trans c1
  have z4 := (World.cell?_alloc_lt w2 (.cells #[.int .i64 0, .int .i64 0, .int .i64 0, .int .i64 0] 95) ⟨pg, s.at_ * 4 + 2, none⟩ (World.block_lt_of_cell? w2 ⟨pg, s.at_ * 4 + 2, none⟩ c2)).trans c2
  have z5 := (World.cell?_alloc_lt w2 (.cells #[.int .i64 0, .int .i64 0, .int .i64 0, .int .i64 0] 95) ⟨pg, s.at_ * 4 + 3, none⟩ (World.block_lt_of_cell? w2 ⟨pg, s.at_ * 4 + 3, none⟩ c3)).trans c3
  go_region
  have M1 := hide (show Mv w2 ((w2.alloc (.cells #[.int .i64 i.op, .int .i64 i.c, .int .i64 i.a, .int .i64 i.b] 95)).drew) L st pick.toNat j pv2 s i w2.heap.size from HMM.out.drewN 1)
  have HM1 := hide (show Calls Try.prog 70 #[.pointer (some ⟨L.b, 0, none⟩), .pointer (some ⟨j, 0, none⟩), inAgg i] ((w2.alloc (.cells #[.int .i64 i.op, .int .i64 i.c, .int .i64 i.a, .int .i64 i.b] 95)).drew) (Moved ((w2.alloc (.cells #[.int .i64 i.op, .int .i64 i.c, .int .i64 i.a, .int .i64 i.b] 95)).drew) L st pick.toNat j s i) from HM.out 1)
  generalize (w2.alloc (.cells #[.int .i64 i.op, .int .i64 i.c, .int .i64 i.a, .int .i64 i.b] 95)).drew = wx at *
  obtain ⟨x0, x1, x2, x3⟩ := M1.out.bcells
  clear HM HMM HH2 d0 d1 c0 c1 c2 c3 z0 z1 z2 z3 z4 z5
  go_wp2_with fail
  refine HM1.out.mono ?_
  rintro e w5 ⟨rfl, pv5, h5⟩
  have hat := (Sd.mv_at st.cells s i).1
  have hpp := (Sd.mv_at st.cells s i).2
  have y1 := h5.ses.cell_at.2
  rw [hat] at y1
  have y2 := h5.ses.blk.frozen 1
  have s1 : IntKind.i64.wrap ((s.at_ : Int) + 1) = ((s.at_ + 1 : Nat) : Int) := by rw [IntKind.wrap_i64]; omega
  have s2 : (s.at_ : Int) + 1 = ((s.at_ + 1 : Nat) : Int) := by omega
  have h6 := h5.place (s.at_ + 1) (by rw [hpp]; omega)
  have hact := Sd.act_mv st.cells s i pick (Sd.right_op hr).1 hop
  have hfin : Steps L ⟨(Sd.act st.cells s i pick).1, st.ses.set pick.toNat (Sd.act st.cells s i pick).2⟩ (.bool true) w (.returned (.bool true)) (w5.setCell ⟨j, 1, none⟩ (.int .i64 ((s.at_ + 1 : Nat) : Int))) := by
    refine ⟨rfl, ?_, (O2.out.trans M1.out.only (fun _ _ h => h)).trans h6.only (fun _ _ h => h)⟩
    have := h6.mach
    rw [List.set_set] at this
    rw [hact]
    exact this
  have HFN := hide hfin
  clear h5 h6 hact hfin hat hpp M1 HM1 s1 s2
  go_wp2
  go_ret
  exact HFN.out
end
end Go.Proofs.Ytaoonjamlcdfaaa
