/-
  A machine in memory, and the contracts of what tells of it.
-/
import Derived.Test.YtaoonjamlcdfaaaMach
namespace Go.Proofs.Ytaoonjamlcdfaaa
open Go.RowKit

/-- Where a machine lies. -/
structure Lay where
  B : Nat
  b : Nat
  m : Nat
  g : Nat
  cap : Nat
  sv : Value
  bs : List Nat
  pvs : List Value

/-- A machine in memory. -/
structure Mach (w : World) (L : Lay) (st : St) : Prop where
  hb : L.B ≤ L.b
  blk : Blk w L.b 78 #[.pointer (some ⟨L.m, 0, none⟩), L.sv]
  mem : Mem w L.B L.m L.g L.cap st.cells
  ses : Sess w L.B 102 99 L.sv L.bs L.pvs st.ses
  good : Sd.Good st

section
variable {w w' : World} {L : Lay} {st : St} {s : Ss}
theorem Mach.drewN (h : Mach w L st) (n : Nat) : Mach (w.drewN n) L st := ⟨h.hb, h.blk, h.mem.drewN n, h.ses.drewN n, h.good⟩
theorem Mach.later (h : Mach w L st) (hb : Below w.heap.size w w') : Mach w' L st := ⟨h.hb, h.blk.below hb h.blk.lt, h.mem.later hb, h.ses.later hb, h.good⟩
theorem Mach.heads (h : Mach w L st) : w.cell? ⟨L.b, 0, none⟩ = some (.pointer (some ⟨L.m, 0, none⟩)) ∧ w.cell? ⟨L.b, 1, none⟩ = some L.sv := ⟨h.blk.cell 0, h.blk.cell 1⟩
/-- The session of a number, in memory. -/
theorem Mach.at_ (h : Mach w L st) {k : Int} (hs : Sd.get st.ses k = some s) : ∃ sg scap j pv, L.sv = .slice (some ⟨sg, 0, none⟩) st.ses.length scap ∧ w.cell? ⟨sg, k.toNat, none⟩ = some (.pointer (some ⟨j, 0, none⟩)) ∧ L.bs[k.toNat]? = some j ∧ L.pvs[k.toNat]? = some pv ∧ SesAt w L.B 102 j pv s ∧ Sd.Fit st.cells.length s := by
  obtain ⟨h0, h1, h2⟩ := Sd.get_some hs
  obtain ⟨j, pv, e1, e2, hse⟩ := h.ses.at_ h2
  obtain ⟨sg, scap, hv, _, _, _, _, hc, _⟩ := ownsRow_pos h.ses.row (by omega)
  refine ⟨sg, scap, j, pv, hv, hc _ _ ?_, e1, e2, hse, h.good.fit s (Sd.get_mem hs)⟩
  simp [e1]

theorem session_some (h : Mach w L st) {k : Int} (hs : Sd.get st.ses k = some s) {j : Nat} (hj : L.bs[k.toNat]? = some j) : Calls Try.prog 68 #[.pointer (some ⟨L.b, 0, none⟩), .int .i64 k] w fun e w' => e = .returned (.pointer (some ⟨j, 0, none⟩)) ∧ w = w' := by
  obtain ⟨sg, scap, j', pv, hv, hc, e1, _, _, _⟩ := h.at_ hs
  rw [hj] at e1
  cases e1
  obtain ⟨h0, h1, _⟩ := Sd.get_some hs
  have c1 := h.heads.2
  rw [hv] at c1
  have HB := hide (below_c k st.ses.length w)
  rw [show Sd.bel k st.ses.length = true by simp [Sd.bel, h0, h1]] at HB
  have hn := h.good.few
  clear h hs hv hj
  go_enter Try.func68, Try.ntmps68
  go_wp2_with (go_at_call 78; refine HB.out.mono ?_; rintro e w' ⟨rfl, rfl⟩)
  go_ret
  exact ⟨rfl, rfl⟩

theorem session_none (h : Mach w L st) {k : Int} (hs : Sd.get st.ses k = none) : Calls Try.prog 68 #[.pointer (some ⟨L.b, 0, none⟩), .int .i64 k] w fun e w' => e = .returned (.pointer none) ∧ w = w' := by
  obtain ⟨ao, scap, hv, _⟩ := ownsRow_shape h.ses.row
  have hk := Sd.get_none hs
  have c1 := h.heads.2
  rw [hv] at c1
  have HB := hide (below_c k st.ses.length w)
  rw [show Sd.bel k st.ses.length = false by simp [Sd.bel]; omega] at HB
  clear h hs hv hk
  go_enter Try.func68, Try.ntmps68
  go_wp2_with (go_at_call 78; refine HB.out.mono ?_; rintro e w' ⟨rfl, rfl⟩)
  go_ret
  exact ⟨rfl, rfl⟩

theorem over_c {B k : Nat} {pv : Value} (h : SesAt w B 102 k pv s) : Calls Try.prog 69 #[.pointer (some ⟨k, 0, none⟩)] w fun e w' => e = .returned (.bool (Sd.over s)) ∧ ∃ n, w' = w.drewN n := by
  obtain ⟨ao, scap, hv, _⟩ := ownsRow_shape h.prog
  obtain ⟨c0, c1⟩ := h.cell_at
  rw [hv] at c0
  clear h hv
  unfold Sd.over
  by_cases ho : s.p.length ≤ s.at_
  · have e : decide (s.p.length ≤ s.at_) = true := by simpa using ho
    have h1 : (s.p.length : Int) ≤ (s.at_ : Int) := by omega
    rw [e]
    generalize s.at_ = a at *
    generalize s.p.length = n at *
    clear e
    go_enter Try.func69, Try.ntmps69
    go_wp2_with fail
    go_quiet (fail)
    go_wp2
    go_ret
    exact ⟨rfl, _, rfl⟩
  · have e : decide (s.p.length ≤ s.at_) = false := by simpa using ho
    have h1 : (s.at_ : Int) < (s.p.length : Int) := by omega
    rw [e]
    generalize s.at_ = a at *
    generalize s.p.length = n at *
    clear e
    go_enter Try.func69, Try.ntmps69
    go_wp2_with fail
    go_quiet (fail)
    go_wp2
    go_ret
    exact ⟨ret_bool (by simp), _, rfl⟩

theorem open_c {B k : Nat} {pv : Value} (h : SesAt w B 102 k pv s) : Calls Try.prog 83 #[.pointer (some ⟨k, 0, none⟩)] w fun e w' => e = .returned (.bool (!Sd.over s)) ∧ ∃ n, w' = w.drewN n := by
  have HO := hide (over_c h)
  clear h
  generalize Sd.over s = o at *
  go_enter Try.func83, Try.ntmps83
  go_wp2_with (go_at_call 69; refine HO.out.mono ?_; rintro e w' ⟨rfl, nd, rfl⟩)
  go_ret
  exact ⟨rfl, _, rfl⟩

theorem mover_c (h : Mach w L st) (k : Int) : Calls Try.prog 54 #[.pointer (some ⟨L.b, 0, none⟩), .int .i64 k] w fun e w' => e = .returned (.bool (Sd.overB st k)) ∧ ∃ n, w' = w.drewN n := by
  cases hs : Sd.get st.ses k with
  | none =>
    have HN := hide (session_none h hs)
    have e : Sd.overB st k = true := by simp only [Sd.overB, hs]
    rw [e]
    clear h hs e
    go_enter Try.func54, Try.ntmps54
    go_wp2_with (go_at_call 68; refine HN.out.mono ?_; rintro e w' ⟨rfl, rfl⟩)
    go_ret
    exact ⟨rfl, 0, rfl⟩
  | some s =>
    obtain ⟨_, _, j, pv, _, _, e1, _, hse, hf⟩ := h.at_ hs
    have HN := hide (session_some h hs e1)
    have HO := hide (over_c hse)
    have e : Sd.overB st k = Sd.over s := by simp only [Sd.overB, hs]
    rw [e]
    generalize Sd.over s = o at *
    clear h hs e e1 hse hf
    go_enter Try.func54, Try.ntmps54
    go_wp2_with (first | (go_at_call 68; refine HN.out.mono ?_; rintro e w' ⟨rfl, rfl⟩) | (go_at_call 69; refine HO.out.mono ?_; rintro e w' ⟨rfl, nd, rfl⟩))
    go_ret
    exact ⟨rfl, _, rfl⟩

/-- A session's place; 0 where there is none. -/
def Sd.placeOf (st : St) (k : Int) : Int := match Sd.get st.ses k with | some s => s.at_ | none => 0
theorem mat_c (h : Mach w L st) (k : Int) : Calls Try.prog 42 #[.pointer (some ⟨L.b, 0, none⟩), .int .i64 k] w fun e w' => e = .returned (.int .i64 (Sd.placeOf st k)) ∧ w = w' := by
  cases hs : Sd.get st.ses k with
  | none =>
    have HN := hide (session_none h hs)
    have e : Sd.placeOf st k = 0 := by simp only [Sd.placeOf, hs]
    rw [e]
    clear h hs e
    go_enter Try.func42, Try.ntmps42
    go_wp2_with (go_at_call 68; refine HN.out.mono ?_; rintro e w' ⟨rfl, rfl⟩)
    go_ret
    exact ⟨rfl, rfl⟩
  | some s =>
    obtain ⟨_, _, j, pv, _, _, e1, _, hse, hf⟩ := h.at_ hs
    have HN := hide (session_some h hs e1)
    have c1 := hse.cell_at.2
    have e : Sd.placeOf st k = s.at_ := by simp only [Sd.placeOf, hs]
    rw [e]
    clear h hs e e1 hse hf
    go_enter Try.func42, Try.ntmps42
    go_wp2_with (go_at_call 68; refine HN.out.mono ?_; rintro e w' ⟨rfl, rfl⟩)
    go_ret
    exact ⟨rfl, rfl⟩

theorem mholder_c (h : Mach w L st) (k : Int) : Calls Try.prog 52 #[.pointer (some ⟨L.b, 0, none⟩), .int .i64 k] w (Reads (.int .i64 (Cs.holder st.cells k)) w) := by
  have c0 := h.heads.1
  have HO := hide (holder_c h.mem k)
  clear h
  go_enter Try.func52, Try.ntmps52
  go_wp2_with (go_at_call 26; refine HO.out.mono ?_; rintro e w' ⟨rfl, rfl⟩)
  go_ret
  exact ⟨rfl, rfl⟩

theorem mcells_c (h : Mach w L st) : Calls Try.prog 44 #[.pointer (some ⟨L.b, 0, none⟩)] w fun e w' => ∃ v, e = .returned v ∧ w'.ownsRow w.heap.size 3 1 v (numsOf st.cells).length (intsOf (numsOf st.cells)) ∧ Below w.heap.size w w' := by
  have c0 := h.heads.1
  have HA := hide (all_c h.mem)
  clear h
  go_enter Try.func44, Try.ntmps44
  go_wp2_with (go_at_call 22; refine HA.out.mono ?_; rintro e w' ⟨v, rfl, hr, hb⟩; have HR := hide hr; have HB := hide hb; clear hr hb)
  go_ret
  exact ⟨v, rfl, HR.out, HB.out⟩

/-- A session's registers, as a value; zeros where there is none. -/
def Sd.regsOf (st : St) (k : Int) : List Int := match Sd.get st.ses k with | some s => s.r | none => [0, 0, 0, 0]
def regVal (r : List Int) : Value := .agg (r.map fun x => Value.int .i64 x).toArray
theorem mregs_c (h : Mach w L st) (k : Int) : Calls Try.prog 43 #[.pointer (some ⟨L.b, 0, none⟩), .int .i64 k] w fun e w' => e = .returned (regVal (Sd.regsOf st k)) ∧ Below w.heap.size w w' := by
  have hB := (Below.refl w.heap.size w).alloc (Nat.le_refl _) (.cells #[.int .i64 0, .int .i64 0, .int .i64 0, .int .i64 0] 58)
  have h' := h.later hB
  cases hs : Sd.get st.ses k with
  | none =>
    have HN := hide (session_none h' hs)
    have e : Sd.regsOf st k = [0, 0, 0, 0] := by simp only [Sd.regsOf, hs]
    rw [e]
    clear h hs e h'
    go_enter Try.func43, Try.ntmps43
    go_wp2_with (go_at_call 68; refine HN.out.mono ?_; rintro e w' ⟨rfl, rfl⟩)
    refine bodyPost_ret (results_cell_row rfl _ _ w.heap.size 58 #[.int .i64 0, .int .i64 0, .int .i64 0, .int .i64 0] (0, 0) _ rfl (heap_alloc_new w _) Try.underlying58 rfl (by kernel_rfl)) rfl ?_
    exact ⟨rfl, hB⟩
  | some s =>
    obtain ⟨_, _, j, pv, _, _, e1, _, hse, hf⟩ := h'.at_ hs
    have HN := hide (session_some h' hs e1)
    obtain ⟨r0, r1, r2, r3, hr⟩ := four hf.reg
    have c0 := hse.blk.cell 2
    have c1 := hse.blk.cell 3
    have c2 := hse.blk.cell 4
    have c3 := hse.blk.cell 5
    simp only [sesCells, hr, List.map_cons, List.map_nil, List.getElem?_toArray, List.getElem?_cons_succ, List.getElem?_cons_zero] at c0 c1 c2 c3
    have e : Sd.regsOf st k = [r0, r1, r2, r3] := by simp only [Sd.regsOf, hs, hr]
    rw [e]
    have hB2 := (Below.refl w.heap.size w).alloc (Nat.le_refl _) (.cells #[.int .i64 r0, .int .i64 r1, .int .i64 r2, .int .i64 r3] 58)
    have HB2 := hide hB2
    clear h hs e h' hse hf e1 hr hB2
    go_enter Try.func43, Try.ntmps43
    go_wp2_with (go_at_call 68; refine HN.out.mono ?_; rintro e w' ⟨rfl, rfl⟩)
    refine bodyPost_ret (results_cell_row rfl _ _ w.heap.size 58 #[.int .i64 r0, .int .i64 r1, .int .i64 r2, .int .i64 r3] (0, 0) _ rfl (heap_alloc_new w _) Try.underlying58 rfl (by kernel_rfl)) rfl ?_
    exact ⟨rfl, HB2.out⟩
end
end Go.Proofs.Ytaoonjamlcdfaaa
