/-
  What a machine's step leaves in memory.
-/
import Derived.Test.YtaoonjamlcdfaaaSess
import Derived.Test.YtaoonjamlcdfaaaOk
namespace Go.Proofs.Ytaoonjamlcdfaaa
open Go.RowKit

section
variable {w w' : World} {L : Lay} {st : St} {s s' : Ss}

/-- The blocks that a step may turn. -/
def Lay.may (L : Lay) (k : Nat) : Prop := k = L.g ∨ k ∈ L.bs

theorem Mach.lt (h : Mach w L st) : ∀ k, L.may k → L.B ≤ k ∧ k < w.heap.size := by
  rintro k (rfl | hk)
  · exact h.mem.lt
  · exact h.ses.lt.2.1 k hk
theorem Mach.size (h : Mach w L st) : L.B ≤ w.heap.size := by
  have := h.mem.lt
  omega

/-- A session turns. -/
theorem Mach.turnSes (h : Mach w L st) {k : Nat} {j : Nat} {pv : Value} (hs : st.ses[k]? = some s) (hj : L.bs[k]? = some j) (hp : L.pvs[k]? = some pv) (hn : SesAt w' L.B 102 j pv s') (hf : Sd.Fit st.cells.length s') (ho : Only (fun i => i = j) w w') : Mach w' L ⟨st.cells, st.ses.set k s'⟩ := by
  have hse := h.ses.ses k j pv s hj hp hs
  have n1 : j ≠ L.b := hse.blk.ne_ h.blk (by decide)
  have n2 : j ≠ L.m := hse.blk.ne_ h.mem.blk (by decide)
  have n3 : L.g ≠ j := fun e => own_blk_ne h.mem.row hse.blk (by decide) (by rw [e]; rfl)
  refine ⟨h.hb, h.blk.only ho (fun e => n1 e.symm), h.mem.only ho (fun e => n2 e.symm) n3, h.ses.turn hj hp (by decide) (by decide) ⟨_, hse.blk⟩ hn ho, ?_⟩
  obtain ⟨g1, g2, g3, g4, g5⟩ := h.good
  refine ⟨g1, g2, g3, by simpa using g4, fun s2 hs2 => ?_⟩
  rcases List.mem_or_eq_of_mem_set hs2 with h2 | rfl
  · exact g5 s2 h2
  · exact hf

/-- The cells turn. -/
theorem Mach.turnCells (h : Mach w L st) {l' : List Cl} (hm : Mem w' L.B L.m L.g L.cap l') (hl : l'.length = st.cells.length) (hok : Ok l') (ho : Only (fun i => i = L.g) w w') : Mach w' L ⟨l', st.ses⟩ := by
  obtain ⟨cs, hg⟩ : ∃ cs, Blk w L.g 82 cs := by
    rcases h.mem.row.2 with ⟨e, _⟩ | ⟨g', cap', cur, e, _, hh, _⟩
    · simp at e
    · simp only [Value.slice.injEq, Option.some.injEq, Addr.mk.injEq, and_true, true_and] at e
      obtain ⟨rfl, rfl⟩ := e
      exact ⟨_, hh⟩
  obtain ⟨f1, f2, f3⟩ := h.ses.far hg (by decide) (by decide) (by decide)
  have n1 : L.b ≠ L.g := h.blk.ne_ hg (by decide)
  refine ⟨h.hb, h.blk.only ho n1, hm, h.ses.only ho (fun j hj e => f1 (by rw [hj, e])) (fun k hk => f2 k hk) (fun pv hpv j hj e => f3 pv hpv (by rw [hj, e])), ?_⟩
  obtain ⟨g1, g2, g3, g4, g5⟩ := h.good
  exact ⟨by show 0 < l'.length; omega, by show l'.length ≤ 64; omega, hok, g4, fun s2 hs2 => by show Sd.Fit l'.length s2; rw [hl]; exact g5 s2 hs2⟩

theorem Only.may_ses {k j : Nat} (ho : Only (fun i => i = j) w w') (hj : L.bs[k]? = some j) : Only L.may w w' := ho.mono fun i _ e => .inr (by rw [e]; exact List.mem_of_getElem? hj)
theorem Only.may_cells (ho : Only (fun i => i = L.g) w w') : Only L.may w w' := ho.mono fun _ _ e => .inl e
end
end Go.Proofs.Ytaoonjamlcdfaaa
