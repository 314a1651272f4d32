/-
  The contract of sched's Make.
-/
import Derived.Test.YtaoonjamlcdfaaaInstrs
import Derived.Test.YtaoonjamlcdfaaaRun
namespace Go.Proofs.Ytaoonjamlcdfaaa
open Go.RowKit

def fresh (p : List In) : Ss := ⟨p, 0, [0, 0, 0, 0]⟩
namespace Sd
def scan (cells : Int) : Nat → List (List In) → Option (Nat × Int)
  | _, [] => none
  | k, p :: ps => if 64 < p.length then some (k, 3) else if rights p cells = true then scan cells (k + 1) ps else some (k, 5)
/-- Why a machine is refused, if it is. -/
def makeE (cells : Int) (ps : List (List In)) : Option (Nat × Int) := if cells < 1 ∨ 64 < cells ∨ ps.length = 0 ∨ 16 < ps.length then some (0, 2) else scan cells 0 ps
def made (cells : Int) (ps : List (List In)) : St := ⟨Cs.new cells.toNat, ps.map fresh⟩
theorem scan_step {cells : Int} {k : Nat} {ps : List (List In)} {p : List In} (h : ps[k]? = some p) : scan cells k (ps.drop k) = if 64 < p.length then some (k, 3) else if rights p cells = true then scan cells (k + 1) (ps.drop (k + 1)) else some (k, 5) := by
  obtain ⟨hk, e⟩ := List.getElem?_eq_some_iff.1 h
  rw [List.drop_eq_getElem_cons hk, e]
  rfl
theorem scan_none {cells : Int} : ∀ (ps : List (List In)) (k : Nat), scan cells k ps = none → ∀ p ∈ ps, p.length ≤ 64 ∧ rights p cells = true := by
  intro ps
  induction ps with
  | nil => simp
  | cons q ps ih =>
    intro k h p hp
    unfold scan at h
    split at h
    · cases h
    · split at h
      · rcases List.mem_cons.1 hp with rfl | hp
        · exact ⟨by omega, by assumption⟩
        · exact ih _ h p hp
      · cases h
theorem made_good {cells : Int} {ps : List (List In)} (h : makeE cells ps = none) : Good (made cells ps) := by
  unfold makeE at h
  split at h
  · cases h
  · rename_i hc
    have hs := scan_none ps 0 h
    have hl : (made cells ps).cells.length = cells.toNat := Cs.new_length _
    refine ⟨by omega, by omega, Cs.ok_new _, by simp [made]; omega, fun s hs' => ?_⟩
    simp only [made, List.mem_map] at hs'
    obtain ⟨p, hp, rfl⟩ := hs'
    obtain ⟨h1, h2⟩ := hs p hp
    refine ⟨rfl, h1, fun i hi => ?_, Nat.zero_le _⟩
    unfold rights at h2
    have := List.all_eq_true.1 h2 i hi
    rw [hl]
    rw [show ((cells.toNat : Nat) : Int) = cells by omega]
    exact this
end Sd

/-- A machine that is being made. -/
structure Half (w0 w : World) (L : Lay) (bx : Nat) (cells : Int) (st : St) : Prop where
  hb : L.B ≤ L.b
  blk : Blk w L.b 78 #[.pointer (some ⟨L.m, 0, none⟩), L.sv]
  mem : Mem w L.B L.m L.g L.cap st.cells
  ses : Sess w L.B 102 99 L.sv L.bs L.pvs st.ses
  box : Blk w bx 3 #[.int .i64 cells]
  below : Below w0.heap.size w0 w
  hB : w0.heap.size ≤ L.B
  size : L.B ≤ w.heap.size

section
variable {w0 w w' : World} {L : Lay} {st : St} {bx : Nat} {cells : Int}
theorem Half.later (h : Half w0 w L bx cells st) (hb : Below w.heap.size w w') : Half w0 w' L bx cells st :=
  ⟨h.hb, h.blk.below hb h.blk.lt, h.mem.later hb, h.ses.later hb, h.box.below hb h.box.lt, h.below.trans (hb.mono (by have := h.hB; have := h.size; omega)), h.hB, Nat.le_trans h.size hb.size⟩
theorem Half.drewN (h : Half w0 w L bx cells st) (n : Nat) : Half w0 (w.drewN n) L bx cells st := ⟨h.hb, h.blk, h.mem.drewN n, h.ses.drewN n, h.box, below_drewN h.below n, h.hB, h.size⟩
theorem Half.mach (h : Half w0 w L bx cells st) (hg : Sd.Good st) : Mach w L st := ⟨h.hb, h.blk, h.mem, h.ses, hg⟩
theorem Half.heads (h : Half w0 w L bx cells st) : w.cell? ⟨L.b, 0, none⟩ = some (.pointer (some ⟨L.m, 0, none⟩)) ∧ w.cell? ⟨L.b, 1, none⟩ = some L.sv ∧ w.cell? ⟨bx, 0, none⟩ = some (.int .i64 cells) := ⟨h.blk.cell 0, h.blk.cell 1, h.box.cell 0⟩

/-- One more session. -/
theorem Sess.push {B : Nat} {sv sv' pv : Value} {bs : List Nat} {pvs : List Value} {l : List Ss} {s : Ss} {k : Nat} (h : Sess w B 102 99 sv bs pvs l) (hs : SesAt w B 102 k pv s) (hk : ∀ j ∈ bs, j ≠ k)
    (hown : w'.ownsRow B 99 1 sv' (l.length + 1) (bs.map (fun k => .pointer (some ⟨k, 0, none⟩)) ++ [.pointer (some ⟨k, 0, none⟩)])) (hgr : w.grownBy w' sv.ownBlock) : Sess w' B 102 99 sv' (bs ++ [k]) (pvs ++ [pv]) (l ++ [s]) := by
  have ho : Only (fun j => sv.ownBlock = some j) w w' := (Only.refl _ w).grown hgr (fun j _ e => e)
  refine ⟨?_, ?_, by simp [h.len], by simp [h.lenp], ?_⟩
  · rw [List.length_append, List.length_singleton, List.map_append]
    exact hown
  · rw [List.nodup_append]
    exact ⟨h.nodup, by simp, fun a ha b hb => by simp at hb; subst hb; exact hk a ha⟩
  · intro i k2 pv2 s2 e1 e2 e3
    have key : SesAt w B 102 k2 pv2 s2 := by
      rcases Nat.lt_or_ge i l.length with hlt | hge
      · rw [List.getElem?_append_left (by rw [h.len]; exact hlt)] at e1
        rw [List.getElem?_append_left (by rw [h.lenp]; exact hlt)] at e2
        rw [List.getElem?_append_left hlt] at e3
        exact h.ses i k2 pv2 s2 e1 e2 e3
      · rw [List.getElem?_append_right (by rw [h.len]; exact hge), h.len] at e1
        rw [List.getElem?_append_right (by rw [h.lenp]; exact hge), h.lenp] at e2
        rw [List.getElem?_append_right hge] at e3
        have h0 : i - l.length = 0 := by
          have := (List.getElem?_eq_some_iff.1 e3).1
          simp at this
          omega
        rw [h0] at e1 e2 e3
        simp at e1 e2 e3
        subst e1 e2 e3
        exact hs
    exact key.only ho (own_blk_ne h.row key.blk (by decide)) (fun j hj => fun e => own_own_ne h.row key.prog (by decide) j e hj)

theorem Half.push {w4 w5 : World} {sv' pv : Value} {p : List In} (h : Half w0 w L bx cells st) (hbw : Below w.heap.size w w4) (hrow : w4.ownsRow L.B 95 4 pv p.length (qcells p))
    (hown : w5.ownsRow L.B 99 1 sv' (st.ses.length + 1) (L.bs.map (fun k => .pointer (some ⟨k, 0, none⟩)) ++ [.pointer (some ⟨w4.heap.size, 0, none⟩)]))
    (hgr : ((w4.alloc (.cells (sesCells pv (fresh p)) 102)).alloc (.cells #[.pointer (some ⟨w4.heap.size, 0, none⟩)] 99)).grownBy w5 L.sv.ownBlock) :
    (w5.cell? ⟨L.b, 1, none⟩ = some L.sv ∧ w5.frozen? ⟨L.b, 1, none⟩ = false ∧ ∀ j cs, Blk w j 69 cs → Blk w5 j 69 cs) ∧ Half w0 (w5.setCell ⟨L.b, 1, none⟩ sv') { L with sv := sv', bs := L.bs ++ [w4.heap.size], pvs := L.pvs ++ [pv] } bx cells ⟨st.cells, st.ses ++ [fresh p]⟩ := by
  have h4 := h.later hbw
  have hb2 : Below w4.heap.size w4 ((w4.alloc (.cells (sesCells pv (fresh p)) 102)).alloc (.cells #[.pointer (some ⟨w4.heap.size, 0, none⟩)] 99)) := ((Below.refl _ _).alloc (Nat.le_refl _) _).alloc (by simp) _
  have h6 := h4.later hb2
  have hses : SesAt ((w4.alloc (.cells (sesCells pv (fresh p)) 102)).alloc (.cells #[.pointer (some ⟨w4.heap.size, 0, none⟩)] 99)) L.B 102 w4.heap.size pv (fresh p) :=
    ⟨h4.size, (Blk.new _ _ _).alloc _, row_below hrow hb2, rfl⟩
  generalize (w4.alloc (.cells (sesCells pv (fresh p)) 102)).alloc (.cells #[.pointer (some ⟨w4.heap.size, 0, none⟩)] 99) = w6 at *
  have hk : ∀ j ∈ L.bs, j ≠ w4.heap.size := fun j hj => by
    have := (h4.ses.lt.2.1 j hj).2
    omega
  have hp := h6.ses.push hses hk hown hgr
  have ho : Only (fun j => L.sv.ownBlock = some j) w6 w5 := (Only.refl _ w6).grown hgr (fun j _ e => e)
  have n1 := own_blk_ne h6.ses.row h6.blk (by decide)
  have n2 := own_blk_ne h6.ses.row h6.mem.blk (by decide)
  have n3 : L.sv.ownBlock ≠ some L.g := fun e => own_own_ne h6.ses.row h6.mem.row (by decide) L.g e rfl
  have n4 := own_blk_ne h6.ses.row h6.box (by decide)
  have hblk5 := h6.blk.only ho n1
  refine ⟨⟨hblk5.cell 1, hblk5.frozen 1, fun j cs hj => ?_⟩, ?_⟩
  · have hj6 := (hj.below hbw hj.lt).below hb2 (by have := hj.lt; have := hbw.size; omega)
    exact hj6.only ho (own_blk_ne h6.ses.row hj6 (by decide))
  have hbl := hblk5.set_ 1 sv'
  have hm5 := h6.mem.only ho n2 n3
  have hx5 := h6.box.only ho n4
  have hO : Only (fun j => j = L.b) w5 (w5.setCell ⟨L.b, 1, none⟩ sv') := (Only.refl (fun j => j = L.b) w5).setCell (p := ⟨L.b, 1, none⟩) (.inl rfl) _
  obtain ⟨f1, f2, f3⟩ := hp.far hblk5 (by decide) (by decide) (by decide)
  refine ⟨h.hb, hbl, hm5.only hO (fun e => (hm5.blk.ne_ hblk5 (by decide)) e) (fun e => own_blk_ne hm5.row hblk5 (by decide) (by rw [← e]; rfl)), hp.only hO (fun j hj e => f1 (by rw [hj, e])) (fun k hk e => f2 k hk e) (fun pv hpv j hj e => f3 pv hpv (by rw [hj, e])), hx5.only hO (fun e => (hx5.ne_ hblk5 (by decide)) e), ?_, h.hB, ?_⟩
  · have s6 := h6.size
    have hB := h.hB
    have hb := h.hb
    exact Only.then (h6.below.trans (ho.below (by omega) (fun j hj => by have := h6.ses.row.lt j hj; omega))) hO (by have := hgr.size; omega) (fun j hj => by omega)
  · have s6 := h6.size
    have := hgr.size
    show L.B ≤ (w5.setCell _ _).heap.size
    simp [World.setCell]
    omega

def MakePost (w : World) (r : Option (Nat × Int)) (n : Nat) (st : St) (e : Ending) (w' : World) : Prop :=
  match r with
  | some (k, x) => e = .returned (.tuple #[.pointer none, .int .i64 (k : Int), .int .i64 x]) ∧ Below w.heap.size w w'
  | none => ∃ L : Lay, e = .returned (.tuple #[.pointer (some ⟨L.b, 0, none⟩), .int .i64 (n : Int), .int .i64 0]) ∧ w.heap.size ≤ L.B ∧ Mach w' L st ∧ Below w.heap.size w w'
end
end Go.Proofs.Ytaoonjamlcdfaaa
