/-
  The contract of the reference's Make.
-/
import Derived.Test.YtaoonjamlcdfaaaRFair
import Derived.Test.YtaoonjamlcdfaaaFew
namespace Go.Proofs.Ytaoonjamlcdfaaa
open Go.RowKit

/-- A machine of the reference that is being made. -/
structure RHalf (w0 w : World) (L : RLay) (st : St) : Prop where
  hb : L.B ≤ L.b
  blk : Blk w L.b 107 #[.pointer (some ⟨L.m, 0, none⟩), L.sv]
  mem : RMem w L.B L.m L.v L.y L.z st.cells
  ses : Sess w L.B 110 108 L.sv L.bs L.pvs st.ses
  below : Below w0.heap.size w0 w
  hB : w0.heap.size ≤ L.B
  size : L.B ≤ w.heap.size

section
variable {w0 w w' : World} {L : RLay} {st : St} {cells : Int}
theorem RHalf.later (h : RHalf w0 w L st) (hb : Below w.heap.size w w') : RHalf w0 w' L st :=
  ⟨h.hb, h.blk.below hb h.blk.lt, h.mem.later hb, h.ses.later hb, h.below.trans (hb.mono (by have := h.hB; have := h.size; omega)), h.hB, Nat.le_trans h.size hb.size⟩
theorem RHalf.drewN (h : RHalf w0 w L st) (n : Nat) : RHalf w0 (w.drewN n) L st := ⟨h.hb, h.blk, h.mem.drewN n, h.ses.drewN n, below_drewN h.below n, h.hB, h.size⟩
theorem RHalf.mach (h : RHalf w0 w L st) (hg : Sd.Good st) : RMach w L st := ⟨h.hb, h.blk, h.mem, h.ses, hg⟩
theorem RHalf.heads (h : RHalf w0 w L st) : w.cell? ⟨L.b, 0, none⟩ = some (.pointer (some ⟨L.m, 0, none⟩)) ∧ w.cell? ⟨L.b, 1, none⟩ = some L.sv := ⟨h.blk.cell 0, h.blk.cell 1⟩
/-- One more session. -/
theorem RSess.push {B : Nat} {sv sv' pv : Value} {bs : List Nat} {pvs : List Value} {l : List Ss} {s : Ss} {k : Nat} (h : Sess w B 110 108 sv bs pvs l) (hs : SesAt w B 110 k pv s) (hk : ∀ j ∈ bs, j ≠ k)
    (hown : w'.ownsRow B 108 1 sv' (l.length + 1) (bs.map (fun k => .pointer (some ⟨k, 0, none⟩)) ++ [.pointer (some ⟨k, 0, none⟩)])) (hgr : w.grownBy w' sv.ownBlock) : Sess w' B 110 108 sv' (bs ++ [k]) (pvs ++ [pv]) (l ++ [s]) := by
  have ho : Only (fun j => sv.ownBlock = some j) w w' := (Only.refl _ w).grown hgr (fun j _ e => e)
  refine ⟨?_, ?_, by simp [h.len], by simp [h.lenp], ?_⟩
  · rw [List.length_append, List.length_singleton, List.map_append]
    exact hown
  · rw [List.nodup_append]
    exact ⟨h.nodup, by simp, fun a ha b hb => by simp at hb; subst hb; exact hk a ha⟩
  · intro i k2 pv2 s2 e1 e2 e3
    have key : SesAt w B 110 k2 pv2 s2 := by
      rcases Nat.lt_or_ge i l.length with hlt | hge
      · rw [List.getElem?_append_left (by rw [h.len]; exact hlt)] at e1
        rw [List.getElem?_append_left (by rw [h.lenp]; exact hlt)] at e2
        rw [List.getElem?_append_left hlt] at e3
        exact h.ses i k2 pv2 s2 e1 e2 e3
      · rw [List.getElem?_append_right (by rw [h.len]; exact hge), h.len] at e1
        rw [List.getElem?_append_right (by rw [h.lenp]; exact hge), h.lenp] at e2
        rw [List.getElem?_append_right hge] at e3
        have h0 : i - l.length = 0 := by
          have := (List.getElem?_eq_some_iff.1 e3).1
          simp at this
          omega
        rw [h0] at e1 e2 e3
        simp at e1 e2 e3
        subst e1 e2 e3
        exact hs
    exact key.only ho (own_blk_ne h.row key.blk (by decide)) (fun j hj => fun e => own_own_ne h.row key.prog (by decide) j e hj)


theorem RHalf.push {w4 w5 : World} {sv' pv : Value} {p : List In} (h : RHalf w0 w L st) (hbw : Below w.heap.size w w4) (hrow : w4.ownsRow L.B 95 4 pv p.length (qcells p))
    (hown : w5.ownsRow L.B 108 1 sv' (st.ses.length + 1) (L.bs.map (fun k => .pointer (some ⟨k, 0, none⟩)) ++ [.pointer (some ⟨w4.heap.size, 0, none⟩)]))
    (hgr : ((w4.alloc (.cells (sesCells pv (fresh p)) 110)).alloc (.cells #[.pointer (some ⟨w4.heap.size, 0, none⟩)] 108)).grownBy w5 L.sv.ownBlock) :
    (w5.cell? ⟨L.b, 1, none⟩ = some L.sv ∧ w5.frozen? ⟨L.b, 1, none⟩ = false) ∧ RHalf w0 (w5.setCell ⟨L.b, 1, none⟩ sv') { L with sv := sv', bs := L.bs ++ [w4.heap.size], pvs := L.pvs ++ [pv] } ⟨st.cells, st.ses ++ [fresh p]⟩ := by
  have h4 := h.later hbw
  have hb2 : Below w4.heap.size w4 ((w4.alloc (.cells (sesCells pv (fresh p)) 110)).alloc (.cells #[.pointer (some ⟨w4.heap.size, 0, none⟩)] 108)) := ((Below.refl _ _).alloc (Nat.le_refl _) _).alloc (by simp) _
  have h6 := h4.later hb2
  have hses : SesAt ((w4.alloc (.cells (sesCells pv (fresh p)) 110)).alloc (.cells #[.pointer (some ⟨w4.heap.size, 0, none⟩)] 108)) L.B 110 w4.heap.size pv (fresh p) :=
    ⟨h4.size, (Blk.new _ _ _).alloc _, row_below hrow hb2, rfl⟩
  generalize (w4.alloc (.cells (sesCells pv (fresh p)) 110)).alloc (.cells #[.pointer (some ⟨w4.heap.size, 0, none⟩)] 108) = w6 at *
  have hk : ∀ j ∈ L.bs, j ≠ w4.heap.size := fun j hj => by
    have := (h4.ses.lt.2.1 j hj).2
    omega
  have hp := RSess.push h6.ses hses hk hown hgr
  have ho : Only (fun j => L.sv.ownBlock = some j) w6 w5 := (Only.refl _ w6).grown hgr (fun j _ e => e)
  have n1 := own_blk_ne h6.ses.row h6.blk (by decide)
  have n2 := own_blk_ne h6.ses.row h6.mem.blk (by decide)
  have n3 := own_blk_ne h6.ses.row h6.mem.hv (by decide)
  have n4 := own_blk_ne h6.ses.row h6.mem.hy (by decide)
  have n5 := own_blk_ne h6.ses.row h6.mem.hz (by decide)
  have hblk5 := h6.blk.only ho n1
  refine ⟨⟨hblk5.cell 1, hblk5.frozen 1⟩, ?_⟩
  have hbl := hblk5.set_ 1 sv'
  have hm5 := h6.mem.only ho n2 n3 n4 n5
  have hO : Only (fun j => j = L.b) w5 (w5.setCell ⟨L.b, 1, none⟩ sv') := (Only.refl (fun j => j = L.b) w5).setCell (p := ⟨L.b, 1, none⟩) (.inl rfl) _
  obtain ⟨f1, f2, f3⟩ := hp.far hblk5 (by decide) (by decide) (by decide)
  refine ⟨h.hb, hbl, hm5.only hO (fun e => hm5.blk.ne_ hblk5 (by decide) e) (fun e => hm5.hv.ne_ hblk5 (by decide) e) (fun e => hm5.hy.ne_ hblk5 (by decide) e) (fun e => hm5.hz.ne_ hblk5 (by decide) e), hp.only hO (fun j hj e => f1 (by rw [hj, e])) (fun k hk e => f2 k hk e) (fun pv hpv j hj e => f3 pv hpv (by rw [hj, e])), ?_, h.hB, ?_⟩
  · have s6 := h6.size
    have hB := h.hB
    have hb := h.hb
    exact Only.then (h6.below.trans (ho.below (by omega) (fun j hj => by have := h6.ses.row.lt j hj; omega))) hO (by have := hgr.size; omega) (fun j hj => by omega)
  · have s6 := h6.size
    have := hgr.size
    show L.B ≤ (w5.setCell _ _).heap.size
    simp [World.setCell]
    omega

def RMakePost (w : World) (r : Option (Nat × Int)) (n : Nat) (st : St) (e : Ending) (w' : World) : Prop :=
  match r with
  | some (k, x) => e = .returned (.tuple #[.pointer none, .int .i64 (k : Int), .int .i64 x]) ∧ Below w.heap.size w w'
  | none => ∃ L : RLay, e = .returned (.tuple #[.pointer (some ⟨L.b, 0, none⟩), .int .i64 (n : Int), .int .i64 0]) ∧ w.heap.size ≤ L.B ∧ RMach w' L st ∧ Below w.heap.size w w'

theorem rmake_cells (cells : Int) (ao : Option Addr) (len cap : Nat) (h : cells < 1 ∨ 64 < cells) : Calls Try.prog 46 #[.int .i64 cells, .slice ao len cap] w fun e w' => e = .returned (.tuple #[.pointer none, .int .i64 0, .int .i64 2]) ∧ Below w.heap.size w w' := by
  have HM := hide (rmake_bad cells h w)
  clear h
  go_enter Try.func46, Try.ntmps46
  go_wp2_with (go_at_call 27; refine HM.out.mono ?_; rintro e w' ⟨rfl, rfl⟩)
  go_ret3
  exact ⟨rfl, Below.refl _ _⟩

theorem rmake_lens (cells : Int) (ao : Option Addr) (len cap : Nat) (h : 1 ≤ cells ∧ cells ≤ 64) (hl : len = 0 ∨ 16 < len) : Calls Try.prog 46 #[.int .i64 cells, .slice ao len cap] w fun e w' => e = .returned (.tuple #[.pointer none, .int .i64 0, .int .i64 2]) ∧ Below w.heap.size w w' := by
  obtain ⟨n, rfl⟩ : ∃ n : Nat, cells = n := ⟨cells.toNat, by omega⟩
  have HM := hide (rmake_ok n (by omega) (by omega) w)
  clear h
  rcases hl with rfl | hl
  · go_enter Try.func46, Try.ntmps46
    go_wp2_with (go_at_call 27; refine HM.out.mono ?_; rintro e w2 ⟨b, v, y, z, rfl, hm, hb⟩; have HB2 := hide hb; clear hm hb)
    go_ret3
    exact ⟨rfl, HB2.out⟩
  · go_enter Try.func46, Try.ntmps46
    go_wp2_with (go_at_call 27; refine HM.out.mono ?_; rintro e w2 ⟨b, v, y, z, rfl, hm, hb⟩; have HB2 := hide hb; clear hm hb)
    go_ret3
    exact ⟨rfl, HB2.out⟩

theorem rsess_nil {B : Nat} : Sess w B 110 108 (.slice none 0 0) [] [] [] := ⟨⟨rfl, .inl ⟨rfl, rfl⟩⟩, by simp, rfl, rfl, fun i k pv s h => by simp at h⟩
theorem rses_info : (Try.prog.info? 108).map (fun i => (i.zero, i.size, i.bytes)) = some (some (.pointer none), 1, 8) := by kernel_rfl
end
end Go.Proofs.Ytaoonjamlcdfaaa
