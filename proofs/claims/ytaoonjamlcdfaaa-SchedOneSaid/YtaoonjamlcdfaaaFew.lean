/-
  The contract of few: at most so many programs, of at most so many instructions.
-/
import Derived.Test.YtaoonjamlcdfaaaMakes
namespace Go.Proofs.Ytaoonjamlcdfaaa
open Go.RowKit

/-- Programs in rows of their own, from block B on. -/
structure Owned (w : World) (B : Nat) (v : Value) (vals : List Value) (ps : List (List In)) : Prop where
  row : w.ownsRow B 69 1 v ps.length vals
  len : vals.length = ps.length
  prog : ∀ (j : Nat) (p : List In) (pv : Value), ps[j]? = some p → vals[j]? = some pv → w.ownsRow B 95 4 pv p.length (qcells p)
  one : ∀ u ∈ vals, u.oneCell' = true
section
variable {w w' : World} {B : Nat} {v : Value} {vals : List Value} {ps : List (List In)}
theorem Owned.drewN (h : Owned w B v vals ps) (n : Nat) : Owned (w.drewN n) B v vals ps := ⟨h.row, h.len, h.prog, h.one⟩
theorem Owned.later (h : Owned w B v vals ps) (hb : Below w.heap.size w w') : Owned w' B v vals ps := ⟨row_below h.row hb, h.len, fun j p pv h1 h2 => row_below (h.prog j p pv h1 h2) hb, h.one⟩
theorem Owned.push {w1 w2 : World} {pv v' : Value} {p : List In} (h : Owned w B v vals ps) (hb : Below w.heap.size w w1) (h1 : w1.ownsRow B 95 4 pv p.length (qcells p)) (hone : pv.oneCell' = true)
    (h2 : w2.ownsRow B 69 1 v' (ps.length + 1) (vals ++ [pv])) (hg : (w1.alloc (.cells #[pv] 69)).grownBy w2 v.ownBlock) : Owned w2 B v' (vals ++ [pv]) (ps ++ [p]) := by
  have hal : Below w1.heap.size w1 (w1.alloc (.cells #[pv] 69)) := (Below.refl _ _).alloc (Nat.le_refl _) _
  have h' := (h.later hb).later hal
  have h1' := row_below h1 hal
  have ho : Only (fun j => v.ownBlock = some j) (w1.alloc (.cells #[pv] 69)) w2 := (Only.refl _ _).grown hg (fun j _ e => e)
  refine ⟨by rw [List.length_append, List.length_singleton]; exact h2, by simp [h.len], fun j q qv e1 e2 => ?_, ?_⟩
  · rcases Nat.lt_or_ge j ps.length with hlt | hge
    · rw [List.getElem?_append_left hlt] at e1
      rw [List.getElem?_append_left (by rw [h.len]; exact hlt)] at e2
      have := h'.prog j q qv e1 e2
      exact ownsRow_only this ho (fun k hk e => own_own_ne h'.row this (by decide) k e hk)
    · rw [List.getElem?_append_right hge] at e1
      rw [List.getElem?_append_right (by rw [h.len]; exact hge), h.len] at e2
      have h0 : j - ps.length = 0 := by
        have := (List.getElem?_eq_some_iff.1 e1).1
        simp at this
        omega
      rw [h0] at e1 e2
      simp at e1 e2
      subst e1 e2
      exact ownsRow_only h1' ho (fun k hk e => own_own_ne h'.row h1' (by decide) k e hk)
  · intro u hu
    rcases List.mem_append.1 hu with hu | hu
    · exact h.one u hu
    · simp at hu
      subst hu
      exact hone

theorem own_prg {p : List In} (h : w.ownsRow B 95 4 v p.length (qcells p)) : PrgAt w.heap.size w v p := by
  rcases h.2 with ⟨rfl, h0⟩ | ⟨g, cap, cur, rfl, hb, hg, hc, hm, _⟩
  · exact ⟨none, 0, by rw [h0], by omega, Nat.zero_le _, fun _ => rfl, fun h => by omega⟩
  · refine ⟨_, cap, rfl, hc, hm, (fun e => by cases e), fun _ => ⟨g, 0, rfl, (Array.getElem?_eq_some_iff.1 hg).1, fun j u hu => ?_⟩⟩
    have := h.cells (g := g) (by simp [Value.ownBlock]) j u hu
    rwa [Addr.add_lit] at this
theorem Owned.prgs (h : Owned w B v vals ps) : PrgsAt w.heap.size w v ps := by
  rcases h.row.2 with ⟨rfl, h0⟩ | ⟨g, cap, cur, rfl, hb, hg, hc, hm, _⟩
  · exact ⟨none, 0, by rw [h0], by omega, Nat.zero_le _, fun _ => rfl, fun h => by omega⟩
  · refine ⟨_, cap, rfl, hc, hm, (fun e => by cases e), fun _ => ⟨g, 0, rfl, (Array.getElem?_eq_some_iff.1 hg).1, fun j p hj => ?_⟩⟩
    have hlt := (List.getElem?_eq_some_iff.1 hj).1
    have hv : vals[j]? = some (vals[j]'(by rw [h.len]; exact hlt)) := List.getElem?_eq_getElem _
    have := h.row.cells (g := g) (by simp [Value.ownBlock]) j _ hv
    rw [Addr.add_lit] at this
    exact ⟨_, this, own_prg (h.prog j p _ hj hv)⟩
end

/-- An append to a row of one's own of what may be nil, in a region that draws its order. -/
theorem step_append_any {w : World} {P : Program} {ops : Array Oper} {o : Oper} {a : Act} {K : Act → World → Prop} {Q : Exit → Act → World → Prop} {E : Prop}
    (hg : o.guard = none) (s x : Operand) (t : TypeId) (hop : o.op = Op.call { callee := Callee.builtin Builtin.append, args := #[s, x], argTypes := #[t, t] })
    (base : Nat) (e : TypeId) (i : TypeInfo) (z : Value) (size bytes : Nat) (h1 : P.underlying t = some (.slice e)) (h2 : P.info? e = some i) (h3 : i.zero = some z) (h4 : i.size = size) (h5 : i.bytes = bytes) (h6 : z.cells.size = size) (h7 : 0 < size)
    (v : Value) (n : Nat) (xs : List Value) (hs : a.eval s = v) (hown : w.ownsRow base e size v n xs)
    (ao : Option Addr) (m c : Nat) (news : List Value) (hx : a.eval x = .slice ao m c) (hn : news.length = m * size) (hnone : ao = none → m = 0 ∧ c = 0) (hc : ∀ ad, ao = some ad → ∀ j u, news[j]? = some u → w.cell? (ad.add j) = some u) (h1c : ∀ u ∈ news, u.oneCell' = true)
    (b1 : n + m ≤ maxLen) (b2 : (n + m) * bytes ≤ 140737488355328) (hbase : base ≤ w.heap.size)
    (hK : ∀ v' w', w'.ownsRow base e size v' (n + m) (xs ++ news) → w.grownBy w' v.ownBlock → K (a.put o.dst v') w') :
    if Region.wanted o (yielded ops a.tmps) = true then Oper.wp P o a w K Q else E := by
  cases ao with
  | some ad => exact step_append_own hg s x t hop base e i z size bytes h1 h2 h3 h4 h5 h6 h7 v n xs hs hown ad m c news hx hn (hc ad rfl) h1c b1 b2 hbase hK
  | none =>
    obtain ⟨rfl, rfl⟩ := hnone rfl
    obtain rfl : news = [] := List.eq_nil_of_length_eq_zero (by simpa using hn)
    have hw : Region.wanted o (yielded ops a.tmps) = true := by simp [Region.wanted, hg]
    rw [if_pos hw]
    have hrun := run_append_owned_none (P := P) (w := w) base t o.type e i size h1 h2 v n xs hown
    unfold Oper.wp
    simp [execOp, hop, resolve, invoke, builtin, hs, hx, hrun, Result.andThen]
    exact hK v w (by simpa using hown) (World.grownBy.refl _ _)

/-- What few hands back. -/
def fewOf (ps : List (List In)) : List (List In) := (ps.take 17).map (·.take 65)

theorem row69_info : (Try.prog.info? 69).map (fun i => (i.zero, i.size, i.bytes)) = some (some (.slice none 0 0), 1, 24) := by kernel_rfl
theorem qcells_take (p : List In) (n j : Nat) (u : Value) (h : (qcells (p.take n))[j]? = some u) : (qcells p)[j]? = some u := by
  have e : qcells p = qcells (p.take n) ++ qcells (p.drop n) := by rw [← qcells_append, List.take_append_drop]
  rw [e, List.getElem?_append_left (List.getElem?_eq_some_iff.1 h).1]
  exact h
theorem take_succ_map (ps : List (List In)) (k : Nat) (p : List In) (h : ps[k]? = some p) : (ps.take (k + 1)).map (·.take 65) = (ps.take k).map (·.take 65) ++ [p.take 65] := by
  rw [List.take_add_one, h]; simp

section
variable {w : World}
set_option maxRecDepth 100000 in
set_option maxHeartbeats 8000000 in
theorem few_c {B : Nat} {v : Value} {ps : List (List In)} (hp : PrgsAt B w v ps) (hB : B ≤ w.heap.size) :
    Calls Try.prog 39 #[v] w fun e w' => ∃ v', e = .returned v' ∧ PrgsAt w'.heap.size w' v' (fewOf ps) ∧ Below w.heap.size w w' := by
  obtain ⟨ao, cap, rfl, hcap, hmax, hnone, hps⟩ := hp
  obtain ⟨i0, hi, hz0, hz1, hz2⟩ := info_parts row69_info
  obtain ⟨j0, hj, hy0, hy1, hy2⟩ := info_parts instr_info
  have HP := hide hps
  have hst : Owned (w.alloc (.cells #[] 69)) w.heap.size (.slice (some ⟨w.heap.size, 0, none⟩) 0 0) [] [] :=
    ⟨⟨rfl, .inr ⟨w.heap.size, 0, #[], rfl, Nat.le_refl _, heap_alloc_new w _, Nat.le_refl _, Nat.zero_le _, rfl, rfl⟩⟩, rfl, fun j p pv h => by simp at h, fun u h => by simp at h⟩
  have HST := hide hst
  have HB0 := hide ((Below.refl w.heap.size w).alloc (Nat.le_refl _) (.cells #[] 69))
  clear hps hst
  go_enter Try.func39, Try.ntmps39
  go_wp2_with fail
  go_loopw [3, 4] (fun o i wr => ∃ (k : Nat) (vals : List Value), k ≤ ps.length ∧ k ≤ 17 ∧ i = .int .i64 k ∧ Owned wr w.heap.size o vals ((ps.take k).map (·.take 65)) ∧ Below w.heap.size w wr) (fun _ i _ => ps.length - (intOf i).toNat)
  case atStart => exact ⟨0, [], Nat.zero_le _, by decide, rfl, HST.out, HB0.out⟩
  case round =>
    obtain ⟨k, vals, hk, hk17, rfl, hO, hb⟩ := hrel
    have HO := hide hO
    have HB := hide hb
    clear hO hb HST HB0
    by_cases hlt : k < ps.length ∧ k ≤ 16
    · obtain ⟨hlt1, hlt2⟩ := hlt
      obtain ⟨p, hpk⟩ : ∃ t, ps[k]? = some t := ⟨ps[k], List.getElem?_eq_getElem hlt1⟩
      obtain ⟨g, off, rfl, hg, hps⟩ := HP.out (by omega)
      obtain ⟨pv, hpv, hpp⟩ := hps k p hpk
      have hbw := HB.out
      have c1 := (hbw.cell (p := ⟨g, off + k, none⟩) (by show g < _; omega)).trans hpv
      have hpp := (hpp.below (hbw.mono hB)).mono hB
      obtain ⟨apo, capp, rfl, hpc, hpm, hpn, hpcell⟩ := hpp
      have c2 := (World.cell?_alloc_lt wr (.cells #[] 95) ⟨g, off + k, none⟩ (World.block_lt_of_cell? wr ⟨g, off + k, none⟩ c1)).trans c1
      have hlen : ((ps.take k).map (·.take 65)).length = k := by simp; omega
      have hrow := HO.out.row
      rw [hlen] at hrow
      obtain ⟨oao, ocap, rfl, _⟩ := ownsRow_shape hrow
      have HTK := hide (take_succ_map ps k p hpk)
      obtain ⟨m, hm⟩ : ∃ m, m = (p.take 65).length := ⟨_, rfl⟩
      have hm2 : m = min 65 p.length := by rw [hm, List.length_take]
      have hk16 : (k : Int) ≤ 16 := by omega
      have hal : Below wr.heap.size wr (wr.alloc (.cells #[] 95)) := (Below.refl _ _).alloc (Nat.le_refl _) _
      have HSZ := hide (show w.heap.size ≤ ((wr.alloc (.cells #[] 95)).drew).heap.size by have := hbw.size; show w.heap.size ≤ (wr.alloc _).heap.size; simp; omega)
      have HE := hide (show ((wr.alloc (.cells #[] 95)).drew).ownsRow w.heap.size 95 4 (.slice (some ⟨wr.heap.size, 0, none⟩) 0 0) 0 [] from
        ⟨rfl, .inr ⟨wr.heap.size, 0, #[], rfl, hbw.size, heap_alloc_new wr _, Nat.le_refl _, Nat.zero_le _, rfl, rfl⟩⟩)
      have HBW := hide (fun (w1 : World) (hgr : ((wr.alloc (.cells #[] 95)).drew).grownBy w1 (Value.slice (some ⟨wr.heap.size, 0, none⟩) 0 0).ownBlock) => show Below wr.heap.size wr w1 from (below_drewN hal 1).trans ⟨hgr.os, hgr.tape, hgr.output, hgr.size, fun q hq => hgr.block q (by show q < (wr.alloc _).heap.size; simp; omega) (by simp [Value.ownBlock]; omega)⟩)
      have HRW := hide (fun (w1 : World) (h : Below wr.heap.size wr w1) => row_below hrow h)
      have HPU := hide (fun (w1 w2 : World) (pv v' : Value) (hb : Below wr.heap.size wr w1) (h1 : w1.ownsRow w.heap.size 95 4 pv m (qcells (p.take 65))) (hone : pv.oneCell' = true) (h2 : w2.ownsRow w.heap.size 69 1 v' (k + 1) (vals ++ [pv])) (hgr : (w1.alloc (.cells #[pv] 69)).grownBy w2 (Value.slice oao k ocap).ownBlock) => by
        rw [hm] at h1
        have := HO.out.push hb h1 hone (by rw [hlen]; exact h2) hgr
        rw [← HTK.out] at this
        exact And.intro this (show Below w.heap.size w w2 from (HB.out.trans (hb.mono HB.out.size)).trans
          (((Below.refl w1.heap.size w1).alloc (Nat.le_refl _) (.cells #[pv] 69)).mono (Nat.le_trans HB.out.size hb.size) |>.trans ⟨hgr.os, hgr.tape, hgr.output, hgr.size, fun q hq => hgr.block q (by have := hb.size; have := HB.out.size; simp; omega) (fun e => by have := (hrow.lt q e.symm).1; omega)⟩)))
      have HQL := hide (show (qcells (p.take 65)).length = m * 4 by rw [qcells_length, hm])
      have hszr := hbw.size
      have hcell : ∀ ad, apo = some ad → ∀ j u, (qcells (p.take 65))[j]? = some u → ((wr.alloc (.cells #[] 95)).drew).cell? (ad.add j) = some u := by
        intro ad had j u hj
        have hj' := qcells_take p 65 j u hj
        have hpos : 0 < p.length := by
          have := (List.getElem?_eq_some_iff.1 hj').1
          rw [qcells_length] at this
          omega
        obtain ⟨ga, oa, e, _, hc⟩ := hpcell hpos
        rw [had] at e
        cases e
        rw [Addr.add_lit]
        have := hc j u hj'
        exact (World.cell?_alloc_lt wr (.cells #[] 95) ⟨ga, oa + j, none⟩ (World.block_lt_of_cell? wr ⟨ga, oa + j, none⟩ this)).trans this
      have HCE := hide hcell
      have HNO := hide (show apo = none → m = 0 ∧ capp = 0 from fun e => by have := hpn e; omega)
      have h65 : (if 65 < (p.length : Int) then (65 : Int) else (p.length : Int)) = (m : Int) := by split <;> omega
      have hpc' : (m : Int) ≤ (capp : Int) := by omega
      have hm65 : m ≤ 65 := by omega
      clear hpn hpcell hcell hrow HO hlen hal hps HP hpk hpv hbw hm hm2 hpp hpc
      go_wp2_with fail
      go_region_law (first
        | (refine step_append_any rfl (.tmp 17) (.tmp 28) 69 rfl w.heap.size 95 j0 _ 4 32 Try.underlying69 hj hy0 hy1 hy2 rfl (by decide) (.slice (some ⟨wr.heap.size, 0, none⟩) 0 0) 0 [] (by simp [Act.eval, Act.put]) HE.out apo m capp (qcells (p.take 65)) (by simp [Act.eval, Act.put]) HQL.out HNO.out HCE.out (qcells_one _) (by simp only [maxLen]; omega) (by omega) HSZ.out ?_; intro v1 w1 hown1 hgr1; rw [Nat.zero_add, List.nil_append] at hown1; obtain ⟨ao1, cap1, rfl, _⟩ := ownsRow_shape hown1; have hbw1 := HBW.out _ hgr1; have sz1 := Nat.le_trans hszr hbw1.size)
        | (refine step_append_own rfl (.tmp 16) (.tmp 30) 52 rfl w.heap.size 69 i0 _ 1 24 Try.underlying52 hi hz0 hz1 hz2 rfl (by decide) (.slice oao k ocap) k vals rfl (HRW.out _ (hbw1.alloc hbw1.size _)) ⟨w1.heap.size, 0, none⟩ 1 1 [.slice ao1 m cap1] rfl rfl (cells_new _ [.slice ao1 m cap1] _) (by simp [Value.oneCell']) (by simp only [maxLen]; omega) (by omega) (by simp; omega) ?_; intro v2 w2 hown2 hgr2; obtain ⟨hO2, hB2⟩ := HPU.out w1 w2 _ _ hbw1 hown1 rfl hown2 hgr2; have HO2 := hide hO2; have HB2 := hide hB2; clear hown1 hgr1 hown2 hgr2 hbw1 hO2 hB2))
      all_goals go_wp2_with fail
      all_goals (try go_roundw)
      all_goals first
        | exact ⟨k + 1, _, by omega, by omega, by go_num, HO2.out, HB2.out⟩
        | (simp [intOf]; omega)
    · have hsp : (k < ps.length ∧ k = 17) ∨ k = ps.length := by omega
      have HPR := hide HO.out.prgs
      rcases hsp with ⟨h1, h2⟩ | h1 <;> clear hlt
      · subst h2
        go_wp2
        go_ret
        exact ⟨_, rfl, HPR.out, HB.out⟩
      · subst h1
        have e : fewOf ps = (ps.take ps.length).map (·.take 65) := by
          unfold fewOf
          rw [List.take_length, List.take_of_length_le hk17]
        go_wp2
        go_ret
        exact ⟨_, rfl, by rw [e]; exact HPR.out, HB.out⟩
end
end Go.Proofs.Ytaoonjamlcdfaaa
