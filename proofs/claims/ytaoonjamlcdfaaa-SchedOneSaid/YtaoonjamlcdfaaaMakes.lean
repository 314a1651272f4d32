/-
  The walk of sched's Make.
-/
import Derived.Test.YtaoonjamlcdfaaaMake
namespace Go.Proofs.Ytaoonjamlcdfaaa
open Go.RowKit

section
variable {w : World}
theorem box_below (w : World) (cells : Int) : Below w.heap.size w (w.alloc (.cells #[.int .i64 cells] 3)) := (Below.refl _ _).alloc (Nat.le_refl _) _

theorem make_cells (cells : Int) (ao : Option Addr) (len cap : Nat) (h : cells < 1 ∨ 64 < cells) : Calls Try.prog 40 #[.int .i64 cells, .slice ao len cap] w fun e w' => e = .returned (.tuple #[.pointer none, .int .i64 0, .int .i64 2]) ∧ Below w.heap.size w w' := by
  have HM := hide (make_bad cells h (w.alloc (.cells #[.int .i64 cells] 3)))
  clear h
  go_enter Try.func40, Try.ntmps40
  go_wp2_with (go_at_call 16; refine HM.out.mono ?_; rintro e w' ⟨rfl, rfl⟩)
  go_ret3
  exact ⟨rfl, box_below w cells⟩

theorem make_lens (cells : Int) (ao : Option Addr) (len cap : Nat) (h : 1 ≤ cells ∧ cells ≤ 64) (hl : len = 0 ∨ 16 < len) : Calls Try.prog 40 #[.int .i64 cells, .slice ao len cap] w fun e w' => e = .returned (.tuple #[.pointer none, .int .i64 0, .int .i64 2]) ∧ Below w.heap.size w w' := by
  obtain ⟨n, rfl⟩ : ∃ n : Nat, cells = n := ⟨cells.toNat, by omega⟩
  have HM := hide (make_ok n (by omega) (by omega) (w.alloc (.cells #[.int .i64 n] 3)))
  have HB := hide (box_below w n)
  clear h
  rcases hl with rfl | hl
  · go_enter Try.func40, Try.ntmps40
    go_wp2_with (go_at_call 16; refine HM.out.mono ?_; rintro e w2 ⟨b, g, rfl, hm, hb⟩; have HB2 := hide (HB.out.trans (hb.mono HB.out.size)); clear hm hb)
    go_ret3
    exact ⟨rfl, HB2.out⟩
  · go_enter Try.func40, Try.ntmps40
    go_wp2_with (go_at_call 16; refine HM.out.mono ?_; rintro e w2 ⟨b, g, rfl, hm, hb⟩; have HB2 := hide (HB.out.trans (hb.mono HB.out.size)); clear hm hb)
    go_ret3
    exact ⟨rfl, HB2.out⟩

theorem sess_nil {B : Nat} : Sess w B 102 99 (.slice none 0 0) [] [] [] := ⟨⟨rfl, .inl ⟨rfl, rfl⟩⟩, by simp, rfl, rfl, fun i k pv s h => by simp at h⟩

theorem ses_info : (Try.prog.info? 99).map (fun i => (i.zero, i.size, i.bytes)) = some (some (.pointer none), 1, 8) := by kernel_rfl

/-- An append to a row of one's own, in a region that draws its order. -/
theorem step_append_own {P : Program} {ops : Array Oper} {o : Oper} {a : Act} {K : Act → World → Prop} {Q : Exit → Act → World → Prop} {E : Prop}
    (hg : o.guard = none) (s x : Operand) (t : TypeId) (hop : o.op = Op.call { callee := Callee.builtin Builtin.append, args := #[s, x], argTypes := #[t, t] })
    (base : Nat) (e : TypeId) (i : TypeInfo) (z : Value) (size bytes : Nat) (h1 : P.underlying t = some (.slice e)) (h2 : P.info? e = some i) (h3 : i.zero = some z) (h4 : i.size = size) (h5 : i.bytes = bytes) (h6 : z.cells.size = size) (h7 : 0 < size)
    (v : Value) (n : Nat) (xs : List Value) (hs : a.eval s = v) (hown : w.ownsRow base e size v n xs)
    (ad : Addr) (m c : Nat) (news : List Value) (hx : a.eval x = .slice (some ad) m c) (hn : news.length = m * size) (hc : ∀ j u, news[j]? = some u → w.cell? (ad.add j) = some u) (h1c : ∀ u ∈ news, u.oneCell' = true)
    (b1 : n + m ≤ maxLen) (b2 : (n + m) * bytes ≤ 140737488355328) (hbase : base ≤ w.heap.size)
    (hK : ∀ v' w', w'.ownsRow base e size v' (n + m) (xs ++ news) → w.grownBy w' v.ownBlock → K (a.put o.dst v') w') :
    if Region.wanted o (yielded ops a.tmps) = true then Oper.wp P o a w K Q else E := by
  have hw : Region.wanted o (yielded ops a.tmps) = true := by simp [Region.wanted, hg]
  rw [if_pos hw]
  obtain ⟨v', w', hrun, r1, r2, _⟩ := run_append_own (P := P) w base t o.type e i z size bytes h1 h2 h3 h4 h5 h6 h7 v n xs hown ad m c news hn hc h1c b1 b2 hbase
  unfold Oper.wp
  simp [execOp, hop, resolve, invoke, builtin, hs, hx, hrun, Result.andThen]
  exact hK v' w' r1 r2
end

theorem cells_new' (w : World) (n : Nat) (hn : w.heap.size = n) (l : List Value) (t : TypeId) : ∀ j u, l[j]? = some u → (w.alloc (.cells l.toArray t)).cell? ((⟨n, 0, none⟩ : Addr).add j) = some u := by
  subst hn
  exact cells_new w l t

section
variable {w w0 : World} {L : Lay} {st : St} {cells : Int}
set_option maxRecDepth 100000 in
set_option maxHeartbeats 8000000 in
theorem make_loop (n : Nat) (ao : Option Addr) (cap : Nat) (ps : List (List In)) (hn1 : 1 ≤ n) (hn2 : n ≤ 64) (hl0 : ps.length ≠ 0) (hl : ps.length ≤ 16) {B : Nat} (hB : B ≤ w.heap.size) (hgood : Sd.scan n 0 ps = none → Sd.Good ⟨Cs.new n, ps.map fresh⟩)
    (hp : 0 < ps.length → ∃ g off, ao = some ⟨g, off, none⟩ ∧ g < B ∧ ∀ j p, ps[j]? = some p → ∃ pv, w.cell? ⟨g, off + j, none⟩ = some pv ∧ PrgAt B w pv p) :
    Calls Try.prog 40 #[.int .i64 n, .slice ao ps.length cap] w (MakePost w (Sd.scan n 0 ps) ps.length ⟨Cs.new n, ps.map fresh⟩) := by
  obtain ⟨g, off, rfl, hg, hps⟩ := hp (by omega)
  obtain ⟨i0, hi, hz0, hz1, hz2⟩ := info_parts ses_info
  have HM := hide (make_ok n hn1 hn2 (w.alloc (.cells #[.int .i64 n] 3)))
  have HP := hide hps
  obtain ⟨r, hr⟩ : ∃ r, r = Sd.scan n 0 ps := ⟨_, rfl⟩
  rw [← hr]
  rw [← hr] at hgood
  have HGD := hide hgood
  have HR := hide hr
  have ST : ∀ (w2 : World) (b g : Nat), Mem w2 (w.alloc (.cells #[.int .i64 n] 3)).heap.size b g n (Cs.new n) → Below (w.alloc (.cells #[.int .i64 n] 3)).heap.size (w.alloc (.cells #[.int .i64 n] 3)) w2 →
      Half w (w2.alloc (.cells #[.pointer (some ⟨b, 0, none⟩), .slice none 0 0] 78)) ⟨w.heap.size + 1, w2.heap.size, b, g, n, .slice none 0 0, [], []⟩ w.heap.size n ⟨Cs.new n, []⟩ := by
    intro w2 b g hm hb
    have s1 : (w.alloc (.cells #[.int .i64 n] 3)).heap.size = w.heap.size + 1 := by simp
    rw [s1] at hm hb
    have hs := hb.size
    rw [s1] at hs
    have hbx : Blk (w.alloc (.cells #[.int .i64 n] 3)) w.heap.size 3 #[.int .i64 n] := Blk.new _ _ _
    have hal : Below w2.heap.size w2 (w2.alloc (.cells #[.pointer (some ⟨b, 0, none⟩), .slice none 0 0] 78)) := (Below.refl _ _).alloc (Nat.le_refl _) _
    exact ⟨hs, Blk.new _ _ _, hm.later hal, sess_nil, (hbx.below hb (by omega)).alloc _, ((box_below w n).trans (hb.mono (by omega))).trans (hal.mono (by omega)), by show _ ≤ w.heap.size + 1; omega, by simp; omega⟩
  have HST := hide ST
  have l1 : ((ps.length : Int) == 0) = false := by rw [beq_eq_false_iff_ne]; omega
  have l2 : (ps.length : Int) ≤ 16 := by omega
  clear hp hps hr ST hgood
  go_enter Try.func40, Try.ntmps40
  go_wp2_with (go_at_call 16; refine HM.out.mono ?_; rintro e w2 ⟨b, gm, rfl, hm, hb⟩; have H0 := hide (HST.out _ _ _ hm hb); clear hm hb)
  go_loopw [35] (fun i wr => ∃ (k : Nat) (L : Lay), k ≤ ps.length ∧ i = .int .i64 k ∧ L.b = w2.heap.size ∧ Half w wr L w.heap.size n ⟨Cs.new n, (ps.take k).map fresh⟩ ∧ r = Sd.scan n k (ps.drop k)) (fun i _ => ps.length - (intOf i).toNat)
  case atStart => exact ⟨0, _, Nat.zero_le _, rfl, rfl, H0.out, HR.out⟩
  case round =>
    obtain ⟨k, L, hk, rfl, hLb, hH, hrk⟩ := hrel
    have HH := hide hH
    have HLB := hide hLb
    clear hH H0 HR HM HST
    by_cases hlt : k < ps.length
    · obtain ⟨p, hpk⟩ : ∃ t, ps[k]? = some t := ⟨ps[k], List.getElem?_eq_getElem hlt⟩
      obtain ⟨pv, hpv, hpp⟩ := HP.out k p hpk
      rw [Sd.scan_step hpk] at hrk
      have HRK := hide hrk
      have HPK := hide hpk
      clear hrk hpk
      have hbw := HH.out.below
      have cp := (hbw.cell (p := ⟨g, off + k, none⟩) (by show g < _; omega)).trans hpv
      have HPP := hide ((hpp.below (hbw.mono hB)).mono hB)
      obtain ⟨apo, capp, hpe, _⟩ := hpp
      have HPE := hide hpe
      subst hpe
      clear hbw hpv
      by_cases hlong : 64 < p.length
      · have hr := HRK.out
        rw [if_pos hlong] at hr
        subst hr
        have HB := hide (HH.out.below.alloc HH.out.below.size (.cells #[.slice apo p.length capp] 69))
        clear HH HRK HP
        go_wp2
        go_ret3
        exact ⟨rfl, HB.out⟩
      · have hr := HRK.out
        rw [if_neg hlong] at hr
        have HR := hide hr
        clear hr HRK
        have hab : Below wr.heap.size wr (wr.alloc (.cells #[.slice apo p.length capp] 69)) := (Below.refl _ _).alloc (Nat.le_refl _) _
        have hw := HH.out.later hab
        have HBX := hide (show Blk (wr.alloc (.cells #[.slice apo p.length capp] 69)) wr.heap.size 69 #[.slice apo p.length capp] from Blk.new _ _ _)
        have hpb := HPP.out.below (hab.mono HH.out.below.size)
        have HC := hide (contains_c hpb (by omega) hw.heads.2.2 (HBX.out.cell 0) hw.below.size)
        have HW := hide hw
        have HPB := hide hpb
        have szr := HH.out.below.size
        clear hab hw hpb HPP HPE HH HP
        go_wp2_with fail
        refine HC.out.mono ?_
        rintro e w3 ⟨rfl, hb3⟩
        have H3 := hide (HW.out.later hb3)
        have HX3 := hide (HBX.out.below hb3 HBX.out.lt)
        have HP3 := hide (HPB.out.below (hb3.mono HW.out.below.size))
        clear hb3 HC HW HBX HPB
        cases hrt : Sd.rights p n with
        | false =>
          have hr := HR.out
          rw [hrt] at hr
          simp only [Bool.false_eq_true, if_false] at hr
          subst hr
          have HB := hide H3.out.below
          clear HR H3 HX3 HP3 hrt
          go_wp2
          go_ret3
          exact ⟨rfl, HB.out⟩
        | true =>
          have hr := HR.out
          rw [hrt] at hr
          simp only [if_true] at hr
          have HR2 := hide hr
          clear hr HR hrt
          obtain ⟨LB, Lb, Lm, Lg, Lc, sv, bs, pvs⟩ := L
          have hLb := HLB.out
          dsimp only at hLb H3
          subst hLb
          have hlen : ((ps.take k).map fresh).length = k := by simp; omega
          have hrow := H3.out.ses.row
          dsimp only at hrow
          rw [hlen] at hrow
          obtain ⟨sao, scap, rfl, _⟩ := ownsRow_shape hrow
          have c1 := H3.out.heads.2.1
          have c2 := HX3.out.cell 0
          have HCL := hide (fun nq => clone_instr (B := LB) (w := w3.drewN nq) (HP3.out.below (below_drewN (Below.refl _ _) nq)) (by omega) H3.out.below.size H3.out.size)
          have HRW := hide (fun (w6 : World) (h : Below w3.heap.size w3 w6) => ownsRow_only hrow (Only.of_below (S := fun k => w3.heap.size ≤ k) h fun _ h => h) (fun j hj => by have := (hrow.lt j hj).2; omega))
          have HPU := hide (fun (w4 w5 : World) (sv' pv : Value) (hbw : Below w3.heap.size w3 w4) (hrow : w4.ownsRow LB 95 4 pv p.length (qcells p)) (hown : w5.ownsRow LB 99 1 sv' (k + 1) (bs.map (fun k => .pointer (some ⟨k, 0, none⟩)) ++ [.pointer (some ⟨w4.heap.size, 0, none⟩)])) (hgr : ((w4.alloc (.cells (sesCells pv (fresh p)) 102)).alloc (.cells #[.pointer (some ⟨w4.heap.size, 0, none⟩)] 99)).grownBy w5 (Value.slice sao k scap).ownBlock) => by
            have := H3.out.push hbw hrow (by rw [hlen]; exact hown) hgr
            exact this)
          have sz3 := H3.out.size
          have lt1 := H3.out.blk.lt
          have lt2 := HX3.out.lt
          dsimp only at sz3 lt1 c1 hrow
          simp only [List.getElem?_toArray, List.getElem?_cons_zero] at c2
          have HTK := hide (show (ps.take (k + 1)).map fresh = (ps.take k).map fresh ++ [fresh p] by
            rw [List.take_add_one, HPK.out]; simp)
          clear hrow HP3 hlen H3
          go_wp2_with fail
          go_region_law (first
            | (go_simp; go_at_call 67; refine (HCL.out _).mono ?_; rintro e w4 ⟨v4, rfl, hrw, hbw0⟩; obtain ⟨ao4, cap4, rfl, _⟩ := ownsRow_shape hrw; have hbw := (show Below w3.heap.size w3 w4 from ⟨hbw0.os, hbw0.tape, hbw0.output, hbw0.size, hbw0.block⟩); have k1 := (hbw.cell (p := ⟨w2.heap.size, 1, none⟩) lt1).trans c1; have k2 := (World.cell?_alloc_lt w4 (.cells #[.slice ao4 p.length cap4, .int .i64 0, .int .i64 0, .int .i64 0, .int .i64 0, .int .i64 0] 102) ⟨w2.heap.size, 1, none⟩ (World.block_lt_of_cell? w4 ⟨w2.heap.size, 1, none⟩ k1)).trans k1; have k3 := (World.cell?_alloc_lt _ (.cells #[.pointer (some ⟨w4.heap.size, 0, none⟩)] 99) ⟨w2.heap.size, 1, none⟩ (World.block_lt_of_cell? _ ⟨w2.heap.size, 1, none⟩ k2)).trans k2)
            | (refine step_append_own rfl (.tmp 53) (.tmp 58) 76 rfl LB 99 i0 _ 1 8 Try.underlying76 hi hz0 hz1 hz2 rfl (by decide) (.slice sao k scap) k (bs.map fun k => .pointer (some ⟨k, 0, none⟩)) rfl (HRW.out _ ((hbw.alloc hbw.size _).alloc (Nat.le_trans hbw.size (by simp)) _)) ⟨w4.heap.size + 1, 0, none⟩ 1 1 [.pointer (some ⟨w4.heap.size, 0, none⟩)] rfl rfl (cells_new' _ (w4.heap.size + 1) (by simp) [.pointer (some ⟨w4.heap.size, 0, none⟩)] _) (by simp [Value.oneCell']) (by simp only [maxLen]; omega) (by omega) (by have := hbw.size; simp; omega) ?_; intro v5 w5 hown hgr; obtain ⟨⟨q1, q2, q3⟩, hpu⟩ := HPU.out _ _ _ _ hbw hrw hown hgr; obtain ⟨ao5, cap5, rfl, _⟩ := ownsRow_shape hown; have HPU2 := hide hpu; clear hpu hown hgr q3 hrw k1 k2 k3))
          all_goals go_wp2_with fail
          all_goals (try go_roundw)
          all_goals first
            | exact ⟨k + 1, ⟨LB, w2.heap.size, Lm, Lg, Lc, _, _, _⟩, by omega, by go_num, rfl, by rw [HTK.out]; exact HPU2.out, HR2.out⟩
            | (simp [intOf]; omega)
    · obtain rfl : k = ps.length := by omega
      obtain ⟨LB, Lb, Lm, Lg, Lc, sv, bs, pvs⟩ := L
      have hLb := HLB.out
      dsimp only at hLb HH
      subst hLb
      rw [List.take_length] at HH
      rw [List.drop_length] at hrk
      have hr : r = none := hrk
      subst hr
      have HM := hide (HH.out.mach (HGD.out rfl))
      have hrow := HH.out.ses.row
      dsimp only at hrow
      rw [List.length_map] at hrow
      obtain ⟨sao, scap, rfl, _⟩ := ownsRow_shape hrow
      have c1 := HH.out.heads.2.1
      have HB := hide HH.out.below
      have HSZ := hide HH.out.hB
      dsimp only at c1
      clear hrow HGD hrk HP HLB HH
      go_wp2_with fail
      go_region
      all_goals (try go_wp2)
      all_goals go_ret3
      all_goals exact ⟨⟨LB, w2.heap.size, Lm, Lg, Lc, .slice sao ps.length scap, bs, pvs⟩, rfl, HSZ.out, HM.out.drewN 1, below_drewN HB.out 1⟩

/-- Make: a machine of the programs, or why there is none. -/
theorem sched_make (cells : Int) {B : Nat} {v : Value} {ps : List (List In)} (hB : B ≤ w.heap.size) (hp : PrgsAt B w v ps) :
    Calls Try.prog 40 #[.int .i64 cells, v] w (MakePost w (Sd.makeE cells ps) ps.length (Sd.made cells ps)) := by
  obtain ⟨ao, cap, rfl, _, _, _, hc⟩ := hp
  by_cases h1 : cells < 1 ∨ 64 < cells
  · have e : Sd.makeE cells ps = some (0, 2) := by unfold Sd.makeE; rw [if_pos (by omega)]
    rw [e]
    exact make_cells cells ao ps.length cap h1
  · by_cases h2 : ps.length = 0 ∨ 16 < ps.length
    · have e : Sd.makeE cells ps = some (0, 2) := by unfold Sd.makeE; rw [if_pos (by omega)]
      rw [e]
      exact make_lens cells ao ps.length cap (by omega) h2
    · have e : Sd.makeE cells ps = Sd.scan cells 0 ps := by unfold Sd.makeE; rw [if_neg (by omega)]
      have hg := fun h => Sd.made_good (cells := cells) (ps := ps) h
      rw [e] at hg ⊢
      unfold Sd.made at hg ⊢
      obtain ⟨n, rfl⟩ : ∃ n : Nat, cells = n := ⟨cells.toNat, by omega⟩
      exact make_loop n ao cap ps (by omega) (by omega) (by omega) (by omega) hB hg hc
end
end Go.Proofs.Ytaoonjamlcdfaaa
