/-
  The walk of the law CellAlone.
-/
import Derived.Deep.CutRange
import Derived.Test.YtaoonjamlcdfaaaCopies
import Derived.Test.YtaoonjamlcdfaaaArgs
namespace Go.Proofs.Ytaoonjamlcdfaaa
open Go.RowKit

theorem quiet_one {P : Program} {f : FuncId} {args : Array Value} {w : World} {n : Nat} {v : Value} (h : Calls P f args (w.drewN n) fun e w' => e = .returned v ∧ w.drewN n = w') :
    Calls P f args (w.drewN n) fun e w'' => e = .returned v ∧ ∃ k, w'' = w.drewN k := h.mono fun _ _ ⟨he, hm⟩ => ⟨he, n, hm.symm⟩

def bysOf (l : List Cl) : List Int := l.map (·.by_)

/-- A memory of four cells, and who has them, as the law keeps it. -/
structure Alone (w1 w : World) (b g r : Nat) (l : List Cl) : Prop where
  held : Held w1 w b g 4 l
  row : Blk w r 3 (intsOf (bysOf l)).toArray
  hb : r ≠ b
  hg : r ≠ g
  hr : w1.heap.size ≤ r
  len : l.length = 4
  ok : ∀ t ∈ l, t.by_ = -1 ∨ 0 ≤ t.by_

section
variable {w1 w w' : World} {b g r : Nat} {l : List Cl}
theorem Alone.drewN (h : Alone w1 w b g r l) (n : Nat) : Alone w1 (w.drewN n) b g r l := ⟨h.held.drewN n, h.row, h.hb, h.hg, h.hr, h.len, h.ok⟩
theorem Alone.cell (h : Alone w1 w b g r l) {q : Int} {t : Cl} (ht : Cs.get l q = some t) : w.cell? ⟨r, q.toNat, none⟩ = some (.int .i64 t.by_) ∧ w.frozen? ⟨r, q.toNat, none⟩ = false := by
  have h1 := (Cs.get_some ht).2.2
  refine ⟨?_, h.row.frozen _⟩
  rw [h.row.cell]
  simp [intsOf, bysOf, h1]
theorem Alone.cell_only (h : Alone w1 w b g r l) (ho : Only (fun k => k = g) w w') {q : Int} {t : Cl} (ht : Cs.get l q = some t) : w'.cell? ⟨r, q.toNat, none⟩ = some (.int .i64 t.by_) ∧ w'.frozen? ⟨r, q.toNat, none⟩ = false := by
  have h1 := (Cs.get_some ht).2.2
  have hr := h.row.only ho h.hg
  refine ⟨?_, hr.frozen _⟩
  rw [hr.cell]
  simp [intsOf, bysOf, h1]
/-- A cell changes hands, and so does the row. -/
theorem Alone.hand {q : Int} {t : Cl} (h : Alone w1 w b g r l) (ht : Cs.get l q = some t) (who : Int) (hw : who = -1 ∨ 0 ≤ who) (hm : Mem w' w1.heap.size b g 4 (Cs.put l q ⟨t.v, who, t.wr⟩)) (ho : Only (fun k => k = g) w w') :
    Alone w1 (w'.setCell ⟨r, q.toNat, none⟩ (.int .i64 who)) b g r (Cs.put l q ⟨t.v, who, t.wr⟩) := by
  obtain ⟨h0, h1, h2⟩ := Cs.get_some ht
  have hrow := (h.row.only ho h.hg).set_ q.toNat (.int .i64 who)
  have hos : Only (fun k => k = r) w' (w'.setCell ⟨r, q.toNat, none⟩ (.int .i64 who)) := (Only.refl (fun k => k = r) w').setCell (p := ⟨r, q.toNat, none⟩) (.inl rfl) _
  have hB := only_below h.held.below ho h.held.size h.held.mem.lt.1
  refine ⟨⟨hm.only hos (Ne.symm h.hb) (Ne.symm h.hg), only_below hB hos hB.size h.hr⟩, ?_, h.hb, h.hg, h.hr, by rw [Cs.put_length, h.len], ?_⟩
  · have e : (intsOf (bysOf (Cs.put l q ⟨t.v, who, t.wr⟩))).toArray = (intsOf (bysOf l)).toArray.setIfInBounds q.toNat (.int .i64 who) := by
      rw [Cs.put_at h0]
      simp [intsOf, bysOf, List.map_set]
    rw [e]
    exact hrow
  · exact Cs.all_put q _ h.ok (fun _ h => h) hw
theorem Alone.stay (h : Alone w1 w b g r l) (hm : Mem w' w1.heap.size b g 4 l) (ho : Only (fun k => k = g) w w') : Alone w1 w' b g r l :=
  ⟨⟨hm, only_below h.held.below ho h.held.size h.held.mem.lt.1⟩, h.row.only ho h.hg, h.hb, h.hg, h.hr, h.len, h.ok⟩
end

set_option maxRecDepth 100000 in
set_option maxHeartbeats 8000000 in
theorem alone_c (v0 : Value) (x : Nat → Qd) (len : Nat) (w : World) (ha : QdsAt w.heap.size w v0 x len) : Calls Try.prog 5 #[v0] w fun e w' => e = .returned (.bool true) ∧ Below w.heap.size w w' := by
  obtain ⟨ao, cap, rfl, _, _, _, hcell⟩ := ha
  have HC := hide hcell
  clear hcell
  go_enter Try.func5, Try.ntmps5
  go_wp2_with fail
  refine (works_c w).mono ?_
  rintro e w1 ⟨rfl, hB1⟩
  have HB1 := hide hB1
  have sz1 := hB1.size
  clear hB1
  go_wp2_with fail
  refine (make_ok 4 (by decide) (by decide) w1).mono ?_
  rintro e w2 ⟨b, g, rfl, hm, hb⟩
  have hbl := hm.blk.lt
  have hgl := hm.lt.2
  have hA0 : Alone w1 (w2.alloc (.cells #[.int .i64 (-1), .int .i64 (-1), .int .i64 (-1), .int .i64 (-1)] 3)) b g w2.heap.size (Cs.new 4) := by
    refine ⟨(made_held hm hb).later ((Below.refl _ _).alloc (Nat.le_refl _) _), Blk.new _ _ _, by omega, by omega, hb.size, rfl, ?_⟩
    intro t ht
    exact .inl (fresh_new 4 t ht).1
  have HA0 := hide hA0
  clear hm hb hA0 hbl hgl
  go_wp2_with fail
  generalize w2.heap.size = r at *
  go_loopw [6] (fun i wr => ∃ (k : Nat) (l : List Cl), k ≤ len ∧ i = .int .i64 k ∧ Alone w1 wr b g r l) (fun i _ => len - (intOf i).toNat)
  case atStart => exact ⟨0, _, Nat.zero_le _, rfl, HA0.out⟩
  case round =>
    obtain ⟨k, l, hk, rfl, hH⟩ := hrel
    have HH := hide hH
    clear hH HA0
    by_cases hlt : k < len ∧ k < 200
    · obtain ⟨hk1, hk2⟩ := hlt
      have hk2' : (k : Int) < 200 := by omega
      obtain ⟨ga, off, rfl, hga, hcs⟩ := HC.out (by omega)
      have hbw : Below w.heap.size w wr := HB1.out.trans (HH.out.held.below.mono sz1)
      obtain ⟨k0, k1, k2, _⟩ := hcs k hk1
      have c0 := (hbw.cell (p := ⟨ga, off + k * 4, none⟩) hga).trans k0
      have c1 := (hbw.cell (p := ⟨ga, off + k * 4 + 1, none⟩) hga).trans k1
      have c2 := (hbw.cell (p := ⟨ga, off + k * 4 + 2, none⟩) hga).trans k2
      clear hcs hbw k0 k1 k2
      generalize x k = y at *
      obtain ⟨y0, y1, y2, y3⟩ := y
      simp only at c0 c1 c2
      go_wp2_with fail
      go_quiet ((go_at_call 18; exact quiet_one (among_c _ _ _ (by decide) (by decide))))
      obtain ⟨hq0, hq1⟩ := among_bd y1 4 (by decide)
      obtain ⟨hw0, hw1⟩ := among_bd y2 16 (by decide)
      generalize among y1 4 = q at *
      generalize among y2 16 = who at *
      obtain ⟨t, ht⟩ := Cs.get_in (l := l) hq0 (by have := HH.out.len; omega)
      have HT := hide (HH.out.drewN nq)
      obtain ⟨t1, t2⟩ := HT.out.cell ht
      have hlk := lock_c HT.out.held.mem q who
      have hfe := free_c HT.out.held.mem q who
      have hok := hide (HT.out.ok t (Cs.get_mem ht))
      have hwho : Cs.isWho who = true := by simp [Cs.isWho]; omega
      have e1 : Cs.lockE l q who = if t.by_ = -1 then 0 else 8 := by simp only [Cs.lockE, ht, if_pos hwho]
      have e2 : Cs.lockL l q who = if t.by_ = -1 then Cs.put l q ⟨t.v, who, t.wr⟩ else l := by simp only [Cs.lockL, ht, if_pos hwho]
      have e3 : Cs.freeE l q who = if t.by_ = who then 0 else 5 := by simp only [Cs.freeE, ht, if_pos hwho]
      have e4 : Cs.freeL l q who = if t.by_ = who then Cs.put l q ⟨t.v, -1, t.wr⟩ else l := by simp only [Cs.freeL, ht, if_pos hwho]
      rw [e1, e2] at hlk
      rw [e3, e4] at hfe
      have HLK := hide hlk
      have HFE := hide hfe
      have HTT := hide ht
      clear hlk hfe e1 e2 e3 e4 hwho HH c1 c2
      generalize hwx : wr.drewN nq = wx at *
      have c0 : wx.cell? ⟨ga, off + k * 4, none⟩ = some (.int .i64 y0) := by rw [← hwx]; exact c0
      clear hwx ht
      go_upto_if 49 with fail
      go_cut [] from 21 to 97 (fun wy => ∃ l', Alone w1 wy b g r l')
      case first =>
        by_cases hd : y0.tmod 2 = 0
        · have hdb : (y0.tmod 2 == 0) = true := by simpa using hd
          clear hd
          by_cases hb : t.by_ = -1
          · rw [if_pos hb, if_pos hb] at HLK
            have hlt0 : t.by_ < 0 := by omega
            go_wp2_with fail
            refine HLK.out.mono ?_
            rintro e w4 ⟨rfl, hm4, ho4⟩
            obtain ⟨d1, d2⟩ := HT.out.cell_only ho4 HTT.out
            have HA4 := hide (HT.out.hand HTT.out who (.inr hw0) hm4 ho4)
            clear hm4 ho4 t1 t2 HLK HFE
            generalize t.by_ = tb at *
            go_wp2_with fail
            go_meet
            exact ⟨_, HA4.out⟩
          · rw [if_neg hb, if_neg hb] at HLK
            have hlt0 : ¬ t.by_ < 0 := by rcases hok.out with h | h <;> omega
            go_wp2_with fail
            refine HLK.out.mono ?_
            rintro e w4 ⟨rfl, hm4, ho4⟩
            obtain ⟨d1, d2⟩ := HT.out.cell_only ho4 HTT.out
            have HA4 := hide (HT.out.stay hm4 ho4)
            clear hm4 ho4 t1 t2 HLK HFE
            generalize t.by_ = tb at *
            go_wp2_with fail
            go_meet
            exact ⟨_, HA4.out⟩
        · have hdb : (y0.tmod 2 == 0) = false := by simpa using hd
          clear hd
          by_cases hb : t.by_ = who
          · rw [if_pos hb, if_pos hb] at HFE
            have hlt0 : (t.by_ == who) = true := by simpa using hb
            go_wp2_with fail
            refine HFE.out.mono ?_
            rintro e w4 ⟨rfl, hm4, ho4⟩
            obtain ⟨d1, d2⟩ := HT.out.cell_only ho4 HTT.out
            have HA4 := hide (HT.out.hand HTT.out (-1) (.inl rfl) hm4 ho4)
            clear hm4 ho4 t1 t2 HLK HFE
            generalize t.by_ = tb at *
            go_wp2_with fail
            go_meet
            exact ⟨_, HA4.out⟩
          · rw [if_neg hb, if_neg hb] at HFE
            have hlt0 : (t.by_ == who) = false := by simpa using hb
            go_wp2_with fail
            refine HFE.out.mono ?_
            rintro e w4 ⟨rfl, hm4, ho4⟩
            obtain ⟨d1, d2⟩ := HT.out.cell_only ho4 HTT.out
            have HA4 := hide (HT.out.stay hm4 ho4)
            clear hm4 ho4 t1 t2 HLK HFE
            generalize t.by_ = tb at *
            go_wp2_with fail
            go_meet
            exact ⟨_, HA4.out⟩
      clear HT HLK HFE HTT t1 t2 c0
      obtain ⟨l', hA'⟩ := hcut
      have HA := hide hA'
      clear hA'
      go_wp2_with fail
      go_hide hQ
      go_loopw [11] (fun i wi => ∃ j : Nat, j ≤ 4 ∧ i = .int .i64 j ∧ Alone w1 wi b g r l') (fun i _ => 4 - (intOf i).toNat)
      case atStart => exact ⟨0, Nat.zero_le _, rfl, HA.out⟩
      case round =>
        obtain ⟨j, hj, rfl, hAi⟩ := hrel
        have HI := hide hAi
        clear hAi HA
        by_cases hj4 : j < 4
        · obtain ⟨t, ht⟩ := Cs.get_in (l := l') (k := (j : Int)) (by omega) (by have := HI.out.len; omega)
          have d1 := (HI.out.cell ht).1
          rw [Int.toNat_natCast] at d1
          have hjj : (j : Int) < 4 := by omega
          have HO : Hid (∀ n, Calls Try.prog 26 #[.pointer (some ⟨b, 0, none⟩), .int .i64 j] (wr.drewN n) fun e w' => e = .returned (.int .i64 t.by_) ∧ wr.drewN n = w') := by
            intro n
            have := holder_c (HI.out.drewN n).held.mem j
            have e : Cs.holder l' j = t.by_ := by simp only [Cs.holder, ht]
            rw [e] at this
            exact this
          have HTT := hide ht
          clear ht
          generalize t.by_ = tb at *
          go_wp2_with fail
          go_quiet ((go_at_call 26; exact quiet_one (HO.out _)))
          have HI2 := hide (HI.out.drewN nq)
          clear HI HO
          go_wp2
          go_roundw
          case rel => exact ⟨j + 1, by omega, by go_num, HI2.out⟩
          case measure => simp [intOf]; omega
        · obtain rfl : j = 4 := by omega
          go_wp2_with fail
          subst hQ
          go_wp2
          go_roundw
          case rel => exact ⟨k + 1, l', by omega, by go_num, HI.out⟩
          case measure => simp [intOf]; omega
    · have hsp : (k < len ∧ ¬ (k : Int) < 200) ∨ ¬ k < len := by omega
      have HBE := hide (HB1.out.trans (HH.out.held.below.mono sz1))
      clear HH
      rcases hsp with ⟨h1, h2⟩ | h1 <;> clear hlt <;> go_wp2_with fail
      all_goals
        go_ret
        exact ⟨rfl, HBE.out⟩
end Go.Proofs.Ytaoonjamlcdfaaa
