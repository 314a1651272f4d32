/-
  The contract of Back.
-/
import Derived.Test.YtmlkoehkodbomaaLed
namespace Go.Proofs.Ytmlkoehkodbomaa
open Go.RowKit

theorem cellsOf_append (l r : List Sp) : cellsOf (l ++ r) = cellsOf l ++ cellsOf r := by simp [cellsOf]

/-- A row that is cut at its end. -/
theorem ownsRow_cut {w : World} {base : Nat} {e : TypeId} {size n m g cap : Nat} {xs ys : List Value} (h : w.ownsRow base e size (.slice (some ⟨g, 0, none⟩) (n + m) cap) (n + m) (xs ++ ys)) (hx : xs.length = n * size) : w.ownsRow base e size (.slice (some ⟨g, 0, none⟩) n cap) n xs := by
  refine ⟨hx, ?_⟩
  rcases h.2 with ⟨h', _⟩ | ⟨g', cap', cur, h', hb, hg, hc, hm, hs, ht⟩
  · simp at h'
  · simp only [Value.slice.injEq, Option.some.injEq, Addr.mk.injEq, and_true, true_and] at h'
    obtain ⟨rfl, rfl⟩ := h'
    refine .inr ⟨g, cap, cur, rfl, hb, hg, by omega, hm, hs, ?_⟩
    have e : xs = (xs ++ ys).take (n * size) := by rw [← hx, List.take_left]
    rw [e, ← ht, List.take_take, Nat.min_eq_left (Nat.mul_le_mul_right _ (by omega))]

/-- The last span goes: the field is stored anew. -/
theorem Led.cut {w : World} {B b g cap : Nat} {f : Int} {r : List Sp} {t : Sp} (h : Led w B b (.slice (some ⟨g, 0, none⟩) (r.length + 1) cap) f (r ++ [t])) (hne : g ≠ b) :
    Led (w.setCell ⟨b, 1, none⟩ (.slice (some ⟨g, 0, none⟩) r.length cap)) B b (.slice (some ⟨g, 0, none⟩) r.length cap) f r := by
  refine ⟨h.hb, h.blk.set_ 1 _, ?_⟩
  have hr := h.row
  rw [List.length_append, List.length_singleton, cellsOf_append] at hr
  exact ownsRow_far (ownsRow_cut hr (cellsOf_length r)) (by simp [Value.ownBlock]; exact hne) _

/-- The last span is shortened. -/
theorem Led.short {w : World} {B b g cap : Nat} {f : Int} {r : List Sp} {t : Sp} (h : Led w B b (.slice (some ⟨g, 0, none⟩) (r.length + 1) cap) f (r ++ [t])) (hne : g ≠ b) (to : Int) :
    Led (w.setCell ⟨g, r.length * 3 + 1, none⟩ (.int .i64 to)) B b (.slice (some ⟨g, 0, none⟩) (r.length + 1) cap) f (r ++ [⟨t.a, to, t.k⟩]) := by
  have hr := h.row
  simp only [List.length_append, List.length_singleton] at hr
  have hs := (hr.stored (r.length * 3 + 1) (.int .i64 to)).1
  refine ⟨h.hb, h.blk.far (p := ⟨g, r.length * 3 + 1, none⟩) (Ne.symm hne) _, ?_⟩
  have e : (cellsOf (r ++ [t])).set (r.length * 3 + 1) (.int .i64 to) = cellsOf (r ++ [⟨t.a, to, t.k⟩]) := by
    rw [cellsOf_snoc, cellsOf_snoc, List.set_append_right _ _ (by rw [cellsOf_length]; omega), cellsOf_length]
    simp
  rw [e] at hs
  simpa using hs

/-- Refused. -/
theorem back_bad {w : World} {B b : Nat} {sv : Value} {f : Int} {l : List Sp} (h : Led w B b sv f l) (to : Int) (hbad : to < 0) :
    Calls Try.prog 21 #[.pointer (some ⟨b, 0, none⟩), .int .i64 to] w (Turned B b sv f (Lg.backL f l to) (Lg.backE f l to) w) := by
  have hl : l = Lg.backL f l to := by unfold Lg.backL; rw [if_pos hbad]
  have hx : (2 : Int) = Lg.backE f l to := by unfold Lg.backE; rw [if_pos hbad]
  have F := hide (fun n => Turned.same h n hl hx)
  have HI := hide (is_c b w _ _ h.blk)
  clear h hl hx
  go_enter Try.func21, Try.ntmps21
  go_wp2_with (first | go_step3 | (go_at_call 32; refine HI.out.mono ?_; rintro e w' ⟨rfl, rfl⟩))
  rw [Exit.noGoto_ret]
  go_ret
  exact F.out 0

theorem back_out {w : World} {B b : Nat} {sv : Value} {f : Int} {l : List Sp} (h : Led w B b sv f l) (hg : Lg.Good f l) (to : Int) (h0 : 0 ≤ to) (hbad : to < f ∨ Lg.fin f l < to) :
    Calls Try.prog 21 #[.pointer (some ⟨b, 0, none⟩), .int .i64 to] w (Turned B b sv f (Lg.backL f l to) (Lg.backE f l to) w) := by
  have hl : l = Lg.backL f l to := by unfold Lg.backL; rw [if_neg (by omega), if_pos hbad]
  have hx : (61 : Int) = Lg.backE f l to := by unfold Lg.backE; rw [if_neg (by omega), if_pos hbad]
  have F := hide (fun n => Turned.same h n hl hx)
  have HI := hide (is_c b w _ _ h.blk)
  have hE := end_c h hg
  have c0 := h.blk.cell 0
  simp at c0
  generalize Lg.fin f l = z at *
  have HE := hide hE
  clear h hg hl hx hE
  by_cases h1 : to < f
  · go_enter Try.func21, Try.ntmps21
    go_wp2_with (first | go_step3 | (go_at_call 32; refine HI.out.mono ?_; rintro e w' ⟨rfl, rfl⟩) | (go_at_call 16; refine HE.out.mono ?_; rintro e w' ⟨rfl, nd, rfl⟩))
    rw [Exit.noGoto_ret]
    go_ret
    exact F.out 0
  · have h2 : z < to := by omega
    clear hbad
    go_enter Try.func21, Try.ntmps21
    go_wp2_with (first | go_step3 | (go_at_call 32; refine HI.out.mono ?_; rintro e w' ⟨rfl, rfl⟩) | (go_at_call 16; refine HE.out.mono ?_; rintro e w' ⟨rfl, nd, rfl⟩))
    rw [Exit.noGoto_ret]
    go_ret
    exact F.out nd

set_option maxHeartbeats 2000000 in
theorem back_in {w : World} {B b : Nat} {sv : Value} {f : Int} {l : List Sp} (h : Led w B b sv f l) (hg : Lg.Good f l) (to : Int) (h0 : 0 ≤ to) (h1 : f ≤ to) (h2 : to ≤ Lg.fin f l) :
    Calls Try.prog 21 #[.pointer (some ⟨b, 0, none⟩), .int .i64 to] w (Turned B b sv f (Lg.pop l to) 0 w) := by
  have HI := hide (is_c b w _ _ h.blk)
  have hE := end_c h hg
  have c0 := h.blk.cell 0
  have c1 := h.blk.cell 1
  simp at c0 c1
  have hlen := hg.len
  obtain ⟨ao, cap, rfl⟩ := h.shape
  generalize Lg.fin f l = z at *
  have HE := hide hE
  have HL := hide h
  clear h hg hE
  go_enter Try.func21, Try.ntmps21
  go_wp2_with (first | go_step3 | (go_at_call 32; refine HI.out.mono ?_; rintro e w' ⟨rfl, rfl⟩) | (go_at_call 16; refine HE.out.mono ?_; rintro e w' ⟨rfl, nd, rfl⟩))
  go_loopw [5] (fun i wr => ∃ (k : Nat) (r : List Sp) (sv' : Value), k = r.length ∧ k ≤ 256 ∧ i = .int .i64 ((k : Int) - 1) ∧ Led wr B b sv' f r ∧ Only (foot b (.slice ao l.length cap)) w wr ∧ sv'.ownBlock = (Value.slice ao l.length cap).ownBlock ∧ Lg.pop l to = Lg.pop r to) (fun i _ => (intOf i + 1).toNat)
  case atStart => exact ⟨l.length, l, _, rfl, hlen, rfl, HL.out.drewN nd, (Only.refl _ _).drewN nd, rfl, rfl⟩
  case round =>
    obtain ⟨k, r, sv', hkr, hk, rfl, hL, hO, hsv, hp⟩ := hrel
    have HP := hide hp
    have HV := hide hsv
    have HO := hide hO
    clear hp hsv hO
    rcases Lg.snoc_cases r with rfl | ⟨r, t, rfl⟩
    · simp only [List.length_nil] at hkr
      subst hkr
      have HLr := hide hL
      clear hL
      go_wp2
      rw [Exit.noGoto_ret]
      go_ret
      refine ⟨rfl, sv', ?_, HO.out, .inl HV.out⟩
      rw [HP.out]
      exact HLr.out
    · simp only [List.length_append, List.length_singleton] at hkr
      obtain ⟨g, cap', rfl, hcap, hlt, hBg, hne, ka, kb, kk, fz⟩ := hL.last
      have b1 := hL.blk.cell 1
      have fb1 := hL.blk.frozen 1
      have fg := fz (r.length * 3 + 1)
      simp at b1
      have HLc := hide (hL.cut hne)
      have HLs := hide (hL.short hne to)
      have HLr := hide hL
      have HPS := hide (Lg.pop_snoc r t to)
      have hgb : foot b (.slice ao l.length cap) g := .inr HV.out.symm
      have HGB := hide hgb
      clear hL fz hgb
      subst hkr
      generalize hm : r.length = m at *
      have HM := hide hm
      clear hm
      obtain ⟨ta, tb, tk⟩ := t
      simp only at ka kb kk
      by_cases h3 : to ≤ ta
      · go_wp2
        go_roundw
        case rel =>
          have e := HPS.out
          rw [if_pos h3] at e
          refine ⟨m, r, .slice (some ⟨g, 0, none⟩) m cap', HM.out.symm, by omega, by go_num, HLc.out, HO.out.setCell (.inl (.inl rfl)) _, HV.out, by rw [HP.out, e]⟩
        case measure => simp [intOf]
      · by_cases h4 : to < tb
        · go_wp2
          go_ret
          refine ⟨rfl, .slice (some ⟨g, 0, none⟩) (m + 1) cap', ?_, HO.out.setCell (.inl HGB.out) _, .inl HV.out⟩
          have e := HPS.out
          rw [if_neg (by omega), if_pos h4] at e
          rw [HP.out, e]
          exact HLs.out
        · go_wp2
          go_ret
          refine ⟨rfl, .slice (some ⟨g, 0, none⟩) (m + 1) cap', ?_, HO.out, .inl HV.out⟩
          have e := HPS.out
          rw [if_neg (by omega), if_neg (by omega)] at e
          rw [HP.out, e]
          exact HLr.out

/-- Back, for every ledger. -/
theorem back_c {w : World} {B b : Nat} {sv : Value} {f : Int} {l : List Sp} (h : Led w B b sv f l) (hg : Lg.Good f l) (to : Int) :
    Calls Try.prog 21 #[.pointer (some ⟨b, 0, none⟩), .int .i64 to] w (Turned B b sv f (Lg.backL f l to) (Lg.backE f l to) w) := by
  by_cases h0 : to < 0
  · exact back_bad h to h0
  · by_cases h1 : to < f ∨ Lg.fin f l < to
    · exact back_out h hg to (by omega) h1
    · have e1 : Lg.backL f l to = Lg.pop l to := by unfold Lg.backL; rw [if_neg h0, if_neg h1]
      have e2 : Lg.backE f l to = 0 := by unfold Lg.backE; rw [if_neg h0, if_neg h1]
      rw [e1, e2]
      exact back_in h hg to (by omega) (by omega) (by omega)

end Go.Proofs.Ytmlkoehkodbomaa
