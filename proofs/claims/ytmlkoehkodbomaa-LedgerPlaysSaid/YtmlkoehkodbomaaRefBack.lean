/-
  The contract of the reference's Back.
-/
import Derived.Deep.RegionHeld3
import Derived.Test.YtmlkoehkodbomaaRefAdd
namespace Go.Proofs.Ytmlkoehkodbomaa
open Go.RowKit

theorem rback_bad {w : World} {B b : Nat} {vl vk : Value} {f : Int} {l : List Sp} (h : Rf w B b vl vk f l) (to : Int) (hbad : to < 0) :
    Calls Try.prog 22 #[.pointer (some ⟨b, 0, none⟩), .int .i64 to] w (Turned2 B b vl vk f (Lg.backL f l to) (Lg.backE f l to) w) := by
  have hl : l = Lg.backL f l to := by unfold Lg.backL; rw [if_pos hbad]
  have hx : (2 : Int) = Lg.backE f l to := by unfold Lg.backE; rw [if_pos hbad]
  have F := hide (fun n => Turned2.same h n hl hx)
  clear h hl hx
  go_enter Try.func22, Try.ntmps22
  go_wp2
  go_ret
  exact F.out 0

theorem rback_out {w : World} {B b : Nat} {vl vk : Value} {f : Int} {l : List Sp} (h : Rf w B b vl vk f l) (hg : Lg.Good f l) (to : Int) (h0 : 0 ≤ to) (hbad : to < f ∨ Lg.fin f l < to) :
    Calls Try.prog 22 #[.pointer (some ⟨b, 0, none⟩), .int .i64 to] w (Turned2 B b vl vk f (Lg.backL f l to) (Lg.backE f l to) w) := by
  have hl : l = Lg.backL f l to := by unfold Lg.backL; rw [if_neg (by omega), if_pos hbad]
  have hx : (61 : Int) = Lg.backE f l to := by unfold Lg.backE; rw [if_neg (by omega), if_pos hbad]
  have F := hide (fun n => Turned2.same h n hl hx)
  have hE := rend_c h hg
  have c0 := h.blk.cell 0
  simp at c0
  generalize Lg.fin f l = z at *
  have HE := hide hE
  clear h hg hl hx hE
  by_cases h1 : to < f
  · go_enter Try.func22, Try.ntmps22
    go_wp2_with (go_at_call 19; refine HE.out.mono ?_; rintro e w' ⟨rfl, nd, rfl⟩)
    go_ret
    exact F.out 0
  · have h2 : z < to := by omega
    clear hbad
    go_enter Try.func22, Try.ntmps22
    go_wp2_with (go_at_call 19; refine HE.out.mono ?_; rintro e w' ⟨rfl, nd, rfl⟩)
    go_ret
    exact F.out nd

namespace Lg
theorem cut_one (t : Sp) (to : Int) : cut [t] to = if t.a < to then [⟨t.a, if t.b ≤ to then t.b else to, t.k⟩] else [] := by
  by_cases h : t.a < to <;> simp [cut, h]
theorem cut_take_succ (l : List Sp) (k : Nat) (t : Sp) (to : Int) (h : l[k]? = some t) : cut (l.take (k + 1)) to = cut (l.take k) to ++ (if t.a < to then [⟨t.a, if t.b ≤ to then t.b else to, t.k⟩] else []) := by
  obtain ⟨hk, rfl⟩ := List.getElem?_eq_some_iff.1 h
  rw [List.take_succ_eq_append_getElem hk, cut_append, cut_one]
theorem length_cut (l : List Sp) (to : Int) : (cut l to).length ≤ l.length := by
  simp only [cut, List.length_map]
  exact List.length_filter_le _ _
end Lg

theorem ownsRow_base {w : World} {B B' : Nat} {e : TypeId} {size n : Nat} {v : Value} {xs : List Value} (h : w.ownsRow B e size v n xs) (hB : B' ≤ B) : w.ownsRow B' e size v n xs := by
  refine ⟨h.1, ?_⟩
  rcases h.2 with h2 | ⟨g, cap, cur, h1, h2, h3⟩
  · exact .inl h2
  · exact .inr ⟨g, cap, cur, h1, Nat.le_trans hB h2, h3⟩

/-- Behind the first append of a round: the other row, and that nothing old has turned. -/
theorem slide {w wr : World} {u5 u6 : Value} {n : Nat} {xs ys : List Value} (h : wr.ownsRow w.heap.size 48 2 u5 n xs) (hq : wr.ownsRow w.heap.size 4 1 u6 n ys) (hB : Below w.heap.size w wr) (a : Int) {g g' b : Nat} (_hg : g < w.heap.size) (_hg' : g' < w.heap.size) (_hb : b < w.heap.size) :
    ∀ (v' : Value) (w2 : World) (o : Obj) (m : Int), w2.ownsRow w.heap.size 48 2 v' (n + 1) (xs ++ [.int .i64 a, .int .i64 m]) → (wr.alloc o).drew.grownBy w2 u5.ownBlock →
      w2.ownsRow w.heap.size 4 1 u6 n ys ∧ Below w.heap.size w w2 ∧ (∀ p : Addr, p.block < w.heap.size → w2.cell? p = w.cell? p) := by
  intro v' w2 o m hown hgr
  have hB2 : Below w.heap.size w w2 := ((hB.alloc hB.size o).drew).grown hgr (by have := hB.size; simp; omega) (fun k hk => (h.lt k hk).1)
  refine ⟨?_, hB2, fun p hp => hB2.cell hp⟩
  refine ((hq.alloc o).drew).kept hgr ?_
  cases hv : u6.ownBlock with
  | none => exact .inl rfl
  | some k => exact .inr (fun e => own_own_ne hq h (by decide) k hv e.symm)

/-- Behind the second. -/
theorem rows_on {w2 w4 : World} {B1 B2 : Nat} {v' u6 : Value} {n m : Nat} {xs ys : List Value} {o : Obj} (h : w2.ownsRow B1 48 2 v' m xs) (hq : w2.ownsRow B2 4 1 u6 n ys) (hgr : (w2.alloc o).grownBy w4 u6.ownBlock) : w4.ownsRow B1 48 2 v' m xs := by
  refine (h.alloc o).kept hgr ?_
  cases hv : v'.ownBlock with
  | none => exact .inl rfl
  | some k => exact .inr (fun e => own_own_ne h hq (by decide) k hv e.symm)

/-- Behind the two stores at the end. -/
theorem stored2 {w wr : World} {B b : Nat} {vl vk u5 u6 : Value} {f : Int} {l l' : List Sp} (h : Rf w B b vl vk f l) (hB : B ≤ w.heap.size) (h5 : wr.ownsRow w.heap.size 48 2 u5 l'.length (pairs l')) (h6 : wr.ownsRow w.heap.size 4 1 u6 l'.length (kinds l')) (hb : Below w.heap.size w wr) :
    Turned2 B b vl vk f l' 0 w (.returned (.int .i64 0)) ((wr.setCell ⟨b, 1, none⟩ u5).setCell ⟨b, 2, none⟩ u6) := by
  have hbr : Blk wr b 59 #[.int .i64 f, vl, vk] := h.blk.below hb h.blk.lt
  have n5 : u5.ownBlock ≠ some b := own_blk_ne h5 hbr (by decide)
  have n6 : u6.ownBlock ≠ some b := own_blk_ne h6 hbr (by decide)
  refine ⟨rfl, u5, u6, ⟨h.hb, (hbr.set_ 1 u5).set_ 2 u6, ownsRow_base (ownsRow_far (ownsRow_far h5 n5 u5) n5 u6) hB, ownsRow_base (ownsRow_far (ownsRow_far h6 n6 u5) n6 u6) hB⟩, ?_⟩
  have ho : Only (foot2 b vl vk) w wr := ⟨hb.os, hb.tape, hb.output, hb.size, fun k hk _ => hb.block k hk⟩
  exact (ho.setCell (.inl (.inl rfl)) u5).setCell (.inl (.inl rfl)) u6

set_option maxRecDepth 100000 in
set_option maxHeartbeats 2000000 in
theorem rback_in {w : World} {B b : Nat} {vl vk : Value} {f : Int} {l : List Sp} (h : Rf w B b vl vk f l) (hg : Lg.Good f l) (hB : B ≤ w.heap.size) (to : Int) (h0 : 0 ≤ to) (h1 : f ≤ to) (h2 : to ≤ Lg.fin f l) :
    Calls Try.prog 22 #[.pointer (some ⟨b, 0, none⟩), .int .i64 to] w (Turned2 B b vl vk f (Lg.cut l to) 0 w) := by
  obtain ⟨i0, hi, hz0, hz1, hz2⟩ := info_parts span_info
  obtain ⟨j0, hj, hy0, hy1, hy2⟩ := info_parts bool_info
  have hlen := hg.len
  have hE := rend_c h hg
  have hbl := h.blk.lt
  have HR := hide h
  obtain ⟨ao, cap, ak, capk, rfl, rfl⟩ := h.shape
  have c0 := h.blk.cell 0
  have c1 := h.blk.cell 1
  have c2 := h.blk.cell 2
  simp at c0 c1 c2
  have K : ∀ k t, l[k]? = some t → ∃ g g', ao = some ⟨g, 0, none⟩ ∧ ak = some ⟨g', 0, none⟩ ∧ g < w.heap.size ∧ g' < w.heap.size ∧ w.cell? ⟨g, k * 2, none⟩ = some (.int .i64 t.a) ∧ w.cell? ⟨g, k * 2 + 1, none⟩ = some (.int .i64 t.b) ∧ w.cell? ⟨g', k, none⟩ = some (.bool t.k) := by
    intro k t ht
    have hpos : 0 < l.length := by obtain ⟨h', _⟩ := List.getElem?_eq_some_iff.1 ht; omega
    obtain ⟨g, _, e1, _, _, hg, _, k1, _⟩ := ownsRow_pos h.rowL hpos
    obtain ⟨g', _, e2, _, _, hg', _, k2, _⟩ := ownsRow_pos h.rowK hpos
    simp only [Value.slice.injEq] at e1 e2
    have hat := pairs_at l k t ht
    exact ⟨g, g', e1.1, e2.1, hg, hg', k1 _ _ hat.1, k1 _ _ hat.2, k2 _ _ (kinds_at l k t ht)⟩
  have HK := hide K
  have HC0 := hide c0
  have HC1 := hide c1
  have HC2 := hide c2
  generalize Lg.fin f l = z at *
  have HE := hide hE
  clear h K c1 c2 hE hg
  go_enter Try.func22, Try.ntmps22
  go_wp2_with (go_at_call 19; refine HE.out.mono ?_; rintro e w' ⟨rfl, nd, rfl⟩)
  have hA := (show Below w.heap.size w (w.drewN nd) from below_drewN (Below.refl _ _) nd)
  have hB1 : Below w.heap.size w (((w.drewN nd).alloc (.cells #[] 48)).alloc (.cells #[] 4)) := (hA.alloc (Nat.le_refl _) _).alloc (by simp) _
  have hL0 := (World.ownsRow_lit (base := w.heap.size) (e := 48) (size := 2) (w.drewN nd) #[] 0 (Nat.le_refl _) (by simp [maxLen]) rfl).alloc (.cells #[] 4)
  have hK0 := World.ownsRow_lit (base := w.heap.size) (e := 4) (size := 1) ((w.drewN nd).alloc (.cells #[] 48)) #[] 0 (by simp) (by simp [maxLen]) rfl
  have HB1 := hide hB1
  have HL0 := hide hL0
  have HK0 := hide hK0
  clear hA hB1 hL0 hK0
  go_loopw [5, 6, 7] (fun v u i wr => ∃ k : Nat, k ≤ l.length ∧ i = .int .i64 k ∧ wr.ownsRow w.heap.size 48 2 v (Lg.cut (l.take k) to).length (pairs (Lg.cut (l.take k) to)) ∧ wr.ownsRow w.heap.size 4 1 u (Lg.cut (l.take k) to).length (kinds (Lg.cut (l.take k) to)) ∧ Below w.heap.size w wr) (fun _ _ i _ => l.length - (intOf i).toNat)
  case atStart => exact ⟨0, Nat.zero_le _, rfl, HL0.out, by have := HK0.out; simp at this; exact this, HB1.out⟩
  case round =>
    obtain ⟨k, hk, rfl, hown, hok, hB⟩ := hrel
    have hsz := hB.size
    have c1 := (hB.cell (p := ⟨b, 1, none⟩) hbl).trans HC1.out
    have c2 := (hB.cell (p := ⟨b, 2, none⟩) hbl).trans HC2.out
    have HB := hide hB
    have HO := hide hown
    have HQ := hide hok
    have hnk : (Lg.cut (l.take k) to).length ≤ 256 := by
      have := Lg.length_cut (l.take k) to
      rw [List.length_take] at this
      omega
    clear hB hown hok
    by_cases hlt : k < l.length
    · obtain ⟨t, ht⟩ : ∃ t, l[k]? = some t := ⟨l[k], List.getElem?_eq_getElem hlt⟩
      obtain ⟨g, g', e1, e2, hg, hg', k1', k2', k3'⟩ := HK.out k t ht
      subst e1 e2
      have k1 := (HB.out.cell (p := ⟨g, k * 2, none⟩) hg).trans k1'
      have k2 := (HB.out.cell (p := ⟨g, k * 2 + 1, none⟩) hg).trans k2'
      have k3 := (HB.out.cell (p := ⟨g', k, none⟩) hg').trans k3'
      have HS := hide (Lg.cut_take_succ l k t to ht)
      have K3 := hide k3'
      clear ht k1' k2' k3'
      obtain ⟨ta, tb, tk⟩ := t
      simp only at k1 k2 k3 HS K3
      by_cases h3 : ta < to
      · have ag : u5.ownBlock ≠ some b := fun e => by have := (HO.out.lt b e).1; omega
        have ak : u5.ownBlock ≠ some g := fun e => by have := (HO.out.lt g e).1; omega
        have lb : b < wr.heap.size := by omega
        have lg : g < wr.heap.size := by omega
        have hi0' : (0 : Int) ≤ (k : Int) := Int.natCast_nonneg _
        have hi1 : (k : Int) < (l.length : Int) := by omega
        by_cases h4 : to < tb
        · have h5 : ¬ tb ≤ to := by omega
          go_wp2_with fail
          go_region_held3 (fun w' => w'.cell? ⟨b, 1, none⟩ = some (.slice (some ⟨g, 0, none⟩) l.length cap) ∧ w'.cell? ⟨g, k * 2, none⟩ = some (.int .i64 ta) ∧ w'.cell? ⟨g, k * 2 + 1, none⟩ = some (.int .i64 tb))
            (first
              | go_keep
              | (go_split_ands
                 refine ⟨?_, ?_, ?_⟩
                 · (rw [hgrow.cell_far _ (by simp; omega) (Ne.symm ag)]; assumption)
                 · (rw [hgrow.cell_far _ (by simp; omega) (Ne.symm ak)]; assumption)
                 · (rw [hgrow.cell_far _ (by simp; omega) (Ne.symm ak)]; assumption)))
            ((refine step_append_lies _ (by rfl) _ _ _ (by rfl) w.heap.size 48 i0 _ 2 16 Try.underlying29 hi hz0 hz1 hz2 rfl (by omega) u5 _ _ (by rfl) ((HO.out.alloc _).drew) ⟨wr.heap.size, 0, none⟩ 1 1 [.int .i64 ta, .int .i64 to] (by rfl) (by rfl) (World.news_of_block (cs := #[.int .i64 ta, .int .i64 to]) (t := 48) (fr := (0, 0)) (heap_alloc_new wr _)) (by simp [Value.oneCell']) (by omega) (by simp only [maxLen]; omega) (by omega) (by simp; omega) (wr.heap.size + 1) (by simp) ?_; intro gg cap5 w2 hown2 hgrow hat hlt2))
          have SL := hide (slide HO.out HQ.out HB.out ta hg hg' hbl (.slice (some ⟨gg, 0, none⟩) _ cap5) w2 _ to hown2 hgrow)
          obtain ⟨j2, j3, j4⟩ := SL.out
          have J1 := hide hown2
          have J2 := hide j2
          have J3 := hide j3
          have hsz2 := j3.size
          have d2 := (j4 ⟨b, 2, none⟩ hbl).trans HC2.out
          have d3 := (j4 ⟨g', k, none⟩ hg').trans K3.out
          clear SL hown2 hgrow hat hlt2 j2 j3 j4 ag ak
          go_wp2_with (at_builtin; refine wpList_append_own _ rfl (.tmp 65) (.tmp 73) 57 rfl w.heap.size 4 j0 _ 1 1 Try.underlying57 hj hy0 hy1 hy2 rfl (by decide) _ _ _ rfl (J2.out.alloc _) ⟨w2.heap.size, 0, none⟩ 1 1 [.bool tk] rfl rfl (cells_new _ [.bool tk] _) (by simp [Value.oneCell']) (by simp only [maxLen]; omega) (by omega) (by simp; omega) ?_; intro v'' w4 hown4 hgr4 _; have J4 := hide hown4; have J5 := hide hgr4; clear hown4 hgr4)
          go_roundw
          case rel =>
            have e := HS.out
            rw [if_pos h3, if_neg (by omega)] at e
            refine ⟨k + 1, by omega, by go_num, ?_, ?_, (J3.out.alloc J3.out.size _).grown J5.out (by simp; omega) (fun j hj => (J2.out.lt j hj).1)⟩
            · rw [e, pairs_snoc, List.length_append, List.length_singleton]; exact rows_on J1.out J2.out J5.out
            · rw [e, kinds_snoc, List.length_append, List.length_singleton]; exact J4.out
          case measure => simp [intOf]; omega
        · have h5 : tb ≤ to := by omega
          go_wp2_with fail
          have h6 : ¬ to < tb := by omega
          go_region_held3 (fun w' => w'.cell? ⟨b, 1, none⟩ = some (.slice (some ⟨g, 0, none⟩) l.length cap) ∧ w'.cell? ⟨g, k * 2, none⟩ = some (.int .i64 ta) ∧ w'.cell? ⟨g, k * 2 + 1, none⟩ = some (.int .i64 tb))
            (first
              | go_keep
              | (go_split_ands
                 refine ⟨?_, ?_, ?_⟩
                 · (rw [hgrow.cell_far _ (by simp; omega) (Ne.symm ag)]; assumption)
                 · (rw [hgrow.cell_far _ (by simp; omega) (Ne.symm ak)]; assumption)
                 · (rw [hgrow.cell_far _ (by simp; omega) (Ne.symm ak)]; assumption)))
            ((refine step_append_lies _ (by rfl) _ _ _ (by rfl) w.heap.size 48 i0 _ 2 16 Try.underlying29 hi hz0 hz1 hz2 rfl (by omega) u5 _ _ (by rfl) ((HO.out.alloc _).drew) ⟨wr.heap.size, 0, none⟩ 1 1 [.int .i64 ta, .int .i64 tb] (by rfl) (by rfl) (World.news_of_block (cs := #[.int .i64 ta, .int .i64 tb]) (t := 48) (fr := (0, 0)) (heap_alloc_new wr _)) (by simp [Value.oneCell']) (by omega) (by simp only [maxLen]; omega) (by omega) (by simp; omega) (wr.heap.size + 1) (by simp) ?_; intro gg cap5 w2 hown2 hgrow hat hlt2))
          have SL := hide (slide HO.out HQ.out HB.out ta hg hg' hbl (.slice (some ⟨gg, 0, none⟩) _ cap5) w2 _ tb hown2 hgrow)
          obtain ⟨j2, j3, j4⟩ := SL.out
          have J1 := hide hown2
          have J2 := hide j2
          have J3 := hide j3
          have hsz2 := j3.size
          have d2 := (j4 ⟨b, 2, none⟩ hbl).trans HC2.out
          have d3 := (j4 ⟨g', k, none⟩ hg').trans K3.out
          clear SL hown2 hgrow hat hlt2 j2 j3 j4 ag ak
          go_wp2_with (at_builtin; refine wpList_append_own _ rfl (.tmp 65) (.tmp 73) 57 rfl w.heap.size 4 j0 _ 1 1 Try.underlying57 hj hy0 hy1 hy2 rfl (by decide) _ _ _ rfl (J2.out.alloc _) ⟨w2.heap.size, 0, none⟩ 1 1 [.bool tk] rfl rfl (cells_new _ [.bool tk] _) (by simp [Value.oneCell']) (by simp only [maxLen]; omega) (by omega) (by simp; omega) ?_; intro v'' w4 hown4 hgr4 _; have J4 := hide hown4; have J5 := hide hgr4; clear hown4 hgr4)
          go_roundw
          case rel =>
            have e := HS.out
            rw [if_pos h3, if_pos (by omega)] at e
            refine ⟨k + 1, by omega, by go_num, ?_, ?_, (J3.out.alloc J3.out.size _).grown J5.out (by simp; omega) (fun j hj => (J2.out.lt j hj).1)⟩
            · rw [e, pairs_snoc, List.length_append, List.length_singleton]; exact rows_on J1.out J2.out J5.out
            · rw [e, kinds_snoc, List.length_append, List.length_singleton]; exact J4.out
          case measure => simp [intOf]; omega
      · go_wp2
        go_roundw
        case rel =>
          refine ⟨k + 1, by omega, by go_num, ?_, ?_, HB.out⟩
          · rw [HS.out, if_neg (by omega), List.append_nil]; exact HO.out
          · rw [HS.out, if_neg (by omega), List.append_nil]; exact HQ.out
        case measure => simp [intOf]; omega
    · obtain rfl : k = l.length := by omega
      have e1 := HO.out
      have e2 := HQ.out
      rw [List.take_length] at e1 e2
      have F := hide (stored2 HR.out hB e1 e2 HB.out)
      obtain ⟨a5, p5, rfl, _⟩ := ownsRow_shape e1
      obtain ⟨a6, p6, rfl, _⟩ := ownsRow_shape e2
      have hf1 := (HB.out.frozen (p := ⟨b, 1, none⟩) hbl).trans (HR.out.blk.frozen 1)
      have hf2 := (HB.out.frozen (p := ⟨b, 2, none⟩) hbl).trans (HR.out.blk.frozen 2)
      clear e1 e2
      go_wp2
      go_ret
      exact F.out

/-- Back, for every ledger. -/
theorem rback_c {w : World} {B b : Nat} {vl vk : Value} {f : Int} {l : List Sp} (h : Rf w B b vl vk f l) (hg : Lg.Good f l) (hB : B ≤ w.heap.size) (to : Int) :
    Calls Try.prog 22 #[.pointer (some ⟨b, 0, none⟩), .int .i64 to] w (Turned2 B b vl vk f (Lg.backL f l to) (Lg.backE f l to) w) := by
  by_cases h0 : to < 0
  · exact rback_bad h to h0
  · by_cases h1 : to < f ∨ Lg.fin f l < to
    · exact rback_out h hg to (by omega) h1
    · have e1 : Lg.backL f l to = Lg.cut l to := by unfold Lg.backL; rw [if_neg h0, if_neg h1, Lg.pop_cut hg.chain]
      have e2 : Lg.backE f l to = 0 := by unfold Lg.backE; rw [if_neg h0, if_neg h1]
      rw [e1, e2]
      exact rback_in h hg hB to (by omega) (by omega) (by omega)

end Go.Proofs.Ytmlkoehkodbomaa
