/-
  Contracts of the reference's ledger: Add, whole.
-/
import Derived.Test.YtmlkoehkodbomaaRef
namespace Go.Proofs.Ytmlkoehkodbomaa
open Go.RowKit

/-- Behind the append onto L and its store. -/
theorem Rf.pushL {w : World} {B b : Nat} {vl vk : Value} {f : Int} {l : List Sp} (h : Rf w B b vl vk f l) (u : Sp) (nd : Nat) (o : Obj) (v' : Value) (w2 : World)
    (hown : w2.ownsRow B 48 2 v' (l.length + 1) (pairs l ++ [.int .i64 u.a, .int .i64 u.b])) (hgr : ((w.drewN nd).alloc o).grownBy w2 vl.ownBlock) :
    (w2.cell? ⟨b, 1, none⟩ = some vl ∧ w2.cell? ⟨b, 2, none⟩ = some vk ∧ (∀ j, w2.frozen? ⟨b, j, none⟩ = false) ∧ b < w2.heap.size) ∧
    (Blk (w2.setCell ⟨b, 1, none⟩ v') b 59 #[.int .i64 f, v', vk] ∧ (w2.setCell ⟨b, 1, none⟩ v').ownsRow B 48 2 v' (l ++ [u]).length (pairs (l ++ [u])) ∧ (w2.setCell ⟨b, 1, none⟩ v').ownsRow B 4 1 vk l.length (kinds l) ∧ Only (foot2 b vl vk) w (w2.setCell ⟨b, 1, none⟩ v')) := by
  have hbl : vl.ownBlock ≠ some b := own_blk_ne h.rowL h.blk (by decide)
  have hb1 : Blk ((w.drewN nd).alloc o) b 59 #[.int .i64 f, vl, vk] := (show Blk (w.drewN nd) b 59 _ from h.blk).alloc o
  have hb2 : Blk w2 b 59 #[.int .i64 f, vl, vk] := hb1.grown hgr (Ne.symm hbl)
  have hv' : v'.ownBlock ≠ some b := own_blk_ne hown hb2 (by decide)
  have hk1 : ((w.drewN nd).alloc o).ownsRow B 4 1 vk l.length (kinds l) := (show (w.drewN nd).ownsRow B 4 1 vk l.length (kinds l) from h.rowK).alloc o
  have hk2 : w2.ownsRow B 4 1 vk l.length (kinds l) := by
    refine hk1.kept hgr ?_
    cases hv : vk.ownBlock with
    | none => exact .inl rfl
    | some k => exact .inr (fun e => own_own_ne h.rowK h.rowL (by decide) k hv e.symm)
  have hkb : vk.ownBlock ≠ some b := own_blk_ne hk2 hb2 (by decide)
  refine ⟨⟨by have := hb2.cell 1; simpa using this, by have := hb2.cell 2; simpa using this, hb2.frozen, hb2.lt⟩, hb2.set_ 1 v', ?_, ownsRow_far hk2 hkb v', ?_⟩
  · rw [pairs_snoc, List.length_append, List.length_singleton]
    exact ownsRow_far hown hv' v'
  · exact ((((Only.refl _ w).drewN nd).alloc o).grown hgr (fun k _ hk => .inr (.inl hk))).setCell (.inl (.inl rfl)) v'

/-- Behind the append onto Kind and its store. -/
theorem Rf.pushK {w w3 : World} {B b : Nat} {vl vk v' : Value} {f : Int} {l : List Sp} {u : Sp} (hB : B ≤ b) (hb : Blk w3 b 59 #[.int .i64 f, v', vk]) (hl : w3.ownsRow B 48 2 v' (l ++ [u]).length (pairs (l ++ [u]))) (hk : w3.ownsRow B 4 1 vk l.length (kinds l)) (hO : Only (foot2 b vl vk) w w3)
    (o : Obj) (vk' : Value) (w4 : World) (hown : w4.ownsRow B 4 1 vk' (l.length + 1) (kinds l ++ [.bool u.k])) (hgr : (w3.alloc o).grownBy w4 vk.ownBlock) :
    (w4.cell? ⟨b, 2, none⟩ = some vk ∧ w4.frozen? ⟨b, 2, none⟩ = false) ∧ Turned2 B b vl vk f (l ++ [u]) 0 w (.returned (.int .i64 0)) (w4.setCell ⟨b, 2, none⟩ vk') := by
  have hkb : vk.ownBlock ≠ some b := own_blk_ne hk hb (by decide)
  have hb4 : Blk w4 b 59 #[.int .i64 f, v', vk] := (hb.alloc o).grown hgr (Ne.symm hkb)
  have hl4 : w4.ownsRow B 48 2 v' (l ++ [u]).length (pairs (l ++ [u])) := by
    refine (hl.alloc o).kept hgr ?_
    cases hv : v'.ownBlock with
    | none => exact .inl rfl
    | some k => exact .inr (fun e => own_own_ne hl hk (by decide) k hv e.symm)
  have hlb : v'.ownBlock ≠ some b := own_blk_ne hl4 hb4 (by decide)
  have hkb' : vk'.ownBlock ≠ some b := own_blk_ne hown hb4 (by decide)
  refine ⟨⟨by have := hb4.cell 2; simpa using this, hb4.frozen 2⟩, rfl, v', vk', ⟨hB, hb4.set_ 2 vk', ownsRow_far hl4 hlb vk', ?_⟩, ?_⟩
  · rw [kinds_snoc, List.length_append, List.length_singleton]
    exact ownsRow_far hown hkb' vk'
  · exact ((hO.alloc o).grown hgr (fun k _ hk => .inr (.inr hk))).setCell (.inl (.inl rfl)) vk'

theorem cells_new' (w : World) (n : Nat) (hn : n = w.heap.size) (l : List Value) (t : TypeId) : ∀ j u, l[j]? = some u → (w.alloc (.cells l.toArray t)).cell? ((⟨n, 0, none⟩ : Addr).add j) = some u := by
  subst hn
  exact cells_new w l t

set_option maxRecDepth 100000 in
set_option maxHeartbeats 1000000 in
theorem radd_new {w : World} {B b : Nat} {vl vk : Value} {f : Int} {l : List Sp} (h : Rf w B b vl vk f l) (hg : Lg.Good f l) (hB : B ≤ w.heap.size) (to : Int) (k : Bool) (hk : ∀ t, l.getLast? = some t → t.k ≠ k) (hn : l.length < 256) (hto : Lg.fin f l < to) (hmax : to ≤ 1099511627776) :
    Calls Try.prog 20 #[.pointer (some ⟨b, 0, none⟩), .int .i64 to, .bool k] w (Turned2 B b vl vk f (l ++ [⟨Lg.fin f l, to, k⟩]) 0 w) := by
  obtain ⟨i0, hi, hz0, hz1, hz2⟩ := info_parts span_info
  obtain ⟨j0, hj, hy0, hy1, hy2⟩ := info_parts bool_info
  have hE := rend_c h hg
  have P := hide (h.pushL ⟨Lg.fin f l, to, k⟩)
  have hBb := h.hb
  have K := hide (fun (w3 : World) (v' : Value) => Rf.pushK (w := w) (w3 := w3) (vl := vl) (vk := vk) (v' := v') (f := f) (l := l) (u := ⟨Lg.fin f l, to, k⟩) hBb)
  have RL := hide h.rowL
  have hlt := h.blk.lt
  have c1 := h.blk.cell 1
  have c2 := h.blk.cell 2
  simp at c1 c2
  rcases Lg.snoc_cases l with rfl | ⟨r, t, rfl⟩
  · obtain ⟨ao, cap, ak, capk, rfl, rfl⟩ := h.shape
    clear h hg hk
    generalize hfin : Lg.fin f [] = z at *
    have HE := hide hE
    clear hfin hE
    go_enter Try.func20, Try.ntmps20
    go_wp2_with (first | (go_at_call 19; refine HE.out.mono ?_; rintro e w' ⟨rfl, nd, rfl⟩) | (at_builtin; refine wpList_append_own _ rfl (.tmp 52) (.tmp 56) 29 rfl B 48 i0 _ 2 16 Try.underlying29 hi hz0 hz1 hz2 rfl (by decide) (.slice ao 0 cap) 0 [] rfl ((show (w.drewN nd).ownsRow _ _ _ _ _ _ from RL.out).alloc _) ⟨w.heap.size, 0, none⟩ 1 1 [.int .i64 z, .int .i64 to] rfl rfl (cells_new _ [.int .i64 z, .int .i64 to] _) (by simp [Value.oneCell']) (by simp [maxLen]) (by omega) (by simp; omega) ?_; intro v' w2 hown hgr _; obtain ⟨g', cap', rfl⟩ := ownsRow_succ hown; obtain ⟨⟨q1, q2, q3, q4⟩, q5, q6, q7, q8⟩ := P.out nd _ _ w2 hown hgr; have fz1 := q3 1; have fz2 := q3 2; have Q5 := hide q5; have Q6 := hide q6; have Q7 := hide q7; have Q8 := hide q8; have szB := Nat.le_trans hB q8.size; clear hown hgr q3 q5 q6 q7 q8) | (at_builtin; refine wpList_append_own _ rfl (.tmp 64) (.tmp 66) 57 rfl B 4 j0 _ 1 1 Try.underlying57 hj hy0 hy1 hy2 rfl (by decide) (.slice ak 0 capk) 0 [] rfl (Q7.out.alloc _) ⟨w2.heap.size, 0, none⟩ 1 1 [.bool k] rfl rfl (cells_new' _ w2.heap.size (by simp) [.bool k] _) (by simp [Value.oneCell']) (by simp [maxLen]) (by omega) (by simp at szB ⊢; omega) ?_; intro v'' w4 hown hgr _; obtain ⟨g'', cap'', rfl⟩ := ownsRow_succ hown; obtain ⟨⟨s1, s2⟩, s3⟩ := K.out _ _ Q5.out Q6.out Q7.out Q8.out _ _ w4 hown hgr; have S3 := hide s3; clear hown hgr s3))
    go_ret
    exact S3.out
  · obtain ⟨g, cap, g', cap', rfl, rfl, hgb, hgb', hgg, _, ka, kb, kk, fz⟩ := h.last
    have hkk := hk t (by simp)
    have hkt : (t.k == k) = false := by simpa using hkk
    simp only [List.length_append, List.length_singleton] at hn RL P K
    have h256 : (r.length : Int) + 1 < 256 := by omega
    clear h hg hk hkk fz hgb hgb' hgg ka kb
    generalize hfin : Lg.fin f (r ++ [t]) = z at *
    generalize hm : r.length = m at *
    generalize htk : t.k = tk at *
    generalize hcs : pairs (r ++ [t]) = cs at *
    have HE := hide hE
    clear hfin hm htk hcs hE
    go_enter Try.func20, Try.ntmps20
    go_wp2_with (first | (go_at_call 19; refine HE.out.mono ?_; rintro e w' ⟨rfl, nd, rfl⟩) | (at_builtin; refine wpList_append_own _ rfl (.tmp 52) (.tmp 56) 29 rfl B 48 i0 _ 2 16 Try.underlying29 hi hz0 hz1 hz2 rfl (by decide) (.slice (some ⟨g, 0, none⟩) (m + 1) cap) (m + 1) cs rfl ((show (w.drewN nd).ownsRow _ _ _ _ _ _ from RL.out).alloc _) ⟨w.heap.size, 0, none⟩ 1 1 [.int .i64 z, .int .i64 to] rfl rfl (cells_new _ [.int .i64 z, .int .i64 to] _) (by simp [Value.oneCell']) (by simp only [maxLen]; omega) (by omega) (by simp; omega) ?_; intro v' w2 hown hgr _; obtain ⟨g2, cap2, rfl⟩ := ownsRow_succ hown; obtain ⟨⟨q1, q2, q3, q4⟩, q5, q6, q7, q8⟩ := P.out nd _ _ w2 hown hgr; have fz1 := q3 1; have fz2 := q3 2; have Q5 := hide q5; have Q6 := hide q6; have Q7 := hide q7; have Q8 := hide q8; have szB := Nat.le_trans hB q8.size; clear hown hgr q3 q5 q6 q7 q8) | (at_builtin; refine wpList_append_own _ rfl (.tmp 64) (.tmp 66) 57 rfl B 4 j0 _ 1 1 Try.underlying57 hj hy0 hy1 hy2 rfl (by decide) (.slice (some ⟨g', 0, none⟩) (m + 1) cap') (m + 1) (kinds (r ++ [t])) rfl (Q7.out.alloc _) ⟨w2.heap.size, 0, none⟩ 1 1 [.bool k] rfl rfl (cells_new' _ w2.heap.size (by simp) [.bool k] _) (by simp [Value.oneCell']) (by simp only [maxLen]; omega) (by omega) (by simp at szB ⊢; omega) ?_; intro v'' w4 hown hgr _; obtain ⟨g'', cap'', rfl⟩ := ownsRow_succ hown; obtain ⟨⟨s1, s2⟩, s3⟩ := K.out _ _ Q5.out Q6.out Q7.out Q8.out _ _ w4 hown hgr; have S3 := hide s3; clear hown hgr s3))
    go_ret
    exact S3.out


theorem radd_c {w : World} {B b : Nat} {vl vk : Value} {f : Int} {l : List Sp} (h : Rf w B b vl vk f l) (hg : Lg.Good f l) (hB : B ≤ w.heap.size) (to : Int) (k : Bool) :
    Calls Try.prog 20 #[.pointer (some ⟨b, 0, none⟩), .int .i64 to, .bool k] w (Turned2 B b vl vk f (Lg.addL f l to k) (Lg.addE f l to k) w) := by
  by_cases hbad : to ≤ Lg.fin f l ∨ 1099511627776 < to
  · exact radd_bad h hg to k hbad
  · have hto : Lg.fin f l < to := by omega
    have hmax : to ≤ 1099511627776 := by omega
    rcases Lg.snoc_cases l with rfl | ⟨r, t, rfl⟩
    · refine (radd_new h hg hB to k (by simp) (by simp) hto hmax).mono fun e w' hT => hT.of ?_ ?_
      · unfold Lg.addL; rw [if_neg hbad]; rfl
      · unfold Lg.addE; rw [if_neg hbad]; rfl
    · by_cases hk : t.k = k
      · subst hk
        refine (radd_on h hg to (by simpa [Lg.fin_snoc] using hto) hmax).mono fun e w' hT => hT.of ?_ ?_
        · unfold Lg.addL; rw [if_neg hbad]; simp
        · unfold Lg.addE; rw [if_neg hbad]; simp
      · have hlen := hg.len
        simp only [List.length_append, List.length_singleton] at hlen
        by_cases hn : r.length + 1 = 256
        · refine (radd_full h hg to k (by simpa using hk) hn (by simpa [Lg.fin_snoc] using hto) hmax).mono fun e w' hT => hT.of ?_ ?_
          · unfold Lg.addL; rw [if_neg hbad]; simp [hk, hn]
          · unfold Lg.addE; rw [if_neg hbad]; simp [hk, hn]
        · refine (radd_new h hg hB to k (by simpa using hk) (by simp; omega) hto hmax).mono fun e w' hT => hT.of ?_ ?_
          · unfold Lg.addL; rw [if_neg hbad]; simp [hk, hn, Lg.fin_snoc]
          · unfold Lg.addE; rw [if_neg hbad]; simp [hk, hn]

end Go.Proofs.Ytmlkoehkodbomaa
