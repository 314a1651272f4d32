/-
  The contract of the ledger's add, Accept and Skip.
-/
import Derived.Test.YtmlkoehkodbomaaLed
namespace Go.Proofs.Ytmlkoehkodbomaa
open Go.RowKit

/-- Refused: not above the end, or beyond the greatest offset. -/
theorem add_bad {w : World} {B b : Nat} {sv : Value} {f : Int} {l : List Sp} (h : Led w B b sv f l) (hg : Lg.Good f l) (to : Int) (k : Bool) (hbad : to ≤ Lg.fin f l ∨ 1099511627776 < to) :
    Calls Try.prog 30 #[.pointer (some ⟨b, 0, none⟩), .int .i64 to, .bool k] w (Turned B b sv f (Lg.addL f l to k) (Lg.addE f l to k) w) := by
  have hl : l = Lg.addL f l to k := by unfold Lg.addL; rw [if_pos hbad]
  have hx : (2 : Int) = Lg.addE f l to k := by unfold Lg.addE; rw [if_pos hbad]
  have fin : ∀ n, Turned B b sv f (Lg.addL f l to k) (Lg.addE f l to k) w (.returned (.int .i64 2)) (w.drewN n) := fun n => Turned.same h n hl hx
  have hE := hide (end_c h hg)
  obtain ⟨ao, cap, rfl⟩ := h.shape
  have H := hide h.blk
  have c1 := h.blk.cell 1
  simp at c1
  have hlen := hg.len
  generalize hfin : Lg.fin f l = z at hE hbad
  generalize hn : l.length = n at *
  clear hfin hl hx
  have F := hide fin
  clear fin h hn hg
  go_enter Try.func30, Try.ntmps30
  go_wp2_with (first | (go_at_call 16; refine hE.out.mono ?_; rintro e w' ⟨rfl, nd, rfl⟩) | (go_at_call 32; refine (is_c b (w.drewN nd) _ _ H.out).mono ?_; rintro e w' ⟨rfl, rfl⟩))
  · have h1 : z < to := by assumption
    have h2 : 1099511627776 < to := by omega
    go_wp2
    go_ret
    exact F.out _
  · go_wp2
    go_ret
    exact F.out _


/-- The last span goes on. -/
theorem add_on {w : World} {B b : Nat} {sv : Value} {f : Int} {r : List Sp} {t : Sp} (h : Led w B b sv f (r ++ [t])) (hg : Lg.Good f (r ++ [t])) (to : Int) (hto : t.b < to) (hmax : to ≤ 1099511627776) :
    Calls Try.prog 30 #[.pointer (some ⟨b, 0, none⟩), .int .i64 to, .bool t.k] w (Turned B b sv f (r ++ [⟨t.a, to, t.k⟩]) 0 w) := by
  have hE := hide (end_c h hg)
  obtain ⟨g, cap, rfl, hcap, hlt, hBg, hne, ka, kb, kk, fz⟩ := h.last
  have fin : ∀ n, Turned B b (.slice (some ⟨g, 0, none⟩) (r.length + 1) cap) f (r ++ [⟨t.a, to, t.k⟩]) 0 w (.returned (.int .i64 0)) ((w.drewN n).setCell ⟨g, r.length * 3 + 1, none⟩ (.int .i64 to)) := by
    intro n
    have hd := h.drewN n
    have hr := hd.row
    simp only [List.length_append, List.length_singleton] at hr
    have hs := (hr.stored (r.length * 3 + 1) (.int .i64 to)).1
    refine ⟨rfl, .slice (some ⟨g, 0, none⟩) (r.length + 1) cap, ⟨h.hb, hd.blk.far (p := ⟨g, r.length * 3 + 1, none⟩) (Ne.symm hne) _, ?_⟩, ((Only.refl _ _).drewN n).setCell (.inl (.inr rfl)) _, .inl rfl⟩
    have e : (cellsOf (r ++ [t])).set (r.length * 3 + 1) (.int .i64 to) = cellsOf (r ++ [⟨t.a, to, t.k⟩]) := by
      rw [cellsOf_snoc, cellsOf_snoc, List.set_append_right _ _ (by rw [cellsOf_length]; omega), cellsOf_length]
      simp
    rw [e] at hs
    simpa using hs
  have H := hide h.blk
  have F := hide fin
  have c1 := h.blk.cell 1
  simp at c1
  have hlen : r.length + 1 ≤ 256 := by have := hg.len; simpa using this
  have hf1 := fz (r.length * 3 + 1)
  rw [Lg.fin_snoc] at hE
  clear fin h hg fz hne hBg
  generalize hm : r.length = m at *
  generalize hkk : t.k = k at *
  generalize htb : t.b = tb at *
  clear hm hkk htb
  go_enter Try.func30, Try.ntmps30
  go_wp2_with (first | (go_at_call 16; refine hE.out.mono ?_; rintro e w' ⟨rfl, nd, rfl⟩) | (go_at_call 32; refine (is_c b (w.drewN nd) _ _ H.out).mono ?_; rintro e w' ⟨rfl, rfl⟩))
  go_ret
  exact F.out _

theorem add_full {w : World} {B b : Nat} {sv : Value} {f : Int} {r : List Sp} {t : Sp} (h : Led w B b sv f (r ++ [t])) (hg : Lg.Good f (r ++ [t])) (to : Int) (k : Bool) (hk : (t.k == k) = false) (hn : r.length + 1 = 256) (hto : t.b < to) (hmax : to ≤ 1099511627776) :
    Calls Try.prog 30 #[.pointer (some ⟨b, 0, none⟩), .int .i64 to, .bool k] w (Turned B b sv f (r ++ [t]) 4 w) := by
  have hE := hide (end_c h hg)
  obtain ⟨g, cap, rfl, hcap, hlt, hBg, hne, ka, kb, kk, fz⟩ := h.last
  have F := hide (fun n => Turned.same h n rfl (rfl : (4 : Int) = 4))
  have H := hide h.blk
  have c1 := h.blk.cell 1
  simp at c1
  rw [Lg.fin_snoc] at hE
  have h256 : ((r.length : Int) + 1 == 256) = true := by simp; omega
  have hlen : r.length ≤ 256 := by omega
  clear h hg fz hne hBg hn
  generalize hm : r.length = m at *
  generalize hkk : t.k = tk at *
  generalize htb : t.b = tb at *
  clear hm hkk htb
  go_enter Try.func30, Try.ntmps30
  go_wp2_with (first | (go_at_call 16; refine hE.out.mono ?_; rintro e w' ⟨rfl, nd, rfl⟩) | (go_at_call 32; refine (is_c b (w.drewN nd) _ _ H.out).mono ?_; rintro e w' ⟨rfl, rfl⟩))
  go_ret
  exact F.out _


/-- What an append onto the spans and the store behind it leave. -/
theorem appended {w : World} {B b : Nat} {sv : Value} {f : Int} {l : List Sp} (h : Led w B b sv f l) (u : Sp) (nd : Nat) (o : Obj) (v' : Value) (w2 : World)
    (hown : w2.ownsRow B 56 3 v' (l.length + 1) (cellsOf l ++ [.int .i64 u.a, .int .i64 u.b, .bool u.k])) (hgr : ((w.drewN nd).alloc o).grownBy w2 sv.ownBlock) (hat : v'.ownBlock = sv.ownBlock ∨ v'.ownBlock = some ((w.drewN nd).alloc o).heap.size) :
    Turned B b sv f (l ++ [u]) 0 w (.returned (.int .i64 0)) (w2.setCell ⟨b, 1, none⟩ v') := by
  have hbl : sv.ownBlock ≠ some b := own_blk_ne h.row h.blk (by decide)
  have hb2 : Blk w2 b 53 #[.int .i64 f, sv, .bool true] := ((show Blk (w.drewN nd) b 53 _ from h.blk).alloc o).grown hgr (Ne.symm hbl)
  have hv' : v'.ownBlock ≠ some b := own_blk_ne hown hb2 (by decide)
  refine ⟨rfl, v', ⟨h.hb, hb2.set_ 1 v', ?_⟩, ?_, ?_⟩
  · rw [cellsOf_snoc, List.length_append, List.length_singleton]
    exact ownsRow_far hown hv' v'
  · exact ((((Only.refl _ w).drewN nd).alloc o).grown hgr (fun k _ hk => .inr hk)).setCell (.inl (.inl rfl)) v'
  · rcases hat with e | e
    · exact .inl e
    · exact .inr ⟨_, e, by rw [World.size_alloc]; exact Nat.le_succ _⟩

/-- The field's cell behind an append onto the spans. -/
theorem field_kept {w : World} {B b : Nat} {sv : Value} {f : Int} {l : List Sp} (h : Led w B b sv f l) (nd : Nat) (o : Obj) (w2 : World) (hgr : ((w.drewN nd).alloc o).grownBy w2 sv.ownBlock) :
    w2.cell? ⟨b, 1, none⟩ = some sv ∧ w2.frozen? ⟨b, 1, none⟩ = false := by
  have hbl : sv.ownBlock ≠ some b := own_blk_ne h.row h.blk (by decide)
  have hb2 : Blk w2 b 53 #[.int .i64 f, sv, .bool true] := ((show Blk (w.drewN nd) b 53 _ from h.blk).alloc o).grown hgr (Ne.symm hbl)
  exact ⟨by have := hb2.cell 1; simpa using this, hb2.frozen 1⟩

/-- A new span. -/
theorem add_new {w : World} {B b : Nat} {sv : Value} {f : Int} {l : List Sp} (h : Led w B b sv f l) (hg : Lg.Good f l) (hB : B ≤ w.heap.size) (to : Int) (k : Bool) (hk : ∀ t, l.getLast? = some t → t.k ≠ k) (hn : l.length < 256) (hto : Lg.fin f l < to) (hmax : to ≤ 1099511627776) :
    Calls Try.prog 30 #[.pointer (some ⟨b, 0, none⟩), .int .i64 to, .bool k] w (Turned B b sv f (l ++ [⟨Lg.fin f l, to, k⟩]) 0 w) := by
  obtain ⟨i0, hi, hz0, hz1, hz2⟩ := info_parts entry_info
  have hE := hide (end_c h hg)
  have F := hide (appended h ⟨Lg.fin f l, to, k⟩)
  have X := hide (field_kept h)
  have H := hide h.blk
  have R := hide h.row
  have hlt := h.blk.lt
  rcases Lg.snoc_cases l with rfl | ⟨r, t, rfl⟩
  · obtain ⟨ao, cap, rfl⟩ := h.shape
    have c1 := h.blk.cell 1
    simp at c1
    clear h hg hk
    generalize hfin : Lg.fin f [] = z at *
    clear hfin
    go_enter Try.func30, Try.ntmps30
    go_wp2_with (first | (go_at_call 16; refine hE.out.mono ?_; rintro e w' ⟨rfl, nd, rfl⟩) | (go_at_call 32; refine (is_c b (w.drewN nd) _ _ H.out).mono ?_; rintro e w' ⟨rfl, rfl⟩) | (at_builtin; refine wpList_append_own_at _ rfl (.tmp 63) (.tmp 69) 51 rfl B 56 i0 _ 3 24 Try.underlying51 hi hz0 hz1 hz2 rfl (by decide) (.slice ao 0 cap) 0 [] rfl ((show (w.drewN nd).ownsRow _ _ _ _ _ _ from R.out).alloc _) ⟨w.heap.size, 0, none⟩ 1 1 [.int .i64 z, .int .i64 to, .bool k] rfl rfl (cells_new _ [.int .i64 z, .int .i64 to, .bool k] _) (by simp [Value.oneCell']) (by simp [maxLen]) (by omega) (by simp; omega) ?_; intro v' w2 hown hgr _ hat; obtain ⟨g', cap', rfl⟩ := ownsRow_succ hown; obtain ⟨k1, k2⟩ := X.out nd _ w2 hgr; have HO := hide hown; have HG := hide hgr; have HA := hide hat; clear hown hgr hat))
    go_ret
    exact F.out nd _ _ w2 HO.out HG.out HA.out
  · obtain ⟨g, cap, rfl, hcap, hlt', hBg, hne, ka, kb, kk, fz⟩ := h.last
    have c1 := h.blk.cell 1
    simp at c1
    have hkk := hk t (by simp)
    have hkt : (t.k == k) = false := by simpa using hkk
    simp only [List.length_append, List.length_singleton] at hn R X F
    have h256 : ((r.length : Int) + 1 == 256) = false := by simp; omega
    clear h hg hk hkk fz hne hBg ka kb
    generalize hfin : Lg.fin f (r ++ [t]) = z at *
    generalize hm : r.length = m at *
    generalize htk : t.k = tk at *
    generalize hcs : cellsOf (r ++ [t]) = cs at *
    clear hfin hm htk hcs
    go_enter Try.func30, Try.ntmps30
    go_wp2_with (first | (go_at_call 16; refine hE.out.mono ?_; rintro e w' ⟨rfl, nd, rfl⟩) | (go_at_call 32; refine (is_c b (w.drewN nd) _ _ H.out).mono ?_; rintro e w' ⟨rfl, rfl⟩) | (at_builtin; refine wpList_append_own_at _ rfl (.tmp 63) (.tmp 69) 51 rfl B 56 i0 _ 3 24 Try.underlying51 hi hz0 hz1 hz2 rfl (by decide) (.slice (some ⟨g, 0, none⟩) (m + 1) cap) (m + 1) cs rfl ((show (w.drewN nd).ownsRow _ _ _ _ _ _ from R.out).alloc _) ⟨w.heap.size, 0, none⟩ 1 1 [.int .i64 z, .int .i64 to, .bool k] rfl rfl (cells_new _ [.int .i64 z, .int .i64 to, .bool k] _) (by simp [Value.oneCell']) (by simp only [maxLen]; omega) (by omega) (by simp; omega) ?_; intro v' w2 hown hgr _ hat; obtain ⟨g', cap', rfl⟩ := ownsRow_succ hown; obtain ⟨k1, k2⟩ := X.out nd _ w2 hgr; have HO := hide hown; have HG := hide hgr; have HA := hide hat; clear hown hgr hat))
    go_ret
    exact F.out nd _ _ w2 HO.out HG.out HA.out


theorem Turned.of {B b : Nat} {sv : Value} {f : Int} {l l' : List Sp} {x x' : Int} {w : World} {e : Ending} {w' : World} (h : Turned B b sv f l x w e w') (hl : l = l') (hx : x = x') : Turned B b sv f l' x' w e w' := by
  subst hl; subst hx; exact h

/-- add, for every ledger. -/
theorem add_c {w : World} {B b : Nat} {sv : Value} {f : Int} {l : List Sp} (h : Led w B b sv f l) (hg : Lg.Good f l) (hB : B ≤ w.heap.size) (to : Int) (k : Bool) :
    Calls Try.prog 30 #[.pointer (some ⟨b, 0, none⟩), .int .i64 to, .bool k] w (Turned B b sv f (Lg.addL f l to k) (Lg.addE f l to k) w) := by
  by_cases hbad : to ≤ Lg.fin f l ∨ 1099511627776 < to
  · exact add_bad h hg to k hbad
  · have hto : Lg.fin f l < to := by omega
    have hmax : to ≤ 1099511627776 := by omega
    rcases Lg.snoc_cases l with rfl | ⟨r, t, rfl⟩
    · refine (add_new h hg hB to k (by simp) (by simp) hto hmax).mono fun e w' hT => hT.of ?_ ?_
      · unfold Lg.addL; rw [if_neg hbad]; rfl
      · unfold Lg.addE; rw [if_neg hbad]; rfl
    · by_cases hk : t.k = k
      · subst hk
        refine (add_on h hg to (by simpa [Lg.fin_snoc] using hto) hmax).mono fun e w' hT => hT.of ?_ ?_
        · unfold Lg.addL; rw [if_neg hbad]; simp
        · unfold Lg.addE; rw [if_neg hbad]; simp
      · have hlen := hg.len
        simp only [List.length_append, List.length_singleton] at hlen
        by_cases hn : r.length + 1 = 256
        · refine (add_full h hg to k (by simpa using hk) hn (by simpa [Lg.fin_snoc] using hto) hmax).mono fun e w' hT => hT.of ?_ ?_
          · unfold Lg.addL; rw [if_neg hbad]; simp [hk, hn]
          · unfold Lg.addE; rw [if_neg hbad]; simp [hk, hn]
        · refine (add_new h hg hB to k (by simpa using hk) (by simp; omega) hto hmax).mono fun e w' hT => hT.of ?_ ?_
          · unfold Lg.addL; rw [if_neg hbad]; simp [hk, hn, Lg.fin_snoc]
          · unfold Lg.addE; rw [if_neg hbad]; simp [hk, hn]

theorem accept_c {w : World} {B b : Nat} {sv : Value} {f : Int} {l : List Sp} (h : Led w B b sv f l) (hg : Lg.Good f l) (hB : B ≤ w.heap.size) (to : Int) :
    Calls Try.prog 13 #[.pointer (some ⟨b, 0, none⟩), .int .i64 to] w (Turned B b sv f (Lg.addL f l to true) (Lg.addE f l to true) w) := by
  have hA := hide (add_c h hg hB to true)
  clear h hg
  go_enter Try.func13, Try.ntmps13
  go_wp2_with (go_at_call 30; refine hA.out.mono ?_; rintro e w' ⟨rfl, hT⟩; have HT := hide hT; clear hT)
  go_ret
  exact ⟨rfl, HT.out⟩

theorem skip_c {w : World} {B b : Nat} {sv : Value} {f : Int} {l : List Sp} (h : Led w B b sv f l) (hg : Lg.Good f l) (hB : B ≤ w.heap.size) (to : Int) :
    Calls Try.prog 12 #[.pointer (some ⟨b, 0, none⟩), .int .i64 to] w (Turned B b sv f (Lg.addL f l to false) (Lg.addE f l to false) w) := by
  have hA := hide (add_c h hg hB to false)
  clear h hg
  go_enter Try.func12, Try.ntmps12
  go_wp2_with (go_at_call 30; refine hA.out.mono ?_; rintro e w' ⟨rfl, hT⟩; have HT := hide hT; clear hT)
  go_ret
  exact ⟨rfl, HT.out⟩

end Go.Proofs.Ytmlkoehkodbomaa
