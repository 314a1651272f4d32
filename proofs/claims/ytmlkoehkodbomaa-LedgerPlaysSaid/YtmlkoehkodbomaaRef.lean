/-
  Contracts of the reference's ledger: Make, End, Add.
-/
import Derived.Test.YtmlkoehkodbomaaSame
namespace Go.Proofs.Ytmlkoehkodbomaa
open Go.RowKit

def kinds (l : List Sp) : List Value := l.map fun t => .bool t.k
theorem kinds_snoc (l : List Sp) (t : Sp) : kinds (l ++ [t]) = kinds l ++ [.bool t.k] := by simp [kinds]
theorem pairs_at (l : List Sp) (i : Nat) (t : Sp) (h : l[i]? = some t) : (pairs l)[i * 2]? = some (.int .i64 t.a) ∧ (pairs l)[i * 2 + 1]? = some (.int .i64 t.b) := by
  rw [pairs_prs]
  exact prs_at (ends l) i (t.a, t.b) (by simp [ends, h])
theorem pairs_length (l : List Sp) : (pairs l).length = l.length * 2 := by
  induction l with
  | nil => rfl
  | cons t l ih => simp [pairs] at ih ⊢; omega
theorem kinds_at (l : List Sp) (i : Nat) (t : Sp) (h : l[i]? = some t) : (kinds l)[i]? = some (.bool t.k) := by simp [kinds, h]

/-- The reference's ledger in memory. -/
structure Rf (w : World) (B b : Nat) (vl vk : Value) (f : Int) (l : List Sp) : Prop where
  hb : B ≤ b
  blk : Blk w b 59 #[.int .i64 f, vl, vk]
  rowL : w.ownsRow B 48 2 vl l.length (pairs l)
  rowK : w.ownsRow B 4 1 vk l.length (kinds l)

def foot2 (b : Nat) (vl vk : Value) (k : Nat) : Prop := k = b ∨ vl.ownBlock = some k ∨ vk.ownBlock = some k
theorem Rf.foot_ge {w : World} {B b : Nat} {vl vk : Value} {f : Int} {l : List Sp} (h : Rf w B b vl vk f l) : ∀ k, foot2 b vl vk k → B ≤ k := by
  rintro k (rfl | hk | hk)
  · exact h.hb
  · exact (h.rowL.lt k hk).1
  · exact (h.rowK.lt k hk).1
theorem Rf.foot_lt {w : World} {B b : Nat} {vl vk : Value} {f : Int} {l : List Sp} (h : Rf w B b vl vk f l) : ∀ k, foot2 b vl vk k → k < w.heap.size := by
  rintro k (rfl | hk | hk)
  · exact h.blk.lt
  · exact (h.rowL.lt k hk).2
  · exact (h.rowK.lt k hk).2
theorem Rf.only {w w' : World} {B b : Nat} {vl vk : Value} {f : Int} {l : List Sp} {S : Nat → Prop} (h : Rf w B b vl vk f l) (ho : Only S w w') (hs : ∀ k, foot2 b vl vk k → ¬ S k) : Rf w' B b vl vk f l :=
  ⟨h.hb, h.blk.only ho (hs b (.inl rfl)), ownsRow_only h.rowL ho (fun k hk => hs k (.inr (.inl hk))), ownsRow_only h.rowK ho (fun k hk => hs k (.inr (.inr hk)))⟩
theorem Rf.drewN {w : World} {B b : Nat} {vl vk : Value} {f : Int} {l : List Sp} (h : Rf w B b vl vk f l) (n : Nat) : Rf (w.drewN n) B b vl vk f l := ⟨h.hb, h.blk, h.rowL, h.rowK⟩
theorem Rf.later {w w' : World} {B b : Nat} {vl vk : Value} {f : Int} {l : List Sp} (h : Rf w B b vl vk f l) (hb : Below w.heap.size w w') : Rf w' B b vl vk f l :=
  h.only (Only.of_below (S := fun k => w.heap.size ≤ k) hb fun _ h => h) (fun k hk => by have := h.foot_lt k hk; omega)

/-- What a call that turns the reference's spans leaves. -/
def Turned2 (B b : Nat) (vl vk : Value) (f : Int) (l' : List Sp) (x : Int) (w : World) (e : Ending) (w' : World) : Prop :=
  e = .returned (.int .i64 x) ∧ ∃ vl' vk', Rf w' B b vl' vk' f l' ∧ Only (foot2 b vl vk) w w'
theorem Turned2.of {B b : Nat} {vl vk : Value} {f : Int} {l l' : List Sp} {x x' : Int} {w : World} {e : Ending} {w' : World} (h : Turned2 B b vl vk f l x w e w') (hl : l = l') (hx : x = x') : Turned2 B b vl vk f l' x' w e w' := by
  subst hl; subst hx; exact h
theorem Turned2.same {w : World} {B b : Nat} {vl vk : Value} {f : Int} {l l' : List Sp} {x y : Int} (h : Rf w B b vl vk f l) (n : Nat) (hl : l = l') (hx : x = y) : Turned2 B b vl vk f l' y w (.returned (.int .i64 x)) (w.drewN n) := by
  subst hl
  exact ⟨by rw [hx], vl, vk, h.drewN n, (Only.refl _ _).drewN n⟩

/-! ### Make -/
theorem rmake_bad (x : Int) (w : World) (h : offB x = false) : Calls Try.prog 17 #[.int .i64 x] w fun e w' => e = .returned (.tuple #[.pointer none, .int .i64 2]) ∧ w = w' := by
  have HO := hide (offset_c x w)
  rw [h] at HO
  clear h
  go_enter Try.func17, Try.ntmps17
  go_wp2_with (go_at_call 33; refine HO.out.mono ?_; rintro e w' ⟨rfl, rfl⟩)
  go_ret2
  exact ⟨rfl, rfl⟩

theorem rmake_ok (x : Int) (w : World) (h : offB x = true) : Calls Try.prog 17 #[.int .i64 x] w fun e w' => e = .returned (.tuple #[.pointer (some ⟨w.heap.size, 0, none⟩), .int .i64 0]) ∧ Rf w' w.heap.size w.heap.size (.slice none 0 0) (.slice none 0 0) x [] ∧ Below w.heap.size w w' := by
  have HO := hide (offset_c x w)
  rw [h] at HO
  clear h
  have H := hide (Blk.new w 59 #[.int .i64 x, .slice none 0 0, .slice none 0 0])
  go_enter Try.func17, Try.ntmps17
  go_wp2_with (go_at_call 33; refine HO.out.mono ?_; rintro e w' ⟨rfl, rfl⟩)
  go_ret2
  exact ⟨rfl, ⟨Nat.le_refl _, H.out, World.ownsRow_nil _ _ _ _, World.ownsRow_nil _ _ _ _⟩, (Below.refl _ _).alloc (Nat.le_refl _) _⟩

/-! ### End -/
theorem Rf.last {w : World} {B b : Nat} {vl vk : Value} {f : Int} {r : List Sp} {t : Sp} (h : Rf w B b vl vk f (r ++ [t])) : ∃ g cap g' cap', vl = .slice (some ⟨g, 0, none⟩) (r.length + 1) cap ∧ vk = .slice (some ⟨g', 0, none⟩) (r.length + 1) cap' ∧ g ≠ b ∧ g' ≠ b ∧ g ≠ g' ∧ g < w.heap.size ∧
    w.cell? ⟨g, r.length * 2, none⟩ = some (.int .i64 t.a) ∧ w.cell? ⟨g, r.length * 2 + 1, none⟩ = some (.int .i64 t.b) ∧ w.cell? ⟨g', r.length, none⟩ = some (.bool t.k) ∧ (∀ j, w.frozen? ⟨g, j, none⟩ = false) := by
  have hr := h.rowL
  have hk := h.rowK
  simp only [List.length_append, List.length_singleton] at hr hk
  obtain ⟨g, cap, hv, hc, _, hlt, hB, hcell, hfz⟩ := ownsRow_pos hr (by omega)
  obtain ⟨g', cap', hv', hc', _, hlt', hB', hcell', _⟩ := ownsRow_pos hk (by omega)
  have hat := pairs_at (r ++ [t]) r.length t (by simp)
  have hak := kinds_at (r ++ [t]) r.length t (by simp)
  refine ⟨g, cap, g', cap', hv, hv', ?_, ?_, ?_, hlt, hcell _ _ hat.1, hcell _ _ hat.2, hcell' _ _ hak, hfz⟩
  · intro e
    subst e
    exact own_blk_ne hr h.blk (by decide) (by rw [hv]; rfl)
  · intro e
    subst e
    exact own_blk_ne hk h.blk (by decide) (by rw [hv']; rfl)
  · intro e
    subst e
    exact own_own_ne hr hk (by decide) g (by rw [hv]; rfl) (by rw [hv']; rfl)

theorem Rf.shape {w : World} {B b : Nat} {vl vk : Value} {f : Int} {l : List Sp} (h : Rf w B b vl vk f l) : ∃ ao cap ak capk, vl = .slice ao l.length cap ∧ vk = .slice ak l.length capk := by
  obtain ⟨ao, cap, hv, _⟩ := ownsRow_shape h.rowL
  obtain ⟨ak, capk, hk, _⟩ := ownsRow_shape h.rowK
  exact ⟨ao, cap, ak, capk, hv, hk⟩

theorem rend_nil (b : Nat) (w : World) (f : Int) (ao : Option Addr) (cap : Nat) (v2 : Value) (h : Blk w b 59 #[.int .i64 f, .slice ao 0 cap, v2]) : Calls Try.prog 19 #[.pointer (some ⟨b, 0, none⟩)] w fun e w' => e = .returned (.int .i64 f) ∧ w = w' := by
  have c0 := h.cell 0
  have c1 := h.cell 1
  simp at c0 c1
  clear h
  go_enter Try.func19, Try.ntmps19
  go_wp2
  go_ret
  exact ⟨rfl, rfl⟩

theorem rend_pos (b g n cap : Nat) (w : World) (v0 v2 : Value) (x : Int) (hn : 0 < n) (hm : n ≤ 1000000) (h : Blk w b 59 #[v0, .slice (some ⟨g, 0, none⟩) n cap, v2]) (hx : w.cell? ⟨g, (n - 1) * 2 + 1, none⟩ = some (.int .i64 x)) : Calls Try.prog 19 #[.pointer (some ⟨b, 0, none⟩)] w fun e w' => e = .returned (.int .i64 x) ∧ ∃ n, w' = w.drewN n := by
  have c1 := h.cell 1
  simp at c1
  clear h
  go_enter Try.func19, Try.ntmps19
  go_wp2
  go_quiet (fail)
  go_wp2
  go_ret
  exact ⟨rfl, _, rfl⟩

theorem rend_c {w : World} {B b : Nat} {vl vk : Value} {f : Int} {l : List Sp} (h : Rf w B b vl vk f l) (hg : Lg.Good f l) : Calls Try.prog 19 #[.pointer (some ⟨b, 0, none⟩)] w fun e w' => e = .returned (.int .i64 (Lg.fin f l)) ∧ ∃ n, w' = w.drewN n := by
  rcases Lg.snoc_cases l with rfl | ⟨r, t, rfl⟩
  · obtain ⟨ao, cap, ak, capk, rfl, rfl⟩ := h.shape
    exact (rend_nil b w f ao cap _ h.blk).mono fun e w' ⟨he, hw⟩ => ⟨he, 0, hw.symm⟩
  · obtain ⟨g, cap, g', cap', rfl, rfl, _, _, _, _, _, hx, _, _⟩ := h.last
    have hl := hg.len
    simp at hl
    rw [Lg.fin_snoc]
    exact rend_pos b g (r.length + 1) cap w _ _ t.b (by omega) (by omega) h.blk (by simpa using hx)

/-! ### Add -/
theorem bool_info : (Try.prog.info? 4).map (fun i => (i.zero, i.size, i.bytes)) = some (some (.bool false), 1, 1) := by kernel_rfl

theorem radd_bad {w : World} {B b : Nat} {vl vk : Value} {f : Int} {l : List Sp} (h : Rf w B b vl vk f l) (hg : Lg.Good f l) (to : Int) (k : Bool) (hbad : to ≤ Lg.fin f l ∨ 1099511627776 < to) :
    Calls Try.prog 20 #[.pointer (some ⟨b, 0, none⟩), .int .i64 to, .bool k] w (Turned2 B b vl vk f (Lg.addL f l to k) (Lg.addE f l to k) w) := by
  have hl : l = Lg.addL f l to k := by unfold Lg.addL; rw [if_pos hbad]
  have hx : (2 : Int) = Lg.addE f l to k := by unfold Lg.addE; rw [if_pos hbad]
  have F := hide (fun n => Turned2.same h n hl hx)
  have hE := rend_c h hg
  generalize Lg.fin f l = z at hE hbad
  have HE := hide hE
  clear h hg hl hx hE
  go_enter Try.func20, Try.ntmps20
  go_wp2_with (go_at_call 19; refine HE.out.mono ?_; rintro e w' ⟨rfl, nd, rfl⟩)
  · have h1 : z < to := by assumption
    have h2 : 1099511627776 < to := by omega
    go_wp2
    go_ret
    exact F.out _
  · go_wp2
    go_ret
    exact F.out _

theorem Rf.on {w : World} {B b g cap : Nat} {vk : Value} {f : Int} {r : List Sp} {t : Sp} (h : Rf w B b (.slice (some ⟨g, 0, none⟩) (r.length + 1) cap) vk f (r ++ [t])) (to : Int) (hgb : g ≠ b) (hgk : vk.ownBlock ≠ some g) :
    Rf (w.setCell ⟨g, r.length * 2 + 1, none⟩ (.int .i64 to)) B b (.slice (some ⟨g, 0, none⟩) (r.length + 1) cap) vk f (r ++ [⟨t.a, to, t.k⟩]) := by
  have hr := h.rowL
  have hk := h.rowK
  simp only [List.length_append, List.length_singleton] at hr
  have hs := (hr.stored (r.length * 2 + 1) (.int .i64 to)).1
  have e : (pairs (r ++ [t])).set (r.length * 2 + 1) (.int .i64 to) = pairs (r ++ [⟨t.a, to, t.k⟩]) := by
    rw [pairs_snoc, pairs_snoc, List.set_append_right _ _ (by rw [pairs_length]; omega), pairs_length]
    simp
  rw [e] at hs
  refine ⟨h.hb, h.blk.far (p := ⟨g, r.length * 2 + 1, none⟩) (Ne.symm hgb) _, by simpa using hs, ?_⟩
  have e2 : kinds (r ++ [⟨t.a, to, t.k⟩]) = kinds (r ++ [t]) := by simp [kinds]
  rw [e2]
  have := ownsRow_far hk (p := ⟨g, r.length * 2 + 1, none⟩) hgk (.int .i64 to)
  simpa using this

theorem radd_on {w : World} {B b : Nat} {vl vk : Value} {f : Int} {r : List Sp} {t : Sp} (h : Rf w B b vl vk f (r ++ [t])) (hg : Lg.Good f (r ++ [t])) (to : Int) (hto : t.b < to) (hmax : to ≤ 1099511627776) :
    Calls Try.prog 20 #[.pointer (some ⟨b, 0, none⟩), .int .i64 to, .bool t.k] w (Turned2 B b vl vk f (r ++ [⟨t.a, to, t.k⟩]) 0 w) := by
  have hE := rend_c h hg
  obtain ⟨g, cap, g', cap', rfl, rfl, hgb, hgb', hgg, hlt, ka, kb, kk, fz⟩ := h.last
  have fin : ∀ n, Turned2 B b (.slice (some ⟨g, 0, none⟩) (r.length + 1) cap) (.slice (some ⟨g', 0, none⟩) (r.length + 1) cap') f (r ++ [⟨t.a, to, t.k⟩]) 0 w (.returned (.int .i64 0)) ((w.drewN n).setCell ⟨g, r.length * 2 + 1, none⟩ (.int .i64 to)) :=
    fun n => ⟨rfl, _, _, (h.drewN n).on to hgb (by simp [Value.ownBlock]; exact Ne.symm hgg), ((Only.refl _ _).drewN n).setCell (.inl (.inr (.inl rfl))) _⟩
  have F := hide fin
  have c1 := h.blk.cell 1
  have c2 := h.blk.cell 2
  simp at c1 c2
  have hlen : r.length + 1 ≤ 256 := by have := hg.len; simpa using this
  have hf1 := fz (r.length * 2 + 1)
  rw [Lg.fin_snoc] at hE
  have HE := hide hE
  clear fin h hg fz hgb hgb' hgg hE
  generalize hm : r.length = m at *
  generalize hkk : t.k = k at *
  generalize htb : t.b = tb at *
  clear hm hkk htb
  go_enter Try.func20, Try.ntmps20
  go_wp2_with (go_at_call 19; refine HE.out.mono ?_; rintro e w' ⟨rfl, nd, rfl⟩)
  go_ret
  exact F.out _

theorem radd_full {w : World} {B b : Nat} {vl vk : Value} {f : Int} {r : List Sp} {t : Sp} (h : Rf w B b vl vk f (r ++ [t])) (hg : Lg.Good f (r ++ [t])) (to : Int) (k : Bool) (hk : (t.k == k) = false) (hn : r.length + 1 = 256) (hto : t.b < to) (hmax : to ≤ 1099511627776) :
    Calls Try.prog 20 #[.pointer (some ⟨b, 0, none⟩), .int .i64 to, .bool k] w (Turned2 B b vl vk f (r ++ [t]) 4 w) := by
  have hE := rend_c h hg
  obtain ⟨g, cap, g', cap', rfl, rfl, hgb, hgb', hgg, hlt, ka, kb, kk, fz⟩ := h.last
  have F := hide (fun n => Turned2.same h n rfl (rfl : (4 : Int) = 4))
  have c1 := h.blk.cell 1
  have c2 := h.blk.cell 2
  simp at c1 c2
  rw [Lg.fin_snoc] at hE
  have HE := hide hE
  have hlen : r.length ≤ 256 := by omega
  have h256 : (256 : Int) ≤ (r.length : Int) + 1 := by omega
  clear h hg fz hgb hgb' hgg hn hE
  generalize hm : r.length = m at *
  generalize hkk : t.k = tk at *
  generalize htb : t.b = tb at *
  clear hm hkk htb
  go_enter Try.func20, Try.ntmps20
  go_wp2_with (go_at_call 19; refine HE.out.mono ?_; rintro e w' ⟨rfl, nd, rfl⟩)
  go_ret
  exact F.out _

end Go.Proofs.Ytmlkoehkodbomaa
