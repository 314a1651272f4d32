/-
  Contracts of the ledger's small functions.
-/
import Derived.BigQuiet
import Derived.Deep.QuietTactic
import Derived.WalkSpells
import Derived.WalkLawsBesides
import Derived.Test.YtmlkoehkodbomaaWords
import Derived.Test.YtmlkoehkodbomaaModel
import Derived.Test.YtmlkoehkodbomaaProg
namespace Go.Proofs.Ytmlkoehkodbomaa
open Go.RowKit

def cellsOf (l : List Sp) : List Value := l.flatMap fun t => [.int .i64 t.a, .int .i64 t.b, .bool t.k]
theorem cellsOf_length (l : List Sp) : (cellsOf l).length = l.length * 3 := by
  induction l with
  | nil => rfl
  | cons t l ih => simp [cellsOf] at ih ⊢; omega
theorem cellsOf_snoc (l : List Sp) (t : Sp) : cellsOf (l ++ [t]) = cellsOf l ++ [.int .i64 t.a, .int .i64 t.b, .bool t.k] := by simp [cellsOf]
theorem cellsOf_at (l : List Sp) : ∀ (i : Nat) (t : Sp), l[i]? = some t → (cellsOf l)[i * 3]? = some (.int .i64 t.a) ∧ (cellsOf l)[i * 3 + 1]? = some (.int .i64 t.b) ∧ (cellsOf l)[i * 3 + 2]? = some (.bool t.k) := by
  induction l with
  | nil => simp
  | cons u l ih =>
    intro i t h
    cases i with
    | zero => simp at h; subst h; simp [cellsOf]
    | succ i =>
      have := ih i t (by simpa using h)
      have e : cellsOf (u :: l) = [.int .i64 u.a, .int .i64 u.b, .bool u.k] ++ cellsOf l := rfl
      rw [e, List.getElem?_append_right (by simp; omega), List.getElem?_append_right (by simp; omega), List.getElem?_append_right (by simp; omega)]
      simpa [show (i + 1) * 3 - 3 = i * 3 by omega, show (i + 1) * 3 + 1 - 3 = i * 3 + 1 by omega, show (i + 1) * 3 + 2 - 3 = i * 3 + 2 by omega] using this

/-- A ledger in memory, at the head of block b; its spans in the row that sv owns; all from block B on. -/
structure Led (w : World) (B b : Nat) (sv : Value) (f : Int) (l : List Sp) : Prop where
  hb : B ≤ b
  blk : Blk w b 53 #[.int .i64 f, sv, .bool true]
  row : w.ownsRow B 56 3 sv l.length (cellsOf l)

theorem is_c (b : Nat) (w : World) (v0 v1 : Value) (h : Blk w b 53 #[v0, v1, .bool true]) : Calls Try.prog 32 #[.pointer (some ⟨b, 0, none⟩)] w fun e w' => e = .returned (.bool true) ∧ w = w' := by
  have c2 := h.cell 2
  simp at c2
  clear h
  go_enter Try.func32, Try.ntmps32
  go_wp2
  go_ret
  exact ⟨rfl, rfl⟩


theorem from_c (b : Nat) (w : World) (f : Int) (v1 : Value) (h : Blk w b 53 #[.int .i64 f, v1, .bool true]) : Calls Try.prog 25 #[.pointer (some ⟨b, 0, none⟩)] w fun e w' => e = .returned (.int .i64 f) ∧ w = w' := by
  have c0 := h.cell 0
  simp at c0
  have H := hide h
  clear h
  go_enter Try.func25, Try.ntmps25
  go_wp2_with (go_at_call 32; refine (is_c _ _ _ _ H.out).mono ?_; rintro e w' ⟨rfl, rfl⟩)
  go_ret
  exact ⟨rfl, rfl⟩

/-- Among, at a divisor that is no less than 1. -/
def among (x n : Int) : Int := (IntKind.u64.wrap x).tmod n
theorem among_bd (x n : Int) (h : 1 ≤ n) : 0 ≤ among x n ∧ among x n < n := by
  unfold among
  have h0 := wrap_u64_nonneg x
  rw [Int.tmod_eq_emod_of_nonneg h0]
  exact ⟨Int.emod_nonneg _ (by omega), Int.emod_lt_of_pos _ (by omega)⟩
theorem among_wrap (x n : Int) (h : 1 ≤ n) (hn : n ≤ 1000000) : wrap64 ((IntKind.u64.wrap x).tmod n) = among x n := by
  have := among_bd x n h
  show wrap64 (among x n) = among x n
  unfold wrap64
  omega
theorem ret_int {a b : Int} (h : a = b) : Ending.returned (.int .i64 a) = .returned (.int .i64 b) := by rw [h]
theorem ret_bool {a b : Bool} (h : a = b) : Ending.returned (.bool a) = .returned (.bool b) := by rw [h]

theorem among_c (x n : Int) (w : World) (h : 1 ≤ n) (hn : n ≤ 1000000) : Calls Try.prog 10 #[.int .i64 x, .int .i64 n] w fun e w' => e = .returned (.int .i64 (among x n)) ∧ w = w' := by
  go_enter Try.func10, Try.ntmps10
  go_wp2
  go_ret
  exact ⟨ret_int (among_wrap x n h hn), rfl⟩

def offB (x : Int) : Bool := decide (0 ≤ x ∧ x ≤ 1099511627776)
theorem offset_c (x : Int) (w : World) : Calls Try.prog 33 #[.int .i64 x] w fun e w' => e = .returned (.bool (offB x)) ∧ w = w' := by
  go_enter Try.func33, Try.ntmps33
  go_wp2
  all_goals go_ret
  · exact ⟨ret_bool (by unfold offB; have : 0 ≤ x := by assumption
                        simp [this]), rfl⟩
  · exact ⟨ret_bool (by unfold offB; have : x < 0 := by assumption
                        simp; omega), rfl⟩

/-! ### End -/
theorem end_nil (b : Nat) (w : World) (f : Int) (ao : Option Addr) (cap : Nat) (h : Blk w b 53 #[.int .i64 f, .slice ao 0 cap, .bool true]) : Calls Try.prog 16 #[.pointer (some ⟨b, 0, none⟩)] w fun e w' => e = .returned (.int .i64 f) ∧ w = w' := by
  have c1 := h.cell 1
  simp at c1
  have H := hide h
  clear h
  go_enter Try.func16, Try.ntmps16
  go_wp2_with (first | (go_at_call 32; refine (is_c _ _ _ _ H.out).mono ?_; rintro e w' ⟨rfl, rfl⟩) | (go_at_call 25; refine (from_c _ _ _ _ H.out).mono ?_; rintro e w' ⟨rfl, rfl⟩))
  go_ret
  exact ⟨rfl, rfl⟩

theorem end_pos (b g n cap : Nat) (w : World) (f x : Int) (hn : 0 < n) (hm : n ≤ 1000000) (h : Blk w b 53 #[.int .i64 f, .slice (some ⟨g, 0, none⟩) n cap, .bool true]) (hx : w.cell? ⟨g, (n - 1) * 3 + 1, none⟩ = some (.int .i64 x)) : Calls Try.prog 16 #[.pointer (some ⟨b, 0, none⟩)] w fun e w' => e = .returned (.int .i64 x) ∧ ∃ n, w' = w.drewN n := by
  have c1 := h.cell 1
  simp at c1
  have H := hide h
  clear h
  go_enter Try.func16, Try.ntmps16
  go_wp2_with (first | (go_at_call 32; refine (is_c _ _ _ _ H.out).mono ?_; rintro e w' ⟨rfl, rfl⟩) | (go_at_call 25; refine (from_c _ _ _ _ H.out).mono ?_; rintro e w' ⟨rfl, rfl⟩))
  go_quiet (fail)
  go_wp2
  go_ret
  exact ⟨rfl, _, rfl⟩

/-- What a ledger with a span at least looks like in memory. -/
theorem Led.last {w : World} {B b : Nat} {sv : Value} {f : Int} {r : List Sp} {t : Sp} (h : Led w B b sv f (r ++ [t])) : ∃ g cap, sv = .slice (some ⟨g, 0, none⟩) (r.length + 1) cap ∧ r.length + 1 ≤ cap ∧ g < w.heap.size ∧ B ≤ g ∧ g ≠ b ∧
    w.cell? ⟨g, r.length * 3, none⟩ = some (.int .i64 t.a) ∧ w.cell? ⟨g, r.length * 3 + 1, none⟩ = some (.int .i64 t.b) ∧ w.cell? ⟨g, r.length * 3 + 2, none⟩ = some (.bool t.k) ∧ (∀ j, w.frozen? ⟨g, j, none⟩ = false) := by
  have hr := h.row
  simp only [List.length_append, List.length_singleton] at hr
  obtain ⟨g, cap, hv, hc, _, hlt, hB, hcell, hfz⟩ := ownsRow_pos hr (by omega)
  have hat := cellsOf_at (r ++ [t]) r.length t (by simp)
  refine ⟨g, cap, hv, hc, hlt, hB, ?_, hcell _ _ hat.1, hcell _ _ hat.2.1, hcell _ _ hat.2.2, hfz⟩
  intro e
  subst e
  exact own_blk_ne hr h.blk (by decide) (by rw [hv]; rfl)

theorem Led.shape {w : World} {B b : Nat} {sv : Value} {f : Int} {l : List Sp} (h : Led w B b sv f l) : ∃ ao cap, sv = .slice ao l.length cap := by
  obtain ⟨ao, cap, hv, _⟩ := ownsRow_shape h.row
  exact ⟨ao, cap, hv⟩

theorem end_c {w : World} {B b : Nat} {sv : Value} {f : Int} {l : List Sp} (h : Led w B b sv f l) (hg : Lg.Good f l) : Calls Try.prog 16 #[.pointer (some ⟨b, 0, none⟩)] w fun e w' => e = .returned (.int .i64 (Lg.fin f l)) ∧ ∃ n, w' = w.drewN n := by
  rcases Lg.snoc_cases l with rfl | ⟨r, t, rfl⟩
  · obtain ⟨ao, cap, rfl⟩ := h.shape
    exact (end_nil b w f ao cap h.blk).mono fun e w' ⟨he, hw⟩ => ⟨he, 0, hw.symm⟩
  · obtain ⟨g, cap, rfl, _, _, _, _, _, hx, _, _⟩ := h.last
    have hl := hg.len
    simp at hl
    rw [Lg.fin_snoc]
    exact end_pos b g (r.length + 1) cap w f t.b (by omega) (by omega) h.blk (by simpa using hx)

/-! ### A ledger through frames -/
def foot (b : Nat) (sv : Value) (k : Nat) : Prop := k = b ∨ sv.ownBlock = some k
theorem Led.foot_ge {w : World} {B b : Nat} {sv : Value} {f : Int} {l : List Sp} (h : Led w B b sv f l) : ∀ k, foot b sv k → B ≤ k := by
  rintro k (rfl | hk)
  · exact h.hb
  · exact (h.row.lt k hk).1
theorem Led.foot_lt {w : World} {B b : Nat} {sv : Value} {f : Int} {l : List Sp} (h : Led w B b sv f l) : ∀ k, foot b sv k → k < w.heap.size := by
  rintro k (rfl | hk)
  · exact h.blk.lt
  · exact (h.row.lt k hk).2
theorem Led.only {w w' : World} {B b : Nat} {sv : Value} {f : Int} {l : List Sp} {S : Nat → Prop} (h : Led w B b sv f l) (ho : Only S w w') (hs : ∀ k, foot b sv k → ¬ S k) : Led w' B b sv f l :=
  ⟨h.hb, h.blk.only ho (hs b (.inl rfl)), ownsRow_only h.row ho (fun k hk => hs k (.inr hk))⟩
theorem Led.drewN {w : World} {B b : Nat} {sv : Value} {f : Int} {l : List Sp} (h : Led w B b sv f l) (n : Nat) : Led (w.drewN n) B b sv f l := ⟨h.hb, h.blk, h.row⟩

/-- What a call that turns a ledger's spans leaves: its answer x, its new spans, and that nothing else has turned. -/
def Turned (B b : Nat) (sv : Value) (f : Int) (l' : List Sp) (x : Int) (w : World) (e : Ending) (w' : World) : Prop :=
  e = .returned (.int .i64 x) ∧ ∃ sv', Led w' B b sv' f l' ∧ Only (foot b sv) w w' ∧ (sv'.ownBlock = sv.ownBlock ∨ ∃ k, sv'.ownBlock = some k ∧ w.heap.size ≤ k)

theorem Turned.same {w : World} {B b : Nat} {sv : Value} {f : Int} {l l' : List Sp} {x y : Int} (h : Led w B b sv f l) (n : Nat) (hl : l = l') (hx : x = y) : Turned B b sv f l' y w (.returned (.int .i64 x)) (w.drewN n) := by
  subst hl
  exact ⟨by rw [hx], sv, h.drewN n, (Only.refl _ _).drewN n, .inl rfl⟩

theorem entry_info : (Try.prog.info? 56).map (fun i => (i.zero, i.size, i.bytes)) = some (some (.agg #[.int .i64 0, .int .i64 0, .bool false]), 3, 24) := by kernel_rfl

end Go.Proofs.Ytmlkoehkodbomaa
