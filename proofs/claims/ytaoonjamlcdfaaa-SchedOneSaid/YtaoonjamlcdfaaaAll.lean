/-
  The contracts of numbers (the iterator over the cells' numbers) and All.
-/
import Derived.Test.YtaoonjamlcdfaaaWorks
namespace Go.Proofs.Ytaoonjamlcdfaaa
open Go.RowKit Go.Shelf

attribute [local go_sem] Oper.semAt_some

def numsOf (l : List Cl) : List Int := l.map (·.v)
theorem numsOf_take_succ (l : List Cl) (k : Nat) (t : Cl) (h : l[k]? = some t) : numsOf (l.take (k + 1)) = numsOf (l.take k) ++ [t.v] := by
  obtain ⟨hk, rfl⟩ := List.getElem?_eq_some_iff.1 h
  unfold numsOf
  rw [List.take_succ_eq_append_getElem hk, List.map_append]
  rfl
def encInt (x : Int) : Array Value := #[.int .i64 x]
def intsOf (l : List Int) : List Value := l.map fun x => .int .i64 x
theorem intsOf_snoc (l : List Int) (x : Int) : intsOf (l ++ [x]) = intsOf l ++ [.int .i64 x] := by simp [intsOf]

set_option maxRecDepth 100000 in
set_option maxHeartbeats 2000000 in
theorem numbers1_in (F : Fence) (n : Nat) (h7 : F.fn 77) (hro : F.round = none) (hn : 1 ≤ n) (y B1 b g n₀ cap : Nat) (l : List Cl) (hlen : l.length ≤ 64) (hgn : g < n₀) (J Jx : List Int → World → Prop) (Kp : World → World → Prop) (hK1 : ∀ A B, Kp A B → Below n₀ A B)
    (W : World) (hn₀ : n₀ ≤ W.heap.size) (hJ : AbidesFrom W.heap.size J)
    (hY : ∀ pre x W, J pre W → pre.length < l.length → YieldAt F (n - 1) Try.prog y (encInt x) W fun e W' =>
      (e = .returned (.bool true) ∧ J (pre ++ [x]) W' ∧ Kp W W') ∨ (e = .returned (.bool false) ∧ Jx (pre ++ [x]) W'))
    (h1 : W.cell? ⟨B1, 0, none⟩ = some (.pointer (some ⟨b, 0, none⟩))) (hb : Blk W b 84 #[.slice (some ⟨g, 0, none⟩) l.length cap])
    (hc : ∀ j t, l[j]? = some t → W.cell? ⟨g, j * 3, none⟩ = some (.int .i64 t.v) ∧ W.cell? ⟨g, j * 3 + 1, none⟩ = some (.int .i64 t.by_) ∧ W.cell? ⟨g, j * 3 + 2, none⟩ = some (.int .i64 t.wr)) (h0 : J [] W) :
    CallsIn F n Try.prog 77 #[.func (.yield y) #[] #[], .pointer (some ⟨B1, 0, none⟩)] W fun e W' => (∃ v, e = .returned v) ∧
      ((∃ ys, ys = numsOf l ∧ J ys W') ∨ (∃ pre, True ∧ Jx pre W')) := by
  have hb1 := hb.cell 0
  simp at hb1
  clear hb
  have HC := hide hc
  have HJ := hide hJ
  have HY := hide hY
  have HK1 := hide hK1
  clear hc hJ hY hK1
  refine callsIn_of_wp Try.func77 rfl h7 ?_ hro
  simp only [Try.ntmps77, List.size_toArray, List.length_cons, List.length_nil, Nat.reduceAdd, Nat.reduceSub, Array.replicate_succ, Array.replicate_zero, List.push_toArray, List.append_toArray, List.nil_append, List.cons_append]
  gi_wp2
  gi_loopw [10] (fun i wr => ∃ k : Nat, k ≤ l.length ∧ i = .int .i64 k ∧ J (numsOf (l.take k)) wr ∧ Below n₀ W wr)
    (fun i _ => l.length - (intOf i).toNat)
  case atStart => exact ⟨0, Nat.zero_le _, rfl, h0, Below.refl _ _⟩
  case round =>
    obtain ⟨k, hk, rfl, hJs, hnx⟩ := hrel
    by_cases hlt : k < l.length
    · obtain ⟨t, ht⟩ : ∃ t, l[k]? = some t := ⟨l[k], List.getElem?_eq_getElem hlt⟩
      obtain ⟨e1, e2, e3⟩ := HC.out k t ht
      have c1 := (hnx.cell (p := ⟨g, k * 3, none⟩) hgn).trans e1
      have c2 := (hnx.cell (p := ⟨g, k * 3 + 1, none⟩) hgn).trans e2
      have c3 := (hnx.cell (p := ⟨g, k * 3 + 2, none⟩) hgn).trans e3
      have HS := hide (numsOf_take_succ l k t ht)
      have HL : (numsOf (l.take k)).length < l.length := by simp [numsOf]; omega
      clear e1 e2 e3 ht
      obtain ⟨v, by_, wr_⟩ := t
      simp only at c1 c2 c3 HS
      have hsz := Nat.le_trans hn₀ hnx.size
      have HN := hide ((Below.refl n₀ wr).alloc hsz (.cells #[.int .i64 v, .int .i64 by_, .int .i64 wr_] 82))
      have HJ2 := hide (HJ.out _ _ _ none hJs (World.grownBy_alloc wr (.cells #[.int .i64 v, .int .i64 by_, .int .i64 wr_] 82) none) (fun r e => by cases e))
      obtain ⟨fn, tmps, assign, body, hy, hR⟩ := HY.out _ v _ HJ2.out HL
      dsimp only [encInt] at hy
      have HR := hide hR
      clear hR
      gi_wp2
      refine HR.out.mono ?_
      rintro e W3 (⟨rfl, hJ3, hk3⟩ | ⟨rfl, hJx3⟩)
      · have HB3 := hide (HK1.out _ _ hk3)
        clear hk3
        gi_wp2
        go_roundw
        case rel =>
          refine ⟨k + 1, by omega, by go_num, ?_, hnx.trans (HN.out.trans HB3.out)⟩
          rw [HS.out]
          exact hJ3
        case measure => simp [intOf]; omega
      · gi_wp2
        refine bodyPost_ret (results_none rfl _ _ _) rfl ?_
        exact ⟨⟨_, rfl⟩, .inr ⟨_, trivial, hJx3⟩⟩
    · obtain rfl : k = l.length := by omega
      gi_wp2
      go_end0
      rw [List.take_length] at hJs
      exact ⟨⟨_, rfl⟩, .inl ⟨_, rfl, hJs⟩⟩

theorem numbers_in (F : Fence) (n : Nat) (h5 : F.fn 59) (hro : F.round = none) (p : Option Addr) (w : World) :
    CallsIn F n Try.prog 59 #[.pointer p] w fun e w' => e = .returned (.func (.func 77) #[] #[.pointer (some ⟨w.heap.size, 0, none⟩)]) ∧ w' = w.alloc (.cells #[.pointer p] 24) := by
  refine callsIn_of_wp Try.func59 rfl h5 ?_ hro
  simp only [Try.ntmps59, List.size_toArray, List.length_cons, List.length_nil, Nat.reduceAdd, Nat.reduceSub, Array.replicate_succ, Array.replicate_zero, List.push_toArray, List.append_toArray, List.nil_append, List.cons_append]
  gi_wp2
  go_ret
  exact ⟨rfl, rfl⟩

/-- The iterator's contract: all numbers, in order. -/
theorem numbers_stops (F : Fence) (n : Nat) (h7 : F.fn 77) (hro : F.round = none) (hn : 1 ≤ n) (B1 B b g n₀ cap : Nat) (l : List Cl) (Kp : World → World → Prop) (hK1 : ∀ A B, Kp A B → Below n₀ A B) (w : World) (hB1 : B1 < w.heap.size) (hg : g < n₀) (hn₀ : n₀ ≤ w.heap.size)
    (h1 : w.cell? ⟨B1, 0, none⟩ = some (.pointer (some ⟨b, 0, none⟩))) (hm : Mem w B b g cap l) :
    SeqStopsK F n Try.prog 77 #[.pointer (some ⟨B1, 0, none⟩)] encInt Kp (fun ys => ys = numsOf l) (fun _ => True) l.length w := fun y J Jx W hW hJ _ hY h0 => by
  have e1 := (hW.cell (p := ⟨B1, 0, none⟩) hB1).trans h1
  have hm' := hm.later hW
  exact numbers1_in F n h7 hro hn y B1 b g n₀ cap l hm.len hg J Jx Kp hK1 W (Nat.le_trans hn₀ hW.size) hJ hY e1 hm'.blk (fun j t ht => hm'.cells ht) h0

theorem blk_own {β : Type} (B : Nat) (t : TypeId) (f : β → Array Value) : Own (fun s W => Blk W B t (f s)) := fun s X Y row hs hg hrow =>
  hs.grown hg (fun e' => by obtain ⟨o, ho, hc⟩ := hrow B e'.symm; rw [show X.heap[B]? = _ from hs] at ho; cases ho; cases hc)

theorem is_in (F : Fence) (n : Nat) (h5 : F.fn 58) (hro : F.round = none) {w : World} {B b g cap : Nat} {l : List Cl} (h : Mem w B b g cap l) : CallsIn F n Try.prog 58 #[.pointer (some ⟨b, 0, none⟩)] w fun e w' => e = .returned (.bool true) ∧ w = w' := by
  have c0 := h.blk.cell 0
  simp at c0
  have hp := h.pos
  clear h
  have hp' : (0 : Int) < (l.length : Int) := by omega
  refine callsIn_of_wp Try.func58 rfl h5 ?_ hro
  simp only [Try.ntmps58, List.size_toArray, List.length_cons, List.length_nil, Nat.reduceAdd, Nat.reduceSub, Array.replicate_succ, Array.replicate_zero, List.push_toArray, List.append_toArray, List.nil_append, List.cons_append]
  gi_wp2
  go_ret
  exact ⟨rfl, rfl⟩

theorem int_info : (Try.prog.info? 3).map (fun i => (i.zero, i.size, i.bytes)) = some (some (.int .i64 0), 1, 8) := by kernel_rfl

set_option maxRecDepth 100000 in
set_option maxHeartbeats 2000000 in
theorem all_in (F : Fence) (n : Nat) (h31 : F.fn 22) (h32 : F.fn 58) (h37 : F.fn 59) (h38 : F.fn 77) (hro : F.round = none) (hn : 3 ≤ n) {w : World} {B b g cap : Nat} {l : List Cl} (h : Mem w B b g cap l) :
    CallsIn F n Try.prog 22 #[.pointer (some ⟨b, 0, none⟩)] w fun e W' => ∃ v, e = .returned v ∧ W'.ownsRow w.heap.size 3 1 v (numsOf l).length (intsOf (numsOf l)) ∧ Below w.heap.size w W' := by
  have h1 : 1 ≤ n := by omega
  obtain ⟨i0, hi, hz0, hz1, hz2⟩ := info_parts int_info
  have HI := hide (is_in F (n - 1) h32 hro h)
  have hbl := h.blk.lt
  have hgl := h.lt.2
  have hlen := h.len
  have HM := hide h
  clear h
  refine callsIn_of_wp_marks Try.func22 rfl h31 ?_ hro
  simp only [Try.ntmps22, List.size_toArray, List.length_cons, List.length_nil, Nat.reduceAdd, Nat.reduceSub, Array.replicate_succ, Array.replicate_zero, List.push_toArray, List.append_toArray, List.nil_append, List.cons_append]
  gi_wp2_with (first | (gi_at_call 58; refine HI.out.mono ?_; rintro e w' ⟨rfl, rfl⟩) | (gi_at_call 59; refine (numbers_in F (n - 1) h37 hro _ _).mono ?_; rintro e w' ⟨rfl, rfl⟩))
  have bO := ((Boxed.new w 22 (.slice none 0 0)).alloc (.cells #[.pointer (some ⟨b, 0, none⟩)] 24))
  have b1 := (Boxed.new (w.alloc (.cells #[.slice none 0 0] 22)) 24 (.pointer (some ⟨b, 0, none⟩)))
  rw [World.size_alloc] at b1
  have hB0 : Below w.heap.size w ((w.alloc (.cells #[.slice none 0 0] 22)).alloc (.cells #[.pointer (some ⟨b, 0, none⟩)] 24)) := ((Below.refl _ w).alloc (Nat.le_refl _) _).alloc (by simp) _
  obtain ⟨W0, hW0⟩ : ∃ W0, ((w.alloc (.cells #[.slice none 0 0] 22)).alloc (.cells #[.pointer (some ⟨b, 0, none⟩)] 24)) = W0 := ⟨_, rfl⟩
  have hsz : W0.heap.size = w.heap.size + 2 := by rw [← hW0]; simp
  rw [hW0] at bO b1 hB0 ⊢
  clear hW0
  refine wpIn_rangeFunc_ownH hro h1 (gf := 77) (lb := #[.pointer (some ⟨w.heap.size + 1, 0, none⟩)]) rfl h38 (enters_of Try.func77 (by kernel_rfl) rfl)
    (numbers_stops F (n - 1) h38 hro (by omega) (w.heap.size + 1) B b g w.heap.size cap l (Below w.heap.size) (fun _ _ h => h) W0 (by omega) hgl (by omega) b1.cell (HM.out.later hB0))
    (fun h k => h.trans k) (fun W r o o' hr h hc hw => belowK_b (w := W0) (by omega) W r o o' hr h hc hw) (Below.refl _ _) (fun _ => rfl)
    (fun pre W => (∃ v, Boxed W w.heap.size 22 v ∧ W.ownsRow w.heap.size 3 1 v pre.length (intsOf pre) ∧ True) ∧ Below w.heap.size w W)
    (fun _ _ _ => False)
    (OwnFrom.and (Own.from (holdsRow_own w.heap.size w.heap.size 22 3 1 (fun pre : List Int => pre.length) (fun pre => intsOf pre) (fun _ _ => True)) _) (ownFrom_below (Nat.le_refl _) (by omega)))
    (fun _ _ _ _ _ hs _ _ => hs)
    ⟨⟨_, bO, World.ownsRow_nil _ _ _ _, trivial⟩, hB0⟩
    (fun x a' W => a' = { tmps := #[.pointer (some ⟨b, 0, none⟩), undef, .slice none 0 0, .pointer (some ⟨w.heap.size, 0, none⟩), .int .i64 x, .pointer (some ⟨b, 0, none⟩), .bool true, .bool false, .pointer (some ⟨b, 0, none⟩), .func (.func 77) #[] #[.pointer (some ⟨w.heap.size + 1, 0, none⟩)], .int .i64 x, undef, undef, undef, undef, undef], defers := [] })
    (fun x a' _ X Y row hs hg hr => hs)
    ?assign ?body ?done ?stop
  case assign =>
    rintro y pre x W K ⟨⟨v, bO1, hrow, _⟩, hB1⟩ hK
    dsimp only [encInt]
    gi_wp2
    exact hK _ _ (KeepsFrom.refl _ _) (Below.refl _ _) ⟨⟨v, bO1, hrow, trivial⟩, hB1⟩ rfl
  case body =>
    rintro y pre x a' W hl ⟨r, hr⟩ ⟨⟨v, hv, hrow, _⟩, hB1⟩ rfl hlt
    have hc := hv.cell
    gi_wp2_with (gi_at_builtin; refine wpListIn_append_own _ rfl _ _ 22 rfl w.heap.size 3 i0 _ 1 8 Try.underlying22 hi hz0 hz1 hz2 rfl (by decide) v pre.length (intsOf pre) rfl (hrow.alloc _) ⟨W.heap.size, 0, none⟩ 1 1 [.int .i64 x] rfl rfl (cells_new _ [.int .i64 x] _) (by simp [Value.oneCell']) (by simp only [maxLen]; omega) (by omega) (by have := hB1.size; simp; omega) ?_; intro v' w1 hown' hgrow _; obtain ⟨g', cap', rfl⟩ := ownsRow_succ hown'; obtain ⟨hv1, hv2, hr2, hk2, hb2⟩ := hv.appended (by decide) hrow hB1.size (Nat.le_refl _) hown' hgrow; have hc1 := hv1.cell; have hf1 := hv1.frozen)
    exact ⟨hk2.from _, hb2, ⟨_, hv2, by rw [intsOf_snoc]; simpa using hr2, trivial⟩, hB1.trans hb2⟩
  case done =>
    rintro D ys W hD rfl ⟨⟨v, hv, hrow, _⟩, hB⟩ hK
    have hc := hv.cell
    gi_wp2
    refine ⟨by simp, .inl ⟨_, _, rfl, run_takeDeferred hK, ?_⟩⟩
    exact ⟨_, results_tmp rfl _ _ _, v, rfl, ownsRow_putObj hrow _ hK rfl, hB.trans (belowK_b (w := w) (Nat.le_refl _) W D _ _ (by omega) hK rfl rfl)⟩
  case stop =>
    rintro D c pre W _ _ h _
    exact h.elim

theorem all_c {w : World} {B b g cap : Nat} {l : List Cl} (h : Mem w B b g cap l) :
    Calls Try.prog 22 #[.pointer (some ⟨b, 0, none⟩)] w fun e W' => ∃ v, e = .returned v ∧ W'.ownsRow w.heap.size 3 1 v (numsOf l).length (intsOf (numsOf l)) ∧ Below w.heap.size w W' :=
  callsIn_wide.1 (all_in Fence.wide 3 trivial trivial trivial trivial rfl (Nat.le_refl _) h)
end Go.Proofs.Ytaoonjamlcdfaaa
