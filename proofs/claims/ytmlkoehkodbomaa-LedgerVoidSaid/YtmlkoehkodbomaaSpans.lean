/-
  The contracts of kind (the iterator over the spans of a kind), spans, Accepted and Skipped.
-/
import Derived.Test.YtmlkoehkodbomaaLed
namespace Go.Proofs.Ytmlkoehkodbomaa
open Go.RowKit Go.Shelf

attribute [local go_sem] Oper.semAt_some

theorem of_take_succ (kd : Bool) (l : List Sp) (k : Nat) (t : Sp) (h : l[k]? = some t) : Lg.of kd (l.take (k + 1)) = if t.k = kd then Lg.of kd (l.take k) ++ [t] else Lg.of kd (l.take k) := by
  have : l.take (k + 1) = l.take k ++ [t] := by
    obtain ⟨hk, rfl⟩ := List.getElem?_eq_some_iff.1 h
    rw [List.take_succ_eq_append_getElem hk]
  rw [this, Lg.of_snoc]

/-- The spans lie in memory below block n₀, as the slice value sv reads them. -/
def SpansAt (n₀ : Nat) (W : World) (sv : Value) (l : List Sp) : Prop :=
  (∃ ao cap, sv = .slice ao 0 cap ∧ l = []) ∨ ∃ g cap, sv = .slice (some ⟨g, 0, none⟩) l.length cap ∧ g < n₀ ∧ ∀ j t, l[j]? = some t →
    W.cell? ⟨g, j * 3, none⟩ = some (.int .i64 t.a) ∧ W.cell? ⟨g, j * 3 + 1, none⟩ = some (.int .i64 t.b) ∧ W.cell? ⟨g, j * 3 + 2, none⟩ = some (.bool t.k)
theorem SpansAt.below {n₀ : Nat} {A B : World} (h : Below n₀ A B) {sv : Value} {l : List Sp} : SpansAt n₀ A sv l → SpansAt n₀ B sv l
  | .inl e => .inl e
  | .inr ⟨g, cap, e, hg, hc⟩ => .inr ⟨g, cap, e, hg, fun j t hj => by
      obtain ⟨h1, h2, h3⟩ := hc j t hj
      exact ⟨(h.cell (p := ⟨g, j * 3, none⟩) hg).trans h1, (h.cell (p := ⟨g, j * 3 + 1, none⟩) hg).trans h2, (h.cell (p := ⟨g, j * 3 + 2, none⟩) hg).trans h3⟩⟩
theorem Led.at_ {w : World} {B b : Nat} {sv : Value} {f : Int} {l : List Sp} (h : Led w B b sv f l) : SpansAt w.heap.size w sv l := by
  rcases Lg.snoc_cases l with rfl | ⟨r, t, rfl⟩
  · obtain ⟨ao, cap, rfl⟩ := h.shape
    exact .inl ⟨ao, cap, rfl, rfl⟩
  · obtain ⟨g, cap, hv, _, _, hlt, hB, hcell, hfz⟩ := ownsRow_pos h.row (by simp)
    refine .inr ⟨g, cap, hv, hlt, fun j t' hj => ?_⟩
    have hat := cellsOf_at _ j t' hj
    exact ⟨hcell _ _ hat.1, hcell _ _ hat.2.1, hcell _ _ hat.2.2⟩

def encSp (x : Sp) : Array Value := #[.agg #[.int .i64 x.a, .int .i64 x.b]]

set_option maxRecDepth 100000 in
set_option maxHeartbeats 2000000 in
theorem kind1_in (F : Fence) (n : Nat) (h7 : F.fn 38) (hro : F.round = none) (hn : 1 ≤ n) (y B1 B2 b g n₀ cap : Nat) (v0 v2 : Value) (kd : Bool) (l : List Sp) (hlen : l.length ≤ 256) (hgn : g < n₀) (J Jx : List Sp → World → Prop) (Kp : World → World → Prop) (hK1 : ∀ A B, Kp A B → Below n₀ A B) (hK2 : ∀ A B, Kp A B → B.cell? ⟨B2, 0, none⟩ = A.cell? ⟨B2, 0, none⟩)
    (W : World) (hn₀ : n₀ ≤ W.heap.size) (hJ : AbidesFrom W.heap.size J)
    (hY : ∀ pre x W, J pre W → pre.length < l.length → YieldAt F (n - 1) Try.prog y (encSp x) W fun e W' =>
      (e = .returned (.bool true) ∧ J (pre ++ [x]) W' ∧ Kp W W') ∨ (e = .returned (.bool false) ∧ Jx (pre ++ [x]) W'))
    (h1 : W.cell? ⟨B1, 0, none⟩ = some (.pointer (some ⟨b, 0, none⟩))) (h2 : W.cell? ⟨B2, 0, none⟩ = some (.bool kd)) (hb : Blk W b 53 #[v0, .slice (some ⟨g, 0, none⟩) l.length cap, v2])
    (hc : ∀ j t, l[j]? = some t → W.cell? ⟨g, j * 3, none⟩ = some (.int .i64 t.a) ∧ W.cell? ⟨g, j * 3 + 1, none⟩ = some (.int .i64 t.b) ∧ W.cell? ⟨g, j * 3 + 2, none⟩ = some (.bool t.k)) (h0 : J [] W) :
    CallsIn F n Try.prog 38 #[.func (.yield y) #[] #[], .pointer (some ⟨B1, 0, none⟩), .pointer (some ⟨B2, 0, none⟩)] W fun e W' => (∃ v, e = .returned v) ∧
      ((∃ ys, ys = Lg.of kd l ∧ J ys W') ∨ (∃ pre, True ∧ Jx pre W')) := by
  have hb1 := hb.cell 1
  simp at hb1
  clear hb
  have HC := hide hc
  have HJ := hide hJ
  have HY := hide hY
  have HK1 := hide hK1
  have HK2 := hide hK2
  clear hc hJ hY hK1 hK2
  refine callsIn_of_wp Try.func38 rfl h7 ?_ hro
  simp only [Try.ntmps38, List.size_toArray, List.length_cons, List.length_nil, Nat.reduceAdd, Nat.reduceSub, Array.replicate_succ, Array.replicate_zero, List.push_toArray, List.append_toArray, List.nil_append, List.cons_append]
  gi_wp2
  gi_loopw [11] (fun i wr => ∃ k : Nat, k ≤ l.length ∧ i = .int .i64 k ∧ J (Lg.of kd (l.take k)) wr ∧ Below n₀ W wr ∧ wr.cell? ⟨B2, 0, none⟩ = some (.bool kd))
    (fun i _ => l.length - (intOf i).toNat)
  case atStart => exact ⟨0, Nat.zero_le _, rfl, h0, Below.refl _ _, h2⟩
  case round =>
    obtain ⟨k, hk, rfl, hJs, hnx, hb2⟩ := hrel
    have hB2l : B2 < wr.heap.size := World.block_lt_of_cell? wr ⟨B2, 0, none⟩ hb2
    by_cases hlt : k < l.length
    · obtain ⟨t, ht⟩ : ∃ t, l[k]? = some t := ⟨l[k], List.getElem?_eq_getElem hlt⟩
      obtain ⟨e1, e2, e3⟩ := HC.out k t ht
      have c1 := (hnx.cell (p := ⟨g, k * 3, none⟩) hgn).trans e1
      have c2 := (hnx.cell (p := ⟨g, k * 3 + 1, none⟩) hgn).trans e2
      have c3 := (hnx.cell (p := ⟨g, k * 3 + 2, none⟩) hgn).trans e3
      have HS := hide (of_take_succ kd l k t ht)
      have HL : (Lg.of kd (l.take k)).length < l.length := by
        have := Lg.length_of_le kd (l.take k)
        rw [List.length_take] at this
        omega
      clear e1 e2 e3
      have HT := hide ht
      clear ht
      obtain ⟨a, b', kk⟩ := t
      simp only at c1 c2 c3 HS
      have hsz := Nat.le_trans hn₀ hnx.size
      have HB2 := hide ((World.cell?_alloc_lt wr (.cells #[.int .i64 a, .int .i64 b', .bool kk] 56) ⟨B2, 0, none⟩ hB2l).trans hb2)
      have HN := hide ((Below.refl n₀ wr).alloc hsz (.cells #[.int .i64 a, .int .i64 b', .bool kk] 56))
      have HJ2 := hide (HJ.out _ _ _ none hJs (World.grownBy_alloc wr (.cells #[.int .i64 a, .int .i64 b', .bool kk] 56) none) (fun r e => by cases e))
      by_cases hkk : (kk == kd) = true
      · obtain ⟨fn, tmps, assign, body, hy, hR⟩ := HY.out _ ⟨a, b', kk⟩ _ HJ2.out HL
        dsimp only [encSp] at hy
        have HR := hide hR
        clear hR
        gi_wp2
        refine HR.out.mono ?_
        rintro e W3 (⟨rfl, hJ3, hk3⟩ | ⟨rfl, hJx3⟩)
        · have HB3 := hide (HK1.out _ _ hk3)
          have HB4 := hide ((HK2.out _ _ hk3).trans HB2.out)
          clear hk3
          gi_wp2
          go_roundw
          case rel =>
            refine ⟨k + 1, by omega, by go_num, ?_, hnx.trans (HN.out.trans HB3.out), HB4.out⟩
            rw [HS.out, if_pos (by simpa using hkk)]
            exact hJ3
          case measure => simp [intOf]; omega
        · gi_wp2
          refine bodyPost_ret (results_none rfl _ _ _) rfl ?_
          exact ⟨⟨_, rfl⟩, .inr ⟨_, trivial, hJx3⟩⟩
      · have hkf : (kk == kd) = false := by simpa using hkk
        clear hkk
        gi_wp2
        all_goals
          refine ⟨fun _ h => (by cases h), ?_⟩
          gi_wp2
          go_roundw
          case rel =>
            refine ⟨k + 1, by omega, by go_num, ?_, hnx.trans HN.out, HB2.out⟩
            rw [HS.out, if_neg (by simpa using hkf)]
            exact HJ2.out
          case measure => simp [intOf]; omega
    · obtain rfl : k = l.length := by omega
      gi_wp2
      go_end0
      rw [List.take_length] at hJs
      exact ⟨⟨_, rfl⟩, .inl ⟨_, rfl, hJs⟩⟩


set_option maxRecDepth 100000 in
set_option maxHeartbeats 1000000 in
/-- .. at a ledger without spans: no round. -/
theorem kind1_nil (F : Fence) (n : Nat) (h7 : F.fn 38) (hro : F.round = none) (y B1 B2 b cap : Nat) (ao : Option Addr) (v0 v2 : Value) (J : List Sp → World → Prop)
    (W : World) (h1 : W.cell? ⟨B1, 0, none⟩ = some (.pointer (some ⟨b, 0, none⟩))) (hb : Blk W b 53 #[v0, .slice ao 0 cap, v2]) (h0 : J [] W) :
    CallsIn F n Try.prog 38 #[.func (.yield y) #[] #[], .pointer (some ⟨B1, 0, none⟩), .pointer (some ⟨B2, 0, none⟩)] W fun e W' => (∃ v, e = .returned v) ∧ J [] W' := by
  have hb1 := hb.cell 1
  simp at hb1
  clear hb
  refine callsIn_of_wp Try.func38 rfl h7 ?_ hro
  simp only [Try.ntmps38, List.size_toArray, List.length_cons, List.length_nil, Nat.reduceAdd, Nat.reduceSub, Array.replicate_succ, Array.replicate_zero, List.push_toArray, List.append_toArray, List.nil_append, List.cons_append]
  gi_wp2
  gi_loopw [11] (fun i wr => i = .int .i64 0 ∧ J [] wr) (fun _ _ => 0)
  case atStart => exact ⟨rfl, h0⟩
  case round =>
    obtain ⟨rfl, hJs⟩ := hrel
    gi_wp2
    go_end0
    exact ⟨⟨_, rfl⟩, hJs⟩

/-- kind: the receiver and the kind are boxed; the function value captures both. -/
theorem kind_in (F : Fence) (n : Nat) (h5 : F.fn 37) (hro : F.round = none) (p : Option Addr) (kd : Bool) (w : World) :
    CallsIn F n Try.prog 37 #[.pointer p, .bool kd] w fun e w' => e = .returned (.func (.func 38) #[] #[.pointer (some ⟨w.heap.size, 0, none⟩), .pointer (some ⟨w.heap.size + 1, 0, none⟩)]) ∧ w' = (w.alloc (.cells #[.pointer p] 24)).alloc (.cells #[.bool kd] 4) := by
  refine callsIn_of_wp Try.func37 rfl h5 ?_ hro
  simp only [Try.ntmps37, List.size_toArray, List.length_cons, List.length_nil, Nat.reduceAdd, Nat.reduceSub, Array.replicate_succ, Array.replicate_zero, List.push_toArray, List.append_toArray, List.nil_append, List.cons_append]
  gi_wp2
  go_ret
  exact ⟨rfl, rfl⟩

/-- The iterator's contract: all spans of the kind, in order. -/
theorem kind_stops (F : Fence) (n : Nat) (h7 : F.fn 38) (hro : F.round = none) (hn : 1 ≤ n) (B1 B2 b n₀ : Nat) (sv v0 v2 : Value) (kd : Bool) (l : List Sp) (hlen : l.length ≤ 256) (Kp : World → World → Prop) (hK1 : ∀ A B, Kp A B → Below n₀ A B) (hK2 : ∀ A B, Kp A B → B.cell? ⟨B2, 0, none⟩ = A.cell? ⟨B2, 0, none⟩) (w : World) (hB1 : B1 < w.heap.size) (hB2 : B2 < w.heap.size) (hb : b < n₀) (hn₀ : n₀ ≤ w.heap.size)
    (h1 : w.cell? ⟨B1, 0, none⟩ = some (.pointer (some ⟨b, 0, none⟩))) (h2 : w.cell? ⟨B2, 0, none⟩ = some (.bool kd)) (hk : Blk w b 53 #[v0, sv, v2]) (hs : SpansAt n₀ w sv l) :
    SeqStopsK F n Try.prog 38 #[.pointer (some ⟨B1, 0, none⟩), .pointer (some ⟨B2, 0, none⟩)] encSp Kp (fun ys => ys = Lg.of kd l) (fun _ => True) l.length w := fun y J Jx W hW hJ _ hY h0 => by
  have e1 := (hW.cell (p := ⟨B1, 0, none⟩) hB1).trans h1
  have hWn := hW.mono hn₀
  have e2 := (hW.cell (p := ⟨B2, 0, none⟩) hB2).trans h2
  have hk' := hk.below hWn hb
  rcases hs.below hWn with ⟨ao, cap, rfl, rfl⟩ | ⟨g, cap, rfl, hg, hc⟩
  · exact (kind1_nil F n h7 hro y B1 B2 b cap ao v0 v2 J W e1 hk' h0).mono fun e W' ⟨he, hj⟩ => ⟨he, .inl ⟨_, rfl, hj⟩⟩
  · exact kind1_in F n h7 hro hn y B1 B2 b g n₀ cap v0 v2 kd l hlen hg J Jx Kp hK1 hK2 W (Nat.le_trans hn₀ hW.size) hJ hY e1 e2 hk' hc h0


/-! ### spans -/
def pairs (l : List Sp) : List Value := l.flatMap fun t => [.int .i64 t.a, .int .i64 t.b]
theorem pairs_snoc (l : List Sp) (t : Sp) : pairs (l ++ [t]) = pairs l ++ [.int .i64 t.a, .int .i64 t.b] := by simp [pairs]
theorem span_info : (Try.prog.info? 48).map (fun i => (i.zero, i.size, i.bytes)) = some (some (.agg #[.int .i64 0, .int .i64 0]), 2, 16) := by kernel_rfl

/-- What a round of the loop in spans keeps for the iterator: all below n₀, and the box B2. -/
def KeepB (n₀ B2 : Nat) (A B : World) : Prop := Below n₀ A B ∧ B.heap[B2]? = A.heap[B2]?
theorem KeepB.trans {n₀ B2 : Nat} {A B C : World} (h : KeepB n₀ B2 A B) (k : KeepB n₀ B2 B C) : KeepB n₀ B2 A C := ⟨h.1.trans k.1, k.2.trans h.2⟩

theorem blk_own {β : Type} (B : Nat) (t : TypeId) (f : β → Array Value) : Own (fun s W => Blk W B t (f s)) := fun s X Y row hs hg hrow =>
  hs.grown hg (fun e' => by obtain ⟨o, ho, hc⟩ := hrow B e'.symm; rw [show X.heap[B]? = _ from hs] at ho; cases ho; cases hc)

theorem is_in (F : Fence) (n : Nat) (h5 : F.fn 32) (hro : F.round = none) (b : Nat) (w : World) (v0 v1 : Value) (h : Blk w b 53 #[v0, v1, .bool true]) : CallsIn F n Try.prog 32 #[.pointer (some ⟨b, 0, none⟩)] w fun e w' => e = .returned (.bool true) ∧ w = w' := by
  have c2 := h.cell 2
  simp at c2
  clear h
  refine callsIn_of_wp Try.func32 rfl h5 ?_ hro
  simp only [Try.ntmps32, List.size_toArray, List.length_cons, List.length_nil, Nat.reduceAdd, Nat.reduceSub, Array.replicate_succ, Array.replicate_zero, List.push_toArray, List.append_toArray, List.nil_append, List.cons_append]
  gi_wp2
  go_ret
  exact ⟨rfl, rfl⟩

set_option maxRecDepth 100000 in
set_option maxHeartbeats 2000000 in
theorem spans_in (F : Fence) (n : Nat) (h31 : F.fn 31) (h32 : F.fn 32) (h37 : F.fn 37) (h38 : F.fn 38) (hro : F.round = none) (hn : 3 ≤ n) {w : World} {B b : Nat} {sv : Value} {f : Int} {l : List Sp} (h : Led w B b sv f l) (hlen : l.length ≤ 256) (kd : Bool) :
    CallsIn F n Try.prog 31 #[.pointer (some ⟨b, 0, none⟩), .bool kd] w fun e W' => ∃ v, e = .returned v ∧ W'.ownsRow w.heap.size 48 2 v (Lg.of kd l).length (pairs (Lg.of kd l)) ∧ Below w.heap.size w W' := by
  have h1 : 1 ≤ n := by omega
  obtain ⟨i0, hi, hz0, hz1, hz2⟩ := info_parts span_info
  have HI := hide (is_in F (n - 1) h32 hro b w _ _ h.blk)
  have hS := h.at_
  have hB := h.blk
  have hbl := h.blk.lt
  have HB := hide hB
  have HS := hide hS
  clear h hS hB
  refine callsIn_of_wp_marks Try.func31 rfl h31 ?_ hro
  simp only [Try.ntmps31, List.size_toArray, List.length_cons, List.length_nil, Nat.reduceAdd, Nat.reduceSub, Array.replicate_succ, Array.replicate_zero, List.push_toArray, List.append_toArray, List.nil_append, List.cons_append]
  gi_wp2_with (first | (gi_at_call 32; refine HI.out.mono ?_; rintro e w' ⟨rfl, rfl⟩) | (gi_at_call 37; refine (kind_in F (n - 1) h37 hro _ _ _).mono ?_; rintro e w' ⟨rfl, rfl⟩))
  have bO := (((Boxed.new w 29 (.slice none 0 0)).alloc (.cells #[.pointer (some ⟨b, 0, none⟩)] 24)).alloc (.cells #[.bool kd] 4))
  have b1 := (Boxed.new (w.alloc (.cells #[.slice none 0 0] 29)) 24 (.pointer (some ⟨b, 0, none⟩))).alloc (.cells #[.bool kd] 4)
  have b2 := Boxed.new ((w.alloc (.cells #[.slice none 0 0] 29)).alloc (.cells #[.pointer (some ⟨b, 0, none⟩)] 24)) 4 (.bool kd)
  rw [World.size_alloc] at b1
  rw [World.size_alloc, World.size_alloc] at b2
  have hB0 : Below w.heap.size w (((w.alloc (.cells #[.slice none 0 0] 29)).alloc (.cells #[.pointer (some ⟨b, 0, none⟩)] 24)).alloc (.cells #[.bool kd] 4)) := (((Below.refl _ w).alloc (Nat.le_refl _) _).alloc (by simp) _).alloc (by simp; omega) _
  obtain ⟨W0, hW0⟩ : ∃ W0, (((w.alloc (.cells #[.slice none 0 0] 29)).alloc (.cells #[.pointer (some ⟨b, 0, none⟩)] 24)).alloc (.cells #[.bool kd] 4)) = W0 := ⟨_, rfl⟩
  have hsz : W0.heap.size = w.heap.size + 3 := by rw [← hW0]; simp
  rw [hW0] at bO b1 b2 hB0 ⊢
  clear hW0
  refine wpIn_rangeFunc_ownH hro h1 (gf := 38) (lb := #[.pointer (some ⟨w.heap.size + 1, 0, none⟩), .pointer (some ⟨w.heap.size + 1 + 1, 0, none⟩)]) rfl h38 (enters_of Try.func38 (by kernel_rfl) rfl)
    (kind_stops F (n - 1) h38 hro (by omega) (w.heap.size + 1) (w.heap.size + 1 + 1) b w.heap.size sv _ _ kd l hlen (KeepB w.heap.size (w.heap.size + 1 + 1)) (fun _ _ h => h.1) (fun _ _ h => World.cell?_of_block h.2) W0 (by omega) (by omega) hbl (by omega) b1.cell b2.cell (HB.out.below hB0 hbl) (HS.out.below hB0))
    (fun h k => h.trans k) (fun W r o o' hr h hc hw => ⟨belowK_b (w := W0) (by omega) W r o o' hr h hc hw, World.putObj_heap_other (by omega)⟩) (Below.refl _ _) (fun _ => rfl)
    (fun pre W => ((∃ v, Boxed W w.heap.size 29 v ∧ W.ownsRow w.heap.size 48 2 v pre.length (pairs pre) ∧ True) ∧ Boxed W (w.heap.size + 1 + 1) 4 (.bool kd)) ∧ Below w.heap.size w W)
    (fun _ _ _ => False)
    (OwnFrom.and (OwnFrom.and (Own.from (holdsRow_own w.heap.size w.heap.size 29 48 2 (fun pre : List Sp => pre.length) (fun pre => pairs pre) (fun _ _ => True)) _) (Own.from (boxed_own _ _ _) _)) (ownFrom_below (Nat.le_refl _) (by omega)))
    (fun _ _ _ _ _ hs _ _ => hs)
    ⟨⟨⟨_, bO, World.ownsRow_nil _ _ _ _, trivial⟩, b2⟩, hB0⟩
    (fun x a' W => ∃ Bx, w.heap.size + 1 + 1 < Bx ∧ Blk W Bx 48 #[.int .i64 x.a, .int .i64 x.b] ∧ a' = { tmps := #[.pointer (some ⟨b, 0, none⟩), .bool kd, undef, undef, .slice none 0 0, .pointer (some ⟨w.heap.size, 0, none⟩), .pointer (some ⟨Bx, 0, none⟩), .pointer (some ⟨b, 0, none⟩), .bool true, .bool false, .pointer (some ⟨b, 0, none⟩), .bool kd, .func (.func 38) #[] #[.pointer (some ⟨w.heap.size + 1, 0, none⟩), .pointer (some ⟨w.heap.size + 1 + 1, 0, none⟩)], .agg #[.int .i64 x.a, .int .i64 x.b], undef, undef, undef, undef, undef], defers := [] })
    (fun x a' _ X Y row hs hg hr => by obtain ⟨Bx, h1, h2, h3⟩ := hs; exact ⟨Bx, h1, blk_own Bx 48 (fun (_ : Unit) => #[Value.int .i64 x.a, .int .i64 x.b]) () X Y row h2 hg (fun r e => (hr r e).2), h3⟩)
    ?assign ?body ?done ?stop
  case assign =>
    rintro y pre x W K ⟨⟨⟨v, bO1, hrow, _⟩, b21⟩, hB1⟩ hK
    have hsW := hB1.size
    dsimp only [encSp]
    gi_wp2
    exact hK _ _ ((KeepsOthers.alloc _ _).from _) ⟨(Below.refl _ W).alloc hB1.size _, Below.heap_alloc _ _ _ b21.lt⟩ ⟨⟨⟨v, bO1.alloc _, hrow.alloc _, trivial⟩, b21.alloc _⟩, hB1.alloc hB1.size _⟩ ⟨W.heap.size, b21.lt, Blk.new W 48 _, rfl⟩
  case body =>
    rintro y pre x a' W hl ⟨r, hr⟩ ⟨⟨⟨v, hv, hrow, _⟩, b21⟩, hB1⟩ ⟨Bx, hBx, bX, rfl⟩ hlt
    have hc := hv.cell
    have x0 := bX.cell 0
    have x1 := bX.cell 1
    have hBl := bX.lt
    simp at x0 x1
    gi_wp2_with (gi_at_builtin; refine wpListIn_append_own _ rfl _ _ 29 rfl w.heap.size 48 i0 _ 2 16 Try.underlying29 hi hz0 hz1 hz2 rfl (by decide) v pre.length (pairs pre) rfl (hrow.alloc _) ⟨W.heap.size, 0, none⟩ 1 1 [.int .i64 x.a, .int .i64 x.b] rfl rfl (cells_new _ [.int .i64 x.a, .int .i64 x.b] _) (by simp [Value.oneCell']) (by simp only [maxLen]; omega) (by omega) (by have := hB1.size; simp; omega) ?_; intro v' w1 hown' hgrow _; obtain ⟨g', cap', rfl⟩ := ownsRow_succ hown'; obtain ⟨hv1, hv2, hr2, hk2, hb2⟩ := hv.appended (by decide) hrow hB1.size (Nat.le_refl _) hown' hgrow; have hc1 := hv1.cell; have hf1 := hv1.frozen; have k21 := hide (((b21.alloc _).kept hgrow (b21.not_row (by decide) hrow)).other (B' := w.heap.size) (by omega) (.slice (some ⟨g', 0, none⟩) (pre.length + 1) cap')))
    have hk21 := k21.out
    exact ⟨hk2.from _, ⟨hb2, (show _ = _ from hk21).trans (show _ = _ from b21).symm⟩, ⟨⟨_, hv2, by rw [pairs_snoc]; simpa using hr2, trivial⟩, hk21⟩, hB1.trans hb2⟩
  case done =>
    rintro D ys W hD rfl ⟨⟨⟨v, hv, hrow, _⟩, _⟩, hB⟩ hK
    have hc := hv.cell
    gi_wp2
    refine ⟨by simp, .inl ⟨_, _, rfl, run_takeDeferred hK, ?_⟩⟩
    exact ⟨_, results_tmp rfl _ _ _, v, rfl, ownsRow_putObj hrow _ hK rfl, hB.trans (belowK_b (w := w) (Nat.le_refl _) W D _ _ (by omega) hK rfl rfl)⟩
  case stop =>
    rintro D c pre W _ _ h _
    exact h.elim

theorem spans_c {w : World} {B b : Nat} {sv : Value} {f : Int} {l : List Sp} (h : Led w B b sv f l) (hlen : l.length ≤ 256) (kd : Bool) :
    Calls Try.prog 31 #[.pointer (some ⟨b, 0, none⟩), .bool kd] w fun e W' => ∃ v, e = .returned v ∧ W'.ownsRow w.heap.size 48 2 v (Lg.of kd l).length (pairs (Lg.of kd l)) ∧ Below w.heap.size w W' :=
  callsIn_wide.1 (spans_in Fence.wide 3 trivial trivial trivial trivial rfl (Nat.le_refl _) h hlen kd)

/-- What Accepted and Skipped hand back: a slice that owns the spans of a kind, in new memory. -/
def Gives (kd : Bool) (l : List Sp) (w : World) (e : Ending) (w' : World) : Prop :=
  ∃ v, e = .returned v ∧ w'.ownsRow w.heap.size 48 2 v (Lg.of kd l).length (pairs (Lg.of kd l)) ∧ Below w.heap.size w w'

theorem accepted_c {w : World} {B b : Nat} {sv : Value} {f : Int} {l : List Sp} (h : Led w B b sv f l) (hlen : l.length ≤ 256) :
    Calls Try.prog 14 #[.pointer (some ⟨b, 0, none⟩)] w (Gives true l w) := by
  have H := hide (spans_c h hlen true)
  clear h
  go_enter Try.func14, Try.ntmps14
  go_wp2_with (go_at_call 31; refine H.out.mono ?_; rintro e w' ⟨v, rfl, hr, hb⟩; have HR := hide hr; have HB := hide hb; clear hr hb)
  go_ret
  exact ⟨v, rfl, HR.out, HB.out⟩

theorem skipped_c {w : World} {B b : Nat} {sv : Value} {f : Int} {l : List Sp} (h : Led w B b sv f l) (hlen : l.length ≤ 256) :
    Calls Try.prog 15 #[.pointer (some ⟨b, 0, none⟩)] w (Gives false l w) := by
  have H := hide (spans_c h hlen false)
  clear h
  go_enter Try.func15, Try.ntmps15
  go_wp2_with (go_at_call 31; refine H.out.mono ?_; rintro e w' ⟨v, rfl, hr, hb⟩; have HR := hide hr; have HB := hide hb; clear hr hb)
  go_ret
  exact ⟨v, rfl, HR.out, HB.out⟩

end Go.Proofs.Ytmlkoehkodbomaa
