/-
  The contracts of math/bits.Mul at 1 and a small number, of slices.Repeat at one cell, and of Make.
-/
import Derived.Lib.Mul64
import Derived.Laws.Bits64b
import Derived.Laws.CopyOwn
import Derived.Deep.RegionHeld3
import Derived.Test.YtaoonjamlcdfaaaLock
namespace Go.Proofs.Ytaoonjamlcdfaaa
open Go.RowKit

theorem maskS (a : Nat) (ha : a < 4294967296) : bits .and .u64 (a : Int) 4294967295 = (a : Int) := by
  have h := bits_and_u64_nat a 4294967295 (by omega) (by omega)
  have e : a &&& 4294967295 = a % 4294967296 := Nat.and_two_pow_sub_one_eq_mod a 32
  rw [e, Nat.mod_eq_of_lt ha] at h
  exact h
theorem mask1 : bits .and .u64 1 4294967295 = 1 := maskS 1 (by decide)
theorem mask0 : bits .and .u64 0 4294967295 = 0 := maskS 0 (by decide)

set_option maxHeartbeats 1000000 in
theorem mul64_c (n : Nat) (hn : n ≤ 64) (w : World) : Calls Try.prog 85 #[.int .u64 1, .int .u64 n] w fun e w' => e = .returned (.tuple #[.int .u64 0, .int .u64 n]) ∧ w = w' := by
  have m1 := maskS n (by omega)
  have d1 : (n : Int) / 4294967296 = 0 := by omega
  have wn : IntKind.u64.wrap (n : Int) = n := by rw [IntKind.wrap_u64]; omega
  have w0 : IntKind.u64.wrap 0 = 0 := by rw [IntKind.wrap_u64]; omega
  go_enter Try.func85, Try.ntmps85
  go_wp2
  simp only [mask1, Int.one_mul, wn, d1, w0, mask0, Int.zero_ediv, Int.add_zero]
  go_ret2
  exact ⟨rfl, rfl⟩

theorem mul_c (n : Nat) (hn : n ≤ 64) (w : World) : Calls Try.prog 76 #[.int .u64 1, .int .u64 n] w fun e w' => e = .returned (.tuple #[.int .u64 0, .int .u64 n]) ∧ w = w' := by
  have H := hide (mul64_c n hn w)
  go_enter Try.func76, Try.ntmps76
  go_wp2_with (go_at_call 85; refine H.out.mono ?_; rintro e w' ⟨rfl, rfl⟩)
  go_ret2
  exact ⟨rfl, rfl⟩

/-! ### copy, at elements of more cells than one -/
theorem run_copy_wide (P : Program) (w : World) (dT sT ty elem : TypeId) (size : Nat) (g o dLen dCap : Nat) (a : Addr) (sLen sCap : Nat) (cur : Array Value) (t : TypeId) (cs : List Value)
    (hu : P.underlying dT = some (.slice elem)) (hs : (P.info? elem).map (·.size) = some size)
    (hg : w.heap[g]? = some (.cells cur t (0, 0))) (hn : cs.length = Nat.min sLen dLen * size)
    (hsrc : ∀ j v, cs[j]? = some v → w.cell? (a.add j) = some v) (hfit : o + cs.length ≤ cur.size) (h1 : ∀ v ∈ cs, v.oneCell' = true) :
    (Builtin.copy_ #[dT, sT] ty #[.slice (some ⟨g, o, none⟩) dLen dCap, .slice (some a) sLen sCap]).run P w =
      .ok (goInt (Nat.min sLen dLen)) (w.setRow g (cur.toList.take o ++ cs ++ cur.toList.drop (o + cs.length)).toArray) := by
  have hl := run_loadCells_list (P := P) w a cs hsrc
  have hst := run_storeCells_at P g o t cs 0 cur w hg (by simpa using hfit) h1
  cases hq : P.info? elem with
  | none => simp [hq] at hs
  | some i =>
    have hi : i.size = size := by simpa [hq] using hs
    simp [Builtin.copy_, run_underlying hu, Builtin.lenOf, Builtin.firstCells, sizeOf, typeInfo, hq, hi, ← hn, hl, hst]

theorem wpList_copy_wide {P : Program} {w : World} {ops : Array Oper} {rest : List Oper} {o : Oper} {a : Act} {Q : Exit → Act → World → Prop} (hgd : o.guard = none) (d s : Operand) (dT sT : TypeId)
    (ho : o.op = .call { callee := .builtin .copy, args := #[d, s], argTypes := #[dT, sT] }) (elem : TypeId) (size : Nat) (hu : P.underlying dT = some (.slice elem)) (hsz : (P.info? elem).map (·.size) = some size)
    (g off dLen dCap : Nat) (ad : Addr) (sLen sCap m : Nat) (hd : a.eval d = .slice (some ⟨g, off, none⟩) dLen dCap) (hs : a.eval s = .slice (some ad) sLen sCap) (hm : Nat.min sLen dLen = m)
    (cur : List Value) (t : TypeId) (hg : w.heap[g]? = some (.cells cur.toArray t (0, 0))) (cs : List Value) (hn : cs.length = m * size)
    (hsrc : ∀ j v, cs[j]? = some v → w.cell? (ad.add j) = some v) (hfit : off + cs.length ≤ cur.length) (h1 : ∀ v ∈ cs, v.oneCell' = true)
    (h : ∀ w', w'.heap[g]? = some (.cells (splice cur off cs).toArray t (0, 0)) → Only (fun k => k = g) w w' → wpList P ops Q rest (a.put o.dst (goInt m)) w') :
    wpList P ops Q (o :: rest) a w := by
  subst hm
  refine wpList_plain hgd fun K hK => ?_
  have hrun := run_copy_wide P w dT sT o.type elem size g off dLen dCap ad sLen sCap cur.toArray t cs hu hsz hg hn hsrc (by simpa using hfit) h1
  unfold Oper.wp
  simp [execOp, ho, resolve, invoke, builtin, hd, hs, hrun, Result.andThen]
  refine hK _ _ (h _ (by simpa [splice] using setRow_heap w g _ _ t _ hg) ?_)
  exact ⟨rfl, rfl, rfl, by simp [World.setRow], fun k _ hk => setRow_other w g k _ hk⟩

theorem step_copy_wide {P : Program} {ops : Array Oper} {o : Oper} {a : Act} {w : World} {K : Act → World → Prop} {Q : Exit → Act → World → Prop} {E : Prop} (hgd : o.guard = none) (d s : Operand) (dT sT : TypeId)
    (ho : o.op = .call { callee := .builtin .copy, args := #[d, s], argTypes := #[dT, sT] }) (elem : TypeId) (size : Nat) (hu : P.underlying dT = some (.slice elem)) (hsz : (P.info? elem).map (·.size) = some size)
    (g off dLen dCap : Nat) (ad : Addr) (sLen sCap m : Nat) (hd : a.eval d = .slice (some ⟨g, off, none⟩) dLen dCap) (hs : a.eval s = .slice (some ad) sLen sCap) (hm : Nat.min sLen dLen = m)
    (cur : List Value) (t : TypeId) (hg : w.heap[g]? = some (.cells cur.toArray t (0, 0))) (cs : List Value) (hn : cs.length = m * size)
    (hsrc : ∀ j v, cs[j]? = some v → w.cell? (ad.add j) = some v) (hfit : off + cs.length ≤ cur.length) (h1 : ∀ v ∈ cs, v.oneCell' = true)
    (h : ∀ w', w'.heap[g]? = some (.cells (splice cur off cs).toArray t (0, 0)) → Only (fun k => k = g) w w' → K (a.put o.dst (goInt m)) w') :
    if Region.wanted o (yielded ops a.tmps) = true then Oper.wp P o a w K Q else E := by
  subst hm
  have hw : Region.wanted o (yielded ops a.tmps) = true := by simp [Region.wanted, hgd]
  rw [if_pos hw]
  have hrun := run_copy_wide P w dT sT o.type elem size g off dLen dCap ad sLen sCap cur.toArray t cs hu hsz hg hn hsrc (by simpa using hfit) h1
  unfold Oper.wp
  simp [execOp, ho, resolve, invoke, builtin, hd, hs, hrun, Result.andThen]
  refine h _ (by simpa [splice] using setRow_heap w g _ _ t _ hg) ?_
  exact ⟨rfl, rfl, rfl, by simp [World.setRow], fun k _ hk => setRow_other w g k _ hk⟩

/-! ### the row that Repeat fills -/
def one : Cl := ⟨0, -1, 0⟩
def zero : Cl := ⟨0, 0, 0⟩
def half (n k : Nat) : List Cl := List.replicate k one ++ List.replicate (n - k) zero
theorem half_length (n k : Nat) (h : k ≤ n) : (half n k).length = n := by simp [half]; omega
theorem half_all (n : Nat) : half n n = Cs.new n := by simp [half, Cs.new, one]
theorem cellsOf_append (l r : List Cl) : cellsOf (l ++ r) = cellsOf l ++ cellsOf r := by simp [cellsOf]
theorem cellsOf_one (l : List Cl) : ∀ u ∈ cellsOf l, u.oneCell' = true := by
  induction l with
  | nil => simp [cellsOf]
  | cons t l ih =>
    intro u hu
    have e : cellsOf (t :: l) = [.int .i64 t.v, .int .i64 t.by_, .int .i64 t.wr] ++ cellsOf l := rfl
    rw [e] at hu
    rcases List.mem_append.1 hu with hu | hu
    · simp at hu
      rcases hu with rfl | rfl | rfl <;> rfl
    · exact ih u hu
theorem half_step (n k m : Nat) (h : k + m ≤ n) : splice (cellsOf (half n k)) (k * 3) (cellsOf (List.replicate m one)) = cellsOf (half n (k + m)) := by
  have e1 : (List.replicate (n - k) zero) = List.replicate m zero ++ List.replicate (n - (k + m)) zero := by
    rw [List.replicate_append_replicate]
    congr 1
    omega
  have hX : cellsOf (half n k) = cellsOf (List.replicate k one) ++ (cellsOf (List.replicate m zero) ++ cellsOf (List.replicate (n - (k + m)) zero)) := by
    unfold half
    rw [cellsOf_append, e1, cellsOf_append]
  have hY : cellsOf (half n (k + m)) = cellsOf (List.replicate k one) ++ (cellsOf (List.replicate m one) ++ cellsOf (List.replicate (n - (k + m)) zero)) := by
    unfold half
    rw [cellsOf_append, ← List.replicate_append_replicate, cellsOf_append, List.append_assoc]
  unfold splice
  rw [hX, hY, List.take_left' (by simp [cellsOf_length]), ← List.append_assoc (cellsOf (List.replicate k one)) (cellsOf (List.replicate m zero)), List.drop_left' (by simp [cellsOf_length])]
theorem half_src (n k m : Nat) (h : m ≤ k) : ∀ (j : Nat) (v : Value), (cellsOf (List.replicate m one))[j]? = some v → (cellsOf (half n k))[j]? = some v := by
  intro j v hj
  have e : half n k = List.replicate m one ++ (List.replicate (k - m) one ++ List.replicate (n - k) zero) := by
    unfold half
    rw [← List.append_assoc, List.replicate_append_replicate]
    congr 2
    omega
  rw [e, cellsOf_append, List.getElem?_append_left (List.getElem?_eq_some_iff.1 hj).1]
  exact hj
theorem made_zero (n : Nat) : (madeCells (Value.agg #[.int .i64 0, .int .i64 0, .int .i64 0]).cells (n * 3)).toList = cellsOf (half n 0) := by
  apply List.ext_getElem?
  intro j
  have hz : (Value.agg #[.int .i64 0, .int .i64 0, .int .i64 0]).cells = #[.int .i64 0, .int .i64 0, .int .i64 0] := rfl
  rw [hz]
  have key : ∀ n, cellsOf (List.replicate n zero) = List.replicate (n * 3) (.int .i64 0) := by
    intro n
    induction n with
    | zero => rfl
    | succ n ih =>
      have e : cellsOf (List.replicate (n + 1) zero) = .int .i64 0 :: .int .i64 0 :: .int .i64 0 :: cellsOf (List.replicate n zero) := rfl
      rw [e, ih, show (n + 1) * 3 = n * 3 + 3 by omega]
      rfl
  have e : half n 0 = List.replicate n zero := by simp [half]
  rw [e, key]
  simp only [madeCells, Array.toList_map, Array.toList_range, List.getElem?_map, List.getElem?_replicate]
  by_cases h : j < n * 3
  · simp [h]
    have : j % 3 = 0 ∨ j % 3 = 1 ∨ j % 3 = 2 := by omega
    rcases this with e | e | e <;> simp [e]
  · simp [h]
theorem cell_info : (Try.prog.info? 82).map (fun i => (i.zero, i.size, i.bytes)) = some (some (.agg #[.int .i64 0, .int .i64 0, .int .i64 0]), 3, 24) := by kernel_rfl
theorem cell_size : (Try.prog.info? 82).map (·.size) = some 3 := by kernel_rfl

theorem cells_lie {w : World} {g : Nat} {t : TypeId} {xs : List Value} (h : w.heap[g]? = some (.cells xs.toArray t (0, 0))) : ∀ j v, xs[j]? = some v → w.cell? ((⟨g, 0, none⟩ : Addr).add j) = some v := by
  intro j v hj
  rw [Addr.add_lit, Nat.zero_add, (show Blk w g t xs.toArray from h).cell j]
  simpa using hj

theorem row_full {w : World} {base g n size : Nat} {e : TypeId} {xs : List Value} (h : w.ownsRow base e size (.slice (some ⟨g, 0, none⟩) n n) n xs) : w.heap[g]? = some (.cells xs.toArray e (0, 0)) := by
  rcases h.2 with ⟨h', _⟩ | ⟨g', cap, cur, h', hb, hg, hc, hm, hs, ht⟩
  · simp at h'
  · simp only [Value.slice.injEq, Option.some.injEq, Addr.mk.injEq, and_true, true_and] at h'
    obtain ⟨rfl, rfl⟩ := h'
    rw [hg, ← ht, List.take_of_length_le (by simp [hs])]

/-- Repeat, at the one cell of a new memory. -/
def Repeated (n : Nat) (w : World) (e : Ending) (w' : World) : Prop :=
  e = .returned (.slice (some ⟨w.heap.size, 0, none⟩) n n) ∧ Blk w' w.heap.size 82 (cellsOf (Cs.new n)).toArray ∧ Below w.heap.size w w'

theorem prepared {w w1 : World} {n gx : Nat} (hx : Blk w gx 82 (cellsOf [one]).toArray)
    (hown : w1.ownsRow w.heap.size 82 3 (.slice (some ⟨w.heap.size, 0, none⟩) n n) n (madeCells (Value.agg #[.int .i64 0, .int .i64 0, .int .i64 0]).cells (n * 3)).toList) (hgr : w.grownBy w1 none) :
    w1.heap[w.heap.size]? = some (.cells (cellsOf (half n 0)).toArray 82 (0, 0)) ∧ (∀ j v, (cellsOf [one])[j]? = some v → w1.cell? ((⟨gx, 0, none⟩ : Addr).add j) = some v) ∧ Below w.heap.size w w1 := by
  have hb : Below w.heap.size w w1 := ⟨hgr.os, hgr.tape, hgr.output, hgr.size, fun k hk => hgr.block k hk (by simp)⟩
  refine ⟨?_, fun j v hj => ?_, hb⟩
  · rw [row_full hown, made_zero]
  · rw [Addr.add_lit, Nat.zero_add, (hx.below hb hx.lt).cell j]
    simpa using hj

set_option maxRecDepth 100000 in
set_option maxHeartbeats 2000000 in
theorem repeat_c (n gx cx : Nat) (hn0 : 1 ≤ n) (hn : n ≤ 64) (w : World) (hx : Blk w gx 82 (cellsOf [one]).toArray) :
    Calls Try.prog 55 #[.slice (some ⟨gx, 0, none⟩) 1 cx, .int .i64 n] w (Repeated n w) := by
  obtain ⟨i0, hi, hz0, hz1, hz2⟩ := info_parts cell_info
  have HM := hide (mul_c n hn)
  have HX := hide hx
  have hgx := hx.lt
  clear hx
  have c1 : IntKind.u64.wrap 1 = 1 := by rw [IntKind.wrap_u64]; omega
  have c2 : IntKind.u64.wrap (n : Int) = n := by rw [IntKind.wrap_u64]; omega
  have c3 : IntKind.i64.wrap (n : Int) = n := by rw [IntKind.wrap_i64]; omega
  go_enter Try.func55, Try.ntmps55
  go_wp2_with (first
    | (go_at_call 76; refine (HM.out _).mono ?_; rintro e w' ⟨rfl, rfl⟩)
    | (refine wpList_make_full _ rfl (.tmp 29) (.tmp 29) 79 rfl w.heap.size 82 i0 _ 3 Try.underlying79 hi hz0 hz1 .i64 .i64 n n n rfl rfl rfl rfl (by rw [hz2]; omega) (by simp only [maxLen]; omega) (Nat.le_refl _) ?_; intro w1 hown hgr; have HP := hide (prepared HX.out hown hgr); have sz1 := hgr.size; clear hown hgr)
    | ((with_reducible show wpList _ _ _ _ _ _); refine wpList_copy_wide (o := ⟨some 33, _, _, _, _, _⟩) rfl (.tmp 31) (.tmp 32) 79 79 rfl 82 3 Try.underlying79 cell_size w.heap.size 0 n n ⟨gx, 0, none⟩ 1 cx 1 rfl rfl (Nat.min_eq_left hn0) (cellsOf (half n 0)) 82 HP.out.1 (cellsOf [one]) rfl HP.out.2.1 (by rw [cellsOf_length, cellsOf_length, half_length n 0 (Nat.zero_le _)]; simp; omega) (cellsOf_one _) ?_; intro w2 hh ho; have H2 := hide hh; have O2 := hide ho; have HB := hide HP.out.2.2; clear hh ho HP))
  have H2' := H2.out
  rw [show (0 : Nat) = 0 * 3 from rfl, show [one] = List.replicate 1 one from rfl, half_step n 0 1 (by omega)] at H2'
  have H3 := hide H2'
  have B3 := hide (HB.out.trans (O2.out.below sz1 (fun k hk => by omega)))
  have sz2 : w.heap.size ≤ w2.heap.size := B3.out.size
  clear H2' H2 O2 HB
  go_wp2_with fail
  go_loopw [8] (fun i wr => ∃ k : Nat, i = .int .i64 k ∧ 1 ≤ k ∧ k ≤ n ∧ wr.heap[w.heap.size]? = some (.cells (cellsOf (half n k)).toArray 82 (0, 0)) ∧ Below w.heap.size w wr) (fun i _ => n - (intOf i).toNat)
  case atStart => exact ⟨1, rfl, Nat.le_refl _, hn0, H3.out, B3.out⟩
  case round =>
    obtain ⟨k, rfl, hk0, hk1, hH, hB⟩ := hrel
    have HH := hide hH
    have BB := hide hB
    have szr : w.heap.size ≤ wr.heap.size := hB.size
    clear hH hB H3 B3
    by_cases hlt : k < n
    · have HS := hide (cells_lie HH.out)
      by_cases hm : k ≤ n - k
      · have hne : ¬ n = k := by omega
        have HSR := hide (fun j v hj => HS.out j v (half_src n k (k) (Nat.le_refl _) j v hj))
        have HST := hide (half_step n k (k) (by omega))
        have s1 : IntKind.i64.wrap ((k : Int) + ((k : Nat) : Int)) = (k : Int) + ((k : Nat) : Int) := IntWalk.i64_in _ (by omega)
        clear HS
        go_wp2_with fail
        go_region_held3 (fun _ => True) (trivial) ((refine step_copy_wide rfl (.tmp 41) (.tmp 44) 79 79 rfl 82 3 Try.underlying79 cell_size w.heap.size (k * 3) (n - k) (n - k) ⟨w.heap.size, 0, none⟩ k n (k) (by rfl) (by rfl) (by first | exact Nat.min_eq_left (by omega) | exact Nat.min_eq_right (by omega)) (cellsOf (half n k)) 82 HH.out (cellsOf (List.replicate (k) one)) (by rw [cellsOf_length, List.length_replicate]) HSR.out (by rw [cellsOf_length, cellsOf_length, half_length n k hk1, List.length_replicate]; omega) (cellsOf_one _) ?_; intro w3 hh ho; rw [HST.out] at hh; have H3 := hide hh; have O3 := hide ho; clear hh ho))
        have B3 := hide ((below_drewN BB.out 1).trans (O3.out.below szr (fun k hk => by omega)))
        go_wp2
        go_roundw
        case rel => exact ⟨k + (k), by go_num, by omega, by omega, H3.out, B3.out⟩
        case measure => simp [intOf]; omega
      · have hne : ¬ n = k := by omega
        have HSR := hide (fun j v hj => HS.out j v (half_src n k (n - k) (by omega) j v hj))
        have HST := hide (half_step n k (n - k) (by omega))
        have s1 : IntKind.i64.wrap ((k : Int) + ((n - k : Nat) : Int)) = (k : Int) + ((n - k : Nat) : Int) := IntWalk.i64_in _ (by omega)
        clear HS
        go_wp2_with fail
        go_region_held3 (fun _ => True) (trivial) ((refine step_copy_wide rfl (.tmp 41) (.tmp 44) 79 79 rfl 82 3 Try.underlying79 cell_size w.heap.size (k * 3) (n - k) (n - k) ⟨w.heap.size, 0, none⟩ k n (n - k) (by rfl) (by rfl) (by first | exact Nat.min_eq_left (by omega) | exact Nat.min_eq_right (by omega)) (cellsOf (half n k)) 82 HH.out (cellsOf (List.replicate (n - k) one)) (by rw [cellsOf_length, List.length_replicate]) HSR.out (by rw [cellsOf_length, cellsOf_length, half_length n k hk1, List.length_replicate]; omega) (cellsOf_one _) ?_; intro w3 hh ho; rw [HST.out] at hh; have H3 := hide hh; have O3 := hide ho; clear hh ho))
        have B3 := hide ((below_drewN BB.out 1).trans (O3.out.below szr (fun k hk => by omega)))
        go_wp2
        go_roundw
        case rel => exact ⟨k + (n - k), by go_num, by omega, by omega, H3.out, B3.out⟩
        case measure => simp [intOf]; omega
    · obtain rfl : k = n := by omega
      have e := HH.out
      rw [half_all] at e
      have HE := hide e
      clear e
      go_wp2
      go_ret
      exact ⟨rfl, HE.out, BB.out⟩

/-- What Make hands back. -/
def Made (n : Nat) (w : World) (e : Ending) (w' : World) : Prop :=
  ∃ b g, e = .returned (.tuple #[.pointer (some ⟨b, 0, none⟩), .int .i64 0]) ∧ Mem w' w.heap.size b g n (Cs.new n) ∧ Below w.heap.size w w'

theorem make_ok (n : Nat) (hn0 : 1 ≤ n) (hn : n ≤ 64) (w : World) : Calls Try.prog 16 #[.int .i64 n] w (Made n w) := by
  have hx : Blk (w.alloc (.cells (cellsOf [one]).toArray 82)) w.heap.size 82 (cellsOf [one]).toArray := Blk.new _ _ _
  have hR := repeat_c n w.heap.size 1 hn0 hn _ hx
  have HR := hide hR
  have hB : Below w.heap.size w (w.alloc (.cells (cellsOf [one]).toArray 82)) := (Below.refl _ _).alloc (Nat.le_refl _) _
  have HB := hide hB
  have F : ∀ w1 : World, Below (w.alloc (.cells (cellsOf [one]).toArray 82)).heap.size (w.alloc (.cells (cellsOf [one]).toArray 82)) w1 → Blk w1 (w.alloc (.cells (cellsOf [one]).toArray 82)).heap.size 82 (cellsOf (Cs.new n)).toArray →
      Mem (w1.alloc (.cells #[.slice (some ⟨(w.alloc (.cells (cellsOf [one]).toArray 82)).heap.size, 0, none⟩) n n] 84)) w.heap.size w1.heap.size (w.alloc (.cells (cellsOf [one]).toArray 82)).heap.size n (Cs.new n) ∧ Below w.heap.size w (w1.alloc (.cells #[.slice (some ⟨(w.alloc (.cells (cellsOf [one]).toArray 82)).heap.size, 0, none⟩) n n] 84)) := by
    intro w1 hb hg
    have hsz := hB.size
    have hsz1 := hb.size
    have hb1 : Below w.heap.size w w1 := hB.trans (hb.mono hsz)
    have hlen := Cs.new_length n
    refine ⟨⟨by omega, ?_, ?_, by omega, by omega⟩, hb1.alloc (by omega) _⟩
    · rw [hlen]
      exact Blk.new _ _ _
    · rw [hlen]
      refine ⟨by rw [cellsOf_length, hlen], .inr ⟨_, n, (cellsOf (Cs.new n)).toArray, rfl, hsz, hg.alloc _, Nat.le_refl _, by simp only [maxLen]; omega, by simp [cellsOf_length, hlen], ?_⟩⟩
      rw [List.take_of_length_le (by simp [cellsOf_length, hlen])]
  have HF := hide F
  clear hx hR hB F
  have h0 : (1 : Int) ≤ (n : Int) := by omega
  have h1 : (n : Int) ≤ 64 := by omega
  go_enter Try.func16, Try.ntmps16
  go_wp2_with (go_at_call 55; refine HR.out.mono ?_; rintro e w1 ⟨rfl, hg, hb⟩; have HG := hide hg; have HB1 := hide hb; clear hg hb)
  go_ret2
  have hf := HF.out _ HB1.out HG.out
  rw [World.size_alloc] at hf
  exact ⟨_, _, rfl, hf⟩

theorem make_bad (n : Int) (hn : n < 1 ∨ 64 < n) (w : World) : Calls Try.prog 16 #[.int .i64 n] w fun e w' => e = .returned (.tuple #[.pointer none, .int .i64 2]) ∧ w = w' := by
  by_cases h1 : n < 1
  · clear hn
    go_enter Try.func16, Try.ntmps16
    go_wp2
    go_ret2
    exact ⟨rfl, rfl⟩
  · have h2 : 64 < n := by omega
    clear hn
    go_enter Try.func16, Try.ntmps16
    go_wp2
    go_ret2
    exact ⟨rfl, rfl⟩
end Go.Proofs.Ytaoonjamlcdfaaa
