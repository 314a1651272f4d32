/-
  The walk of the law CellCounts.
-/
import Derived.Deep.DeepCutAuto
import Derived.Test.YtaoonjamlcdfaaaWorks
namespace Go.Proofs.Ytaoonjamlcdfaaa
open Go.RowKit

/-- The slice value v holds the numbers x, below block B. -/
def IntsAt (B : Nat) (w : World) (v : Value) (x : Nat → Int) (len : Nat) : Prop :=
  ∃ ao cap, v = .slice ao len cap ∧ len ≤ cap ∧ cap ≤ maxLen ∧ (ao = none → cap = 0) ∧ (0 < len → ∃ g off, ao = some ⟨g, off, none⟩ ∧ g < B ∧ ∀ j, j < len → w.cell? ⟨g, off + j, none⟩ = some (.int .i64 (x j)))

theorem IntsAt.below {w w1 : World} {v : Value} {x : Nat → Int} {len : Nat} (ha : IntsAt w.heap.size w v x len) (hB1 : Below w.heap.size w w1) : IntsAt w.heap.size w1 v x len := by
  obtain ⟨ao, cap, hv, hl, hm, hn, hc⟩ := ha
  refine ⟨ao, cap, hv, hl, hm, hn, fun hpos => ?_⟩
  obtain ⟨g, off, e, hg, hcs⟩ := hc hpos
  exact ⟨g, off, e, hg, fun j hj => (hB1.cell (p := ⟨g, off + j, none⟩) hg).trans (hcs j hj)⟩

def sumTo (f : Nat → Int) : Nat → Int
  | 0 => 0
  | n + 1 => sumTo f n + f n
theorem sumTo_shift (g : Nat → Int) (n : Nat) : sumTo (fun j => g (j + 1)) n = sumTo g n + g n - g 0 := by
  induction n with
  | zero => simp [sumTo]
  | succ n ih => simp only [sumTo, ih]; omega
theorem sumTo_rot (f : Nat → Int) (n t : Nat) : sumTo (fun j => f ((j + t) % n)) n = sumTo f n := by
  induction t with
  | zero =>
    have : ∀ m, m ≤ n → sumTo (fun j => f ((j + 0) % n)) m = sumTo f m := by
      intro m
      induction m with
      | zero => intro; rfl
      | succ m ih =>
        intro hm
        have e := ih (by omega)
        simp only [sumTo, Nat.add_zero, Nat.mod_eq_of_lt (show m < n by omega)] at e ⊢
        rw [e]
    exact this n (Nat.le_refl _)
  | succ t ih =>
    have h1 := sumTo_shift (fun j => f ((j + t) % n)) n
    have h2 : (fun j => f ((j + (t + 1)) % n)) = (fun j => (fun j => f ((j + t) % n)) (j + 1)) := by
      funext j
      show f ((j + (t + 1)) % n) = f ((j + 1 + t) % n)
      congr 2
      omega
    rw [h2, h1, ih]
    have h3 : (n + t) % n = (0 + t) % n := by rw [Nat.zero_add, Nat.add_mod_left]
    show sumTo f n + f ((n + t) % n) - f ((0 + t) % n) = sumTo f n
    rw [h3]
    omega
theorem new_two : Cs.new 2 = [⟨wrap64 0, -1, ((0 : Nat) : Int)⟩, ⟨0, -1, 0⟩] := by decide +kernel
theorem new_one : Cs.new 1 = [⟨wrap64 0, -1, ((0 : Nat) : Int)⟩] := by decide +kernel
theorem addL_zero (c : Cl) (r : List Cl) (d : Int) : Cs.addL (c :: r) 0 d = ⟨wrap64 (c.v + d), c.by_, wrap64 (c.wr + 1)⟩ :: r := rfl
theorem wrap_wrap (a d : Int) : wrap64 (wrap64 a + d) = wrap64 (a + d) := by unfold wrap64; omega
theorem wrap_small (a : Int) (h0 : -9223372036854775808 ≤ a) (h1 : a ≤ 9223372036854775807) : wrap64 a = a := by unfold wrap64; omega
def umod (a : Int) : Int := a % 18446744073709551616
theorem umod_wrap (a : Int) : IntKind.u64.wrap a = umod a := by rw [IntKind.wrap_u64]; rfl
theorem umod_add (a d : Int) : umod (umod a + umod d) = umod (a + d) := by unfold umod; omega
theorem umod_of_wrap (a : Int) : umod (wrap64 a) = umod a := by unfold umod wrap64; omega

/-- Two memories; the second was made at world w2. -/
structure Pair (w1 w2 w : World) (b g b' g' : Nat) (l l' : List Cl) : Prop where
  first : Held w1 w b g 2 l
  snd : Held w2 w b' g' 1 l'
  le : w1.heap.size ≤ w2.heap.size
  hb : b < w2.heap.size
  hg : g < w2.heap.size
theorem pair_start {w1 w2 w : World} {b g b' g' : Nat} {l : List Cl} (h : Held w1 w2 b g 2 l) (hm : Mem w w2.heap.size b' g' 1 (Cs.new 1)) (hb : Below w2.heap.size w2 w) : Pair w1 w2 w b g b' g' l (Cs.new 1) :=
  ⟨h.later hb, ⟨hm, hb⟩, h.size, h.mem.blk.lt, h.mem.lt.2⟩
theorem Pair.turn {w1 w2 w : World} {b g b' g' : Nat} {l l' l'' : List Cl} {F : Nat} {args : Array Value} {x : Value} (h : Pair w1 w2 w b g b' g' l l') (hc : Calls Try.prog F args w (Turns w2.heap.size b' g' 1 l'' x w)) :
    Calls Try.prog F args w fun e w' => e = .returned x ∧ Pair w1 w2 w' b g b' g' l l'' :=
  hc.mono fun _ _ ⟨he, hm, ho⟩ => by
    have hg' := h.snd.mem.lt.1
    have h1 := h.hb
    have h2 := h.hg
    have h3 := h.le
    exact ⟨he, ⟨h.first.mem.only ho (by omega) (by omega), only_below h.first.below ho h.first.size (by omega)⟩, ⟨hm, only_below h.snd.below ho h.snd.size hg'⟩, h.le, h.hb, h.hg⟩

set_option maxRecDepth 100000 in
set_option maxHeartbeats 4000000 in
theorem counts_c (v : Value) (x : Nat → Int) (len : Nat) (turn : Int) (w : World) (ha : IntsAt w.heap.size w v x len) : Calls Try.prog 3 #[v, .int .i64 turn] w fun e w' => e = .returned (.bool true) ∧ Below w.heap.size w w' := by
  obtain ⟨ao, cap, rfl, hlc, hcm, hnil, hcell⟩ := ha
  have HC := hide hcell
  have HN := hide hnil
  clear hcell hnil
  have hcm' : (cap : Int) ≤ 9223372036854775807 := by simp only [maxLen] at hcm; omega
  have hlc' : (len : Int) ≤ (cap : Int) := by omega
  clear hcm
  go_enter Try.func3, Try.ntmps3
  go_wp2_with fail
  refine (works_c w).mono ?_
  rintro e w1 ⟨rfl, hB1⟩
  have HB1 := hide hB1
  have sz1 := hB1.size
  clear hB1
  go_wp2_with fail
  refine (make_ok 2 (by decide) (by decide) w1).mono ?_
  rintro e w2 ⟨b, g, rfl, hm, hb⟩
  have H2 := hide (made_held hm hb)
  clear hm hb
  go_upto_region 6 with fail
  go_cut [0] (fun s0 wx => wx = w2 ∧ ∃ n : Nat, s0 = .slice ao n cap ∧ n ≤ len ∧ n ≤ 200)
  case first =>
    go_wp2_with fail
    all_goals go_meet
    · exact ⟨rfl, 200, rfl, by omega, Nat.le_refl _⟩
    · exact ⟨rfl, len, rfl, Nat.le_refl _, by omega⟩
  obtain ⟨rfl, n, rfl, hnl, hn2⟩ := hcut
  have H2' := H2.out
  have e0 : Cs.new 2 = [⟨wrap64 (sumTo x 0), -1, ((0 : Nat) : Int)⟩, ⟨0, -1, 0⟩] := new_two
  rw [e0] at H2'
  have H3 := hide H2'
  have hn3 : (n : Int) ≤ 200 := by omega
  clear H2 H2' e0 hlc' hlc
  go_wp2_with fail
  go_loopw [7, 8] (fun s i wr => ∃ k : Nat, k ≤ n ∧ i = .int .i64 k ∧ s = .int .u64 (umod (sumTo x k)) ∧ Held w1 wr b g 2 [⟨wrap64 (sumTo x k), -1, k⟩, ⟨0, -1, 0⟩]) (fun _ i _ => n - (intOf i).toNat)
  case atStart => exact ⟨0, Nat.zero_le _, rfl, rfl, H3.out⟩
  case round =>
    obtain ⟨k, hk, rfl, rfl, hH⟩ := hrel
    have HH := hide hH
    clear hH H3
    by_cases hlt : k < n
    · obtain ⟨ga, off, rfl, hga, hcs⟩ := HC.out (by omega)
      have c1 := ((HB1.out.trans (HH.out.below.mono sz1)).cell (p := ⟨ga, off + k, none⟩) hga).trans (hcs k (by omega))
      have HCS := hide (hcs k (by omega))
      clear hcs
      have hS := hide (show sumTo x (k + 1) = sumTo x k + x k from rfl)
      generalize hx : x k = y at *
      generalize sumTo x k = sk at *
      clear hx
      go_wp2_with fail
      refine (HH.out.turn (add_c HH.out.mem 0 y)).mono ?_
      rintro e w4 ⟨rfl, h⟩
      have H4 := hide h
      have c2 := ((HB1.out.trans (h.below.mono sz1)).cell (p := ⟨ga, off + k, none⟩) hga).trans HCS.out
      clear h c1
      rw [addL_zero] at H4
      simp only [wrap_wrap] at H4
      rw [wrap_small ((k : Int) + 1) (by omega) (by omega)] at H4
      generalize Cs.loadV [⟨wrap64 sk, -1, k⟩, ⟨0, -1, 0⟩] 0 = q1 at *
      generalize Cs.loadE [⟨wrap64 sk, -1, k⟩, ⟨0, -1, 0⟩] 0 = q2 at *
      have hu : IntKind.u64.wrap (umod sk + IntKind.u64.wrap y) = umod (sk + y) := by rw [umod_wrap y, umod_wrap, umod_add]
      go_wp2
      go_roundw
      case rel => exact ⟨k + 1, by omega, by go_num, by rw [hS.out], by rw [hS.out]; exact H4.out⟩
      case measure => simp [intOf]; omega
    · obtain rfl : k = n := by omega
      have szr := HH.out.size
      go_wp2_with fail
      refine (make_ok 1 (by decide) (by decide) wr).mono ?_
      rintro e w3 ⟨b2, g2, rfl, hm, hb⟩
      have HP := hide (pair_start HH.out hm hb)
      clear hm hb HH
      rw [new_one] at HP
      have HW := hide (show Below w.heap.size w wr → True from fun _ => trivial)
      clear HW
      generalize hf : (fun j => x ((j + (among turn k).toNat) % k)) = f at *
      have HP1 : Hid (Pair w1 wr w3 b g b2 g2 [⟨wrap64 (sumTo x k), -1, k⟩, ⟨0, -1, 0⟩] [⟨wrap64 (sumTo f 0), -1, ((0 : Nat) : Int)⟩]) := HP
      clear HP
      have HF := hide hf
      clear hf
      go_wp2_with fail
      go_loopw [11] (fun i wr2 => ∃ j : Nat, j ≤ k ∧ i = .int .i64 j ∧ Pair w1 wr wr2 b g b2 g2 [⟨wrap64 (sumTo x k), -1, k⟩, ⟨0, -1, 0⟩] [⟨wrap64 (sumTo f j), -1, j⟩]) (fun i _ => k - (intOf i).toNat)
      case atStart => exact ⟨0, Nat.zero_le _, rfl, HP1.out⟩
      case round =>
        obtain ⟨j, hj, rfl, hP⟩ := hrel
        have HP := hide hP
        clear hP HP1
        by_cases hlt2 : j < k
        · obtain ⟨ga, off, rfl, hga, hcs⟩ := HC.out (by omega)
          have hta := among_bd turn k (by omega)
          have HA := hide (among_c turn k)
          obtain ⟨t, ht⟩ : ∃ t : Nat, among turn k = t := ⟨(among turn k).toNat, by omega⟩
          rw [ht] at HA hta
          have hfj : f j = x ((j + t) % k) := by rw [← HF.out]; show x ((j + (among turn k).toNat) % k) = _; rw [ht]; rfl
          clear ht
          have hlt3 : (j + t) % k < k := Nat.mod_lt _ (by omega)
          have hS := hide (show sumTo f (j + 1) = sumTo f j + f j from rfl)
          have hbw : Below w.heap.size w wr := HB1.out.trans (HP.out.first.below.mono sz1)
          have c1 := (hbw.cell (p := ⟨ga, off + (j + t) % k, none⟩) hga).trans (hcs ((j + t) % k) (by omega))
          rw [← hfj] at c1
          generalize f j = y at *
          generalize sumTo f j = sj at *
          clear hcs hfj hbw
          have s1 : IntKind.i64.wrap ((j : Int) + (t : Int)) = ((j + t : Nat) : Int) := by rw [IntKind.wrap_i64]; omega
          have s3 : (0 : Int) ≤ ((j : Int) + (t : Int)) % (k : Int) := Int.emod_nonneg _ (by omega)
          have s4 : ((j : Int) + (t : Int)) % (k : Int) < (k : Int) := Int.emod_lt_of_pos _ (by omega)
          go_wp2_with fail
          refine (HA.out wr (by omega) (by omega)).mono ?_
          rintro e w5 ⟨rfl, rfl⟩
          go_wp2_with fail
          refine (HP.out.turn (add_c HP.out.snd.mem 0 y)).mono ?_
          rintro e w6 ⟨rfl, h⟩
          have H6 := hide h
          clear h
          rw [addL_zero] at H6
          simp only [wrap_wrap] at H6
          rw [wrap_small ((j : Int) + 1) (by omega) (by omega)] at H6
          generalize Cs.loadV [⟨wrap64 sj, -1, j⟩] 0 = q1 at *
          generalize Cs.loadE [⟨wrap64 sj, -1, j⟩] 0 = q2 at *
          clear s1 s3 s4
          go_wp2
          go_roundw
          case rel => exact ⟨j + 1, by omega, by go_num, by rw [hS.out]; exact H6.out⟩
          case measure => simp [intOf]; omega
        · obtain rfl : j = k := by omega
          have hrot : sumTo f j = sumTo x j := by rw [← HF.out]; exact sumTo_rot x j _
          rw [hrot] at HP
          clear hrot HF
          have hu : IntKind.u64.wrap (wrap64 (sumTo x j)) = umod (sumTo x j) := by rw [umod_wrap, umod_of_wrap]
          generalize sumTo x j = sj at *
          have L1 := load_c HP.out.first.mem 0
          have L2 := load_c HP.out.snd.mem 0
          have L3 := writes_c HP.out.first.mem 0
          rw [show Cs.loadV [⟨wrap64 sj, -1, j⟩, ⟨0, -1, 0⟩] 0 = wrap64 sj from rfl] at L1
          rw [show Cs.loadV [⟨wrap64 sj, -1, j⟩] 0 = wrap64 sj from rfl] at L2
          rw [show Cs.writes [⟨wrap64 sj, -1, j⟩, ⟨0, -1, 0⟩] 0 = j from rfl] at L3
          have L1 := hide L1
          have L2 := hide L2
          have L3 := hide L3
          generalize Cs.loadE [⟨wrap64 sj, -1, j⟩, ⟨0, -1, 0⟩] 0 = q1 at *
          generalize Cs.loadE [⟨wrap64 sj, -1, j⟩] 0 = q2 at *
          generalize wrap64 sj = v9 at *
          have HB9 := hide (HB1.out.trans (HP.out.first.below.mono sz1))
          clear HP
          go_wp2_with fail
          refine L1.out.mono ?_
          rintro e w7 ⟨rfl, rfl⟩
          go_wp2_with fail
          refine L2.out.mono ?_
          rintro e w7 ⟨rfl, rfl⟩
          go_wp2_with fail
          refine L3.out.mono ?_
          rintro e w7 ⟨rfl, rfl⟩
          go_wp2
          go_ret
          exact ⟨rfl, HB9.out⟩
end Go.Proofs.Ytaoonjamlcdfaaa
