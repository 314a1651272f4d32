/-
  A memory through a law's walk; Among; and that the chapter's example works.
-/
import Derived.Test.YtaoonjamlcdfaaaRepeat
namespace Go.Proofs.Ytaoonjamlcdfaaa
open Go.RowKit

/-- A memory that a law carries from world w0 on. -/
structure Held (w0 w : World) (b g cap : Nat) (l : List Cl) : Prop where
  mem : Mem w w0.heap.size b g cap l
  below : Below w0.heap.size w0 w

theorem Held.size {w0 w : World} {b g cap : Nat} {l : List Cl} (h : Held w0 w b g cap l) : w0.heap.size ≤ w.heap.size := h.below.size
theorem Held.drewN {w0 w : World} {b g cap : Nat} {l : List Cl} (h : Held w0 w b g cap l) (n : Nat) : Held w0 (w.drewN n) b g cap l := ⟨h.mem.drewN n, below_drewN h.below n⟩
theorem Held.later {w0 w w' : World} {b g cap : Nat} {l : List Cl} (h : Held w0 w b g cap l) (hb : Below w.heap.size w w') : Held w0 w' b g cap l := ⟨h.mem.later hb, h.below.trans (hb.mono h.size)⟩
theorem only_below {w0 w w' : World} {B g : Nat} (h : Below B w0 w) (ho : Only (fun k => k = g) w w') (hs : B ≤ w.heap.size) (hg : B ≤ g) : Below B w0 w' := h.trans (ho.below hs (fun k hk => by omega))
theorem Held.turn {w0 w : World} {b g cap : Nat} {l l' : List Cl} {F : Nat} {args : Array Value} {x : Value} (h : Held w0 w b g cap l) (hc : Calls Try.prog F args w (Turns w0.heap.size b g cap l' x w)) :
    Calls Try.prog F args w fun e w' => e = .returned x ∧ Held w0 w' b g cap l' :=
  hc.mono fun _ _ ⟨he, hm, ho⟩ => ⟨he, hm, only_below h.below ho h.size h.mem.lt.1⟩

/-- Among, at a divisor that is no less than 1. -/
def among (x n : Int) : Int := (IntKind.u64.wrap x).tmod n
theorem among_bd (x n : Int) (h : 1 ≤ n) : 0 ≤ among x n ∧ among x n < n := by
  unfold among
  have h0 := wrap_u64_nonneg x
  rw [Int.tmod_eq_emod_of_nonneg h0]
  exact ⟨Int.emod_nonneg _ (by omega), Int.emod_lt_of_pos _ (by omega)⟩
theorem ret_int {a b : Int} (h : a = b) : Ending.returned (.int .i64 a) = .returned (.int .i64 b) := by rw [h]
theorem ret_bool {a b : Bool} (h : a = b) : Ending.returned (.bool a) = .returned (.bool b) := by rw [h]
theorem among_c (x n : Int) (w : World) (h : 1 ≤ n) (hn : n ≤ 1099511627777) : Calls Try.prog 18 #[.int .i64 x, .int .i64 n] w fun e w' => e = .returned (.int .i64 (among x n)) ∧ w = w' := by
  have hw : wrap64 ((IntKind.u64.wrap x).tmod n) = among x n := by
    have := among_bd x n h
    show wrap64 (among x n) = among x n
    unfold wrap64
    omega
  go_enter Try.func18, Try.ntmps18
  go_wp2
  go_ret
  exact ⟨ret_int hw, rfl⟩

theorem made_held {n : Nat} {w w' : World} {b g : Nat} (hm : Mem w' w.heap.size b g n (Cs.new n)) (hb : Below w.heap.size w w') : Held w w' b g n (Cs.new n) := ⟨hm, hb⟩

set_option maxHeartbeats 2000000 in
theorem works_c (w : World) : Calls Try.prog 15 #[] w fun e w' => e = .returned (.bool true) ∧ Below w.heap.size w w' := by
  go_enter Try.func15, Try.ntmps15
  go_wp2_with fail
  refine (make_ok 2 (by decide) (by decide) w).mono ?_
  rintro e w1 ⟨b, g, rfl, hm, hb⟩
  have H1 := hide (made_held hm hb)
  clear hm hb
  go_wp2_with fail
  refine (H1.out.turn (add_c H1.out.mem 0 5)).mono ?_
  rintro e w2 ⟨rfl, h⟩
  have H2 := hide h
  clear h H1
  rw [show Cs.loadV (Cs.new 2) 0 = 0 from rfl, show Cs.loadE (Cs.new 2) 0 = 0 from rfl]
  rw [show Cs.addL (Cs.new 2) 0 5 = [⟨5, -1, 1⟩, ⟨0, -1, 0⟩] by decide +kernel] at H2
  go_wp2_with fail
  refine (H2.out.turn (swap_c H2.out.mem 0 5 7)).mono ?_
  rintro e w3 ⟨rfl, h⟩
  have H3 := hide h
  clear h H2
  rw [show Cs.swapB [⟨5, -1, 1⟩, ⟨0, -1, 0⟩] 0 5 = true by decide, show Cs.loadE [⟨5, -1, 1⟩, ⟨0, -1, 0⟩] 0 = 0 by decide]
  rw [show Cs.swapL [⟨5, -1, 1⟩, ⟨0, -1, 0⟩] 0 5 7 = [⟨7, -1, 2⟩, ⟨0, -1, 0⟩] by decide +kernel] at H3
  go_wp2_with fail
  refine (load_c H3.out.mem 0).mono ?_
  rintro e w4 ⟨rfl, rfl⟩
  rw [show Cs.loadV [⟨7, -1, 2⟩, ⟨0, -1, 0⟩] 0 = 7 by decide, show Cs.loadE [⟨7, -1, 2⟩, ⟨0, -1, 0⟩] 0 = 0 by decide]
  go_wp2_with fail
  refine (writes_c H3.out.mem 0).mono ?_
  rintro e w4 ⟨rfl, rfl⟩
  rw [show Cs.writes [⟨7, -1, 2⟩, ⟨0, -1, 0⟩] 0 = 2 by decide]
  go_wp2_with fail
  refine (holder_c H3.out.mem 0).mono ?_
  rintro e w4 ⟨rfl, rfl⟩
  rw [show Cs.holder [⟨7, -1, 2⟩, ⟨0, -1, 0⟩] 0 = -1 by decide]
  go_wp2
  go_ret
  exact ⟨rfl, H3.out.below⟩
end Go.Proofs.Ytaoonjamlcdfaaa
