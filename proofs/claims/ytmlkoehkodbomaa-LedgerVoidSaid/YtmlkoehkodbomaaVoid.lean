/-
  The walk of the law LedgerVoid.
-/
import Derived.Test.YtmlkoehkodbomaaCopies
namespace Go.Proofs.Ytmlkoehkodbomaa
open Go.RowKit

/-- From w on the ledger at p is none. -/
def Void (w : World) (p : Option Addr) : Prop := ∀ w', Below w.heap.size w w' → Calls Try.prog 32 #[.pointer p] w' fun e w'' => e = .returned (.bool false) ∧ w' = w''
theorem Void.now {w : World} {p : Option Addr} (h : Void w p) : Calls Try.prog 32 #[.pointer p] w fun e w'' => e = .returned (.bool false) ∧ w = w'' := h w (Below.refl _ _)
theorem Void.later {w w' : World} {p : Option Addr} (h : Void w p) (hb : Below w.heap.size w w') : Void w' p := fun w'' h'' => h w'' (hb.trans (h''.mono hb.size))

theorem void_nil (w : World) : Void w none := by
  intro w' _
  go_enter Try.func32, Try.ntmps32
  go_wp2
  go_ret
  exact ⟨rfl, rfl⟩

theorem void_zero {w : World} {b : Nat} {v0 v1 : Value} (h : Blk w b 53 #[v0, v1, .bool false]) : Void w (some ⟨b, 0, none⟩) := by
  intro w' hb
  have h' := h.below hb h.lt
  have c2 := h'.cell 2
  simp at c2
  clear h h' hb
  go_enter Try.func32, Try.ntmps32
  go_wp2
  go_ret
  exact ⟨rfl, rfl⟩

/-- The answer, and that nothing that was there has turned. -/
def Says (v : Value) (w : World) (e : Ending) (w' : World) : Prop := e = .returned v ∧ Below w.heap.size w w'

theorem from_v {w : World} {p : Option Addr} (h : Void w p) : Calls Try.prog 25 #[.pointer p] w (Says (.int .i64 0) w) := by
  have H := hide h.now
  clear h
  go_enter Try.func25, Try.ntmps25
  go_wp2_with (go_at_call 32; refine H.out.mono ?_; rintro e w' ⟨rfl, rfl⟩)
  go_ret
  exact ⟨rfl, Below.refl _ _⟩

theorem end_v {w : World} {p : Option Addr} (h : Void w p) : Calls Try.prog 16 #[.pointer p] w (Says (.int .i64 0) w) := by
  have H := hide h.now
  have HF := hide (from_v h)
  clear h
  go_enter Try.func16, Try.ntmps16
  go_wp2_with (first | (go_at_call 32; refine H.out.mono ?_; rintro e w' ⟨rfl, rfl⟩) | (go_at_call 25; refine HF.out.mono ?_; rintro e w' ⟨rfl, hb⟩; have HB := hide hb; clear hb))
  go_ret
  exact ⟨rfl, HB.out⟩

theorem add_v {w : World} {p : Option Addr} (h : Void w p) (to : Int) (k : Bool) : Calls Try.prog 30 #[.pointer p, .int .i64 to, .bool k] w (Says (.int .i64 1) w) := by
  have H := hide (fun w' hb => (h.later (w' := w') hb).now)
  have HF := hide (end_v h)
  clear h
  go_enter Try.func30, Try.ntmps30
  go_wp2_with (first | (go_at_call 32; refine (H.out _ HB.out).mono ?_; rintro e w' ⟨rfl, rfl⟩) | (go_at_call 16; refine HF.out.mono ?_; rintro e w' ⟨rfl, hb⟩; have HB := hide hb; clear hb))
  go_ret
  exact ⟨rfl, HB.out⟩

theorem accept_v {w : World} {p : Option Addr} (h : Void w p) (to : Int) : Calls Try.prog 13 #[.pointer p, .int .i64 to] w (Says (.int .i64 1) w) := by
  have H := hide (add_v h to true)
  clear h
  go_enter Try.func13, Try.ntmps13
  go_wp2_with (go_at_call 30; refine H.out.mono ?_; rintro e w' ⟨rfl, hb⟩; have HB := hide hb; clear hb)
  go_ret
  exact ⟨rfl, HB.out⟩

theorem skip_v {w : World} {p : Option Addr} (h : Void w p) (to : Int) : Calls Try.prog 12 #[.pointer p, .int .i64 to] w (Says (.int .i64 1) w) := by
  have H := hide (add_v h to false)
  clear h
  go_enter Try.func12, Try.ntmps12
  go_wp2_with (go_at_call 30; refine H.out.mono ?_; rintro e w' ⟨rfl, hb⟩; have HB := hide hb; clear hb)
  go_ret
  exact ⟨rfl, HB.out⟩

theorem back_v {w : World} {p : Option Addr} (h : Void w p) (to : Int) : Calls Try.prog 21 #[.pointer p, .int .i64 to] w (Says (.int .i64 1) w) := by
  have H := hide h.now
  clear h
  go_enter Try.func21, Try.ntmps21
  go_wp2_with (first | go_step3 | (go_at_call 32; refine H.out.mono ?_; rintro e w' ⟨rfl, rfl⟩))
  rw [Exit.noGoto_ret]
  go_ret
  exact ⟨rfl, Below.refl _ _⟩

theorem isat_v {w : World} {p : Option Addr} (h : Void w p) (n : Int) : Calls Try.prog 23 #[.pointer p, .int .i64 n] w (Says (.tuple #[.bool false, .int .i64 1]) w) := by
  have hb := (Below.refl w.heap.size w).alloc (Nat.le_refl _) (.cells #[.int .i64 n] 3)
  have HB := hide hb
  have H := hide ((h.later hb).now)
  clear h hb
  go_enter Try.func23, Try.ntmps23
  go_wp2_with (go_at_call 32; refine H.out.mono ?_; rintro e w' ⟨rfl, rfl⟩)
  go_ret2
  exact ⟨rfl, HB.out⟩

theorem spans_v {w : World} {p : Option Addr} (h : Void w p) (k : Bool) : Calls Try.prog 31 #[.pointer p, .bool k] w (Says (.slice none 0 0) w) := by
  have H := hide h.now
  clear h
  go_enter Try.func31, Try.ntmps31
  go_wp2_with (go_at_call 32; refine H.out.mono ?_; rintro e w' ⟨rfl, rfl⟩)
  go_ret
  exact ⟨rfl, Below.refl _ _⟩

theorem accepted_v {w : World} {p : Option Addr} (h : Void w p) : Calls Try.prog 14 #[.pointer p] w (Says (.slice none 0 0) w) := by
  have H := hide (spans_v h true)
  clear h
  go_enter Try.func14, Try.ntmps14
  go_wp2_with (go_at_call 31; refine H.out.mono ?_; rintro e w' ⟨rfl, hb⟩; have HB := hide hb; clear hb)
  go_ret
  exact ⟨rfl, HB.out⟩

theorem skipped_v {w : World} {p : Option Addr} (h : Void w p) : Calls Try.prog 15 #[.pointer p] w (Says (.slice none 0 0) w) := by
  have H := hide (spans_v h false)
  clear h
  go_enter Try.func15, Try.ntmps15
  go_wp2_with (go_at_call 31; refine H.out.mono ?_; rintro e w' ⟨rfl, hb⟩; have HB := hide hb; clear hb)
  go_ret
  exact ⟨rfl, HB.out⟩

theorem copy_v {w : World} {p : Option Addr} (h : Void w p) : Calls Try.prog 29 #[.pointer p] w (Says (.pointer none) w) := by
  have H := hide h.now
  clear h
  go_enter Try.func29, Try.ntmps29
  go_wp2_with (go_at_call 32; refine H.out.mono ?_; rintro e w' ⟨rfl, rfl⟩)
  go_ret
  exact ⟨rfl, Below.refl _ _⟩

set_option maxRecDepth 100000 in
set_option maxHeartbeats 8000000 in
theorem void_c (n : Int) (w : World) : Calls Try.prog 8 #[.int .i64 n] w fun e w' => e = .returned (.bool true) ∧ Below w.heap.size w w' := by
  go_enter Try.func8, Try.ntmps8
  go_wp2_with fail
  refine (works_c w).mono ?_
  rintro e w0 ⟨rfl, hB0⟩
  have sz0 := hB0.size
  have HZ := hide (void_zero (Blk.new w0 53 #[.int .i64 0, .slice none 0 0, .bool false]))
  have HN := hide (void_nil (w0.alloc (.cells #[.int .i64 0, .slice none 0 0, .bool false] 53)))
  have HB := hide (hB0.alloc sz0 (.cells #[.int .i64 0, .slice none 0 0, .bool false] 53))
  have sz : w.heap.size ≤ (w0.alloc (.cells #[.int .i64 0, .slice none 0 0, .bool false] 53)).heap.size := HB.out.size
  clear hB0 sz0
  go_wp2_with fail
  generalize w0.heap.size = z at *
  generalize w0.alloc (.cells #[.int .i64 0, .slice none 0 0, .bool false] 53) = w1 at *
  refine (isat_v HN.out n).mono ?_
  rintro e w2 ⟨rfl, hb⟩
  have HN := hide (HN.out.later hb)
  have HZ := hide (HZ.out.later hb)
  have HB := hide (HB.out.trans (hb.mono sz))
  have sz : w.heap.size ≤ w2.heap.size := HB.out.size
  clear hb
  go_wp2_with fail
  refine (isat_v HZ.out n).mono ?_
  rintro e w3 ⟨rfl, hb⟩
  have HN := hide (HN.out.later hb)
  have HZ := hide (HZ.out.later hb)
  have HB := hide (HB.out.trans (hb.mono sz))
  have sz : w.heap.size ≤ w3.heap.size := HB.out.size
  clear hb
  go_wp2_with fail
  refine (accept_v HN.out n).mono ?_
  rintro e w4 ⟨rfl, hb⟩
  have HN := hide (HN.out.later hb)
  have HZ := hide (HZ.out.later hb)
  have HB := hide (HB.out.trans (hb.mono sz))
  have sz : w.heap.size ≤ w4.heap.size := HB.out.size
  clear hb
  go_wp2_with fail
  refine (accept_v HZ.out n).mono ?_
  rintro e w5 ⟨rfl, hb⟩
  have HN := hide (HN.out.later hb)
  have HZ := hide (HZ.out.later hb)
  have HB := hide (HB.out.trans (hb.mono sz))
  have sz : w.heap.size ≤ w5.heap.size := HB.out.size
  clear hb
  go_wp2_with fail
  refine (skip_v HN.out n).mono ?_
  rintro e w6 ⟨rfl, hb⟩
  have HN := hide (HN.out.later hb)
  have HZ := hide (HZ.out.later hb)
  have HB := hide (HB.out.trans (hb.mono sz))
  have sz : w.heap.size ≤ w6.heap.size := HB.out.size
  clear hb
  go_wp2_with fail
  refine (skip_v HZ.out n).mono ?_
  rintro e w7 ⟨rfl, hb⟩
  have HN := hide (HN.out.later hb)
  have HZ := hide (HZ.out.later hb)
  have HB := hide (HB.out.trans (hb.mono sz))
  have sz : w.heap.size ≤ w7.heap.size := HB.out.size
  clear hb
  go_wp2_with fail
  refine (back_v HN.out n).mono ?_
  rintro e w8 ⟨rfl, hb⟩
  have HN := hide (HN.out.later hb)
  have HZ := hide (HZ.out.later hb)
  have HB := hide (HB.out.trans (hb.mono sz))
  have sz : w.heap.size ≤ w8.heap.size := HB.out.size
  clear hb
  go_wp2_with fail
  refine (back_v HZ.out n).mono ?_
  rintro e w9 ⟨rfl, hb⟩
  have HN := hide (HN.out.later hb)
  have HZ := hide (HZ.out.later hb)
  have HB := hide (HB.out.trans (hb.mono sz))
  have sz : w.heap.size ≤ w9.heap.size := HB.out.size
  clear hb
  go_wp2_with fail
  refine (from_v HN.out).mono ?_
  rintro e w10 ⟨rfl, hb⟩
  have HN := hide (HN.out.later hb)
  have HZ := hide (HZ.out.later hb)
  have HB := hide (HB.out.trans (hb.mono sz))
  have sz : w.heap.size ≤ w10.heap.size := HB.out.size
  clear hb
  go_wp2_with fail
  refine (from_v HZ.out).mono ?_
  rintro e w11 ⟨rfl, hb⟩
  have HN := hide (HN.out.later hb)
  have HZ := hide (HZ.out.later hb)
  have HB := hide (HB.out.trans (hb.mono sz))
  have sz : w.heap.size ≤ w11.heap.size := HB.out.size
  clear hb
  go_wp2_with fail
  refine (end_v HN.out).mono ?_
  rintro e w12 ⟨rfl, hb⟩
  have HN := hide (HN.out.later hb)
  have HZ := hide (HZ.out.later hb)
  have HB := hide (HB.out.trans (hb.mono sz))
  have sz : w.heap.size ≤ w12.heap.size := HB.out.size
  clear hb
  go_wp2_with fail
  refine (end_v HZ.out).mono ?_
  rintro e w13 ⟨rfl, hb⟩
  have HN := hide (HN.out.later hb)
  have HZ := hide (HZ.out.later hb)
  have HB := hide (HB.out.trans (hb.mono sz))
  have sz : w.heap.size ≤ w13.heap.size := HB.out.size
  clear hb
  go_wp2_with fail
  refine (accepted_v HN.out).mono ?_
  rintro e w14 ⟨rfl, hb⟩
  have HN := hide (HN.out.later hb)
  have HZ := hide (HZ.out.later hb)
  have HB := hide (HB.out.trans (hb.mono sz))
  have sz : w.heap.size ≤ w14.heap.size := HB.out.size
  clear hb
  go_wp2_with fail
  refine (skipped_v HZ.out).mono ?_
  rintro e w15 ⟨rfl, hb⟩
  have HN := hide (HN.out.later hb)
  have HZ := hide (HZ.out.later hb)
  have HB := hide (HB.out.trans (hb.mono sz))
  have sz : w.heap.size ≤ w15.heap.size := HB.out.size
  clear hb
  go_wp2_with fail
  refine (copy_v HN.out).mono ?_
  rintro e w16 ⟨rfl, hb⟩
  have HN := hide (HN.out.later hb)
  have HZ := hide (HZ.out.later hb)
  have HB := hide (HB.out.trans (hb.mono sz))
  have sz : w.heap.size ≤ w16.heap.size := HB.out.size
  clear hb
  go_wp2_with fail
  refine (copy_v HZ.out).mono ?_
  rintro e w17 ⟨rfl, hb⟩
  have HN := hide (HN.out.later hb)
  have HZ := hide (HZ.out.later hb)
  have HB := hide (HB.out.trans (hb.mono sz))
  have sz : w.heap.size ≤ w17.heap.size := HB.out.size
  clear hb
  go_wp2
  go_ret
  exact ⟨rfl, HB.out⟩

end Go.Proofs.Ytmlkoehkodbomaa
