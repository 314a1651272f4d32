/-
  Machines that a law carries on: one, or two beside each other.
-/
import Derived.Test.YtaoonjamlcdfaaaSWorks
import Derived.Test.YtaoonjamlcdfaaaRegs
namespace Go.Proofs.Ytaoonjamlcdfaaa
open Go.RowKit

/-- A machine's blocks. -/
def Lay.all (L : Lay) (k : Nat) : Prop := k = L.b ∨ k = L.m ∨ k = L.g ∨ L.sv.ownBlock = some k ∨ k ∈ L.bs ∨ ∃ pv ∈ L.pvs, pv.ownBlock = some k
section
variable {w w' : World} {L L1 L2 : Lay} {st st' s1 s2 : St} {w0 : World}
theorem Mach.all_lt (h : Mach w L st) {k : Nat} (hk : L.all k) : L.B ≤ k ∧ k < w.heap.size := by
  rcases hk with rfl | rfl | rfl | hk | hk | ⟨pv, hpv, hk⟩
  · exact ⟨h.hb, h.blk.lt⟩
  · exact ⟨h.mem.hb, h.mem.blk.lt⟩
  · exact h.mem.lt
  · exact h.ses.lt.1 k hk
  · exact h.ses.lt.2.1 k hk
  · exact h.ses.lt.2.2 pv hpv k hk
theorem Lay.may_all {k : Nat} (h : L.may k) : L.all k := by
  rcases h with rfl | h
  · exact .inr (.inr (.inl rfl))
  · exact .inr (.inr (.inr (.inr (.inl h))))
theorem Mach.only {S : Nat → Prop} (h : Mach w L st) (ho : Only S w w') (hS : ∀ k, L.all k → ¬ S k) : Mach w' L st :=
  ⟨h.hb, h.blk.only ho (hS _ (.inl rfl)), h.mem.only ho (hS _ (.inr (.inl rfl))) (hS _ (.inr (.inr (.inl rfl)))),
    h.ses.only ho (fun j hj => hS j (.inr (.inr (.inr (.inl hj))))) (fun k hk => hS k (.inr (.inr (.inr (.inr (.inl hk)))))) (fun pv hpv j hj => hS j (.inr (.inr (.inr (.inr (.inr ⟨pv, hpv, hj⟩)))))), h.good⟩

/-- A machine from world w0 on. -/
structure One (w0 w : World) (L : Lay) (st : St) : Prop where
  mach : Mach w L st
  below : Below w0.heap.size w0 w
  hB : w0.heap.size ≤ L.B
theorem One.size (h : One w0 w L st) : w0.heap.size ≤ w.heap.size := h.below.size
theorem One.later (h : One w0 w L st) (hb : Below w.heap.size w w') : One w0 w' L st := ⟨h.mach.later hb, h.below.trans (hb.mono h.size), h.hB⟩
theorem One.drewN (h : One w0 w L st) (n : Nat) : One w0 (w.drewN n) L st := ⟨h.mach.drewN n, below_drewN h.below n, h.hB⟩
theorem One.steps {F : Nat} {args : Array Value} {x : Value} (h : One w0 w L st) (hc : Calls Try.prog F args w (Steps L st' x w)) : Calls Try.prog F args w fun e w' => e = .returned x ∧ One w0 w' L st' :=
  hc.mono fun _ _ ⟨he, hm, ho⟩ => ⟨he, hm, Only.then h.below ho h.size (fun k hk => by have := (h.mach.lt k hk).1; have := h.hB; omega), h.hB⟩
theorem One.run1 (h : One w0 w L st) (p : Int) : Calls Try.prog 41 #[.pointer (some ⟨L.b, 0, none⟩), .slice (some ⟨w.heap.size, 0, none⟩) 1 1] (w.alloc (.cells #[.int .i64 p] 3)) fun e w' => e = .returned (.int .i64 ((Sd.stepB st p).toNat : Int)) ∧ One w0 w' L (Sd.stepS st p) := by
  have hal : Below w.heap.size w (w.alloc (.cells #[.int .i64 p] 3)) := (Below.refl _ _).alloc (Nat.le_refl _) _
  have hbk : Blk (w.alloc (.cells #[.int .i64 p] 3)) w.heap.size 3 #[.int .i64 p] := Blk.new _ _ _
  have h2 := h.later hal
  have := h2.steps (run_c (g := w.heap.size) (off := 0) (cap := 1) (len := 1) (ao := some ⟨w.heap.size, 0, none⟩) h2.mach (fun _ => p) (by decide) (fun _ => rfl) (fun _ => ⟨by simp, fun hk => by have := (h.mach.lt _ hk).2; omega⟩) (fun i hi => by
    obtain rfl : i = 0 := by omega
    rw [Nat.zero_add, hbk.cell]
    rfl))
  simpa [Sd.runN, Sd.cntN] using this

/-- Two machines; the second lies behind the first. -/
structure Twin (w0 w : World) (L1 L2 : Lay) (s1 s2 : St) : Prop where
  one : One w0 w L1 s1
  two : Mach w L2 s2
  sep : ∀ k, L1.all k → k < L2.B
  hB : w0.heap.size ≤ L2.B
theorem twin_start {w2 : World} (h : One w0 w L1 s1) (hm : Mach w2 L2 s2) (hb : Below w.heap.size w w2) (hB : w.heap.size ≤ L2.B) : Twin w0 w2 L1 L2 s1 s2 :=
  ⟨h.later hb, hm, fun k hk => by have := (h.mach.all_lt hk).2; omega, by have := h.size; omega⟩
theorem Twin.later (h : Twin w0 w L1 L2 s1 s2) (hb : Below w.heap.size w w') : Twin w0 w' L1 L2 s1 s2 := ⟨h.one.later hb, h.two.later hb, h.sep, h.hB⟩
theorem Twin.drewN (h : Twin w0 w L1 L2 s1 s2) (n : Nat) : Twin w0 (w.drewN n) L1 L2 s1 s2 := ⟨h.one.drewN n, h.two.drewN n, h.sep, h.hB⟩
theorem Twin.at1 {F : Nat} {args : Array Value} {x : Value} (h : Twin w0 w L1 L2 s1 s2) (hc : Calls Try.prog F args w (Steps L1 st' x w)) : Calls Try.prog F args w fun e w' => e = .returned x ∧ Twin w0 w' L1 L2 st' s2 :=
  hc.mono fun _ _ ⟨he, hm, ho⟩ => ⟨he, ⟨hm, Only.then h.one.below ho h.one.size (fun k hk => by have := (h.one.mach.lt k hk).1; have := h.one.hB; omega), h.one.hB⟩,
    h.two.only ho (fun k hk hm => by have := (h.two.all_lt hk).1; have := h.sep k (Lay.may_all hm); omega), h.sep, h.hB⟩
theorem Twin.at2 {F : Nat} {args : Array Value} {x : Value} (h : Twin w0 w L1 L2 s1 s2) (hc : Calls Try.prog F args w (Steps L2 st' x w)) : Calls Try.prog F args w fun e w' => e = .returned x ∧ Twin w0 w' L1 L2 s1 st' :=
  hc.mono fun _ _ ⟨he, hm, ho⟩ => ⟨he, ⟨h.one.mach.only ho (fun k hk hm => by have := h.sep k hk; have := (h.two.lt k hm).1; omega),
    Only.then h.one.below ho h.one.size (fun k hk => by have := (h.two.lt k hk).1; have := h.hB; omega), h.one.hB⟩, hm, h.sep, h.hB⟩
theorem run1_steps (h : Mach w L st) (p : Int) : Calls Try.prog 41 #[.pointer (some ⟨L.b, 0, none⟩), .slice (some ⟨w.heap.size, 0, none⟩) 1 1] (w.alloc (.cells #[.int .i64 p] 3)) (Steps L (Sd.stepS st p) (.int .i64 ((Sd.stepB st p).toNat : Int)) (w.alloc (.cells #[.int .i64 p] 3))) := by
  have hal : Below w.heap.size w (w.alloc (.cells #[.int .i64 p] 3)) := (Below.refl _ _).alloc (Nat.le_refl _) _
  have hbk : Blk (w.alloc (.cells #[.int .i64 p] 3)) w.heap.size 3 #[.int .i64 p] := Blk.new _ _ _
  have h2 := h.later hal
  have := run_c (g := w.heap.size) (off := 0) (cap := 1) (len := 1) (ao := some ⟨w.heap.size, 0, none⟩) h2 (fun _ => p) (by decide) (fun _ => rfl) (fun _ => ⟨by simp, fun hk => by have := (h.lt _ hk).2; omega⟩) (fun i hi => by
    obtain rfl : i = 0 := by omega
    rw [Nat.zero_add, hbk.cell]
    rfl)
  simpa [Sd.runN, Sd.cntN] using this
theorem Twin.run1 (h : Twin w0 w L1 L2 s1 s2) (p : Int) : Calls Try.prog 41 #[.pointer (some ⟨L1.b, 0, none⟩), .slice (some ⟨w.heap.size, 0, none⟩) 1 1] (w.alloc (.cells #[.int .i64 p] 3)) fun e w' => e = .returned (.int .i64 ((Sd.stepB s1 p).toNat : Int)) ∧ Twin w0 w' L1 L2 (Sd.stepS s1 p) s2 :=
  (h.later ((Below.refl _ _).alloc (Nat.le_refl _) _)).at1 (run1_steps h.one.mach p)
theorem Twin.run2 (h : Twin w0 w L1 L2 s1 s2) (p : Int) : Calls Try.prog 41 #[.pointer (some ⟨L2.b, 0, none⟩), .slice (some ⟨w.heap.size, 0, none⟩) 1 1] (w.alloc (.cells #[.int .i64 p] 3)) fun e w' => e = .returned (.int .i64 ((Sd.stepB s2 p).toNat : Int)) ∧ Twin w0 w' L1 L2 s1 (Sd.stepS s2 p) :=
  (h.later ((Below.refl _ _).alloc (Nat.le_refl _) _)).at2 (run1_steps h.two p)

theorem regs4 (h : Mach w L st) (k : Int) : ∃ a b c d, Sd.regsOf st k = [a, b, c, d] := by
  unfold Sd.regsOf
  cases hs : Sd.get st.ses k with
  | none => exact ⟨0, 0, 0, 0, rfl⟩
  | some s => exact four (h.good.fit s (Sd.get_mem hs)).reg
theorem scan_code {cells : Int} : ∀ (ps : List (List In)) (k j : Nat) (x : Int), Sd.scan cells k ps = some (j, x) → x = 3 ∨ x = 5 := by
  intro ps
  induction ps with
  | nil => intro k j x h; cases h
  | cons p ps ih =>
    intro k j x h
    unfold Sd.scan at h
    split at h
    · cases h; exact .inl rfl
    · split at h
      · exact ih _ _ _ h
      · cases h; exact .inr rfl
theorem makeE_code {cells : Int} {ps : List (List In)} {j : Nat} {x : Int} (h : Sd.makeE cells ps = some (j, x)) : x = 2 ∨ x = 3 ∨ x = 5 := by
  unfold Sd.makeE at h
  split at h
  · cases h; exact .inl rfl
  · exact .inr (scan_code _ _ _ _ h)
end
end Go.Proofs.Ytaoonjamlcdfaaa
