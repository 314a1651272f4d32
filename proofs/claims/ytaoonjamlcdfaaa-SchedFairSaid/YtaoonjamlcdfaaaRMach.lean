/-
  The reference's machine as it lies in Go's memory.
-/
import Derived.Test.YtaoonjamlcdfaaaTwin
import Derived.Test.YtaoonjamlcdfaaaRRight
namespace Go.Proofs.Ytaoonjamlcdfaaa
open Go.RowKit

/-- Where the reference's machine lies. -/
structure RLay where
  B : Nat
  b : Nat
  m : Nat
  v : Nat
  y : Nat
  z : Nat
  sv : Value
  bs : List Nat
  pvs : List Value
/-- The blocks that a step may turn. -/
def RLay.may (L : RLay) (k : Nat) : Prop := (k = L.v ∨ k = L.y ∨ k = L.z) ∨ k ∈ L.bs
def RLay.all (L : RLay) (k : Nat) : Prop := k = L.b ∨ k = L.m ∨ (k = L.v ∨ k = L.y ∨ k = L.z) ∨ L.sv.ownBlock = some k ∨ k ∈ L.bs ∨ ∃ pv ∈ L.pvs, pv.ownBlock = some k
structure RMach (w : World) (L : RLay) (st : St) : Prop where
  hb : L.B ≤ L.b
  blk : Blk w L.b 107 #[.pointer (some ⟨L.m, 0, none⟩), L.sv]
  mem : RMem w L.B L.m L.v L.y L.z st.cells
  ses : Sess w L.B 110 108 L.sv L.bs L.pvs st.ses
  good : Sd.Good st

section
variable {w w' : World} {L : RLay} {st : St} {s s' : Ss}
theorem RMach.drewN (h : RMach w L st) (n : Nat) : RMach (w.drewN n) L st := ⟨h.hb, h.blk, h.mem.drewN n, h.ses.drewN n, h.good⟩
theorem RMach.later (h : RMach w L st) (hb : Below w.heap.size w w') : RMach w' L st := ⟨h.hb, h.blk.below hb h.blk.lt, h.mem.later hb, h.ses.later hb, h.good⟩
theorem RMach.heads (h : RMach w L st) : w.cell? ⟨L.b, 0, none⟩ = some (.pointer (some ⟨L.m, 0, none⟩)) ∧ w.cell? ⟨L.b, 1, none⟩ = some L.sv := ⟨h.blk.cell 0, h.blk.cell 1⟩
theorem RMach.at_ (h : RMach w L st) {k : Int} (hs : Sd.get st.ses k = some s) : ∃ sg scap j pv, L.sv = .slice (some ⟨sg, 0, none⟩) st.ses.length scap ∧ w.cell? ⟨sg, k.toNat, none⟩ = some (.pointer (some ⟨j, 0, none⟩)) ∧ L.bs[k.toNat]? = some j ∧ L.pvs[k.toNat]? = some pv ∧ SesAt w L.B 110 j pv s ∧ Sd.Fit st.cells.length s := by
  obtain ⟨h0, h1, h2⟩ := Sd.get_some hs
  obtain ⟨j, pv, e1, e2, hse⟩ := h.ses.at_ h2
  obtain ⟨sg, scap, hv, _, _, _, _, hc, _⟩ := ownsRow_pos h.ses.row (by omega)
  refine ⟨sg, scap, j, pv, hv, hc _ _ ?_, e1, e2, hse, h.good.fit s (Sd.get_mem hs)⟩
  simp [e1]
theorem RMach.all_lt (h : RMach w L st) {k : Nat} (hk : L.all k) : L.B ≤ k ∧ k < w.heap.size := by
  obtain ⟨b1, b2, b3, b4⟩ := h.mem.hB
  rcases hk with rfl | rfl | (rfl | rfl | rfl) | hk | hk | ⟨pv, hpv, hk⟩
  · exact ⟨h.hb, h.blk.lt⟩
  · exact ⟨b1, h.mem.blk.lt⟩
  · exact ⟨b2, h.mem.hv.lt⟩
  · exact ⟨b3, h.mem.hy.lt⟩
  · exact ⟨b4, h.mem.hz.lt⟩
  · exact h.ses.lt.1 k hk
  · exact h.ses.lt.2.1 k hk
  · exact h.ses.lt.2.2 pv hpv k hk
theorem RLay.may_all {k : Nat} (h : L.may k) : L.all k := by
  rcases h with h | h
  · exact .inr (.inr (.inl h))
  · exact .inr (.inr (.inr (.inr (.inl h))))
theorem RMach.lt (h : RMach w L st) : ∀ k, L.may k → L.B ≤ k ∧ k < w.heap.size := fun _ hk => h.all_lt (RLay.may_all hk)
theorem RMach.only {S : Nat → Prop} (h : RMach w L st) (ho : Only S w w') (hS : ∀ k, L.all k → ¬ S k) : RMach w' L st :=
  ⟨h.hb, h.blk.only ho (hS _ (.inl rfl)), h.mem.only ho (hS _ (.inr (.inl rfl))) (hS _ (.inr (.inr (.inl (.inl rfl))))) (hS _ (.inr (.inr (.inl (.inr (.inl rfl)))))) (hS _ (.inr (.inr (.inl (.inr (.inr rfl)))))),
    h.ses.only ho (fun j hj => hS j (.inr (.inr (.inr (.inl hj))))) (fun k hk => hS k (.inr (.inr (.inr (.inr (.inl hk)))))) (fun pv hpv j hj => hS j (.inr (.inr (.inr (.inr (.inr ⟨pv, hpv, hj⟩)))))), h.good⟩

/-- A session turns. -/
theorem RMach.turnSes (h : RMach w L st) {k : Nat} {j : Nat} {pv : Value} (hs : st.ses[k]? = some s) (hj : L.bs[k]? = some j) (hp : L.pvs[k]? = some pv) (hn : SesAt w' L.B 110 j pv s') (hf : Sd.Fit st.cells.length s') (ho : Only (fun i => i = j) w w') : RMach w' L ⟨st.cells, st.ses.set k s'⟩ := by
  have hse := h.ses.ses k j pv s hj hp hs
  have n1 : j ≠ L.b := hse.blk.ne_ h.blk (by decide)
  have n2 : j ≠ L.m := hse.blk.ne_ h.mem.blk (by decide)
  have n3 : j ≠ L.v := hse.blk.ne_ h.mem.hv (by decide)
  have n4 : j ≠ L.y := hse.blk.ne_ h.mem.hy (by decide)
  have n5 : j ≠ L.z := hse.blk.ne_ h.mem.hz (by decide)
  refine ⟨h.hb, h.blk.only ho (fun e => n1 e.symm), h.mem.only ho (fun e => n2 e.symm) (fun e => n3 e.symm) (fun e => n4 e.symm) (fun e => n5 e.symm), h.ses.turn hj hp (by decide) (by decide) ⟨_, hse.blk⟩ hn ho, ?_⟩
  obtain ⟨g1, g2, g3, g4, g5⟩ := h.good
  refine ⟨g1, g2, g3, by simpa using g4, fun s2 hs2 => ?_⟩
  rcases List.mem_or_eq_of_mem_set hs2 with h2 | rfl
  · exact g5 s2 h2
  · exact hf

/-- The cells turn. -/
theorem RMach.turnCells (h : RMach w L st) {l' : List Cl} (hm : RMem w' L.B L.m L.v L.y L.z l') (hl : l'.length = st.cells.length) (hok : Ok l') (ho : Only (fun i => i = L.v ∨ i = L.y ∨ i = L.z) w w') : RMach w' L ⟨l', st.ses⟩ := by
  obtain ⟨f1, f2, f3⟩ := h.ses.far h.mem.hv (by decide) (by decide) (by decide)
  obtain ⟨g1, g2, g3⟩ := h.ses.far h.mem.hy (by decide) (by decide) (by decide)
  obtain ⟨e1, e2, e3⟩ := h.ses.far h.mem.hz (by decide) (by decide) (by decide)
  have n1 : L.b ≠ L.v := h.blk.ne_ h.mem.hv (by decide)
  have n2 : L.b ≠ L.y := h.blk.ne_ h.mem.hy (by decide)
  have n3 : L.b ≠ L.z := h.blk.ne_ h.mem.hz (by decide)
  refine ⟨h.hb, h.blk.only ho (fun e => by rcases e with e | e | e <;> contradiction), hm, h.ses.only ho (fun j hj e => ?_) (fun k hk e => ?_) (fun pv hpv j hj e => ?_), ?_⟩
  · rcases e with rfl | rfl | rfl
    · exact f1 hj
    · exact g1 hj
    · exact e1 hj
  · rcases e with rfl | rfl | rfl
    · exact f2 _ hk rfl
    · exact g2 _ hk rfl
    · exact e2 _ hk rfl
  · rcases e with rfl | rfl | rfl
    · exact f3 pv hpv hj
    · exact g3 pv hpv hj
    · exact e3 pv hpv hj
  · obtain ⟨g1, g2, g3, g4, g5⟩ := h.good
    exact ⟨by show 0 < l'.length; omega, by show l'.length ≤ 64; omega, hok, g4, fun s2 hs2 => by show Sd.Fit l'.length s2; rw [hl]; exact g5 s2 hs2⟩

/-- What a step of the reference's machine leaves. -/
def RSteps (L : RLay) (st' : St) (x : Value) (w : World) (e : Ending) (w' : World) : Prop := e = .returned x ∧ RMach w' L st' ∧ Only L.may w w'

set_option maxHeartbeats 4000000 in
theorem rover_c (h : RMach w L st) (k : Int) : Calls Try.prog 72 #[.pointer (some ⟨L.b, 0, none⟩), .int .i64 k] w fun e w' => e = .returned (.bool (Sd.overB st k)) ∧ ∃ n, w' = w.drewN n := by
  have c1 := h.heads.2
  cases hs : Sd.get st.ses k with
  | none =>
    have e : Sd.overB st k = true := by simp only [Sd.overB, hs]
    rw [e]
    obtain ⟨ao, scap, hv, _⟩ := ownsRow_shape h.ses.row
    rw [hv] at c1
    have hk := Sd.get_none hs
    clear h hs e hv
    by_cases h0 : k < 0
    · clear hk
      go_enter Try.func72, Try.ntmps72
      go_wp2_with fail
      go_quiet (fail)
      go_wp2
      go_ret
      exact ⟨rfl, _, rfl⟩
    · have h1 : 0 ≤ k := by omega
      have h2 : (st.ses.length : Int) ≤ k := by omega
      clear hk h0
      generalize st.ses.length = n at *
      obtain ⟨q, rfl⟩ : ∃ q : Nat, k = (q : Int) := ⟨k.toNat, by omega⟩
      have h3 : n ≤ q := by omega
      clear h1 h2
      have hg1 : decide ((n : Int) ≤ (q : Int)) = true := by simp; omega
      have hg2 : decide ((q : Int) < 0) = false := by simp
      go_enter Try.func72, Try.ntmps72
      go_wp2_with fail
      go_quiet (fail)
      go_wp2
      go_ret
      exact ⟨rfl, _, rfl⟩
  | some s =>
    obtain ⟨sg, scap, j, pv, hv, hc, _, _, hse, hf⟩ := h.at_ hs
    obtain ⟨k0, k1, _⟩ := Sd.get_some hs
    rw [hv] at c1
    obtain ⟨ao, pcap, hpv, _⟩ := ownsRow_shape hse.prog
    obtain ⟨d0, d1⟩ := hse.cell_at
    rw [hpv] at d0
    have e : Sd.overB st k = Sd.over s := by simp only [Sd.overB, hs]
    have hlen := hf.len
    have hpl := hf.place
    rw [e]
    clear h hs e hv hpv hse hf
    generalize st.ses.length = n at *
    unfold Sd.over
    by_cases ho : s.p.length ≤ s.at_
    · have e : decide (s.p.length ≤ s.at_) = true := by simpa using ho
      have h1 : (s.p.length : Int) ≤ (s.at_ : Int) := by omega
      rw [e]
      generalize s.at_ = a at *
      generalize s.p.length = pn at *
      clear e ho
      go_enter Try.func72, Try.ntmps72
      go_wp2_with fail
      go_quiet (fail)
      go_wp2
      go_ret
      exact ⟨rfl, _, rfl⟩
    · have e : decide (s.p.length ≤ s.at_) = false := by simpa using ho
      have h1 : (s.at_ : Int) < (s.p.length : Int) := by omega
      rw [e]
      generalize s.at_ = a at *
      generalize s.p.length = pn at *
      clear e ho
      go_enter Try.func72, Try.ntmps72
      go_wp2_with fail
      go_quiet (fail)
      go_wp2
      go_ret
      exact ⟨ret_bool (by simp; omega), _, rfl⟩
end
end Go.Proofs.Ytaoonjamlcdfaaa
