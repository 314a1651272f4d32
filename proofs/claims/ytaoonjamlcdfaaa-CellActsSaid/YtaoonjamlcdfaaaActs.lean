/-
  The walk of the law CellActs.
-/
import Derived.Deep.CutRange
import Derived.Deep.CutBlock
import Derived.Test.YtaoonjamlcdfaaaRefOps
import Derived.Test.YtaoonjamlcdfaaaAlone
namespace Go.Proofs.Ytaoonjamlcdfaaa
open Go.RowKit

namespace Cs
theorem all_lock {l : List Cl} (k who : Int) (h : Ok l) : Ok (lockL l k who) := by
  unfold lockL
  cases hg : get l k with
  | none => exact h
  | some t =>
    dsimp only
    split
    · rename_i hw
      split
      · exact all_put k _ h (fun _ h => h) (.inr (by simp [isWho] at hw; exact hw.1))
      · exact h
    · exact h
theorem all_free {l : List Cl} (k who : Int) (h : Ok l) : Ok (freeL l k who) := by
  unfold freeL
  cases hg : get l k with
  | none => exact h
  | some t =>
    dsimp only
    split
    · split
      · exact all_put k _ h (fun _ h => h) (.inl rfl)
      · exact h
    · exact h
theorem ok_store {l : List Cl} (k v : Int) (h : Ok l) : Ok (storeL l k v) := all_store (P := fun t => t.by_ = -1 ∨ 0 ≤ t.by_) k v h (fun _ h => h) (fun _ h => h)
theorem ok_swap {l : List Cl} (k was v : Int) (h : Ok l) : Ok (swapL l k was v) := by
  unfold swapL
  split
  · exact ok_store k v h
  · exact h
theorem ok_add {l : List Cl} (k d : Int) (h : Ok l) : Ok (addL l k d) := ok_store k _ h
theorem ok_new (n : Nat) : Ok (new n) := fun t ht => .inl (fresh_new n t ht).1
end Cs

/-- A memory and the reference's beside it. -/
structure Duo (w0 w : World) (b g n B b2 v y z : Nat) (l l2 : List Cl) : Prop where
  held : Held w0 w b g n l
  ref : RMem w B b2 v y z l2
  le : w0.heap.size ≤ B
  hb : b < B
  hg : g < B
  ok : Ok l2
section
variable {w0 w w' : World} {b g n B b2 v y z : Nat} {l l2 l' : List Cl}
theorem Duo.drewN (h : Duo w0 w b g n B b2 v y z l l2) (k : Nat) : Duo w0 (w.drewN k) b g n B b2 v y z l l2 := ⟨h.held.drewN k, h.ref.drewN k, h.le, h.hb, h.hg, h.ok⟩
theorem Duo.later (h : Duo w0 w b g n B b2 v y z l l2) (hb : Below w.heap.size w w') : Duo w0 w' b g n B b2 v y z l l2 := ⟨h.held.later hb, h.ref.later hb, h.le, h.hb, h.hg, h.ok⟩
theorem Duo.one {F : Nat} {args : Array Value} {x : Value} (h : Duo w0 w b g n B b2 v y z l l2) (hc : Calls Try.prog F args w (Turns w0.heap.size b g n l' x w)) :
    Calls Try.prog F args w fun e w' => e = .returned x ∧ Duo w0 w' b g n B b2 v y z l' l2 ∧ Only (fun k => k = g) w w' :=
  hc.mono fun _ _ ⟨he, hm, ho⟩ => by
    obtain ⟨k1, k2, k3, k4⟩ := h.ref.hB
    have h2 := h.hg
    exact ⟨he, ⟨⟨hm, only_below h.held.below ho h.held.size h.held.mem.lt.1⟩, h.ref.only ho (by omega) (by omega) (by omega) (by omega), h.le, h.hb, h.hg, h.ok⟩, ho⟩
theorem Duo.two {F : Nat} {args : Array Value} {x : Value} (h : Duo w0 w b g n B b2 v y z l l2) (hc : Calls Try.prog F args w (RTurns B b2 v y z l' x w)) (hok : Ok l') :
    Calls Try.prog F args w fun e w' => e = .returned x ∧ Duo w0 w' b g n B b2 v y z l l' ∧ Only (fun k => k = v ∨ k = y ∨ k = z) w w' :=
  hc.mono fun _ _ ⟨he, hm, ho⟩ => by
    obtain ⟨k1, k2, k3, k4⟩ := h.ref.hB
    have h1 := h.hb
    have h2 := h.hg
    have h3 := h.le
    have hs := h.held.size
    exact ⟨he, ⟨⟨h.held.mem.only ho (by omega) (by omega), h.held.below.trans (ho.below hs (fun k hk => by omega))⟩, hm, h.le, h.hb, h.hg, hok⟩, ho⟩
theorem Duo.rd (h : Duo w0 w b g n B b2 v y z l l2) : RdI w (.slice (some ⟨v, 0, none⟩) l2.length l2.length) (numsOf l2) := by
  refine ⟨_, l2.length, by rw [numsOf_length], fun _ => ⟨v, rfl, h.ref.hv.lt, fun j x hj => ?_⟩⟩
  rw [h.ref.hv.cell]
  simp only [numsOf, List.getElem?_map, Option.map_eq_some_iff] at hj
  obtain ⟨t, ht, rfl⟩ := hj
  simp [vsOf, ht]
end

/-- An act that lies in a block of its own, beside the two. -/
structure Step (w0 w : World) (b g n B b2 v y z r : Nat) (q : Qd) (l l2 : List Cl) : Prop where
  duo : Duo w0 w b g n B b2 v y z l l2
  act : Blk w r 41 #[.int .i64 q.p, .int .i64 q.q, .int .i64 q.r, .int .i64 q.s]
  nr : r ≠ g ∧ r ≠ v ∧ r ≠ y ∧ r ≠ z
section
variable {w0 w w' : World} {b g n B b2 v y z r : Nat} {q : Qd} {l l2 l' : List Cl}
theorem Step.drewN (h : Step w0 w b g n B b2 v y z r q l l2) (k : Nat) : Step w0 (w.drewN k) b g n B b2 v y z r q l l2 := ⟨h.duo.drewN k, h.act, h.nr⟩
theorem Step.later (h : Step w0 w b g n B b2 v y z r q l l2) (hb : Below w.heap.size w w') : Step w0 w' b g n B b2 v y z r q l l2 := ⟨h.duo.later hb, h.act.below hb h.act.lt, h.nr⟩
theorem Step.one {F : Nat} {args : Array Value} {x : Value} (h : Step w0 w b g n B b2 v y z r q l l2) (hc : Calls Try.prog F args w (Turns w0.heap.size b g n l' x w)) :
    Calls Try.prog F args w fun e w' => e = .returned x ∧ Step w0 w' b g n B b2 v y z r q l' l2 :=
  (h.duo.one hc).mono fun _ _ ⟨he, hd, ho⟩ => ⟨he, hd, h.act.only ho h.nr.1, h.nr⟩
theorem Step.two {F : Nat} {args : Array Value} {x : Value} (h : Step w0 w b g n B b2 v y z r q l l2) (hc : Calls Try.prog F args w (RTurns B b2 v y z l' x w)) (hok : Ok l') :
    Calls Try.prog F args w fun e w' => e = .returned x ∧ Step w0 w' b g n B b2 v y z r q l l' :=
  (h.duo.two hc hok).mono fun _ _ ⟨he, hd, ho⟩ => ⟨he, hd, h.act.only ho (by obtain ⟨_, h2, h3, h4⟩ := h.nr; rintro (rfl | rfl | rfl) <;> contradiction), h.nr⟩
theorem Step.cells (h : Step w0 w b g n B b2 v y z r q l l2) : w.cell? ⟨r, 0, none⟩ = some (.int .i64 q.p) ∧ w.cell? ⟨r, 1, none⟩ = some (.int .i64 q.q) ∧ w.cell? ⟨r, 2, none⟩ = some (.int .i64 q.r) ∧ w.cell? ⟨r, 3, none⟩ = some (.int .i64 q.s) :=
  ⟨h.act.cell 0, h.act.cell 1, h.act.cell 2, h.act.cell 3⟩
end

set_option maxRecDepth 100000 in
set_option maxHeartbeats 16000000 in
theorem acts_c (n0 : Int) (v0 : Value) (x : Nat → Qd) (len : Nat) (w : World) (ha : QdsAt w.heap.size w v0 x len) : Calls Try.prog 6 #[.int .i64 n0, v0] w fun e w' => e = .returned (.bool true) ∧ Below w.heap.size w w' := by
  obtain ⟨ao, cap, rfl, _, _, _, hcell⟩ := ha
  have HC := hide hcell
  clear hcell
  by_cases hn : n0 < 1 ∨ 64 < n0
  · have HM := hide (make_bad n0 hn)
    have HR := hide (rmake_bad n0 hn)
    clear hn
    go_enter Try.func6, Try.ntmps6
    go_wp2_with (first | (go_at_call 16; refine (HM.out _).mono ?_; rintro e w' ⟨rfl, rfl⟩) | (go_at_call 27; refine (HR.out _).mono ?_; rintro e w' ⟨rfl, rfl⟩) | (go_at_call 15; refine (works_c _).mono ?_; rintro e w' ⟨rfl, hb⟩; have HB := hide hb; clear hb))
    go_ret
    exact ⟨rfl, HB.out⟩
  obtain ⟨n, rfl⟩ : ∃ n : Nat, n0 = n := ⟨n0.toNat, by omega⟩
  have hn1 : 1 ≤ n := by omega
  have hn2 : n ≤ 64 := by omega
  clear hn
  go_enter Try.func6, Try.ntmps6
  go_wp2_with fail
  refine (make_ok n hn1 hn2 w).mono ?_
  rintro e w2 ⟨b, g, rfl, hm, hb⟩
  have H2 := hide (made_held hm hb)
  clear hm hb
  go_wp2_with fail
  refine (rmake_ok n hn1 hn2 w2).mono ?_
  rintro e w3 ⟨b2, v, y, z, rfl, hm3, hb3⟩
  have D3 := hide (show Duo w w3 b g n w2.heap.size b2 v y z (Cs.new n) (Cs.new n) from ⟨H2.out.later hb3, hm3, H2.out.size, H2.out.mem.blk.lt, H2.out.mem.lt.2, Cs.ok_new n⟩)
  clear hm3 hb3 H2
  generalize w2.heap.size = B at *
  go_wp2_with fail
  go_loopw [9] (fun i wr => ∃ (k : Nat) (l : List Cl), k ≤ len ∧ i = .int .i64 k ∧ Duo w wr b g n B b2 v y z l l) (fun i _ => len - (intOf i).toNat)
  case atStart => exact ⟨0, _, Nat.zero_le _, rfl, D3.out⟩
  case round =>
    obtain ⟨k, l, hk, rfl, hH⟩ := hrel
    have HH := hide hH
    clear hH D3
    by_cases hlt : k < len ∧ k < 200
    · obtain ⟨hk1, hk2⟩ := hlt
      have hk2' : (k : Int) < 200 := by omega
      obtain ⟨ga, off, rfl, hga, hcs⟩ := HC.out (by omega)
      obtain ⟨k0, k1, k2, k3⟩ := hcs k hk1
      have hbw := HH.out.held.below
      have c0 := (hbw.cell (p := ⟨ga, off + k * 4, none⟩) hga).trans k0
      have c1 := (hbw.cell (p := ⟨ga, off + k * 4 + 1, none⟩) hga).trans k1
      have c2 := (hbw.cell (p := ⟨ga, off + k * 4 + 2, none⟩) hga).trans k2
      have c3 := (hbw.cell (p := ⟨ga, off + k * 4 + 3, none⟩) hga).trans k3
      clear hcs hbw k0 k1 k2 k3
      generalize x k = q at *
      have hS : Step w (wr.alloc (.cells #[.int .i64 q.p, .int .i64 q.q, .int .i64 q.r, .int .i64 q.s] 41)) b g n B b2 v y z wr.heap.size q l l :=
        ⟨HH.out.later ((Below.refl _ _).alloc (Nat.le_refl _) _), Blk.new _ _ _, by have := HH.out.held.mem.lt.2; omega, by have := HH.out.ref.hv.lt; omega, by have := HH.out.ref.hy.lt; omega, by have := HH.out.ref.hz.lt; omega⟩
      have HS := hide hS
      have s0 := HS.out.cells
      obtain ⟨s0, s1, s2, s3⟩ := s0
      clear hS HH
      go_wp2_with fail
      refine (among_c q.p 6 _ (by decide) (by decide)).mono ?_
      rintro e w4 ⟨rfl, rfl⟩
      have hmb := among_bd q.p 6 (by decide)
      generalize among q.p 6 = kind at *
      generalize hr : wr.heap.size = r at *
      generalize wr.alloc (.cells #[.int .i64 q.p, .int .i64 q.q, .int .i64 q.r, .int .i64 q.s] 41) = wx at *
      clear hr c0 c1 c2 c3 s0
      go_upto_block 2 with fail
      go_cut [11] from 64 to 192 (fun s wy => s = .bool true ∧ ∃ l', Step w wy b g n B b2 v y z r q l' l')
      case first =>
        have HL1 := hide (fun wt l2 (h : Step w wt b g n B b2 v y z r q l l2) => load_c h.duo.held.mem q.q)
        rcases (show kind = 0 ∨ kind = 1 ∨ kind = 2 ∨ kind = 3 ∨ kind = 4 ∨ kind = 5 from by omega) with hm | hm | hm | hm | hm | hm
        all_goals (subst hm; clear hmb)
        · go_wp2_with fail
          refine (load_c HS.out.duo.held.mem q.q).mono ?_
          rintro e w5 ⟨rfl, rfl⟩
          go_wp2_with fail
          refine (rload_c HS.out.duo.ref q.q).mono ?_
          rintro e w5 ⟨rfl, rfl⟩
          generalize Cs.loadV l q.q = a1
          generalize Cs.loadE l q.q = a2
          go_wp2_with fail
          go_meet
          exact ⟨rfl, _, HS.out⟩
        · have T1 := hide (fun nd => (HS.out.drewN nd).one (store_c (HS.out.drewN nd).duo.held.mem q.q q.r))
          have T2 := hide (fun (wt : World) (l1 : List Cl) (h : Step w wt b g n B b2 v y z r q l1 l) => h.two (rstore_c h.duo.ref q.q q.r) (Cs.ok_store q.q q.r h.duo.ok))
          have T3 := hide (fun (wt : World) (l1 : List Cl) (h : Step w wt b g n B b2 v y z r q l1 l) => h.cells)
          generalize Cs.storeL l q.q q.r = l9 at *
          generalize Cs.loadE l q.q = a2 at *
          clear HL1
          go_wp2_with fail
          go_region_held3 (fun wt => wt.cell? ⟨r, 1, none⟩ = some (.int .i64 q.q) ∧ wt.cell? ⟨r, 2, none⟩ = some (.int .i64 q.r))
            (first | go_keep | exact ⟨h5.cells.2.1, h5.cells.2.2.1⟩ | exact ⟨h6.cells.2.1, h6.cells.2.2.1⟩)
            ((first | (go_at_call 21; refine (T1.out _).mono ?_; rintro e w5 ⟨rfl, h5⟩) | (go_at_call 29; refine (T2.out _ _ h5).mono ?_; rintro e w6 ⟨rfl, h6⟩)))
          go_wp2_with fail
          go_meet
          exact ⟨rfl, _, h6⟩
        · have T1 := hide (HS.out.one (swap_c HS.out.duo.held.mem q.q q.r q.s))
          have T2 := hide (fun (wt : World) (l1 : List Cl) (h : Step w wt b g n B b2 v y z r q l1 l) => h.two (rswap_c h.duo.ref q.q q.r q.s) (Cs.ok_swap q.q q.r q.s h.duo.ok))
          have T3 := hide (fun (wt : World) (l1 : List Cl) (h : Step w wt b g n B b2 v y z r q l1 l) => h.cells)
          generalize Cs.swapL l q.q q.r q.s = l9 at *
          generalize Cs.swapB l q.q q.r = a1 at *
          generalize Cs.loadE l q.q = a2 at *
          clear HL1
          go_wp2_with fail
          refine T1.out.mono ?_
          rintro e w5 ⟨rfl, h5⟩
          have H5 := hide h5
          obtain ⟨_, d1, d2, d3⟩ := h5.cells
          clear h5 T1 HS s1 s2 s3
          go_wp2_with fail
          refine (T2.out _ _ H5.out).mono ?_
          rintro e w6 ⟨rfl, h6⟩
          have H6 := hide h6
          clear h6 T2 H5 d1 d2 d3
          go_wp2_with fail
          go_meet
          exact ⟨rfl, _, H6.out⟩
        · have T1 := hide (HS.out.one (add_c HS.out.duo.held.mem q.q q.r))
          have T2 := hide (fun (wt : World) (l1 : List Cl) (h : Step w wt b g n B b2 v y z r q l1 l) => h.two (radd_c h.duo.ref q.q q.r) (Cs.ok_add q.q q.r h.duo.ok))
          have T3 := hide (fun (wt : World) (l1 : List Cl) (h : Step w wt b g n B b2 v y z r q l1 l) => h.cells)
          generalize Cs.addL l q.q q.r = l9 at *
          generalize Cs.loadV l q.q = a1 at *
          generalize Cs.loadE l q.q = a2 at *
          clear HL1
          go_wp2_with fail
          refine T1.out.mono ?_
          rintro e w5 ⟨rfl, h5⟩
          have H5 := hide h5
          obtain ⟨_, d1, d2, d3⟩ := h5.cells
          clear h5 T1 HS s1 s2 s3
          go_wp2_with fail
          refine (T2.out _ _ H5.out).mono ?_
          rintro e w6 ⟨rfl, h6⟩
          have H6 := hide h6
          clear h6 T2 H5 d1 d2 d3
          go_wp2_with fail
          go_meet
          exact ⟨rfl, _, H6.out⟩
        · have T1 := hide (fun nd => (HS.out.drewN nd).one (lock_c (HS.out.drewN nd).duo.held.mem q.q q.r))
          have T2 := hide (fun (wt : World) (l1 : List Cl) (h : Step w wt b g n B b2 v y z r q l1 l) => h.two (rlock_c h.duo.ref h.duo.ok q.q q.r) (Cs.all_lock q.q q.r h.duo.ok))
          generalize Cs.lockL l q.q q.r = l9 at *
          generalize Cs.lockE l q.q q.r = a2 at *
          clear HL1
          go_wp2_with fail
          go_region_held3 (fun wt => wt.cell? ⟨r, 1, none⟩ = some (.int .i64 q.q) ∧ wt.cell? ⟨r, 2, none⟩ = some (.int .i64 q.r))
            (first | go_keep | exact ⟨h5.cells.2.1, h5.cells.2.2.1⟩ | exact ⟨h6.cells.2.1, h6.cells.2.2.1⟩)
            ((first | (go_at_call 24; refine (T1.out _).mono ?_; rintro e w5 ⟨rfl, h5⟩) | (go_at_call 33; refine (T2.out _ _ h5).mono ?_; rintro e w6 ⟨rfl, h6⟩)))
          go_wp2_with fail
          go_meet
          exact ⟨rfl, _, h6⟩
        · have T1 := hide (fun nd => (HS.out.drewN nd).one (free_c (HS.out.drewN nd).duo.held.mem q.q q.r))
          have T2 := hide (fun (wt : World) (l1 : List Cl) (h : Step w wt b g n B b2 v y z r q l1 l) => h.two (rfree_c h.duo.ref q.q q.r) (Cs.all_free q.q q.r h.duo.ok))
          generalize Cs.freeL l q.q q.r = l9 at *
          generalize Cs.freeE l q.q q.r = a2 at *
          clear HL1
          go_wp2_with fail
          go_region_held3 (fun wt => wt.cell? ⟨r, 1, none⟩ = some (.int .i64 q.q) ∧ wt.cell? ⟨r, 2, none⟩ = some (.int .i64 q.r))
            (first | go_keep | exact ⟨h5.cells.2.1, h5.cells.2.2.1⟩ | exact ⟨h6.cells.2.1, h6.cells.2.2.1⟩)
            ((first | (go_at_call 25; refine (T1.out _).mono ?_; rintro e w5 ⟨rfl, h5⟩) | (go_at_call 34; refine (T2.out _ _ h5).mono ?_; rintro e w6 ⟨rfl, h6⟩)))
          go_wp2_with fail
          go_meet
          exact ⟨rfl, _, h6⟩
      obtain ⟨rfl, l', hS'⟩ := hcut
      have HS := hide hS'
      clear hS' s1 s2 s3
      have hlen := HS.out.duo.held.mem.len
      have hN0 := HS.out.cells.2.1
      have hRD := hide (fun (wt : World) (h : Step w wt b g n B b2 v y z r q l' l') => h.duo.rd)
      have h0 := HS.out.duo.ref.heads.1
      have T26 := hide (fun (wt : World) (h : Step w wt b g n B b2 v y z r q l' l') => holder_c h.duo.held.mem q.q)
      have T35 := hide (fun (wt : World) (h : Step w wt b g n B b2 v y z r q l' l') => rholder_c h.duo.ref q.q)
      have T20 := hide (fun (wt : World) (h : Step w wt b g n B b2 v y z r q l' l') => writes_c h.duo.held.mem q.q)
      have T36 := hide (fun (wt : World) (h : Step w wt b g n B b2 v y z r q l' l') => rwrites_c h.duo.ref q.q)
      have T22 := hide (fun (wt : World) (h : Step w wt b g n B b2 v y z r q l' l') => (all_c h.duo.held.mem))
      have T23 := hide (fun (wt : World) (va : Value) (h : Step w wt b g n B b2 v y z r q l' l') (hv : RdI wt va (numsOf l')) => same_c hv h.duo.rd (by rw [numsOf_length]; omega))
      rw [same_self] at T23
      have HK := hide (fun (wt : World) (h : Step w wt b g n B b2 v y z r q l' l') => And.intro h.cells.2.1 h.duo.ref.heads.1)
      have HD := hide (HS.out.drewN 1)
      have HL := hide (fun (wt wu : World) (h : Step w wt b g n B b2 v y z r q l' l') (hb : Below wt.heap.size wt wu) => h.later hb)
      clear hlen hRD
      generalize Cs.holder l' q.q = a1 at *
      generalize Cs.writes l' q.q = a2 at *
      go_wp2_with fail
      go_region_held3 (fun wt => wt.cell? ⟨r, 1, none⟩ = some (.int .i64 q.q) ∧ wt.cell? ⟨b2, 0, none⟩ = some (.slice (some ⟨v, 0, none⟩) l'.length l'.length))
        (first | go_keep | exact HK.out _ h7)
        ((first
          | (go_at_call 26; refine (T26.out _ HD.out).mono ?_; rintro e w5 ⟨rfl, rfl⟩)
          | (go_at_call 35; refine (T35.out _ HD.out).mono ?_; rintro e w5 ⟨rfl, rfl⟩)
          | (go_at_call 20; refine (T20.out _ HD.out).mono ?_; rintro e w5 ⟨rfl, rfl⟩)
          | (go_at_call 36; refine (T36.out _ HD.out).mono ?_; rintro e w5 ⟨rfl, rfl⟩)
          | (go_at_call 22; refine (T22.out _ HD.out).mono ?_; rintro e w7 ⟨va, rfl, hra, hba⟩; have h7 := HL.out _ _ HD.out hba)
          | (go_at_call 23; refine (T23.out _ _ h7 (rdI_of hra)).mono ?_; rintro e w8 ⟨rfl, n8, rfl⟩)))
      have H8 := hide (h7.drewN n8).duo
      clear h7 hra hba hN0 h0 T26 T35 T20 T36 T22 T23 HK HD HL HS
      go_wp2
      go_roundw
      case rel => exact ⟨k + 1, l', by omega, by go_num, H8.out⟩
      case measure => simp [intOf]; omega
    · have hsp : (k < len ∧ ¬ (k : Int) < 200) ∨ ¬ k < len := by omega
      have HBE := hide HH.out.held.below
      have szr := HH.out.held.size
      clear HH
      rcases hsp with ⟨h1, h2⟩ | h1 <;> clear hlt <;> go_wp2_with fail
      all_goals
        refine (works_c _).mono ?_
        rintro e w5 ⟨rfl, hb⟩
        have HB5 := hide (HBE.out.trans (hb.mono szr))
        clear hb
        go_wp2
        go_ret
        exact ⟨rfl, HB5.out⟩
end Go.Proofs.Ytaoonjamlcdfaaa
