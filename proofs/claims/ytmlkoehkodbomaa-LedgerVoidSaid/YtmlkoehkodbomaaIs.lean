/-
  The contract of Is: the function literal, slices.IndexFunc over it, and the call.
-/
import Derived.Test.YtmlkoehkodbomaaSame
namespace Go.Proofs.Ytmlkoehkodbomaa
open Go.RowKit

theorem lit_c (a b p : Int) (k : Bool) (bx : Nat) (w : World) (hc : w.cell? ⟨bx, 0, none⟩ = some (.int .i64 p)) :
    Calls Try.prog 35 #[.agg #[.int .i64 a, .int .i64 b, .bool k], .pointer (some ⟨bx, 0, none⟩)] w fun e w' => e = .returned (.bool (Lg.has p ⟨a, b, k⟩)) ∧ Below w.heap.size w w' := by
  have hbx := World.block_lt_of_cell? _ _ hc
  simp only at hbx
  by_cases h1 : a ≤ p
  · have hh : Lg.has p ⟨a, b, k⟩ = decide (p < b) := by simp [Lg.has, h1]
    rw [hh]
    clear hh
    go_enter Try.func35, Try.ntmps35
    go_wp2
    go_ret
    exact ⟨rfl, (Below.refl _ _).alloc (Nat.le_refl _) _⟩
  · have hh : Lg.has p ⟨a, b, k⟩ = false := by simp [Lg.has, h1]
    rw [hh]
    clear hh
    go_enter Try.func35, Try.ntmps35
    go_wp2
    go_ret
    exact ⟨rfl, (Below.refl _ _).alloc (Nat.le_refl _) _⟩

/-- Where the first span that holds an offset stands; -1: in none. -/
def findAt (p : Int) (l : List Sp) : Int := match l.findIdx? (Lg.has p) with | some i => i | none => -1

set_option maxHeartbeats 1000000 in
theorem index_c (p : Int) (bx n₀ : Nat) (sv : Value) (l : List Sp) (w : World) (hlen : l.length ≤ 256) (hn₀ : n₀ ≤ w.heap.size) (hs : SpansAt n₀ w sv l) (hc : w.cell? ⟨bx, 0, none⟩ = some (.int .i64 p)) (hbx : bx < w.heap.size) :
    Calls Try.prog 34 #[sv, .func (.func 35) #[] #[.pointer (some ⟨bx, 0, none⟩)]] w fun e w' => (∃ i, e = .returned (.int .i64 i) ∧ i = findAt p l) ∧ Below w.heap.size w w' := by
  rcases hs with ⟨ao, cap, rfl, rfl⟩ | ⟨g, cap, rfl, hg, hcs⟩
  · go_enter Try.func34, Try.ntmps34
    go_wp2
    refine wp_loop_rounds 1 ?_
    rw [rounds_succ]
    go_wp2
    go_ret
    exact ⟨⟨_, rfl, rfl⟩, Below.refl _ _⟩
  · have HC := hide hcs
    clear hcs
    go_enter Try.func34, Try.ntmps34
    go_wp2
    go_loopw [8] (fun i wr => ∃ k : Nat, k ≤ l.length ∧ i = .int .i64 k ∧ (∀ j t, j < k → l[j]? = some t → Lg.has p t = false) ∧ Below w.heap.size w wr) (fun i _ => l.length - (intOf i).toNat)
    case atStart => exact ⟨0, Nat.zero_le _, rfl, fun j t hj => by omega, Below.refl _ _⟩
    case round =>
      obtain ⟨k, hk, rfl, hno, hB⟩ := hrel
      have HN := hide hno
      clear hno
      by_cases hlt : k < l.length
      · obtain ⟨⟨a, b, kk⟩, ht⟩ : ∃ t, l[k]? = some t := ⟨l[k], List.getElem?_eq_getElem hlt⟩
        obtain ⟨e1, e2, e3⟩ := HC.out k _ ht
        have c1 := (hB.cell (p := ⟨g, k * 3, none⟩) (Nat.lt_of_lt_of_le hg hn₀)).trans e1
        have c2 := (hB.cell (p := ⟨g, k * 3 + 1, none⟩) (Nat.lt_of_lt_of_le hg hn₀)).trans e2
        have c3 := (hB.cell (p := ⟨g, k * 3 + 2, none⟩) (Nat.lt_of_lt_of_le hg hn₀)).trans e3
        have cx := (hB.cell (p := ⟨bx, 0, none⟩) hbx).trans hc
        simp only at c1 c2 c3
        have HT := hide ht
        have HX := hide cx
        clear ht e1 e2 e3 cx
        have hsz := hB.size
        cases hh : Lg.has p ⟨a, b, kk⟩ with
        | true =>
          have HH := hide hh
          have hcall := lit_c a b p kk bx wr HX.out
          rw [hh] at hcall
          have HCall := hide hcall
          clear hcall hh
          go_wp2_with (go_at_call 35; refine HCall.out.mono ?_; rintro e w' ⟨rfl, hb⟩; have HB := hide hb; clear hb)
          go_ret
          refine ⟨⟨_, rfl, ?_⟩, hB.trans (HB.out.mono hsz)⟩
          unfold findAt
          have : l.findIdx? (Lg.has p) = some k := by
            rw [List.findIdx?_eq_some_iff_getElem]
            obtain ⟨hk', he⟩ := List.getElem?_eq_some_iff.1 HT.out
            refine ⟨hk', by rw [he]; exact HH.out, fun j hj => ?_⟩
            rw [HN.out j _ hj (List.getElem?_eq_getElem (by omega))]
            simp
          rw [this]
        | false =>
          have HH := hide hh
          have hcall := lit_c a b p kk bx wr HX.out
          rw [hh] at hcall
          have HCall := hide hcall
          clear hcall hh
          go_wp2_with (go_at_call 35; refine HCall.out.mono ?_; rintro e w' ⟨rfl, hb⟩; have HB := hide hb; clear hb)
          go_roundw
          case rel =>
            refine ⟨k + 1, by omega, by go_num, fun j t hj ht' => ?_, hB.trans (HB.out.mono hsz)⟩
            rcases Nat.lt_succ_iff_lt_or_eq.1 hj with h | rfl
            · exact HN.out j t h ht'
            · have := HT.out
              rw [this] at ht'
              injection ht' with ht'
              rw [← ht']
              exact HH.out
          case measure => simp [intOf]; omega
      · obtain rfl : k = l.length := by omega
        go_wp2
        go_ret
        refine ⟨⟨_, rfl, ?_⟩, hB⟩
        unfold findAt
        have : l.findIdx? (Lg.has p) = none := by
          rw [List.findIdx?_eq_none_iff]
          intro t ht
          obtain ⟨j, hj, rfl⟩ := List.mem_iff_getElem.1 ht
          exact HN.out j _ hj (List.getElem?_eq_getElem hj)
        rw [this]

theorem find_idx (q : Sp → Bool) (l : List Sp) : (l.findIdx? q = none ∧ l.find? q = none) ∨ ∃ i t, l.findIdx? q = some i ∧ l[i]? = some t ∧ l.find? q = some t := by
  induction l with
  | nil => exact .inl ⟨rfl, rfl⟩
  | cons u l ih =>
    cases hq : q u with
    | true => exact .inr ⟨0, u, by simp [List.findIdx?_cons, hq], rfl, by simp [hq]⟩
    | false =>
      rcases ih with ⟨h1, h2⟩ | ⟨i, t, h1, h2, h3⟩
      · exact .inl ⟨by simp [List.findIdx?_cons, hq, h1], by simp [hq, h2]⟩
      · exact .inr ⟨i + 1, t, by simp [List.findIdx?_cons, hq, h1], by simpa using h2, by simp [hq, h3]⟩

/-- Is, for every ledger. -/
theorem isat_c {w : World} {B b : Nat} {sv : Value} {f : Int} {l : List Sp} (h : Led w B b sv f l) (hlen : l.length ≤ 256) (p : Int) :
    Calls Try.prog 23 #[.pointer (some ⟨b, 0, none⟩), .int .i64 p] w fun e w' => e = .returned (.tuple #[.bool (Lg.isB l p), .int .i64 (Lg.isE l p)]) ∧ Below w.heap.size w w' := by
  have hb1 := h.blk.cell 1
  simp at hb1
  have hbl := h.blk.lt
  have HA := hide ((Below.refl w.heap.size w).alloc (Nat.le_refl _) (.cells #[.int .i64 p] 3))
  have HI := hide (is_c b (w.alloc (.cells #[.int .i64 p] 3)) _ _ (h.blk.alloc _))
  have hbx := (Blk.new w 3 #[.int .i64 p]).cell 0
  simp only [List.getElem?_toArray, List.getElem?_cons_zero] at hbx
  have HX := hide (index_c p w.heap.size w.heap.size sv l (w.alloc (.cells #[.int .i64 p] 3)) hlen (by simp) (h.at_.below HA.out) hbx (by simp))
  have hS := h.at_
  obtain ⟨ao, cap, hsv⟩ := h.shape
  subst hsv
  clear h hbx
  rcases find_idx (Lg.has p) l with ⟨h1, h2⟩ | ⟨i, ⟨a, b', kk⟩, h1, h2, h3⟩
  · have e1 : Lg.isB l p = false := by simp [Lg.isB, h2]
    have e2 : Lg.isE l p = 5 := by simp [Lg.isE, h2]
    have e3 : findAt p l = -1 := by simp [findAt, h1]
    rw [e1, e2]
    rw [e3] at HX
    clear e1 e2 e3 h1 h2 hS
    go_enter Try.func23, Try.ntmps23
    go_wp2_with (first | (go_at_call 32; refine HI.out.mono ?_; rintro e w' ⟨rfl, rfl⟩) | (go_at_call 34; refine HX.out.mono ?_; rintro e w2 ⟨⟨_, rfl, rfl⟩, hb⟩; have HB := hide hb; clear hb))
    go_ret2
    exact ⟨rfl, HA.out.trans (HB.out.mono (by simp))⟩
  · have e1 : Lg.isB l p = kk := by simp [Lg.isB, h3]
    have e2 : Lg.isE l p = 0 := by simp [Lg.isE, h3]
    have e3 : findAt p l = (i : Int) := by simp [findAt, h1]
    obtain ⟨hi, _⟩ := List.getElem?_eq_some_iff.1 h2
    rcases hS with ⟨ao', cap', e, rfl⟩ | ⟨g, cap', e, hg, hc⟩
    · simp at hi
    · simp only [Value.slice.injEq] at e
      obtain ⟨rfl, _, rfl⟩ := e
      have ck := (hc i _ h2).2.2
      simp only at ck
      rw [e1, e2]
      rw [e3] at HX
      clear e1 e2 e3 h1 h2 h3 hc
      go_enter Try.func23, Try.ntmps23
      go_wp2_with (first | (go_at_call 32; refine HI.out.mono ?_; rintro e w' ⟨rfl, rfl⟩) | (go_at_call 34; refine HX.out.mono ?_; rintro e w2 ⟨⟨_, rfl, rfl⟩, hb⟩; have HB := hide (HA.out.trans (hb.mono (by simp))); clear hb; have k1 := (HB.out.cell (p := ⟨b, 1, none⟩) hbl).trans hb1; have k2 := (HB.out.cell (p := ⟨g, i * 3 + 2, none⟩) hg).trans ck))
      go_ret2
      exact ⟨rfl, HB.out⟩

end Go.Proofs.Ytmlkoehkodbomaa
