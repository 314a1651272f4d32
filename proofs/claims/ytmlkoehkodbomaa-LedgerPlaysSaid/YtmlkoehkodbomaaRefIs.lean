/-
  Contracts of the reference's ledger: Is and Of.
-/
import Derived.Test.YtmlkoehkodbomaaRef
import Derived.Test.YtmlkoehkodbomaaIs
namespace Go.Proofs.Ytmlkoehkodbomaa
open Go.RowKit

theorem find_none {q : Sp → Bool} {l : List Sp} (h : ∀ (j : Nat) (t : Sp), l[j]? = some t → q t = false) : l.find? q = none := by
  rw [List.find?_eq_none]
  intro t ht
  obtain ⟨j, hj, rfl⟩ := List.mem_iff_getElem.1 ht
  simp [h j _ (List.getElem?_eq_getElem hj)]
theorem find_some {q : Sp → Bool} {l : List Sp} {k : Nat} {t : Sp} (hno : ∀ (j : Nat) (u : Sp), j < k → l[j]? = some u → q u = false) (hk : l[k]? = some t) (hq : q t = true) : l.find? q = some t := by
  rcases find_idx q l with ⟨h1, _⟩ | ⟨i, u, h1, h2, h3⟩
  · rw [List.findIdx?_eq_none_iff] at h1
    have := h1 t (List.mem_of_getElem? hk)
    rw [hq] at this
    cases this
  · rw [List.findIdx?_eq_some_iff_getElem] at h1
    obtain ⟨hi, h4, h5⟩ := h1
    rcases Nat.lt_trichotomy i k with h | h | h
    · have h6 := hno i u h h2
      obtain ⟨_, he⟩ := List.getElem?_eq_some_iff.1 h2
      rw [he, h6] at h4
      cases h4
    · subst h
      rw [hk] at h2
      injection h2 with h2
      rw [h2]
      exact h3
    · have h6 := h5 k h
      obtain ⟨hk', he⟩ := List.getElem?_eq_some_iff.1 hk
      rw [he, hq] at h6
      simp at h6

set_option maxHeartbeats 1000000 in
theorem ris_c {w : World} {B b : Nat} {vl vk : Value} {f : Int} {l : List Sp} (h : Rf w B b vl vk f l) (hlen : l.length ≤ 256) (p : Int) :
    Calls Try.prog 24 #[.pointer (some ⟨b, 0, none⟩), .int .i64 p] w fun e w' => e = .returned (.tuple #[.bool (Lg.isB l p), .int .i64 (Lg.isE l p)]) ∧ w = w' := by
  obtain ⟨ao, cap, ak, capk, rfl, rfl⟩ := h.shape
  have c1 := h.blk.cell 1
  have c2 := h.blk.cell 2
  simp at c1 c2
  have K : ∀ k t, l[k]? = some t → ∃ g g', ao = some ⟨g, 0, none⟩ ∧ ak = some ⟨g', 0, none⟩ ∧ w.cell? ⟨g, k * 2, none⟩ = some (.int .i64 t.a) ∧ w.cell? ⟨g, k * 2 + 1, none⟩ = some (.int .i64 t.b) ∧ w.cell? ⟨g', k, none⟩ = some (.bool t.k) := by
    intro k t ht
    have hpos : 0 < l.length := by obtain ⟨h', _⟩ := List.getElem?_eq_some_iff.1 ht; omega
    obtain ⟨g, _, e1, _, _, _, _, k1, _⟩ := ownsRow_pos h.rowL hpos
    obtain ⟨g', _, e2, _, _, _, _, k2, _⟩ := ownsRow_pos h.rowK hpos
    simp only [Value.slice.injEq] at e1 e2
    have hat := pairs_at l k t ht
    exact ⟨g, g', e1.1, e2.1, k1 _ _ hat.1, k1 _ _ hat.2, k2 _ _ (kinds_at l k t ht)⟩
  have HK := hide K
  clear h K
  go_enter Try.func24, Try.ntmps24
  go_wp2
  go_loop [6] (fun i => ∃ k : Nat, k ≤ l.length ∧ i = .int .i64 k ∧ (∀ j t, j < k → l[j]? = some t → Lg.has p t = false)) (fun i => l.length - (intOf i).toNat)
  case atStart => exact ⟨0, Nat.zero_le _, rfl, fun j t hj => by omega⟩
  case round =>
    obtain ⟨k, hk, rfl, hno⟩ := hrel
    have HN := hide hno
    clear hno
    by_cases hlt : k < l.length
    · obtain ⟨t, ht⟩ : ∃ t, l[k]? = some t := ⟨l[k], List.getElem?_eq_getElem hlt⟩
      obtain ⟨g, g', e1, e2, k1, k2, k3⟩ := HK.out k t ht
      subst e1 e2
      have HT := hide ht
      clear ht
      obtain ⟨a, b', kk⟩ := t
      simp only at k1 k2 k3
      by_cases h1 : a ≤ p
      · by_cases h2 : p < b'
        · go_wp2
          go_ret2
          have hf := find_some HN.out HT.out (by simp [Lg.has, h1, h2])
          refine ⟨?_, rfl⟩
          simp only [Lg.isB, Lg.isE, hf]
          rfl
        · go_wp2
          go_round
          case rel =>
            refine ⟨k + 1, by omega, by go_num, fun j u hj hu => ?_⟩
            rcases Nat.lt_succ_iff_lt_or_eq.1 hj with h | rfl
            · exact HN.out j u h hu
            · have := HT.out
              rw [this] at hu
              injection hu with hu
              rw [← hu]
              simp [Lg.has]
              omega
          case measure => simp [intOf]; omega
      · go_wp2
        go_round
        case rel =>
          refine ⟨k + 1, by omega, by go_num, fun j u hj hu => ?_⟩
          rcases Nat.lt_succ_iff_lt_or_eq.1 hj with h | rfl
          · exact HN.out j u h hu
          · have := HT.out
            rw [this] at hu
            injection hu with hu
            rw [← hu]
            simp [Lg.has]
            omega
        case measure => simp [intOf]; omega
    · obtain rfl : k = l.length := by omega
      go_wp2
      go_ret2
      have hf := find_none (q := Lg.has p) (l := l) (fun j t hj => HN.out j t (List.getElem?_eq_some_iff.1 hj).1 hj)
      refine ⟨?_, rfl⟩
      simp only [Lg.isB, Lg.isE, hf]
      rfl

set_option maxRecDepth 100000 in
set_option maxHeartbeats 1000000 in
theorem of_c {w : World} {B b : Nat} {vl vk : Value} {f : Int} {l : List Sp} (h : Rf w B b vl vk f l) (hlen : l.length ≤ 256) (kd : Bool) :
    Calls Try.prog 27 #[.pointer (some ⟨b, 0, none⟩), .bool kd] w (Gives kd l w) := by
  obtain ⟨i0, hi, hz0, hz1, hz2⟩ := info_parts span_info
  obtain ⟨ao, cap, ak, capk, rfl, rfl⟩ := h.shape
  have c1 := h.blk.cell 1
  have c2 := h.blk.cell 2
  simp at c1 c2
  have hbl := h.blk.lt
  have K : ∀ k t, l[k]? = some t → ∃ g g', ao = some ⟨g, 0, none⟩ ∧ ak = some ⟨g', 0, none⟩ ∧ g < w.heap.size ∧ g' < w.heap.size ∧ w.cell? ⟨g, k * 2, none⟩ = some (.int .i64 t.a) ∧ w.cell? ⟨g, k * 2 + 1, none⟩ = some (.int .i64 t.b) ∧ w.cell? ⟨g', k, none⟩ = some (.bool t.k) := by
    intro k t ht
    have hpos : 0 < l.length := by obtain ⟨h', _⟩ := List.getElem?_eq_some_iff.1 ht; omega
    obtain ⟨g, _, e1, _, _, hg, _, k1, _⟩ := ownsRow_pos h.rowL hpos
    obtain ⟨g', _, e2, _, _, hg', _, k2, _⟩ := ownsRow_pos h.rowK hpos
    simp only [Value.slice.injEq] at e1 e2
    have hat := pairs_at l k t ht
    exact ⟨g, g', e1.1, e2.1, hg, hg', k1 _ _ hat.1, k1 _ _ hat.2, k2 _ _ (kinds_at l k t ht)⟩
  have HK := hide K
  have HC1 := hide c1
  have HC2 := hide c2
  clear h K c1 c2
  have hL0 := World.ownsRow_lit (base := w.heap.size) (e := 48) (size := 2) w #[] 0 (Nat.le_refl _) (by simp [maxLen]) rfl
  have HL0 := hide hL0
  clear hL0
  go_enter Try.func27, Try.ntmps27
  go_wp2
  go_loopw [5, 6] (fun v i wr => ∃ k : Nat, k ≤ l.length ∧ i = .int .i64 k ∧ wr.ownsRow w.heap.size 48 2 v (Lg.of kd (l.take k)).length (pairs (Lg.of kd (l.take k))) ∧ Below w.heap.size w wr) (fun _ i _ => l.length - (intOf i).toNat)
  case atStart => exact ⟨0, Nat.zero_le _, rfl, HL0.out, (Below.refl _ _).alloc (Nat.le_refl _) _⟩
  case round =>
    obtain ⟨k, hk, rfl, hown, hB⟩ := hrel
    have hsz := hB.size
    have c1 := (hB.cell (p := ⟨b, 1, none⟩) hbl).trans HC1.out
    have c2 := (hB.cell (p := ⟨b, 2, none⟩) hbl).trans HC2.out
    have HB := hide hB
    have HO := hide hown
    have hnk : (Lg.of kd (l.take k)).length ≤ 256 := by
      have := Lg.length_of_le kd (l.take k)
      rw [List.length_take] at this
      omega
    clear hB hown
    by_cases hlt : k < l.length
    · obtain ⟨t, ht⟩ : ∃ t, l[k]? = some t := ⟨l[k], List.getElem?_eq_getElem hlt⟩
      obtain ⟨g, g', e1, e2, hg, hg', k1', k2', k3'⟩ := HK.out k t ht
      subst e1 e2
      have k1 := (HB.out.cell (p := ⟨g, k * 2, none⟩) hg).trans k1'
      have k2 := (HB.out.cell (p := ⟨g, k * 2 + 1, none⟩) hg).trans k2'
      have k3 := (HB.out.cell (p := ⟨g', k, none⟩) hg').trans k3'
      have HS := hide (of_take_succ kd l k t ht)
      clear ht k1' k2' k3'
      obtain ⟨a, b', kk⟩ := t
      simp only at k1 k2 k3 HS
      by_cases hkk : (kk == kd) = true
      · go_wp2_with (at_builtin; refine wpList_append_own _ rfl (.tmp 26) (.tmp 34) 29 rfl w.heap.size 48 i0 _ 2 16 Try.underlying29 hi hz0 hz1 hz2 rfl (by decide) _ _ _ rfl (HO.out.alloc _) ⟨wr.heap.size, 0, none⟩ 1 1 [.int .i64 a, .int .i64 b'] rfl rfl (cells_new _ [.int .i64 a, .int .i64 b'] _) (by simp [Value.oneCell']) (by simp only [maxLen]; omega) (by omega) (by simp; omega) ?_; intro v' w2 hown2 hgr _; have HO2 := hide hown2; have HG2 := hide hgr; clear hown2 hgr)
        go_roundw
        case rel =>
          refine ⟨k + 1, by omega, by go_num, ?_, (HB.out.alloc hsz _).grown HG2.out (by simp; omega) (fun j hj => (HO.out.lt j hj).1)⟩
          rw [HS.out, if_pos (by simpa using hkk), pairs_snoc, List.length_append, List.length_singleton]
          exact HO2.out
        case measure => simp [intOf]; omega
      · have hkf : (kk == kd) = false := by simpa using hkk
        clear hkk
        go_wp2
        go_roundw
        case rel =>
          refine ⟨k + 1, by omega, by go_num, ?_, HB.out⟩
          rw [HS.out, if_neg (by simpa using hkf)]
          exact HO.out
        case measure => simp [intOf]; omega
    · obtain rfl : k = l.length := by omega
      go_wp2
      go_ret
      have hO := HO.out
      rw [List.take_length] at hO
      exact ⟨_, rfl, hO, HB.out⟩

end Go.Proofs.Ytmlkoehkodbomaa
