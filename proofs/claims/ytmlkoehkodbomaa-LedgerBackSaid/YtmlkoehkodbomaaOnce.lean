/-
  The walk of the law LedgerOnce.
-/
import Derived.Test.YtmlkoehkodbomaaBuilt
namespace Go.Proofs.Ytmlkoehkodbomaa
open Go.RowKit

namespace Lg
theorem of_append (k : Bool) (l r : List Sp) : of k (l ++ r) = of k l ++ of k r := by simp [of]
theorem of_hit (k : Bool) (t : Sp) (r : List Sp) (h : t.k = k) : of k (t :: r) = t :: of k r := by simp [of, h]
theorem of_miss (k : Bool) (t : Sp) (r : List Sp) (h : t.k ≠ k) : of k (t :: r) = of k r := by simp [of, h]
theorem of_mem {k : Bool} {l : List Sp} {t : Sp} (h : t ∈ of k l) : t ∈ l ∧ t.k = k := by simpa [of] using h
/-- The next span of a kind. -/
theorem of_next (k : Bool) (pre suf : List Sp) (j : Nat) : (of k (pre ++ suf))[(of k pre).length + j]? = (of k suf)[j]? := by
  rw [of_append, List.getElem?_append_right (by omega)]
  congr 1
  omega

/-- Which kind the last span is of: 0: there is none. -/
def kindOf (l : List Sp) : Int := match l.getLast? with | none => 0 | some t => if t.k = true then 1 else 2
theorem kindOf_snoc (l : List Sp) (t : Sp) : kindOf (l ++ [t]) = if t.k = true then 1 else 2 := by simp [kindOf]
theorem alt_prefix {l r : List Sp} (h : Alt (l ++ r)) : Alt l := by
  induction l with
  | nil => trivial
  | cons v l ih =>
    obtain ⟨h1, h2⟩ := h
    refine ⟨fun u hu => h1 u ?_, ih h2⟩
    cases l with
    | nil => cases hu
    | cons z l => exact hu
theorem kindOf_alt {pre r : List Sp} {t : Sp} (h : Alt (pre ++ t :: r)) : kindOf pre ≠ if t.k = true then 1 else 2 := by
  have h1 : Alt (pre ++ [t]) := by
    have : pre ++ t :: r = (pre ++ [t]) ++ r := by simp
    rw [this] at h
    exact alt_prefix h
  rw [alt_snoc] at h1
  unfold kindOf
  cases hl : pre.getLast? with
  | none => cases t.k <;> simp
  | some u =>
    have := h1.2 u hl
    cases hu : u.k <;> cases ht : t.k <;> simp_all

theorem has_of_chain {f : Int} {l : List Sp} (h : Chain f l) (p : Int) (h0 : f ≤ p) (h1 : p < fin f l) : ∃ pre t suf, l = pre ++ t :: suf ∧ has p t = true ∧ (∀ u ∈ pre, has p u = false) ∧ (∀ u ∈ suf, has p u = false) := by
  induction l generalizing f with
  | nil => simp [fin] at h1; omega
  | cons t l ih =>
    obtain ⟨ha, hab, hc⟩ := h
    rw [fin_cons] at h1
    by_cases hp : p < t.b
    · refine ⟨[], t, l, rfl, by simp [has]; omega, by simp, fun u hu => ?_⟩
      have := chain_mem hc u hu
      simp [has]
      omega
    · obtain ⟨pre, u, suf, he, h2, h3, h4⟩ := ih hc (by omega) h1
      refine ⟨t :: pre, u, suf, by rw [he]; rfl, h2, fun v hv => ?_, h4⟩
      rcases List.mem_cons.1 hv with rfl | hv
      · simp [has]; omega
      · exact h3 v hv
theorem is_in_chain {f : Int} {l : List Sp} (h : Chain f l) (p : Int) (h0 : f ≤ p) (h1 : p < fin f l) : isE l p = 0 ∧ isB l p = (of true l).any (has p) := by
  obtain ⟨pre, t, suf, rfl, h2, h3, h4⟩ := has_of_chain h p h0 h1
  have hf : (pre ++ t :: suf).find? (has p) = some t := by
    rw [List.find?_append, List.find?_eq_none.2 (fun u hu => by simp [h3 u hu]), Option.none_or, List.find?_cons_of_pos h2]
  refine ⟨by simp [isE, hf], ?_⟩
  simp only [isB, hf]
  cases ht : t.k with
  | true =>
    symm
    rw [List.any_eq_true]
    exact ⟨t, by simp [of, ht], h2⟩
  | false =>
    symm
    rw [List.any_eq_false]
    intro u hu
    obtain ⟨hm, hk⟩ := of_mem hu
    rcases List.mem_append.1 hm with hm | hm
    · simp [h3 u hm]
    · rcases List.mem_cons.1 hm with rfl | hm
      · rw [ht] at hk; cases hk
      · simp [h4 u hm]
theorem is_out_chain {f : Int} {l : List Sp} (h : Chain f l) (p : Int) (h1 : p < f ∨ fin f l ≤ p) : isE l p = 5 := by
  have : l.find? (has p) = none := by
    rw [List.find?_eq_none]
    intro t ht
    have := chain_mem h t ht
    simp [has]
    omega
  simp [isE, this]
end Lg

/-- A slice of spans that can be read. -/
def SpsAt (w : World) (v : Value) (l : List Sp) : Prop :=
  ∃ ao cap, v = .slice ao l.length cap ∧ (0 < l.length → ∃ g, ao = some ⟨g, 0, none⟩ ∧ g < w.heap.size ∧ ∀ j t, l[j]? = some t → w.cell? ⟨g, j * 2, none⟩ = some (.int .i64 t.a) ∧ w.cell? ⟨g, j * 2 + 1, none⟩ = some (.int .i64 t.b))
theorem spsAt_of {w : World} {B : Nat} {v : Value} {l : List Sp} (h : w.ownsRow B 48 2 v l.length (pairs l)) : SpsAt w v l := by
  obtain ⟨ao, cap, rfl, _⟩ := ownsRow_shape h
  refine ⟨ao, cap, rfl, fun hpos => ?_⟩
  obtain ⟨g, cap', e, _, _, hlt, _, hc, _⟩ := ownsRow_pos h hpos
  simp only [Value.slice.injEq] at e
  refine ⟨g, e.1, hlt, fun j t hj => ?_⟩
  have : (pairs l)[j * 2]? = some (.int .i64 t.a) ∧ (pairs l)[j * 2 + 1]? = some (.int .i64 t.b) := by
    rw [pairs_prs]
    exact prs_at (ends l) j (t.a, t.b) (by simp [ends, hj])
  exact ⟨hc _ _ this.1, hc _ _ this.2⟩
theorem SpsAt.later {w w' : World} {v : Value} {l : List Sp} (h : SpsAt w v l) (hb : Below w.heap.size w w') : SpsAt w' v l := by
  obtain ⟨ao, cap, hv, hc⟩ := h
  refine ⟨ao, cap, hv, fun hpos => ?_⟩
  obtain ⟨g, e, hlt, hcc⟩ := hc hpos
  refine ⟨g, e, Nat.lt_of_lt_of_le hlt hb.size, fun j t hj => ?_⟩
  obtain ⟨c1, c2⟩ := hcc j t hj
  exact ⟨(hb.cell (p := ⟨g, j * 2, none⟩) hlt).trans c1, (hb.cell (p := ⟨g, j * 2 + 1, none⟩) hlt).trans c2⟩

theorem SpsAt.cells {w : World} {ao : Option Addr} {cap n : Nat} {l : List Sp} (h : SpsAt w (.slice ao n cap) l) (hpos : 0 < l.length) : ∃ g, ao = some ⟨g, 0, none⟩ ∧ g < w.heap.size ∧ ∀ j t, l[j]? = some t → w.cell? ⟨g, j * 2, none⟩ = some (.int .i64 t.a) ∧ w.cell? ⟨g, j * 2 + 1, none⟩ = some (.int .i64 t.b) := by
  obtain ⟨ao', cap', e, hc⟩ := h
  simp only [Value.slice.injEq] at e
  rw [e.1]
  exact hc hpos
theorem any_take_succ (l : List Sp) (m : Nat) (t : Sp) (q : Sp → Bool) (h : l[m]? = some t) : (l.take (m + 1)).any q = ((l.take m).any q || q t) := by
  obtain ⟨hm, rfl⟩ := List.getElem?_eq_some_iff.1 h
  rw [List.take_succ_eq_append_getElem hm, List.any_append]
  simp

set_option maxRecDepth 100000 in
set_option maxHeartbeats 8000000 in
theorem once_c (x : Int) (w : World) (v : Value) (ac : Nat → Ac) (len : Nat) (ha : ActsAt w.heap.size w v ac len) : Calls Try.prog 5 #[.int .i64 x, v] w fun e w' => e = .returned (.bool true) ∧ Below w.heap.size w w' := by
  have hab := among_bd x 1000 (by decide)
  have HAB := hide hab
  clear hab
  go_enter Try.func5, Try.ntmps5
  go_wp2_with fail
  refine (works_c w).mono ?_
  rintro e w1 ⟨rfl, hB1⟩
  have HB1 := hide hB1
  have sz1 := hB1.size
  have ha1 : ActsAt w1.heap.size w1 v ac len := by
    obtain ⟨ao, cap, hv, hc⟩ := ha
    refine ⟨ao, cap, hv, fun hpos => ?_⟩
    obtain ⟨g, off, e, hg, hcs⟩ := hc hpos
    refine ⟨g, off, e, by omega, fun j hj => ?_⟩
    obtain ⟨c1, c2, c3⟩ := hcs j hj
    exact ⟨(hB1.cell (p := ⟨g, off + j * 3, none⟩) hg).trans c1, (hB1.cell (p := ⟨g, off + j * 3 + 1, none⟩) hg).trans c2, (hB1.cell (p := ⟨g, off + j * 3 + 2, none⟩) hg).trans c3⟩
  have HBU := hide (built_c x w1 v ac len ha1)
  clear ha1 ha hB1
  generalize among x 1000 = a at *
  go_wp2_with fail
  refine HBU.out.mono ?_
  rintro e w2 ⟨rfl, sv, l, hL, hG, hA, hB2⟩
  have HL := hide hL
  have HG := hide hG
  have HA := hide hA
  have HB2 := hide (HB1.out.trans (hB2.mono sz1))
  have sz2 := hB2.size
  have hlen := hG.len
  clear hL hG hA hB2 HB1 HBU
  generalize hBB : w1.heap.size = B at *
  clear hBB
  have sz2' : w.heap.size ≤ w2.heap.size := by omega
  go_wp2_with fail
  refine (accepted_c HL.out hlen).mono ?_
  rintro e w3 ⟨va, rfl, hra, hb3⟩
  have HL3 := hide (HL.out.later hb3)
  have HB3 := hide (HB2.out.trans (hb3.mono sz2'))
  have HRA := hide (spsAt_of hra)
  have sz3 := hb3.size
  clear hra hb3 HL HB2
  have sz3' : w.heap.size ≤ w3.heap.size := by omega
  go_wp2_with fail
  refine (skipped_c HL3.out hlen).mono ?_
  rintro e w4 ⟨vb, rfl, hrb, hb4⟩
  have HL4 := hide (HL3.out.later hb4)
  have HB4 := hide (HB3.out.trans (hb4.mono sz3'))
  have HRA4 := hide (HRA.out.later hb4)
  have HRB := hide (spsAt_of hrb)
  have sz4 := hb4.size
  clear hrb hb4 HL3 HB3 HRA
  have sz4' : w.heap.size ≤ w4.heap.size := by omega
  go_wp2_with fail
  refine (from_c _ _ _ _ HL4.out.blk).mono ?_
  rintro e w5 ⟨rfl, rfl⟩
  obtain ⟨aoa, capa, rfl, hca⟩ := HRA4.out
  obtain ⟨aob, capb, rfl, hcb⟩ := HRB.out
  have HCA := hide hca
  have HCB := hide hcb
  have hla : (Lg.of true l).length ≤ 256 := Nat.le_trans (Lg.length_of_le true l) hlen
  have hlb : (Lg.of false l).length ≤ 256 := Nat.le_trans (Lg.length_of_le false l) hlen
  clear hca hcb HRA4 HRB
  go_wp2_with fail
  go_loop [8, 9, 10, 11] (fun at_ i j kd => ∃ pre suf : List Sp, l = pre ++ suf ∧ at_ = .int .i64 (Lg.fin a pre) ∧ i = .int .i64 ((Lg.of true pre).length : Nat) ∧ j = .int .i64 ((Lg.of false pre).length : Nat) ∧ kd = .int .i64 (Lg.kindOf pre)) (fun _ i j _ => (((Lg.of true l).length : Int) - intOf i).toNat + (((Lg.of false l).length : Int) - intOf j).toNat)
  case atStart => exact ⟨[], l, rfl, rfl, rfl, rfl, rfl⟩
  case round =>
    obtain ⟨pre, suf, hl, rfl, rfl, rfl, rfl⟩ := hrel
    have hla' : (Lg.of true l).length = (Lg.of true pre).length + (Lg.of true suf).length := by rw [hl, Lg.of_append, List.length_append]
    have hlb' : (Lg.of false l).length = (Lg.of false pre).length + (Lg.of false suf).length := by rw [hl, Lg.of_append, List.length_append]
    have HLa := hide hla'
    have HLb := hide hlb'
    have HS := hide hl
    clear hla' hlb' hl
    cases suf with
    | nil =>
      obtain rfl : pre = l := by rw [HS.out]; simp
      have hfb : a ≤ Lg.fin a pre ∧ Lg.fin a pre ≤ 1099511627776 := ⟨HG.out.fin_ge, HG.out.top⟩
      have hA0 := HAB.out
      have HO1 := hide (Lg.is_out_chain HG.out.chain (a - 1) (.inl (by omega)))
      have HO2 := hide (Lg.is_out_chain HG.out.chain (Lg.fin a pre) (.inr (Int.le_refl _)))
      have HIN := hide (fun p h1 h2 => Lg.is_in_chain (f := a) (l := pre) HG.out.chain p h1 h2)
      clear HS HLa HLb
      go_wp2_with fail
      refine (from_c _ _ _ _ HL4.out.blk).mono ?_
      rintro e w5 ⟨rfl, rfl⟩
      go_wp2_with fail
      have hI1 := isat_c HL4.out hlen (a - 1)
      rw [HO1.out] at hI1
      have HI1 := hide hI1
      clear hI1
      refine HI1.out.mono ?_
      rintro e w5 ⟨rfl, hb5⟩
      have HL5 := hide (HL4.out.later hb5)
      have HB5 := hide (HB4.out.trans (hb5.mono sz4'))
      have HCA5 := hide (show SpsAt w5 (.slice aoa (Lg.of true pre).length capa) (Lg.of true pre) from SpsAt.later ⟨aoa, capa, rfl, HCA.out⟩ hb5)
      have sz5 : w.heap.size ≤ w5.heap.size := Nat.le_trans sz4' hb5.size
      clear hb5 HL4 HB4 HI1 HCB
      go_wp2_with fail
      have hI2 := isat_c HL5.out hlen (Lg.fin a pre)
      rw [HO2.out] at hI2
      have HI2 := hide hI2
      clear hI2
      refine HI2.out.mono ?_
      rintro e w6 ⟨rfl, hb6⟩
      have HL6 := hide (HL5.out.later hb6)
      have HB6 := hide (HB5.out.trans (hb6.mono sz5))
      have HCA6 := hide (HCA5.out.later hb6)
      have sz6 : w.heap.size ≤ w6.heap.size := Nat.le_trans sz5 hb6.size
      clear hb6 HL5 HB5 HI2 HCA5 HCA
      generalize Lg.isB pre (a - 1) = b1 at *
      generalize Lg.isB pre (Lg.fin a pre) = b2 at *
      go_wp2_with fail
      refine (from_c _ _ _ _ HL6.out.blk).mono ?_
      rintro e w7 ⟨rfl, rfl⟩
      go_wp2_with fail
      have HFN := hide (show Lg.fin a pre = Lg.fin a pre from rfl)
      generalize hz : Lg.fin a pre = z at *
      have HZ := hide hz
      clear hz HFN
      go_loopw [16] (fun p wr => ∃ q : Int, p = .int .i64 q ∧ a ≤ q ∧ q ≤ z ∧ Led wr B B sv a pre ∧ SpsAt wr (.slice aoa (Lg.of true pre).length capa) (Lg.of true pre) ∧ Below w.heap.size w wr ∧ w.heap.size ≤ wr.heap.size) (fun p _ => (z - intOf p).toNat)
      case atStart => exact ⟨a, rfl, Int.le_refl _, hfb.1, HL6.out, HCA6.out, HB6.out, sz6⟩
      case round =>
        obtain ⟨q, rfl, hq0, hq1, hLr, hCr, hBr, szr⟩ := hrel
        have HLr := hide hLr
        have HCr := hide hCr
        have HBr := hide hBr
        clear hLr hCr hBr
        by_cases hlt : q < z ∧ q < a + 1000
        · obtain ⟨hq2, hq3⟩ := hlt
          have HI := hide (HIN.out q hq0 hq2)
          go_wp2_with fail
          refine (from_c _ _ _ _ HLr.out.blk).mono ?_
          rintro e w8 ⟨rfl, rfl⟩
          go_wp2_with fail
          have hI3 := isat_c HLr.out hlen q
          rw [HI.out.1, HI.out.2] at hI3
          have HI3 := hide hI3
          clear hI3
          refine HI3.out.mono ?_
          rintro e w9 ⟨rfl, hb9⟩
          have HL9 := hide (HLr.out.later hb9)
          have HB9 := hide (HBr.out.trans (hb9.mono szr))
          have HC9 := hide (HCr.out.later hb9)
          have sz9 : w.heap.size ≤ w9.heap.size := Nat.le_trans szr hb9.size
          clear hb9 HLr HBr HI3 HCr HI
          go_wp2_with fail
          go_hide hQ
          go_loop [19, 20] (fun b n => ∃ m : Nat, m ≤ (Lg.of true pre).length ∧ n = .int .i64 m ∧ b = .bool (((Lg.of true pre).take m).any (Lg.has q))) (fun _ n => (Lg.of true pre).length - (intOf n).toNat)
          case atStart => exact ⟨0, Nat.zero_le _, rfl, rfl⟩
          case round =>
            obtain ⟨m, hm, rfl, rfl⟩ := hrel
            by_cases hml : m < (Lg.of true pre).length
            · obtain ⟨t, ht⟩ : ∃ t, (Lg.of true pre)[m]? = some t := ⟨_, List.getElem?_eq_getElem hml⟩
              obtain ⟨g, e, hgl, hcc⟩ := HC9.out.cells (by omega)
              obtain ⟨c1, c2⟩ := hcc m t ht
              have HST := hide (any_take_succ _ m t (Lg.has q) ht)
              subst e
              clear hcc ht
              obtain ⟨ta, tb, tk⟩ := t
              simp only at c1 c2
              generalize hbb : ((Lg.of true pre).take m).any (Lg.has q) = bb at *
              clear hbb
              cases bb with
              | true =>
                go_wp2
                go_round
                case rel => exact ⟨m + 1, by omega, by go_num, by rw [HST.out]; simp⟩
                case measure => simp [intOf]; omega
              | false =>
                by_cases h3 : ta ≤ q
                · by_cases h4 : q < tb
                  · go_wp2
                    go_round
                    case rel => exact ⟨m + 1, by omega, by go_num, by rw [HST.out]; simp [Lg.has, h3, h4]⟩
                    case measure => simp [intOf]; omega
                  · go_wp2
                    go_round
                    case rel => exact ⟨m + 1, by omega, by go_num, by rw [HST.out]; simp [Lg.has]; omega⟩
                    case measure => simp [intOf]; omega
                · go_wp2
                  go_round
                  case rel => exact ⟨m + 1, by omega, by go_num, by rw [HST.out]; simp [Lg.has]; omega⟩
                  case measure => simp [intOf]; omega
            · obtain rfl : m = (Lg.of true pre).length := by omega
              have e1 : ((Lg.of true pre).take (Lg.of true pre).length).any (Lg.has q) = (Lg.of true pre).any (Lg.has q) := by rw [List.take_length]
              rw [e1]
              clear e1
              go_wp2
              subst hQ
              generalize (Lg.of true pre).any (Lg.has q) = bb at *
              go_wp2
              go_roundw
              case rel => exact ⟨q + 1, by go_num, by omega, by omega, HL9.out, HC9.out, HB9.out, sz9⟩
              case measure => simp [intOf]; omega
        · have hE := end_c HLr.out HG.out
          rw [HZ.out] at hE
          have HE := hide hE
          clear hE
          by_cases hq2 : q < z
          · have hq3 : ¬ q < a + 1000 := by omega
            clear hlt
            go_wp2_with (first | (go_at_call 25; refine (from_c _ _ _ _ HLr.out.blk).mono ?_; rintro e w8 ⟨rfl, rfl⟩) | (go_at_call 16; refine HE.out.mono ?_; rintro e w8 ⟨rfl, n8, rfl⟩))
            go_ret
            exact ⟨rfl, below_drewN HBr.out _⟩
          · clear hlt
            go_wp2_with (first | (go_at_call 25; refine (from_c _ _ _ _ HLr.out.blk).mono ?_; rintro e w8 ⟨rfl, rfl⟩) | (go_at_call 16; refine HE.out.mono ?_; rintro e w8 ⟨rfl, n8, rfl⟩))
            go_ret
            exact ⟨rfl, below_drewN HBr.out _⟩
    | cons t r =>
      have hch := HG.out.chain
      rw [HS.out, Lg.chain_append] at hch
      obtain ⟨hta, htab, hcr⟩ := hch.2
      have hkd := Lg.kindOf_alt (by have := HA.out; rw [HS.out] at this; exact this : Lg.Alt (pre ++ t :: r))
      have hfz : 0 ≤ Lg.fin a pre := by have := HG.out.mem t (by rw [HS.out]; simp); omega
      have hzz : t.b ≤ 1099511627776 := (HG.out.mem t (by rw [HS.out]; simp)).2.2
      have hnt := Lg.of_next true pre (t :: r) 0
      have hnf := Lg.of_next false pre (t :: r) 0
      rw [← HS.out, Nat.add_zero] at hnt hnf
      have hmr := Lg.chain_mem hcr
      have HFIN := hide (Lg.fin_snoc a pre t)
      have HKS := hide (Lg.kindOf_snoc pre t)
      have HOT := hide (Lg.of_snoc true pre t)
      have HOF := hide (Lg.of_snoc false pre t)
      have HS2 : Hid (l = (pre ++ [t]) ++ r) := hide (by rw [HS.out]; simp)
      clear HS hch
      obtain ⟨ta, tb, tk⟩ := t
      simp only at hta htab hzz hkd hmr HFIN HKS HOT HOF
      subst hta
      generalize hz : Lg.fin a pre = z at *
      clear hz
      have hia : (Lg.of true pre).length ≤ 256 := by have := HLa.out; omega
      have hib : (Lg.of false pre).length ≤ 256 := by have := HLb.out; omega
      cases tk with
      | true =>
        rw [Lg.of_hit true _ _ rfl] at hnt HLa
        rw [Lg.of_miss false _ _ (by simp)] at HLb
        simp only [List.getElem?_cons_zero] at hnt
        obtain ⟨g, rfl, hgl, hcc⟩ := HCA.out (by have := HLa.out; simp at this; omega)
        obtain ⟨c1, c2⟩ := hcc _ _ hnt
        simp only at c1 c2
        have hi : (Lg.of true pre).length < (Lg.of true l).length := by have := HLa.out; simp at this; omega
        have hk1 : (Lg.kindOf pre != 1) = true := by simpa using hkd
        rw [if_pos rfl] at HOT HKS
        rw [if_neg (by simp)] at HOF
        clear hnt hnf hcc hkd hmr hcr
        go_wp2
        go_round
        case rel => exact ⟨pre ++ [⟨z, tb, true⟩], r, HS2.out, by rw [HFIN.out], by rw [HOT.out, List.length_append, List.length_singleton]; go_num, by rw [HOF.out], by rw [HKS.out]⟩
        case measure => simp [intOf]; omega
      | false =>
        rw [Lg.of_hit false _ _ rfl] at hnf HLb
        rw [Lg.of_miss true _ _ (by simp)] at hnt HLa
        simp only [List.getElem?_cons_zero] at hnf
        obtain ⟨g, rfl, hgl, hcc⟩ := HCB.out (by have := HLb.out; simp at this; omega)
        obtain ⟨c1, c2⟩ := hcc _ _ hnf
        simp only at c1 c2
        have hj : (Lg.of false pre).length < (Lg.of false l).length := by have := HLb.out; simp at this; omega
        have hk1 : (Lg.kindOf pre != 2) = true := by simpa using hkd
        rw [if_pos rfl] at HOF
        rw [if_neg (by simp)] at HOT HKS
        by_cases hi : (Lg.of true pre).length < (Lg.of true l).length
        · obtain ⟨u, hu⟩ : ∃ u, (Lg.of true r)[0]? = some u := ⟨(Lg.of true r)[0]'(by have := HLa.out; omega), List.getElem?_eq_getElem _⟩
          have hum := (Lg.of_mem (List.mem_of_getElem? hu)).1
          have hub := hmr u hum
          rw [hu] at hnt
          obtain ⟨g2, rfl, hgl2, hcc2⟩ := HCA.out (by omega)
          obtain ⟨d1, d2⟩ := hcc2 _ _ hnt
          have hne : (u.a == z) = false := by simp; omega
          clear hnt hnf hcc hkd hmr hcr hcc2 hum hub hu
          go_wp2
          go_round
          case rel => exact ⟨pre ++ [⟨z, tb, false⟩], r, HS2.out, by rw [HFIN.out], by rw [HOT.out], by rw [HOF.out, List.length_append, List.length_singleton]; go_num, by rw [HKS.out]⟩
          case measure => simp [intOf]; omega
        · have hi' : (Lg.of true l).length ≤ (Lg.of true pre).length := by omega
          clear hnt hnf hcc hkd hmr hcr hi
          go_wp2
          go_round
          case rel => exact ⟨pre ++ [⟨z, tb, false⟩], r, HS2.out, by rw [HFIN.out], by rw [HOT.out], by rw [HOF.out, List.length_append, List.length_singleton]; go_num, by rw [HKS.out]⟩
          case measure => simp [intOf]; omega

end Go.Proofs.Ytmlkoehkodbomaa
