/-
  The contract of done: are all sessions over?
-/
import Derived.Test.YtaoonjamlcdfaaaTwin
namespace Go.Proofs.Ytaoonjamlcdfaaa
open Go.RowKit

/-- Are all sessions over? -/
def Sd.doneB (st : St) : Bool := st.ses.all Sd.over

section
variable {w : World} {L : Lay} {st : St}
theorem done_take {l : List Ss} {k : Nat} {s : Ss} (h : l[k]? = some s) (ha : (l.take k).all Sd.over = true) (hs : Sd.over s = true) : (l.take (k + 1)).all Sd.over = true := by
  rw [List.take_add_one, h, List.all_append, ha]
  simp [hs]
theorem done_not {k : Nat} {s : Ss} (h : st.ses[k]? = some s) (hs : Sd.over s = false) : Sd.doneB st = false := by
  unfold Sd.doneB
  rw [List.all_eq_false]
  exact ⟨s, List.mem_of_getElem? h, by simp [hs]⟩

set_option maxHeartbeats 4000000 in
theorem index_ses (h : Mach w L st) : Calls Try.prog 86 #[L.sv, .func (.func 83) #[] #[]] w fun e w' => (∃ r, e = .returned (.int .i64 r) ∧ (Sd.doneB st = true → r = -1) ∧ (Sd.doneB st = false → 0 ≤ r)) ∧ ∃ n, w' = w.drewN n := by
  obtain ⟨ao, cap, hsv, _⟩ := ownsRow_shape h.ses.row
  have hfew := h.good.few
  have HM := hide h
  have HSV := hide hsv
  rw [hsv]
  clear h hsv
  go_enter Try.func86, Try.ntmps86
  go_wp2
  go_loopw [8] (fun i wr => ∃ (k n : Nat), k ≤ st.ses.length ∧ i = .int .i64 k ∧ (st.ses.take k).all Sd.over = true ∧ wr = w.drewN n) (fun i _ => st.ses.length - (intOf i).toNat)
  case atStart => exact ⟨0, 0, Nat.zero_le _, rfl, rfl, rfl⟩
  case round =>
    obtain ⟨k, n, hk, rfl, ha, rfl⟩ := hrel
    have HA := hide ha
    clear ha
    by_cases hlt : k < st.ses.length
    · obtain ⟨s, hs⟩ : ∃ t, st.ses[k]? = some t := ⟨st.ses[k], List.getElem?_eq_getElem hlt⟩
      have hg : Sd.get st.ses (k : Int) = some s := by
        unfold Sd.get
        rw [if_pos (by omega)]
        simpa using hs
      obtain ⟨sg, scap, j, pv, hv, hc, _, _, hse, _⟩ := (HM.out.drewN n).at_ hg
      rw [HSV.out] at hv
      cases hv
      have HO := hide (open_c hse)
      have HT := hide (fun (ho : Sd.over s = true) => done_take hs HA.out ho)
      have HN := hide (fun (ho : Sd.over s = false) => done_not hs ho)
      rw [Int.toNat_natCast] at hc
      clear hs hg hse HA
      generalize Sd.over s = o at *
      go_wp2_with fail
      refine HO.out.mono ?_
      rintro e w2 ⟨rfl, n2, rfl⟩
      clear HO hc
      cases o with
      | true =>
        go_wp2
        go_roundw
        case rel => exact ⟨k + 1, _, by omega, by go_num, HT.out (by simp), rfl⟩
        case measure => simp [intOf]; omega
      | false =>
        go_wp2
        go_ret
        exact ⟨⟨_, rfl, (fun h => by rw [HN.out (by simp)] at h; cases h), (fun _ => by omega)⟩, _, rfl⟩
    · obtain rfl : k = st.ses.length := by omega
      go_wp2
      go_ret
      refine ⟨⟨-1, rfl, (fun _ => rfl), (fun h => ?_)⟩, n, rfl⟩
      have := HA.out
      rw [List.take_length] at this
      unfold Sd.doneB at h
      rw [this] at h
      cases h

theorem contains_ses (h : Mach w L st) : Calls Try.prog 82 #[L.sv, .func (.func 83) #[] #[]] w fun e w' => e = .returned (.bool (!Sd.doneB st)) ∧ ∃ n, w' = w.drewN n := by
  obtain ⟨ao, cap, hsv, _⟩ := ownsRow_shape h.ses.row
  have HI := hide (index_ses h)
  rw [hsv] at HI ⊢
  clear h hsv
  generalize Sd.doneB st = r at *
  go_enter Try.func82, Try.ntmps82
  go_wp2_with fail
  refine HI.out.mono ?_
  rintro e w2 ⟨⟨x, rfl, hx1, hx2⟩, n, rfl⟩
  clear HI
  cases r with
  | true =>
    obtain rfl := hx1 rfl
    go_wp2
    go_ret
    exact ⟨rfl, n, rfl⟩
  | false =>
    have := hx2 rfl
    clear hx1 hx2
    go_wp2
    go_ret
    exact ⟨ret_bool (by simp), n, rfl⟩

theorem done_c (h : Mach w L st) : Calls Try.prog 74 #[.pointer (some ⟨L.b, 0, none⟩)] w fun e w' => e = .returned (.bool (Sd.doneB st)) ∧ ∃ n, w' = w.drewN n := by
  obtain ⟨ao, cap, hsv, _⟩ := ownsRow_shape h.ses.row
  have HI := hide (contains_ses h)
  have c1 := h.heads.2
  rw [hsv] at HI c1
  clear h hsv
  generalize Sd.doneB st = r at *
  go_enter Try.func74, Try.ntmps74
  go_wp2_with fail
  refine HI.out.mono ?_
  rintro e w2 ⟨rfl, n, rfl⟩
  cases r with
  | true =>
    go_wp2
    go_ret
    exact ⟨rfl, n, rfl⟩
  | false =>
    go_wp2
    go_ret
    exact ⟨rfl, n, rfl⟩
end

/-- The steps of picks in a row. -/
def Sd.runL (st : St) : List Int → St
  | [] => st
  | p :: l => Sd.runL (Sd.stepS st p) l
def Sd.cntL (st : St) : List Int → Nat
  | [] => 0
  | p :: l => (Sd.stepB st p).toNat + Sd.cntL (Sd.stepS st p) l
namespace Sd
theorem runL_snoc (st : St) (l : List Int) (p : Int) : runL st (l ++ [p]) = stepS (runL st l) p := by
  induction l generalizing st with
  | nil => rfl
  | cons q l ih => exact ih _
theorem cntL_snoc (st : St) (l : List Int) (p : Int) : cntL st (l ++ [p]) = cntL st l + (stepB (runL st l) p).toNat := by
  induction l generalizing st with
  | nil => simp [cntL, runL]
  | cons q l ih =>
    show (stepB st q).toNat + cntL (stepS st q) (l ++ [p]) = (stepB st q).toNat + cntL (stepS st q) l + _
    rw [ih]
    show _ = _ + (stepB (runL (stepS st q) l) p).toNat
    omega
theorem cntL_le (st : St) (l : List Int) : cntL st l ≤ l.length := by
  induction l generalizing st with
  | nil => exact Nat.le_refl _
  | cons q l ih =>
    have := ih (stepS st q)
    have hb : (stepB st q).toNat ≤ 1 := Bool.toNat_le _
    show (stepB st q).toNat + cntL (stepS st q) l ≤ l.length + 1
    omega
/-- Where all are over, a step does nothing. -/
theorem done_step {st : St} (h : doneB st = true) (p : Int) : stepS st p = st ∧ stepB st p = false := by
  cases hs : get st.ses p with
  | none => exact ⟨by simp only [stepS, hs], by simp only [stepB, overB, hs]; rfl⟩
  | some s =>
    have ho := List.all_eq_true.1 h s (get_mem hs)
    have hn : s.p[s.at_]? = none := by
      simp [over] at ho
      exact List.getElem?_eq_none_iff.2 ho
    exact ⟨by simp only [stepS, hs, hn], by simp only [stepB, overB, hs, ho]; rfl⟩
theorem done_run {st : St} (h : doneB st = true) (l : List Int) : runL st l = st ∧ cntL st l = 0 := by
  induction l with
  | nil => exact ⟨rfl, rfl⟩
  | cons p l ih =>
    obtain ⟨e1, e2⟩ := done_step h p
    simp only [runL, cntL, e1, e2]
    exact ⟨ih.1, by simp [ih.2]⟩
theorem runL_append (st : St) (l r : List Int) : runL st (l ++ r) = runL (runL st l) r := by
  induction l generalizing st with
  | nil => rfl
  | cons p l ih => exact ih _
theorem cntL_append (st : St) (l r : List Int) : cntL st (l ++ r) = cntL st l + cntL (runL st l) r := by
  induction l generalizing st with
  | nil => simp [cntL, runL]
  | cons p l ih =>
    show (stepB st p).toNat + cntL (stepS st p) (l ++ r) = (stepB st p).toNat + cntL (stepS st p) l + cntL (runL (stepS st p) l) r
    rw [ih]
    omega
end Sd
end Go.Proofs.Ytaoonjamlcdfaaa
