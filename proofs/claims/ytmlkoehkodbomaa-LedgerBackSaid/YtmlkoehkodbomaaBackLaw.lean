/-
  The walk of the law LedgerBack.
-/
import Derived.Test.YtmlkoehkodbomaaCopies
import Derived.Test.YtmlkoehkodbomaaOnce
namespace Go.Proofs.Ytmlkoehkodbomaa
open Go.RowKit

theorem among_far (x n : Int) (w : World) (h : 1 ≤ n) (hn : n ≤ 1099511627777) : Calls Try.prog 10 #[.int .i64 x, .int .i64 n] w fun e w' => e = .returned (.int .i64 (among x n)) ∧ w = w' := by
  have hw : wrap64 ((IntKind.u64.wrap x).tmod n) = among x n := by
    have := among_bd x n h
    show wrap64 (among x n) = among x n
    unfold wrap64
    omega
  go_enter Try.func10, Try.ntmps10
  go_wp2
  go_ret
  exact ⟨ret_int hw, rfl⟩

namespace Lg
def cut1 (to : Int) (t : Sp) : Sp := ⟨t.a, if t.b ≤ to then t.b else to, t.k⟩
theorem find_cut (l : List Sp) (to p : Int) (h : p < to) : (cut l to).find? (has p) = (l.find? (has p)).map (cut1 to) := by
  induction l with
  | nil => rfl
  | cons t l ih =>
    have e : cut (t :: l) to = cut [t] to ++ cut l to := cut_append [t] l to
    rw [e, List.find?_append, ih]
    by_cases h1 : t.a < to
    · have e1 : cut [t] to = [cut1 to t] := by simp [cut, cut1, h1]
      have e2 : has p (cut1 to t) = has p t := by
        have hb : (p < (cut1 to t).b) ↔ p < t.b := by
          show (p < if t.b ≤ to then t.b else to) ↔ p < t.b
          split <;> omega
        unfold has
        rw [decide_eq_decide.2 hb]
        rfl
      rw [e1]
      by_cases h2 : has p t = true
      · rw [List.find?_cons_of_pos (e2.trans h2), List.find?_cons_of_pos h2]
        rfl
      · rw [List.find?_cons_of_neg (by rw [e2]; exact h2), List.find?_cons_of_neg h2]
        rfl
    · have e1 : cut [t] to = [] := by simp [cut, h1]
      have h2 : ¬ has p t = true := by
        simp only [has, Bool.and_eq_true, decide_eq_true_eq]
        omega
      rw [e1, List.find?_cons_of_neg h2]
      rfl
theorem isB_cut (l : List Sp) (to p : Int) (h : p < to) : isB (cut l to) p = isB l p := by
  unfold isB
  rw [find_cut l to p h]
  cases l.find? (has p) <;> rfl
theorem pop_fin {f : Int} {l : List Sp} (h : Chain f l) : pop l (fin f l) = l := by
  rw [pop_cut h]
  exact cut_all (fun t ht => by have := chain_mem h t ht; omega)

/-- What a rewind to a place within leaves. -/
structure Rew (a : Int) (l q : List Sp) (y z : Int) : Prop where
  good : Good a q
  fin_ : fin a q = y
  isL : ∀ k, a ≤ k → k < y → isE l k = 0
  isQ : ∀ k, a ≤ k → k < y → isE q k = 0
  isS : ∀ k, a ≤ k → k < y → isB q k = isB l k
  out : isE q y = 5
  bl : backL a l y = q
  be : backE a l y = 0
  cl : backL a l z = l
  ce : backE a l z = 0
  dl : backL a q (y + 1) = q
  de : backE a q (y + 1) = 61
  fe : backE a q (a - 1) = 2 ∨ backE a q (a - 1) = 61
theorem rew {a : Int} {l : List Sp} {y : Int} (h : Good a l) (h1 : a ≤ y) (h2 : y ≤ fin a l) : Rew a l (pop l y) y (fin a l) := by
  have hc := chain_pop h.chain h1
  have hlo := h.lo
  have hf : fin a (pop l y) = y := by
    rw [hc.2]
    split <;> omega
  refine ⟨good_pop h h1, hf, ?_, ?_, ?_, ?_, ?_, ?_, ?_, ?_, ?_, ?_, ?_⟩
  · intro k h3 h4
    exact (is_in_chain h.chain k h3 (by omega)).1
  · intro k h3 h4
    exact (is_in_chain hc.1 k h3 (by omega)).1
  · intro k h3 h4
    rw [pop_cut h.chain, isB_cut l y k h4]
  · exact is_out_chain hc.1 y (.inr (by omega))
  · unfold backL
    rw [if_neg (by omega), if_neg (by omega)]
  · unfold backE
    rw [if_neg (by omega), if_neg (by omega)]
  · unfold backL
    rw [if_neg (by omega), if_neg (by omega), pop_fin h.chain]
  · unfold backE
    rw [if_neg (by omega), if_neg (by omega)]
  · unfold backL
    rw [if_neg (by omega), if_pos (by omega)]
  · unfold backE
    rw [if_neg (by omega), if_pos (by omega)]
  · unfold backE
    by_cases h0 : a - 1 < 0
    · rw [if_pos h0]; exact .inl rfl
    · rw [if_neg h0, if_pos (by omega)]; exact .inr rfl
end Lg

set_option maxRecDepth 100000 in
set_option maxHeartbeats 8000000 in
theorem backlaw_c (x : Int) (w : World) (v : Value) (ac : Nat → Ac) (len : Nat) (ha : ActsAt w.heap.size w v ac len) (u : Int) : Calls Try.prog 6 #[.int .i64 x, v, .int .i64 u] w fun e w' => e = .returned (.bool true) ∧ Below w.heap.size w w' := by
  have hab := among_bd x 1000 (by decide)
  go_enter Try.func6, Try.ntmps6
  go_wp2_with fail
  refine (works_c w).mono ?_
  rintro e w1 ⟨rfl, hB1⟩
  have HB1 := hide hB1
  have sz1 := hB1.size
  have HBU := hide (built_c x w1 v ac len (ha.below hB1))
  clear ha hB1
  generalize among x 1000 = a at *
  go_wp2_with fail
  refine HBU.out.mono ?_
  rintro e w2 ⟨rfl, sv, l, hL, hG, hA, hB2⟩
  have HL := hide hL
  have HG := hide hG
  have HB2 := hide (HB1.out.trans (hB2.mono sz1))
  have sz2 := hB2.size
  have hlen := hG.len
  clear hL hG hA hB2 HB1 HBU
  generalize hBB : w1.heap.size = B at *
  clear hBB
  go_wp2_with fail
  refine (copy_c HL.out hlen).mono ?_
  rintro e w3 ⟨c, t, rfl, hL3, hB3⟩
  have HT := hide (two_start (w0 := w) HL.out sz1 sz2 hL3 hB3)
  have HB3 := hide (HB2.out.trans (hB3.mono (Nat.le_trans sz1 sz2)))
  clear hL3 hB3 HL HB2
  generalize hCC : w2.heap.size = C at *
  clear hCC
  have hfb : a ≤ Lg.fin a l ∧ Lg.fin a l ≤ 1099511627776 := ⟨HG.out.fin_ge, HG.out.top⟩
  have HMB := hide (among_bd u (Lg.fin a l - a + 1) (by omega))
  have HRW := hide (fun y h1 h2 => Lg.rew (y := y) HG.out h1 h2)
  have KK := hide (fun (k : Nat) (h : k < w.heap.size) => h)
  have HEnd := hide (fun (w9 : World) (b9 B9 : Nat) (s9 : Value) (hL9 : Led w9 B9 b9 s9 a l) => end_c hL9 HG.out)
  generalize Lg.fin a l = z at *
  have sz3 : w.heap.size ≤ w3.heap.size := HB3.out.size
  have hE : Calls Try.prog 25 #[.pointer (some ⟨B, 0, none⟩)] w3 fun e w' => e = .returned (.int .i64 a) ∧ w3 = w' := by
    obtain ⟨s, t, h1, _⟩ := HT.out.ex
    exact h1.from_
  go_wp2_with fail
  refine hE.mono ?_
  rintro e w4 ⟨rfl, rfl⟩
  have hF : Calls Try.prog 16 #[.pointer (some ⟨B, 0, none⟩)] w3 fun e w' => e = .returned (.int .i64 z) ∧ ∃ n, w' = w3.drewN n := by
    obtain ⟨s, t, h1, _⟩ := HT.out.ex
    exact HEnd.out _ _ _ _ h1
  go_wp2_with fail
  refine hF.mono ?_
  clear hF hE
  rintro e w4 ⟨rfl, n4, rfl⟩
  have HT4 := hide (HT.out.drewN n4)
  have HB4 := hide (below_drewN HB3.out n4)
  clear HT HB3 sz3
  generalize w3.drewN n4 = w4 at *
  have hE : Calls Try.prog 25 #[.pointer (some ⟨B, 0, none⟩)] w4 fun e w' => e = .returned (.int .i64 a) ∧ w4 = w' := by
    obtain ⟨s, t, h1, _⟩ := HT4.out.ex
    exact h1.from_
  go_wp2_with fail
  refine hE.mono ?_
  clear hE
  rintro e w5 ⟨rfl, rfl⟩
  have hE := among_far u (z - a + 1) w4 (by omega) (by omega)
  go_wp2_with fail
  refine hE.mono ?_
  clear hE
  rintro e w5 ⟨rfl, rfl⟩
  have hm := HMB.out
  clear HMB
  generalize among u (z - a + 1) = m at *
  obtain ⟨y, hy⟩ : ∃ y, y = a + m := ⟨_, rfl⟩
  have hya : a ≤ y := by omega
  have hyz : y ≤ z := by omega
  have hR := HRW.out y hya hyz
  clear HRW
  have hq : Hid (Lg.Good a (Lg.pop l y) ∧ Lg.Rew a l (Lg.pop l y) y z) := ⟨hR.good, hR⟩
  clear hR
  generalize Lg.pop l y = q at *
  obtain ⟨GQ, HR⟩ := hq
  have GQ := hide GQ
  have HR := hide HR
  have sz4 : w.heap.size ≤ w4.heap.size := HB4.out.size
  have hE := HT4.out.left (F := 21) (args := #[.pointer (some ⟨B, 0, none⟩), .int .i64 (a + m)]) (l' := q) (x := 0) (fun s h => by have := back_c h HG.out y; rw [HR.out.bl, HR.out.be] at this; rw [← hy]; exact this)
  go_wp2_with fail
  refine hE.mono ?_
  clear hE
  rintro e w5 ⟨rfl, hO5, hT5⟩
  have HT5 := hide hT5
  have HB5 := hide (HB4.out.trans (below_only hO5 sz4 KK.out))
  have sz5 : w.heap.size ≤ w5.heap.size := HB5.out.size
  clear hO5 hT5 HT4 HB4 sz4
  rw [← hy]
  have HY := hide hy
  clear hy
  have hE : Calls Try.prog 16 #[.pointer (some ⟨B, 0, none⟩)] w5 fun e w' => e = .returned (.int .i64 y) ∧ ∃ n, w' = w5.drewN n := by
    obtain ⟨s, t, h1, _⟩ := HT5.out.ex
    have := end_c h1 GQ.out
    rw [HR.out.fin_] at this
    exact this
  go_wp2_with fail
  refine hE.mono ?_
  clear hE
  rintro e w6 ⟨rfl, n6, rfl⟩
  have HT6 := hide (HT5.out.drewN n6)
  have HB6 := hide (below_drewN HB5.out n6)
  clear HT5 HB5 sz5
  generalize w5.drewN n6 = w6 at *
  have hE : Calls Try.prog 16 #[.pointer (some ⟨c, 0, none⟩)] w6 fun e w' => e = .returned (.int .i64 z) ∧ ∃ n, w' = w6.drewN n := by
    obtain ⟨s, t, _, h1, _⟩ := HT6.out.ex
    exact HEnd.out _ _ _ _ h1
  go_wp2_with fail
  refine hE.mono ?_
  clear hE
  rintro e w7 ⟨rfl, n7, rfl⟩
  have HT7 := hide (HT6.out.drewN n7)
  have HB7 := hide (below_drewN HB6.out n7)
  clear HT6 HB6
  generalize w6.drewN n7 = w7 at *
  have sz7 : w.heap.size ≤ w7.heap.size := HB7.out.size
  have hE := HT7.out.right (F := 21) (args := #[.pointer (some ⟨c, 0, none⟩), .int .i64 z]) (r' := l) (x := 0) (fun s h => by have := back_c h HG.out z; rw [HR.out.cl, HR.out.ce] at this; exact this)
  go_wp2_with fail
  refine hE.mono ?_
  clear hE
  rintro e w8 ⟨rfl, hO8, hT8⟩
  have HT8 := hide hT8
  have HB8 := hide (HB7.out.trans (below_only hO8 sz7 KK.out))
  have sz8 : w.heap.size ≤ w8.heap.size := HB8.out.size
  clear hO8 hT8 HT7 HB7 sz7
  have hE : Calls Try.prog 25 #[.pointer (some ⟨B, 0, none⟩)] w8 fun e w' => e = .returned (.int .i64 a) ∧ w8 = w' := by
    obtain ⟨s, t, h1, _⟩ := HT8.out.ex
    exact h1.from_
  go_wp2_with fail
  refine hE.mono ?_
  clear hE
  rintro e w9 ⟨rfl, rfl⟩
  go_wp2_with fail
  go_loopw [9] (fun p wr => ∃ k : Int, p = .int .i64 k ∧ a ≤ k ∧ k ≤ y ∧ Two (fun k => k < w.heap.size) wr B B C c a q l ∧ Below w.heap.size w wr ∧ w.heap.size ≤ wr.heap.size) (fun p _ => (y - intOf p).toNat)
  case atStart => exact ⟨a, rfl, Int.le_refl _, hya, HT8.out, HB8.out, sz8⟩
  case round =>
    clear HT8 HB8 sz8
    obtain ⟨k, rfl, hk0, hk1, hTr, hBr, szr⟩ := hrel
    have HT := hide hTr
    have HB := hide hBr
    clear hTr hBr
    by_cases hlt : k < y ∧ k < a + 1000
    · obtain ⟨hk2, hk3⟩ := hlt
      have hE : Calls Try.prog 25 #[.pointer (some ⟨B, 0, none⟩)] wr fun e w' => e = .returned (.int .i64 a) ∧ wr = w' := by
        obtain ⟨s, t, h1, _⟩ := HT.out.ex
        exact h1.from_
      go_wp2_with fail
      refine hE.mono ?_
      clear hE
      rintro e w9 ⟨rfl, rfl⟩
      have hE : Calls Try.prog 23 #[.pointer (some ⟨B, 0, none⟩), .int .i64 k] wr fun e w' => e = .returned (.tuple #[.bool (Lg.isB l k), .int .i64 0]) ∧ Below wr.heap.size wr w' := by
        obtain ⟨s, t, h1, _⟩ := HT.out.ex
        have := isat_c h1 GQ.out.len k
        rw [HR.out.isS k hk0 hk2, HR.out.isQ k hk0 hk2] at this
        exact this
      go_wp2_with fail
      refine hE.mono ?_
      clear hE
      rintro e w9 ⟨rfl, hb9⟩
      have HT9 := hide (HT.out.later hb9)
      have HB9 := hide (HB.out.trans (hb9.mono szr))
      have sz9 : w.heap.size ≤ w9.heap.size := HB9.out.size
      clear hb9 HT HB szr
      have hE : Calls Try.prog 23 #[.pointer (some ⟨c, 0, none⟩), .int .i64 k] w9 fun e w' => e = .returned (.tuple #[.bool (Lg.isB l k), .int .i64 0]) ∧ Below w9.heap.size w9 w' := by
        obtain ⟨s, t, _, h1, _⟩ := HT9.out.ex
        have := isat_c h1 hlen k
        rw [HR.out.isL k hk0 hk2] at this
        exact this
      go_wp2_with fail
      refine hE.mono ?_
      clear hE
      rintro e w10 ⟨rfl, hb10⟩
      have HT10 := hide (HT9.out.later hb10)
      have HB10 := hide (HB9.out.trans (hb10.mono sz9))
      have sz10 : w.heap.size ≤ w10.heap.size := HB10.out.size
      clear hb10 HT9 HB9 sz9
      generalize Lg.isB l k = bb at *
      go_wp2
      go_roundw
      case rel => exact ⟨k + 1, by go_num, by omega, by omega, HT10.out, HB10.out, sz10⟩
      case measure => simp [intOf]; omega
    · have hlast : ∀ wt : World, Two (fun k => k < w.heap.size) wt B B C c a q l → Below w.heap.size w wt → w.heap.size ≤ wt.heap.size →
          Calls Try.prog 23 #[.pointer (some ⟨B, 0, none⟩), .int .i64 y] wt fun e w' => e = .returned (.tuple #[.bool (Lg.isB q y), .int .i64 5]) ∧ Below wt.heap.size wt w' := by
        intro wt hT _ _
        obtain ⟨s, t, h1, _⟩ := hT.ex
        have := isat_c h1 GQ.out.len y
        rw [HR.out.out] at this
        exact this
      have hE := hlast wr HT.out HB.out szr
      clear hlast
      have HEE := hide hE
      clear hE
      have HRF : Hid (∀ wt : World, Two (fun k => k < w.heap.size) wt B B C c a q l → Calls Try.prog 25 #[.pointer (some ⟨B, 0, none⟩)] wt fun e w' => e = .returned (.int .i64 a) ∧ wt = w') := by
        intro wt hT
        obtain ⟨s, t, h1, _⟩ := hT.ex
        exact h1.from_
      have HUP : Hid (∀ wt : World, Two (fun k => k < w.heap.size) wt B B C c a q l → Calls Try.prog 21 #[.pointer (some ⟨B, 0, none⟩), .int .i64 (y + 1)] wt fun e w' => e = .returned (.int .i64 61) ∧ Only (fun k => ¬ k < w.heap.size) wt w' ∧ Two (fun k => k < w.heap.size) w' B B C c a q l) := by
        intro wt hT
        exact hT.left (fun s h => by have := back_c h GQ.out (y + 1); rw [HR.out.dl, HR.out.de] at this; exact this)
      have HDN : Hid (∀ wt : World, Two (fun k => k < w.heap.size) wt B B C c a q l → Calls Try.prog 21 #[.pointer (some ⟨B, 0, none⟩), .int .i64 (a - 1)] wt fun e w' => (e = .returned (.int .i64 2) ∨ e = .returned (.int .i64 61)) ∧ Only (fun k => ¬ k < w.heap.size) wt w') := by
        intro wt hT
        refine (hT.left (F := 21) (args := #[.pointer (some ⟨B, 0, none⟩), .int .i64 (a - 1)]) (fun s h => back_c h GQ.out (a - 1))).mono ?_
        rintro e w' ⟨rfl, h2, _⟩
        refine ⟨?_, h2⟩
        rcases HR.out.fe with e | e <;> rw [e]
        · exact .inl rfl
        · exact .inr rfl
      clear HR GQ HEnd HG
      by_cases hk2 : k < y
      · have hk3 : ¬ k < a + 1000 := by omega
        clear hlt
        go_wp2_with fail
        refine (HRF.out wr HT.out).mono ?_
        rintro e w9 ⟨rfl, rfl⟩
        go_wp2_with fail
        refine HEE.out.mono ?_
        rintro e w9 ⟨rfl, hb9⟩
        have HT9 := hide (HT.out.later hb9)
        have HB9 := hide (HB.out.trans (hb9.mono szr))
        have sz9 : w.heap.size ≤ w9.heap.size := HB9.out.size
        clear hb9 HT HB szr HEE
        generalize Lg.isB q y = bb at *
        go_wp2_with fail
        refine (HUP.out w9 HT9.out).mono ?_
        rintro e w10 ⟨rfl, hO10, hT10⟩
        have HT10 := hide hT10
        have HB10 := hide (HB9.out.trans (below_only hO10 sz9 KK.out))
        have sz10 : w.heap.size ≤ w10.heap.size := HB10.out.size
        clear hO10 hT10 HT9 HB9 sz9
        go_wp2_with fail
        refine (HRF.out w10 HT10.out).mono ?_
        rintro e w9 ⟨rfl, rfl⟩
        go_wp2_with fail
        refine (HDN.out w10 HT10.out).mono ?_
        rintro e w11 ⟨he, hO11⟩
        have HB11 := hide (HB10.out.trans (below_only hO11 sz10 KK.out))
        clear hO11
        rcases he with rfl | rfl
        · go_wp2
          go_ret
          exact ⟨rfl, HB11.out⟩
        · go_wp2
          go_ret
          exact ⟨rfl, HB11.out⟩
      · clear hlt
        go_wp2_with fail
        refine HEE.out.mono ?_
        rintro e w9 ⟨rfl, hb9⟩
        have HT9 := hide (HT.out.later hb9)
        have HB9 := hide (HB.out.trans (hb9.mono szr))
        have sz9 : w.heap.size ≤ w9.heap.size := HB9.out.size
        clear hb9 HT HB szr HEE
        generalize Lg.isB q y = bb at *
        go_wp2_with fail
        refine (HUP.out w9 HT9.out).mono ?_
        rintro e w10 ⟨rfl, hO10, hT10⟩
        have HT10 := hide hT10
        have HB10 := hide (HB9.out.trans (below_only hO10 sz9 KK.out))
        have sz10 : w.heap.size ≤ w10.heap.size := HB10.out.size
        clear hO10 hT10 HT9 HB9 sz9
        go_wp2_with fail
        refine (HRF.out w10 HT10.out).mono ?_
        rintro e w9 ⟨rfl, rfl⟩
        go_wp2_with fail
        refine (HDN.out w10 HT10.out).mono ?_
        rintro e w11 ⟨he, hO11⟩
        have HB11 := hide (HB10.out.trans (below_only hO11 sz10 KK.out))
        clear hO11
        rcases he with rfl | rfl
        · go_wp2
          go_ret
          exact ⟨rfl, HB11.out⟩
        · go_wp2
          go_ret
          exact ⟨rfl, HB11.out⟩

end Go.Proofs.Ytmlkoehkodbomaa
