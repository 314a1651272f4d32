/-
  The contract of swapper.
-/
import Derived.Test.YtaoonjamlcdfaaaSwapLaw
import Derived.Test.YtaoonjamlcdfaaaFew
namespace Go.Proofs.Ytaoonjamlcdfaaa
open Go.RowKit

/-- The first numbers of a list, ten at most. -/
def ten (x : Nat → Int) (len : Nat) : List Int := (List.range (min len 10)).map x
theorem ten_length (x : Nat → Int) (len : Nat) : (ten x len).length ≤ 10 := by simp [ten]; omega
theorem map_range_succ (x : Nat → Int) (n : Nat) : (List.range (n + 1)).map x = (List.range n).map x ++ [x n] := by rw [List.range_succ, List.map_append]; rfl

section
variable {w : World}
set_option maxRecDepth 100000 in
set_option maxHeartbeats 4000000 in
theorem swapper_c (k : Nat) (hk : k < 8) {B : Nat} {v : Value} {x : Nat → Int} {len : Nat} (ha : IntsAt B w v x len) (hB : B ≤ w.heap.size) :
    Calls Try.prog 49 #[.int .i64 k, v] w fun e w' => ∃ v', e = .returned v' ∧ w'.ownsRow w.heap.size 95 4 v' (Sw.prog k (ten x len) 0).length (qcells (Sw.prog k (ten x len) 0)) ∧ Below w.heap.size w w' := by
  obtain ⟨ao, cap, rfl, _, _, _, hcell⟩ := ha
  obtain ⟨j0, hj, hy0, hy1, hy2⟩ := info_parts instr_info
  have HC := hide hcell
  have hst : (w.alloc (.cells #[] 95)).ownsRow w.heap.size 95 4 (.slice (some ⟨w.heap.size, 0, none⟩) 0 0) 0 [] :=
    ⟨rfl, .inr ⟨w.heap.size, 0, #[], rfl, Nat.le_refl _, heap_alloc_new w _, Nat.le_refl _, Nat.zero_le _, rfl, rfl⟩⟩
  have HST := hide hst
  have HB0 := hide ((Below.refl w.heap.size w).alloc (Nat.le_refl _) (.cells #[] 95))
  have s1 : IntKind.i64.wrap (1 + (k : Int)) = 1 + (k : Int) := IntWalk.i64_in _ (by omega)
  have hk8 : (k : Int) < 8 := by omega
  clear hcell hst
  go_enter Try.func49, Try.ntmps49
  go_wp2
  go_loopw [5, 6] (fun p i wr => ∃ (n : Nat), n ≤ len ∧ n ≤ 10 ∧ i = .int .i64 n ∧ wr.ownsRow w.heap.size 95 4 p (6 * n) (qcells (Sw.prog k ((List.range n).map x) 0)) ∧ Below w.heap.size w wr) (fun _ i _ => len - (intOf i).toNat)
  case atStart => exact ⟨0, Nat.zero_le _, by decide, rfl, HST.out, HB0.out⟩
  case round =>
    obtain ⟨n, hn, hn10, rfl, hrow, hb⟩ := hrel
    have HR := hide hrow
    have HB := hide hb
    obtain ⟨pao, pcap, rfl, _⟩ := ownsRow_shape hrow
    clear hrow hb HST HB0
    by_cases hlt : n < len ∧ n < 10
    · obtain ⟨hlt1, hlt2⟩ := hlt
      have hn10' : (n : Int) < 10 := by omega
      obtain ⟨g, off, rfl, hg, hcs⟩ := HC.out (by omega)
      have K := hide (fun (w' : World) (h : Below w.heap.size w w') => (h.cell (p := ⟨g, off + n, none⟩) (by show g < _; omega)).trans (hcs n hlt1))
      have hsn := map_range_succ x n
      have hlen : ((List.range n).map x).length = n := by simp
      have HE := hide (show qcells (Sw.prog k ((List.range (n + 1)).map x) 0) = qcells (Sw.prog k ((List.range n).map x) 0) ++ [.int .i64 2, .int .i64 0, .int .i64 1, .int .i64 0, .int .i64 3, .int .i64 (1 + (k : Int)), .int .i64 1, .int .i64 0, .int .i64 2, .int .i64 (1 + (k : Int)), .int .i64 0, .int .i64 0] ++ [.int .i64 6, .int .i64 0, .int .i64 0, .int .i64 (x n), .int .i64 4, .int .i64 0, .int .i64 0, .int .i64 1, .int .i64 7, .int .i64 0, .int .i64 1, .int .i64 ((6 * n : Nat) : Int)] by
        rw [hsn, Sw.prog_snoc, qcells_append, hlen, Nat.zero_add, List.append_assoc]
        rfl)
      have hG := fun (wa wb : World) (o : Obj) (row : Value) (hba : Below w.heap.size w wa) (hr : ∀ j, row.ownBlock = some j → w.heap.size ≤ j) (hg : (wa.alloc o).grownBy wb row.ownBlock) => show Below w.heap.size w wb from
        (hba.alloc hba.size o).grown hg (by simp; have := hba.size; omega) (fun j e => hr j e)
      have HG := hide hG
      have HRL := hide (fun j (e : (Value.slice pao (6 * n) pcap).ownBlock = some j) => (HR.out.lt j e).1)
      clear hsn hcs hG hlen
      generalize x n = d at *
      generalize qcells (Sw.prog k ((List.range n).map x) 0) = qs at *
      have hszr := HB.out.size
      go_wp2_with (first
        | (at_builtin; refine wpList_append_own _ rfl (.tmp 21) (.tmp 29) 69 rfl w.heap.size 95 j0 _ 4 32 Try.underlying69 hj hy0 hy1 hy2 rfl (by decide) (.slice pao (6 * n) pcap) (6 * n) qs rfl (HR.out.alloc _) ⟨wr.heap.size, 0, none⟩ 3 3 [.int .i64 2, .int .i64 0, .int .i64 1, .int .i64 0, .int .i64 3, .int .i64 (1 + (k : Int)), .int .i64 1, .int .i64 0, .int .i64 2, .int .i64 (1 + (k : Int)), .int .i64 0, .int .i64 0] rfl rfl (cells_new _ [.int .i64 2, .int .i64 0, .int .i64 1, .int .i64 0, .int .i64 3, .int .i64 (1 + (k : Int)), .int .i64 1, .int .i64 0, .int .i64 2, .int .i64 (1 + (k : Int)), .int .i64 0, .int .i64 0] _) (by simp [Value.oneCell']) (by simp only [maxLen]; omega) (by omega) (by simp; omega) ?_; intro v1 w1 hown1 hgr1 _; obtain ⟨ao1, cap1, rfl, _⟩ := ownsRow_shape hown1; have hb1 := HG.out _ _ _ _ HB.out HRL.out hgr1; have c1 := K.out _ hb1; have HR1 := hide hown1; have HB1 := hide hb1; have sz1 := hb1.size; clear hown1 hgr1 hb1)
        | (at_builtin; refine wpList_append_own _ rfl (.tmp 31) (.tmp 40) 69 rfl w.heap.size 95 j0 _ 4 32 Try.underlying69 hj hy0 hy1 hy2 rfl (by decide) (.slice ao1 (6 * n + 3) cap1) (6 * n + 3) _ rfl (HR1.out.alloc _) ⟨w1.heap.size, 0, none⟩ 3 3 [.int .i64 6, .int .i64 0, .int .i64 0, .int .i64 d, .int .i64 4, .int .i64 0, .int .i64 0, .int .i64 1, .int .i64 7, .int .i64 0, .int .i64 1, .int .i64 ((6 * n : Nat) : Int)] rfl rfl (cells_new _ [.int .i64 6, .int .i64 0, .int .i64 0, .int .i64 d, .int .i64 4, .int .i64 0, .int .i64 0, .int .i64 1, .int .i64 7, .int .i64 0, .int .i64 1, .int .i64 ((6 * n : Nat) : Int)] _) (by simp [Value.oneCell']) (by simp only [maxLen]; omega) (by omega) (by simp; omega) ?_; intro v2 w2 hown2 hgr2 _; have hb2 := HG.out _ _ _ _ HB1.out (fun j e => (HR1.out.lt j e).1) hgr2; have HR2 := hide hown2; have HB2 := hide hb2; clear hown2 hgr2 hb2))
      go_roundw
      case rel => exact ⟨n + 1, by omega, by omega, by go_num, by rw [HE.out]; exact HR2.out, HB2.out⟩
      case measure => simp [intOf]; omega
    · have hsp : (n < len ∧ n = 10) ∨ n = len := by omega
      have HT := hide (show ten x len = (List.range n).map x by
        unfold ten
        rw [show min len 10 = n by omega])
      have HL := hide (show (Sw.prog k ((List.range n).map x) 0).length = 6 * n by rw [Sw.prog_length]; simp)
      rcases hsp with ⟨h1, h2⟩ | h1 <;> clear hlt
      · subst h2
        go_wp2
        go_ret
        exact ⟨_, rfl, by rw [HT.out, HL.out]; exact HR.out, HB.out⟩
      · subst h1
        go_wp2
        go_ret
        exact ⟨_, rfl, by rw [HT.out, HL.out]; exact HR.out, HB.out⟩
end
end Go.Proofs.Ytaoonjamlcdfaaa
