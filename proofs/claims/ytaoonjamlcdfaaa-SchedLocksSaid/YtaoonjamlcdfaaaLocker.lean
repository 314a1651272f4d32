/-
  The contract of locker.
-/
import Derived.Test.YtaoonjamlcdfaaaLockLaw
import Derived.Test.YtaoonjamlcdfaaaArgsL
namespace Go.Proofs.Ytaoonjamlcdfaaa
open Go.RowKit

section
variable {w : World}
set_option maxRecDepth 100000 in
set_option maxHeartbeats 4000000 in
theorem locker_c {B : Nat} {v : Value} {x : Nat → Int} {len : Nat} (ha : IntsAt B w v x len) (hB : B ≤ w.heap.size) :
    Calls Try.prog 51 #[v] w fun e w' => ∃ v', e = .returned v' ∧ w'.ownsRow w.heap.size 95 4 v' (Lk.prog (ten x len)).length (qcells (Lk.prog (ten x len))) ∧ Below w.heap.size w w' := by
  obtain ⟨ao, cap, rfl, _, _, _, hcell⟩ := ha
  obtain ⟨j0, hj, hy0, hy1, hy2⟩ := info_parts instr_info
  have HC := hide hcell
  have hst : (w.alloc (.cells #[] 95)).ownsRow w.heap.size 95 4 (.slice (some ⟨w.heap.size, 0, none⟩) 0 0) 0 [] :=
    ⟨rfl, .inr ⟨w.heap.size, 0, #[], rfl, Nat.le_refl _, heap_alloc_new w _, Nat.le_refl _, Nat.zero_le _, rfl, rfl⟩⟩
  have HST := hide hst
  have HB0 := hide ((Below.refl w.heap.size w).alloc (Nat.le_refl _) (.cells #[] 95))
  clear hcell hst
  go_enter Try.func51, Try.ntmps51
  go_wp2
  go_loopw [3, 4] (fun p i wr => ∃ (n : Nat), n ≤ len ∧ n ≤ 10 ∧ i = .int .i64 n ∧ wr.ownsRow w.heap.size 95 4 p (5 * n) (qcells (Lk.prog ((List.range n).map x))) ∧ Below w.heap.size w wr) (fun _ i _ => len - (intOf i).toNat)
  case atStart => exact ⟨0, Nat.zero_le _, by decide, rfl, HST.out, HB0.out⟩
  case round =>
    obtain ⟨n, hn, hn10, rfl, hrow, hb⟩ := hrel
    have HR := hide hrow
    have HB := hide hb
    obtain ⟨pao, pcap, rfl, _⟩ := ownsRow_shape hrow
    clear hrow hb HST HB0
    by_cases hlt : n < len ∧ n < 10
    · obtain ⟨hlt1, hlt2⟩ := hlt
      have hn10' : (n : Int) < 10 := by omega
      obtain ⟨g, off, rfl, hg, hcs⟩ := HC.out (by omega)
      have K := hide (fun (w' : World) (h : Below w.heap.size w w') => (h.cell (p := ⟨g, off + n, none⟩) (by show g < _; omega)).trans (hcs n hlt1))
      have hsn := map_range_succ x n
      have HE := hide (show qcells (Lk.prog ((List.range (n + 1)).map x)) = qcells (Lk.prog ((List.range n).map x)) ++ [.int .i64 9, .int .i64 0, .int .i64 0, .int .i64 0, .int .i64 2, .int .i64 1, .int .i64 0, .int .i64 0, .int .i64 6, .int .i64 0, .int .i64 0, .int .i64 (x n), .int .i64 3, .int .i64 1, .int .i64 0, .int .i64 0, .int .i64 10, .int .i64 0, .int .i64 0, .int .i64 0] by
        rw [hsn, Lk.prog_snoc, qcells_append]
        rfl)
      have hG := fun (wa wb : World) (o : Obj) (row : Value) (hba : Below w.heap.size w wa) (hr : ∀ j, row.ownBlock = some j → w.heap.size ≤ j) (hg : (wa.alloc o).grownBy wb row.ownBlock) => show Below w.heap.size w wb from
        (hba.alloc hba.size o).grown hg (by simp; have := hba.size; omega) (fun j e => hr j e)
      have HG := hide hG
      have HRL := hide (fun j (e : (Value.slice pao (5 * n) pcap).ownBlock = some j) => (HR.out.lt j e).1)
      clear hsn hcs hG
      generalize x n = d at *
      generalize qcells (Lk.prog ((List.range n).map x)) = qs at *
      have hszr := HB.out.size
      have c1 := K.out _ HB.out
      go_wp2_with (first
        | (at_builtin; refine wpList_append_own _ rfl (.tmp 16) (.tmp 26) 69 rfl w.heap.size 95 j0 _ 4 32 Try.underlying69 hj hy0 hy1 hy2 rfl (by decide) (.slice pao (5 * n) pcap) (5 * n) qs rfl (HR.out.alloc _) ⟨wr.heap.size, 0, none⟩ 5 5 [.int .i64 9, .int .i64 0, .int .i64 0, .int .i64 0, .int .i64 2, .int .i64 1, .int .i64 0, .int .i64 0, .int .i64 6, .int .i64 0, .int .i64 0, .int .i64 d, .int .i64 3, .int .i64 1, .int .i64 0, .int .i64 0, .int .i64 10, .int .i64 0, .int .i64 0, .int .i64 0] rfl rfl (cells_new _ [.int .i64 9, .int .i64 0, .int .i64 0, .int .i64 0, .int .i64 2, .int .i64 1, .int .i64 0, .int .i64 0, .int .i64 6, .int .i64 0, .int .i64 0, .int .i64 d, .int .i64 3, .int .i64 1, .int .i64 0, .int .i64 0, .int .i64 10, .int .i64 0, .int .i64 0, .int .i64 0] _) (by simp [Value.oneCell']) (by simp only [maxLen]; omega) (by omega) (by simp; omega) ?_; intro v1 w2 hown1 hgr1 _; have hb2 := HG.out _ _ _ _ HB.out HRL.out hgr1; have HR2 := hide hown1; have HB2 := hide hb2; clear hown1 hgr1 hb2))
      go_roundw
      case rel => exact ⟨n + 1, by omega, by omega, by go_num, by rw [HE.out]; exact HR2.out, HB2.out⟩
      case measure => simp [intOf]; omega
    · have hsp : (n < len ∧ n = 10) ∨ n = len := by omega
      have HT := hide (show ten x len = (List.range n).map x by
        unfold ten
        rw [show min len 10 = n by omega])
      have HL := hide (show (Lk.prog ((List.range n).map x)).length = 5 * n by rw [Lk.prog_length]; simp)
      rcases hsp with ⟨h1, h2⟩ | h1 <;> clear hlt
      · subst h2
        go_wp2
        go_ret
        exact ⟨_, rfl, by rw [HT.out, HL.out]; exact HR.out, HB.out⟩
      · subst h1
        go_wp2
        go_ret
        exact ⟨_, rfl, by rw [HT.out, HL.out]; exact HR.out, HB.out⟩
end
end Go.Proofs.Ytaoonjamlcdfaaa
