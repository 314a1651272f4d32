/-
  Words for the acts that come in, and the contract of where.
-/
import Derived.Test.YtmlkoehkodbomaaWorks
import Derived.Test.YtmlkoehkodbomaaBack
namespace Go.Proofs.Ytmlkoehkodbomaa
open Go.RowKit

/-- An act. -/
structure Ac where
  d : Int
  n : Int
  near : Bool

/-- The slice value v holds the acts l, below block B. -/
def ActsAt (B : Nat) (w : World) (v : Value) (l : Nat → Ac) (len : Nat) : Prop :=
  ∃ ao cap, v = .slice ao len cap ∧ (0 < len → ∃ g off, ao = some ⟨g, off, none⟩ ∧ g < B ∧ ∀ j, j < len →
    w.cell? ⟨g, off + j * 3, none⟩ = some (.int .i64 (l j).d) ∧ w.cell? ⟨g, off + j * 3 + 1, none⟩ = some (.int .i64 (l j).n) ∧ w.cell? ⟨g, off + j * 3 + 2, none⟩ = some (.bool (l j).near))

/-- The number that an act names. -/
def whereB (a : Ac) (z : Int) : Int := if a.near = true then z + among a.n 9 - 3 else a.n

theorem where_c (a : Ac) (z : Int) (w : World) (h0 : 0 ≤ z) (h1 : z ≤ 1099511627776) : Calls Try.prog 18 #[.agg #[.int .i64 a.d, .int .i64 a.n, .bool a.near], .int .i64 z] w fun e w' => e = .returned (.int .i64 (whereB a z)) ∧ Below w.heap.size w w' := by
  have hb := among_bd a.n 9 (by decide)
  have hA := among_c a.n 9
  have HB := hide ((Below.refl w.heap.size w).alloc (Nat.le_refl _) (.cells #[.int .i64 a.d, .int .i64 a.n, .bool a.near] 39))
  obtain ⟨d, n, near⟩ := a
  simp only at hA hb HB
  cases near with
  | true =>
    have hw : whereB ⟨d, n, true⟩ z = z + among n 9 - 3 := rfl
    rw [hw]
    generalize among n 9 = x at *
    have HA := hide hA
    clear hA hw
    simp only
    go_enter Try.func18, Try.ntmps18
    go_wp2_with (go_at_call 10; refine (HA.out _ (by decide) (by decide)).mono ?_; rintro e w' ⟨rfl, rfl⟩)
    go_ret
    exact ⟨rfl, HB.out⟩
  | false =>
    have hw : whereB ⟨d, n, false⟩ z = n := rfl
    rw [hw]
    clear hw hA
    simp only
    go_enter Try.func18, Try.ntmps18
    go_wp2
    go_ret
    exact ⟨rfl, HB.out⟩

theorem back_to {w : World} {B b : Nat} {sv : Value} {f : Int} {l : List Sp} (h : Led w B b sv f l) (hg : Lg.Good f l) (to : Int) {l' : List Sp} {x : Int} (hl : Lg.backL f l to = l') (hx : Lg.backE f l to = x) :
    Calls Try.prog 21 #[.pointer (some ⟨b, 0, none⟩), .int .i64 to] w (Turned B b sv f l' x w) := (back_c h hg to).mono fun _ _ hT => hT.of hl hx

end Go.Proofs.Ytmlkoehkodbomaa
