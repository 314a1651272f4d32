/-
  The fixed whole that each law of this seat begins with: it works.
-/
import Derived.Test.YtmlkoehkodbomaaAdd
import Derived.Test.YtmlkoehkodbomaaIs
namespace Go.Proofs.Ytmlkoehkodbomaa
open Go.RowKit

theorem accept_to {w : World} {B b : Nat} {sv : Value} {f : Int} {l : List Sp} (h : Led w B b sv f l) (hg : Lg.Good f l) (hB : B ≤ w.heap.size) (to : Int) {l' : List Sp} {x : Int} (hl : Lg.addL f l to true = l') (hx : Lg.addE f l to true = x) :
    Calls Try.prog 13 #[.pointer (some ⟨b, 0, none⟩), .int .i64 to] w (Turned B b sv f l' x w) := (accept_c h hg hB to).mono fun _ _ hT => hT.of hl hx
theorem skip_to {w : World} {B b : Nat} {sv : Value} {f : Int} {l : List Sp} (h : Led w B b sv f l) (hg : Lg.Good f l) (hB : B ≤ w.heap.size) (to : Int) {l' : List Sp} {x : Int} (hl : Lg.addL f l to false = l') (hx : Lg.addE f l to false = x) :
    Calls Try.prog 12 #[.pointer (some ⟨b, 0, none⟩), .int .i64 to] w (Turned B b sv f l' x w) := (skip_c h hg hB to).mono fun _ _ hT => hT.of hl hx

/-- A ledger behind a call that left all below B. -/
theorem Turned.below {B b : Nat} {sv : Value} {f : Int} {l : List Sp} {w0 w w' : World} (hb : Below B w0 w) (hB : B ≤ w.heap.size) (hL : Led w B b sv f l) (hO : Only (foot b sv) w w') : Below B w0 w' :=
  hO.then hb hB hL.foot_ge

theorem Led.later {w w' : World} {B b : Nat} {sv : Value} {f : Int} {l : List Sp} (h : Led w B b sv f l) (hb : Below w.heap.size w w') : Led w' B b sv f l :=
  ⟨h.hb, h.blk.below hb h.blk.lt, ownsRow_only h.row (Only.of_below (S := fun k => w.heap.size ≤ k) hb fun _ h => h) (fun k hk => by have := (h.row.lt k hk).2; omega)⟩

def l1 : List Sp := [⟨5, 8, true⟩]
def l2 : List Sp := [⟨5, 8, true⟩, ⟨8, 9, false⟩]
def l3 : List Sp := [⟨5, 8, true⟩, ⟨8, 9, false⟩, ⟨9, 10, true⟩]
def l4 : List Sp := [⟨5, 8, true⟩, ⟨8, 9, false⟩, ⟨9, 12, true⟩]
theorem g0 : Lg.Good 5 [] := Lg.good_nil (by decide) (by decide)
theorem g1 : Lg.Good 5 l1 := Lg.good_add g0 8 true
theorem g2 : Lg.Good 5 l2 := Lg.good_add g1 9 false
theorem g3 : Lg.Good 5 l3 := Lg.good_add g2 10 true
theorem g4 : Lg.Good 5 l4 := Lg.good_add g3 12 true

set_option maxHeartbeats 1000000 in
theorem works_c (w : World) : Calls Try.prog 9 #[] w fun e w' => e = .returned (.bool true) ∧ Below w.heap.size w w' := by
  obtain ⟨B, hBdef⟩ : ∃ B, B = w.heap.size := ⟨_, rfl⟩
  have HW := hide hBdef
  clear hBdef
  go_enter Try.func9, Try.ntmps9
  go_wp2_with fail
  refine (make_ok 5 w (by decide) (by decide)).mono ?_
  rintro e wa ⟨rfl, hLa, hBa⟩
  rw [← HW.out] at hLa hBa ⊢
  have sza : B ≤ wa.heap.size := by have := hBa.size; have := HW.out; omega
  have HLa := hide hLa
  have HBa := hide hBa
  clear hLa hBa
  go_wp2_with fail
  refine (accept_to HLa.out g0 sza 8 (l' := l1) rfl rfl).mono ?_
  rintro e wb ⟨rfl, svb, hLb, hOb, _⟩
  have HLb := hide hLb
  have HBb := hide (Turned.below HBa.out sza HLa.out hOb)
  have szb := Nat.le_trans sza hOb.size
  clear hLb hOb
  go_wp2_with fail
  refine (skip_to HLb.out g1 szb 9 (l' := l2) rfl rfl).mono ?_
  rintro e wc ⟨rfl, svc, hLc, hOc, _⟩
  have HLc := hide hLc
  have HBc := hide (Turned.below HBb.out szb HLb.out hOc)
  have szc := Nat.le_trans szb hOc.size
  clear hLc hOc
  go_wp2_with fail
  refine (accept_to HLc.out g2 szc 10 (l' := l3) rfl rfl).mono ?_
  rintro e wd ⟨rfl, svd, hLd, hOd, _⟩
  have HLd := hide hLd
  have HBd := hide (Turned.below HBc.out szc HLc.out hOd)
  have szd := Nat.le_trans szc hOd.size
  clear hLd hOd
  go_wp2_with fail
  refine (accept_to HLd.out g3 szd 12 (l' := l4) rfl rfl).mono ?_
  rintro e we ⟨rfl, sve, hLe, hOe, _⟩
  have HLe := hide hLe
  have HBe := hide (Turned.below HBd.out szd HLd.out hOe)
  have sze := Nat.le_trans szd hOe.size
  clear hLe hOe
  go_wp2_with fail
  refine (isat_c HLe.out (by decide) 8).mono ?_
  rintro e wf ⟨rfl, hBf⟩
  rw [show Lg.isB l4 8 = false from rfl, show Lg.isE l4 8 = 0 from rfl]
  have HLf := hide (HLe.out.later hBf)
  have HBf := hide (HBe.out.trans (hBf.mono sze))
  have szf := Nat.le_trans sze hBf.size
  clear hBf
  go_wp2_with fail
  refine (accepted_c HLf.out (by decide)).mono ?_
  rintro e wg ⟨va, rfl, hRa, hBg⟩
  have HLg := hide (HLf.out.later hBg)
  have HBg := hide (HBf.out.trans (hBg.mono szf))
  have szg := Nat.le_trans szf hBg.size
  have HRa := hide hRa
  clear hRa hBg
  go_wp2_with fail
  have hR1 := HRa.out.alloc (.cells #[.int .i64 5, .int .i64 8, .int .i64 9, .int .i64 12] 48)
  rw [pairs_prs] at hR1
  have hR2 := World.ownsRow_lit (base := wg.heap.size) (e := 48) (size := 2) wg #[.int .i64 5, .int .i64 8, .int .i64 9, .int .i64 12] 2 (Nat.le_refl _) (by simp [maxLen]) rfl
  have HLh := hide (HLg.out.later ((Below.refl _ wg).alloc (Nat.le_refl _) (.cells #[.int .i64 5, .int .i64 8, .int .i64 9, .int .i64 12] 48)))
  have HBh := hide (HBg.out.alloc szg (.cells #[.int .i64 5, .int .i64 8, .int .i64 9, .int .i64 12] 48))
  have HC := hide (same_c (p := [(5, 8), (9, 12)]) (q := [(5, 8), (9, 12)]) hR1 hR2 (by decide))
  clear hR1 hR2
  refine HC.out.mono ?_
  rintro e wh ⟨rfl, nh, rfl⟩
  rw [show sameB [(5, 8), (9, 12)] [(5, 8), (9, 12)] = true from rfl]
  obtain ⟨wi, hwi⟩ : ∃ wi, ((wg.alloc (.cells #[.int .i64 5, .int .i64 8, .int .i64 9, .int .i64 12] 48)).drewN nh) = wi := ⟨_, rfl⟩
  have HLi := hide (HLh.out.drewN nh)
  have HBi := hide (show Below B w ((wg.alloc (.cells #[.int .i64 5, .int .i64 8, .int .i64 9, .int .i64 12] 48)).drewN nh) from ⟨HBh.out.os, HBh.out.tape, HBh.out.output, HBh.out.size, HBh.out.block⟩)
  have szi : B ≤ ((wg.alloc (.cells #[.int .i64 5, .int .i64 8, .int .i64 9, .int .i64 12] 48)).drewN nh).heap.size := by show B ≤ (wg.alloc _).heap.size; simp; omega
  rw [hwi] at HLi HBi szi ⊢
  clear hwi HC HLh HBh
  go_wp2_with fail
  refine (skipped_c HLi.out (by decide)).mono ?_
  rintro e wj ⟨vb, rfl, hRb, hBj⟩
  have HLj := hide (HLi.out.later hBj)
  have HBj := hide (HBi.out.trans (hBj.mono szi))
  have szj := Nat.le_trans szi hBj.size
  have HRb := hide hRb
  clear hRb hBj
  go_wp2_with fail
  have hR1 := HRb.out.alloc (.cells #[.int .i64 8, .int .i64 9] 48)
  rw [pairs_prs] at hR1
  have hR2 := World.ownsRow_lit (base := wj.heap.size) (e := 48) (size := 2) wj #[.int .i64 8, .int .i64 9] 1 (Nat.le_refl _) (by simp [maxLen]) rfl
  have HLk := hide (HLj.out.later ((Below.refl _ wj).alloc (Nat.le_refl _) (.cells #[.int .i64 8, .int .i64 9] 48)))
  have HBk := hide (HBj.out.alloc szj (.cells #[.int .i64 8, .int .i64 9] 48))
  have HC := hide (same_c (p := [(8, 9)]) (q := [(8, 9)]) hR1 hR2 (by decide))
  clear hR1 hR2
  refine HC.out.mono ?_
  rintro e wk ⟨rfl, nk, rfl⟩
  rw [show sameB [(8, 9)] [(8, 9)] = true from rfl]
  have HE := hide (end_c (HLk.out.drewN nk) g4)
  have HBl := hide (show Below B w ((wj.alloc (.cells #[.int .i64 8, .int .i64 9] 48)).drewN nk) from ⟨HBk.out.os, HBk.out.tape, HBk.out.output, HBk.out.size, HBk.out.block⟩)
  clear HC HLk HBk
  go_wp2_with fail
  refine HE.out.mono ?_
  rintro e wl ⟨rfl, nl, rfl⟩
  rw [show Lg.fin 5 l4 = 12 from rfl]
  go_wp2
  go_ret
  refine ⟨rfl, ?_⟩
  rw [← HW.out]
  exact ⟨HBl.out.os, HBl.out.tape, HBl.out.output, HBl.out.size, HBl.out.block⟩

end Go.Proofs.Ytmlkoehkodbomaa
