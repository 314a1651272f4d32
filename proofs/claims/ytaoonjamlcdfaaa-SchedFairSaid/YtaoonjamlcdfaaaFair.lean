/-
  The contracts of turns (the iterator over whose turn it is) and Fair.
-/
import Derived.Test.YtaoonjamlcdfaaaDone
namespace Go.Proofs.Ytaoonjamlcdfaaa
open Go.RowKit Go.Shelf

attribute [local go_sem] Oper.semAt_some

/-- Whose turn it is, m turns of n sessions. -/
def turnsOf (n m : Nat) : List Int := (List.range m).map fun i => ((i % n : Nat) : Int)
theorem turnsOf_succ (n m : Nat) : turnsOf n (m + 1) = turnsOf n m ++ [((m % n : Nat) : Int)] := by
  unfold turnsOf
  rw [List.range_succ, List.map_append]
  rfl
theorem turnsOf_length (n m : Nat) : (turnsOf n m).length = m := by simp [turnsOf]
theorem turnsOf_add (n a b : Nat) : ∃ r, turnsOf n (a + b) = turnsOf n a ++ r := by
  induction b with
  | zero => exact ⟨[], by simp⟩
  | succ b ih =>
    obtain ⟨r, hr⟩ := ih
    exact ⟨r ++ [(((a + b) % n : Nat) : Int)], by rw [show a + (b + 1) = (a + b) + 1 by omega, turnsOf_succ, hr, List.append_assoc]⟩

theorem max_nat (m : Int) : (if (0 : Int) < m then m else 0) = ((m.toNat : Nat) : Int) := by split <;> omega

set_option maxRecDepth 100000 in
set_option maxHeartbeats 4000000 in
theorem turns1_in (F : Fence) (n : Nat) (h7 : F.fn 81) (hro : F.round = none) (hn : 1 ≤ n) (y kb mb : Nat) (L : Lay) (ns cap : Nat) (so : Option Addr) (most : Int) (hmost : most ≤ 1000000) (hns : 0 < ns) (hns2 : ns ≤ 16) (J Jx : List Int → World → Prop) (Kp : World → World → Prop) (hKt : ∀ A B C, Kp A B → Kp B C → Kp A C) (W : World)
    (hK : ∀ A, (A = W ∨ Kp W A) → A.cell? ⟨kb, 0, none⟩ = some (.int .i64 most) ∧ A.cell? ⟨mb, 0, none⟩ = some (.pointer (some ⟨L.b, 0, none⟩)) ∧ A.cell? ⟨L.b, 1, none⟩ = some (.slice so ns cap))
    (hY : ∀ pre x W, J pre W → pre.length < most.toNat → YieldAt F (n - 1) Try.prog y (encInt x) W fun e W' =>
      (e = .returned (.bool true) ∧ J (pre ++ [x]) W' ∧ Kp W W') ∨ (e = .returned (.bool false) ∧ Jx (pre ++ [x]) W'))
    (h0 : J [] W) :
    CallsIn F n Try.prog 81 #[.func (.yield y) #[] #[], .pointer (some ⟨kb, 0, none⟩), .pointer (some ⟨mb, 0, none⟩)] W fun e W' => (∃ v, e = .returned v) ∧
      ((∃ ys, ys = turnsOf ns most.toNat ∧ J ys W') ∨ (∃ pre, (∃ r, turnsOf ns most.toNat = pre ++ r) ∧ Jx pre W')) := by
  obtain ⟨k1, k2, k3⟩ := hK W (.inl rfl)
  have HK := hide hK
  have HKT := hide hKt
  have HY := hide hY
  obtain ⟨N, hN⟩ : ∃ N, N = most.toNat := ⟨_, rfl⟩
  have hmx := max_nat most
  rw [← hN] at hmx HY ⊢
  have hN2 : N ≤ 1000000 := by omega
  clear hK hKt hY hN
  refine callsIn_of_wp Try.func81 rfl h7 ?_ hro
  simp only [Try.ntmps81, List.size_toArray, List.length_cons, List.length_nil, Nat.reduceAdd, Nat.reduceSub, Array.replicate_succ, Array.replicate_zero, List.push_toArray, List.append_toArray, List.nil_append, List.cons_append]
  gi_wp2
  gi_loopw [7] (fun i wr => ∃ k : Nat, k ≤ N ∧ i = .int .i64 k ∧ J (turnsOf ns k) wr ∧ (wr = W ∨ Kp W wr)) (fun i _ => N - (intOf i).toNat)
  case atStart => exact ⟨0, Nat.zero_le _, rfl, h0, .inl rfl⟩
  case round =>
    obtain ⟨k, hk, rfl, hJs, hnx⟩ := hrel
    clear k1 k2 k3
    by_cases hlt : k < N
    · obtain ⟨c1, c2, c3⟩ := HK.out wr hnx
      have hrem : Int.tmod (k : Int) (ns : Int) = ((k % ns : Nat) : Int) := rfl
      have hz : ((ns : Int) = 0) = False := by simp; omega
      have hmod : k % ns < ns := Nat.mod_lt _ hns
      have hwr : IntKind.i64.wrap ((k % ns : Nat) : Int) = ((k % ns : Nat) : Int) := by rw [IntKind.wrap_i64]; omega
      obtain ⟨fn, tmps, assign, body, hy, hR⟩ := HY.out _ ((k % ns : Nat) : Int) _ hJs (by rw [turnsOf_length]; exact hlt)
      dsimp only [encInt] at hy
      have HR := hide hR
      have HTS := hide (turnsOf_succ ns k)
      clear hR hmod
      generalize ((k % ns : Nat) : Int) = p at *
      gi_wp2
      refine HR.out.mono ?_
      rintro e W3 (⟨rfl, hJ3, hk3⟩ | ⟨rfl, hJx3⟩)
      · gi_wp2
        go_roundw
        case rel =>
          refine ⟨k + 1, by omega, by go_num, ?_, .inr ?_⟩
          · rw [HTS.out]
            exact hJ3
          · rcases hnx with rfl | hnx
            · exact hk3
            · exact HKT.out _ _ _ hnx hk3
        case measure => simp [intOf]; omega
      · have HTA := hide (turnsOf_add ns (k + 1) (N - (k + 1)))
        gi_wp2
        refine bodyPost_ret (results_none rfl _ _ _) rfl ?_
        refine ⟨⟨_, rfl⟩, .inr ⟨_, ?_, hJx3⟩⟩
        obtain ⟨r, hr⟩ := HTA.out
        rw [show k + 1 + (N - (k + 1)) = N by omega, HTS.out] at hr
        exact ⟨r, hr⟩
    · obtain rfl : k = N := by omega
      gi_wp2
      go_end0
      exact ⟨⟨_, rfl⟩, .inl ⟨_, rfl, hJs⟩⟩

/-- The iterator's contract. -/
theorem turns_stops (F : Fence) (n : Nat) (h7 : F.fn 81) (hro : F.round = none) (hn : 1 ≤ n) (kb mb : Nat) (L : Lay) (ns cap : Nat) (so : Option Addr) (most : Int) (hmost : most ≤ 1000000) (hns : 0 < ns) (hns2 : ns ≤ 16) (Kp : World → World → Prop) (hKt : ∀ A B C, Kp A B → Kp B C → Kp A C) (w : World)
    (hkb : kb < w.heap.size) (hmb : mb < w.heap.size) (hLb : L.b < w.heap.size) (hK : ∀ A B, Kp A B → Below w.heap.size w A → B.cell? ⟨kb, 0, none⟩ = A.cell? ⟨kb, 0, none⟩ ∧ B.cell? ⟨mb, 0, none⟩ = A.cell? ⟨mb, 0, none⟩ ∧ B.cell? ⟨L.b, 1, none⟩ = A.cell? ⟨L.b, 1, none⟩)
    (h1 : w.cell? ⟨kb, 0, none⟩ = some (.int .i64 most)) (h2 : w.cell? ⟨mb, 0, none⟩ = some (.pointer (some ⟨L.b, 0, none⟩))) (h3 : w.cell? ⟨L.b, 1, none⟩ = some (.slice so ns cap)) :
    SeqStopsK F n Try.prog 81 #[.pointer (some ⟨kb, 0, none⟩), .pointer (some ⟨mb, 0, none⟩)] encInt Kp (fun ys => ys = turnsOf ns most.toNat) (fun pre => ∃ r, turnsOf ns most.toNat = pre ++ r) most.toNat w := fun y J Jx W hW hJ _ hY h0 => by
  have e1 := (hW.cell (p := ⟨kb, 0, none⟩) hkb).trans h1
  have e2 := (hW.cell (p := ⟨mb, 0, none⟩) hmb).trans h2
  have e3 := (hW.cell (p := ⟨L.b, 1, none⟩) hLb).trans h3
  exact turns1_in F n h7 hro hn y kb mb L ns cap so most hmost hns hns2 J Jx Kp hKt W (fun A hA => by
    rcases hA with rfl | hA
    · exact ⟨e1, e2, e3⟩
    · obtain ⟨q1, q2, q3⟩ := hK _ _ hA hW
      exact ⟨q1.trans e1, q2.trans e2, q3.trans e3⟩) hY h0

theorem turns_in (F : Fence) (n : Nat) (h5 : F.fn 73) (hro : F.round = none) (p : Option Addr) (m : Int) (w : World) :
    CallsIn F n Try.prog 73 #[.pointer p, .int .i64 m] w fun e w' => e = .returned (.func (.func 81) #[] #[.pointer (some ⟨w.heap.size + 1, 0, none⟩), .pointer (some ⟨w.heap.size, 0, none⟩)]) ∧ w' = (w.alloc (.cells #[.pointer p] 54)).alloc (.cells #[.int .i64 m] 3) := by
  refine callsIn_of_wp Try.func73 rfl h5 ?_ hro
  simp only [Try.ntmps73, List.size_toArray, List.length_cons, List.length_nil, Nat.reduceAdd, Nat.reduceSub, Array.replicate_succ, Array.replicate_zero, List.push_toArray, List.append_toArray, List.nil_append, List.cons_append]
  gi_wp2
  go_ret
  exact ⟨rfl, rfl⟩

section
variable {w : World} {L : Lay} {st : St}
theorem keepsFrom_only {S : Nat → Prop} {N0 : Nat} {X Y : World} (ho : Only S X Y) (hS : ∀ k, S k → k < N0) : KeepsFrom N0 X Y :=
  ⟨ho.size, fun k o hk h _ => (ho.block k (Array.getElem?_eq_some_iff.1 h).1 (fun hs => by have := hS k hs; omega)).trans h⟩
theorem Boxed.only {S : Nat → Prop} {X Y : World} {b : Nat} {t : TypeId} {v : Value} (h : Boxed X b t v) (ho : Only S X Y) (hS : ¬ S b) : Boxed Y b t v := (ho.block b h.lt hS).trans h
theorem only_cell {S : Nat → Prop} {X Y : World} (ho : Only S X Y) (b i : Nat) (hb : b < X.heap.size) (hS : ¬ S b) : Y.cell? ⟨b, i, none⟩ = X.cell? ⟨b, i, none⟩ := World.cell?_of_block (ho.block b hb hS)
/-- What a turn's body keeps. -/
def FairI (L : Lay) (st : St) (nb N0 : Nat) (W0 : World) (pre : List Int) (W : World) : Prop :=
  Mach W L (Sd.runL st pre) ∧ Boxed W nb 3 (.int .i64 (Sd.cntL st pre : Int)) ∧ Only (fun k => L.may k ∨ k = nb ∨ N0 ≤ k) W0 W

theorem quiet_any {P : Program} {f : FuncId} {args : Array Value} {w : World} {n : Nat} {v : Value} (h : Calls P f args (w.drewN n) fun e w' => e = .returned v ∧ ∃ m, w' = (w.drewN n).drewN m) :
    Calls P f args (w.drewN n) fun e w'' => e = .returned v ∧ ∃ k, w'' = w.drewN k := h.mono fun _ _ ⟨he, _, hm⟩ => ⟨he, _, hm.trans (World.drewN_drewN ..)⟩
theorem fair_end {W0 W : World} {nb D : Nat} {st' : St} (hb0 : Below w.heap.size w W0) (hnb : w.heap.size ≤ nb) (ho : Only (fun k => L.may k ∨ k = nb ∨ W0.heap.size ≤ k) W0 W) (hM : Mach W L st') (hlt : ∀ k, L.all k → L.B ≤ k ∧ k < w.heap.size) (hD : W0.heap.size ≤ D) (n : Nat) (o' : Obj) :
    Mach ((W.drewN n).putObj D o') L st' ∧ Only L.may w ((W.drewN n).putObj D o') := by
  have h1 : Only (fun k => k = D) (W.drewN n) ((W.drewN n).putObj D o') := (Only.refl _ _).grown (grownBy_putObj' (W.drewN n) D o') (fun k _ e => by cases e; rfl)
  have hs := hb0.size
  refine ⟨(hM.drewN n).only h1 (fun k hk e => by have := (hlt k hk).2; omega), ?_⟩
  have h2 : Only (fun k => L.may k ∨ w.heap.size ≤ k) w ((W.drewN n).putObj D o') :=
    (((Only.of_below (S := fun k => L.may k ∨ w.heap.size ≤ k) hb0 (fun _ h => .inr h)).trans ho (fun k hk h => by
      rcases h with h | h | h
      · exact .inl h
      · exact .inr (by omega)
      · exact .inr (by omega))).drewN n).trans h1 (fun k hk e => .inr (by omega))
  exact h2.mono (fun k hk h => by
    rcases h with h | h
    · exact h
    · omega)

set_option maxRecDepth 100000 in
set_option maxHeartbeats 8000000 in
theorem fair_c (h : Mach w L st) (hne : 0 < st.ses.length) (most : Int) (hmost : most ≤ 1000000) :
    Calls Try.prog 50 #[.pointer (some ⟨L.b, 0, none⟩), .int .i64 most] w (Steps L (Sd.runL st (turnsOf st.ses.length most.toNat)) (.tuple #[.int .i64 (Sd.cntL st (turnsOf st.ses.length most.toNat) : Int), .bool (Sd.doneB (Sd.runL st (turnsOf st.ses.length most.toNat)))]) w) := by
  obtain ⟨so, scap, hsv, _⟩ := ownsRow_shape h.ses.row
  have hfew := h.good.few
  have c1 := h.heads.2
  rw [hsv] at c1
  have HM := hide h
  have HSV := hide hsv
  have hlt0 := fun k (hk : L.all k) => h.all_lt hk
  clear h hsv
  generalize hns : st.ses.length = ns at *
  have l1 : ((ns : Int) == 0) = false := by rw [beq_eq_false_iff_ne]; omega
  refine callsIn_wide (n := 5) |>.1 ?_
  refine callsIn_of_wp_marks Try.func50 rfl trivial (wpIn_wide.2 ?_) rfl
  simp only [Try.ntmps50, List.size_toArray, List.length_cons, List.length_nil, Nat.reduceAdd, Nat.reduceSub, Array.replicate_succ, Array.replicate_zero, List.push_toArray, List.append_toArray, List.nil_append, List.cons_append]
  have HT := hide (fun (p : Option Addr) (m : Int) (w : World) => callsIn_wide.1 (turns_in Fence.wide 1 trivial rfl p m w))
  have c2 := (World.cell?_alloc_lt w (.cells #[.pointer (some ⟨L.b, 0, none⟩)] 54) ⟨L.b, 1, none⟩ (World.block_lt_of_cell? w ⟨L.b, 1, none⟩ c1)).trans c1
  go_wp2_with (first | go_step3 | (go_at_call 73; refine (HT.out _ _ _).mono ?_; rintro e w' ⟨rfl, rfl⟩))
  have hM0 := (((HM.out.later ((Below.refl _ _).alloc (Nat.le_refl _) (.cells #[.pointer (some ⟨L.b, 0, none⟩)] 54))).later ((Below.refl _ _).alloc (Nat.le_refl _) (.cells #[.int .i64 0] 3))).later ((Below.refl _ _).alloc (Nat.le_refl _) (.cells #[.pointer (some ⟨L.b, 0, none⟩)] 54))).later ((Below.refl _ _).alloc (Nat.le_refl _) (.cells #[.int .i64 most] 3))
  have hb0 : Below w.heap.size w ((((w.alloc (.cells #[.pointer (some ⟨L.b, 0, none⟩)] 54)).alloc (.cells #[.int .i64 0] 3)).alloc (.cells #[.pointer (some ⟨L.b, 0, none⟩)] 54)).alloc (.cells #[.int .i64 most] 3)) := ((((Below.refl _ _).alloc (Nat.le_refl _) _).alloc (by simp) _).alloc (by simp; omega) _).alloc (by simp; omega) _
  have bm : Boxed ((((w.alloc (.cells #[.pointer (some ⟨L.b, 0, none⟩)] 54)).alloc (.cells #[.int .i64 0] 3)).alloc (.cells #[.pointer (some ⟨L.b, 0, none⟩)] 54)).alloc (.cells #[.int .i64 most] 3)) w.heap.size 54 (.pointer (some ⟨L.b, 0, none⟩)) := (((Boxed.new w _ _).alloc _).alloc _).alloc _
  have bn : Boxed ((((w.alloc (.cells #[.pointer (some ⟨L.b, 0, none⟩)] 54)).alloc (.cells #[.int .i64 0] 3)).alloc (.cells #[.pointer (some ⟨L.b, 0, none⟩)] 54)).alloc (.cells #[.int .i64 most] 3)) (w.heap.size + 1) 3 (.int .i64 0) := by
    have := ((Boxed.new (w.alloc (.cells #[.pointer (some ⟨L.b, 0, none⟩)] 54)) 3 (.int .i64 0)).alloc (.cells #[.pointer (some ⟨L.b, 0, none⟩)] 54)).alloc (.cells #[.int .i64 most] 3)
    rwa [World.size_alloc] at this
  have b2 : Boxed ((((w.alloc (.cells #[.pointer (some ⟨L.b, 0, none⟩)] 54)).alloc (.cells #[.int .i64 0] 3)).alloc (.cells #[.pointer (some ⟨L.b, 0, none⟩)] 54)).alloc (.cells #[.int .i64 most] 3)) (w.heap.size + 1 + 1) 54 (.pointer (some ⟨L.b, 0, none⟩)) := by
    have := (Boxed.new ((w.alloc (.cells #[.pointer (some ⟨L.b, 0, none⟩)] 54)).alloc (.cells #[.int .i64 0] 3)) 54 (.pointer (some ⟨L.b, 0, none⟩))).alloc (.cells #[.int .i64 most] 3)
    rwa [World.size_alloc, World.size_alloc] at this
  have b3 : Boxed ((((w.alloc (.cells #[.pointer (some ⟨L.b, 0, none⟩)] 54)).alloc (.cells #[.int .i64 0] 3)).alloc (.cells #[.pointer (some ⟨L.b, 0, none⟩)] 54)).alloc (.cells #[.int .i64 most] 3)) (w.heap.size + 1 + 1 + 1) 3 (.int .i64 most) := by
    have := Boxed.new (((w.alloc (.cells #[.pointer (some ⟨L.b, 0, none⟩)] 54)).alloc (.cells #[.int .i64 0] 3)).alloc (.cells #[.pointer (some ⟨L.b, 0, none⟩)] 54)) 3 (.int .i64 most)
    rwa [World.size_alloc, World.size_alloc, World.size_alloc] at this
  obtain ⟨W0, hW0⟩ : ∃ W0, ((((w.alloc (.cells #[.pointer (some ⟨L.b, 0, none⟩)] 54)).alloc (.cells #[.int .i64 0] 3)).alloc (.cells #[.pointer (some ⟨L.b, 0, none⟩)] 54)).alloc (.cells #[.int .i64 most] 3)) = W0 := ⟨_, rfl⟩
  have hsz : W0.heap.size = w.heap.size + 1 + 1 + 1 + 1 := by rw [← hW0]; simp
  rw [hW0] at hM0 hb0 bm bn b2 b3 ⊢
  clear hW0 HT c1 c2
  have hmayw : ∀ k, L.may k → k < w.heap.size := fun k hk => (hlt0 k (Lay.may_all hk)).2
  have hc3 : W0.cell? ⟨L.b, 1, none⟩ = some (.slice so ns scap) := by rw [hM0.heads.2, HSV.out]
  have hLbm : ¬ L.may L.b := fun hk => by
    rcases hk with e | hk
    · have := hM0.mem.row
      exact own_blk_ne hM0.mem.row hM0.blk (by decide) (by rw [e]; rfl)
    · exact (hM0.ses.far hM0.blk (by decide) (by decide) (by decide)).2.1 _ hk rfl
  have hLbw : L.b < w.heap.size := (hlt0 _ (.inl rfl)).2
  refine wpIn_wide (n := 5) |>.1 ?_
  refine wpIn_rangeFunc_ownH (F := Fence.wide) rfl (by decide) (gf := 81) (lb := #[.pointer (some ⟨w.heap.size + 1 + 1 + 1, 0, none⟩), .pointer (some ⟨w.heap.size + 1 + 1, 0, none⟩)]) rfl trivial (enters_of Try.func81 (by kernel_rfl) rfl)
    (turns_stops Fence.wide (5 - 1) trivial rfl (by decide) (w.heap.size + 1 + 1 + 1) (w.heap.size + 1 + 1) L ns scap so most hmost hne hfew (Only fun k => L.may k ∨ k = w.heap.size + 1 ∨ W0.heap.size ≤ k) (fun A B C h k => h.trans k (fun _ _ h => h)) W0 (by omega) (by omega) (by omega)
      (fun A B hK hA => by
        have hs := hA.size
        refine ⟨only_cell hK _ _ (by omega) (fun h => ?_), only_cell hK _ _ (by omega) (fun h => ?_), only_cell hK _ _ (by omega) (fun h => ?_)⟩
        · rcases h with h | h | h
          · have := hmayw _ h; omega
          · omega
          · omega
        · rcases h with h | h | h
          · have := hmayw _ h; omega
          · omega
          · omega
        · rcases h with h | h | h
          · exact hLbm h
          · omega
          · omega)
      b3.cell b2.cell hc3)
    (fun h k => h.trans k (fun _ _ h => h)) (fun W l o o' hl h _ _ => (Only.refl _ W).grown (grownBy_putObj' W l o') (fun k _ e => by cases e; exact .inr (.inr hl))) (Below.refl _ _) (fun _ => rfl)
    (FairI L st (w.heap.size + 1) W0.heap.size W0)
    (fun c pre W => c = .exit 0 ∧ FairI L st (w.heap.size + 1) W0.heap.size W0 pre W ∧ Sd.doneB (Sd.runL st pre) = true)
    ?hI ?hIx ?h0
    (fun x a' W => a' = { tmps := #[.pointer (some ⟨L.b, 0, none⟩), .int .i64 most, .pointer (some ⟨w.heap.size, 0, none⟩), undef, .int .i64 0, .bool false, .pointer (some ⟨w.heap.size + 1, 0, none⟩), .int .i64 x, .pointer (some ⟨L.b, 0, none⟩), .bool false, .bool false, .pointer (some ⟨L.b, 0, none⟩), .pointer (some ⟨L.b, 0, none⟩), .pointer (some ⟨L.b, 1, none⟩), .slice so ns scap, .int .i64 ns, .bool false, .bool false, .pointer (some ⟨L.b, 0, none⟩), .int .i64 most, .func (.func 81) #[] #[.pointer (some ⟨w.heap.size + 1 + 1 + 1, 0, none⟩), .pointer (some ⟨w.heap.size + 1 + 1, 0, none⟩)], .int .i64 x, undef, undef, undef, undef, undef, undef, undef, undef, undef, undef, undef, undef, undef], defers := [] })
    (fun x a' _ X Y row hs hg hr => hs)
    ?assign ?body ?done ?stop
  case hI =>
    rintro pre X Y row ⟨hM, hbn, ho⟩ hg hr
    exact ⟨hM.only ((Only.refl (fun k => row = some k) X).grown hg (fun k _ e => e)) (fun k hk e => by have := (hr k e).1; have := (hlt0 k hk).2; omega), hbn.kept hg (fun e => by have := (hr _ e.symm).1; omega), ho.grown hg (fun k _ e => .inr (.inr (hr k e).1))⟩
  case hIx =>
    rintro c pre X Y row ⟨hc, ⟨hM, hbn, ho⟩, hd⟩ hg hr
    exact ⟨hc, ⟨hM.only ((Only.refl (fun k => row = some k) X).grown hg (fun k _ e => e)) (fun k hk e => by have := (hr k e).1; have := (hlt0 k hk).2; omega), hbn.kept hg (fun e => by have := (hr _ e.symm).1; omega), ho.grown hg (fun k _ e => .inr (.inr (hr k e).1))⟩, hd⟩
  case h0 => exact ⟨hM0, bn, Only.refl _ _⟩
  case assign =>
    rintro y pre x W K hI hK
    dsimp only [encInt]
    gi_wp2
    exact hK _ _ (KeepsFrom.refl _ _) (Only.refl _ _) hI rfl
  case body =>
    rintro y pre x a' W hl ⟨r, hr⟩ ⟨hM, hbn, ho⟩ rfl hlt
    have cm := (only_cell ho w.heap.size 0 (by omega) (fun h => by
      rcases h with h | h | h
      · have := hmayw _ h; omega
      · omega
      · omega)).trans bm.cell
    have cn := hbn.cell
    have fn := hbn.frozen
    have hle := Sd.cntL_le st pre
    have HD := hide (done_c hM)
    have HS := hide (fun n => step_c (hM.drewN n) x)
    have HMM := hide hM
    have HBN := hide hbn
    have HOO := hide ho
    have hbl : (Sd.stepB (Sd.runL st pre) x).toNat ≤ 1 := Bool.toNat_le _
    have hrs := Sd.runL_snoc st pre x
    have hcs := Sd.cntL_snoc st pre x
    have HDS := hide (fun (h : Sd.doneB (Sd.runL st pre) = true) => Sd.done_step h x)
    clear hM hbn ho hr
    cases hdn : Sd.doneB (Sd.runL st pre) with
    | true =>
      obtain ⟨e1, e2⟩ := HDS.out hdn
      rw [e1] at hrs
      rw [e2] at hcs
      have HFI := hide (fun n => show FairI L st (w.heap.size + 1) W0.heap.size W0 (pre ++ [x]) (W.drewN n) from by
        unfold FairI
        rw [hrs, hcs]
        exact ⟨HMM.out.drewN n, HBN.out, HOO.out.drewN n⟩)
      have HDN := hide (show Sd.doneB (Sd.runL st (pre ++ [x])) = true by rw [hrs]; exact hdn)
      rw [hdn] at HD
      clear HS HMM HBN HOO hrs hcs HDS e1 e2 hdn cn fn
      gi_wp2_with fail
      refine And.intro trivial ?_
      refine (CallsIn.inRound y (callsIn_wide.2 HD.out)).mono ?_
      rintro e w' ⟨rfl, n, rfl⟩
      gi_wp2_with fail
      exact ⟨keepsFrom_only ((Only.refl (fun _ => False) W).drewN _) (fun k h => h.elim), rfl, HFI.out _, HDN.out⟩
    | false =>
      rw [hdn] at HD
      clear HDS hdn
      have hpre : Sd.cntL st pre ≤ 1000000 := by omega
      have hKM : ∀ {X Y : World}, Only L.may X Y → Only (fun k => L.may k ∨ k = w.heap.size + 1 ∨ W0.heap.size ≤ k) X Y := fun h => h.mono (fun k _ h => .inl h)
      have hnb : ¬ L.may (w.heap.size + 1) := fun hk => by have := hmayw _ hk; omega
      cases hsb : Sd.stepB (Sd.runL st pre) x with
      | false =>
        rw [hsb] at HS hcs
        have HFI := hide (fun (W3 : World) (n : Nat) (hs : Mach W3 L (Sd.stepS (Sd.runL st pre) x)) (ho3 : Only L.may (W.drewN n) W3) => show KeepsFrom W0.heap.size W W3 ∧ Only (fun k => L.may k ∨ k = w.heap.size + 1 ∨ W0.heap.size ≤ k) W W3 ∧ FairI L st (w.heap.size + 1) W0.heap.size W0 (pre ++ [x]) W3 from by
          have ho4 : Only L.may W W3 := ((Only.refl _ W).drewN n).trans ho3 (fun _ _ h => h)
          refine ⟨keepsFrom_only ho4 (fun k hk => by have := hmayw _ hk; omega), hKM ho4, ?_⟩
          unfold FairI
          rw [hrs, hcs]
          exact ⟨hs, Boxed.only HBN.out ho4 hnb, HOO.out.trans (hKM ho4) (fun _ _ h => h)⟩)
        clear HMM HBN HOO hrs hcs hsb cn fn
        gi_wp2_with fail
        refine And.intro trivial ?_
        refine (CallsIn.inRound y (callsIn_wide.2 HD.out)).mono ?_
        rintro e w' ⟨rfl, n, rfl⟩
        gi_wp2_with fail
        refine And.intro trivial ?_
        refine (CallsIn.inRound y (callsIn_wide.2 (HS.out _))).mono ?_
        rintro e w3 ⟨rfl, hm3, ho3⟩
        have H3 := hide (HFI.out _ _ hm3 ho3)
        clear hm3 ho3
        gi_wp2
        exact H3.out
      | true =>
        rw [hsb] at HS hcs
        have HC := hide (fun (W3 : World) (n : Nat) (ho3 : Only L.may (W.drewN n) W3) => show W3.cell? ⟨w.heap.size + 1, 0, none⟩ = some (.int .i64 (Sd.cntL st pre : Int)) ∧ W3.frozen? ⟨w.heap.size + 1, 0, none⟩ = false from by
          have ho4 : Only L.may W W3 := ((Only.refl _ W).drewN n).trans ho3 (fun _ _ h => h)
          have := Boxed.only HBN.out ho4 hnb
          exact ⟨Boxed.cell this, Boxed.frozen this⟩)
        have HFI := hide (fun (W3 : World) (n : Nat) (hs : Mach W3 L (Sd.stepS (Sd.runL st pre) x)) (ho3 : Only L.may (W.drewN n) W3) => show KeepsFrom W0.heap.size W (W3.setCell ⟨w.heap.size + 1, 0, none⟩ (.int .i64 ((Sd.cntL st pre : Int) + 1))) ∧ Only (fun k => L.may k ∨ k = w.heap.size + 1 ∨ W0.heap.size ≤ k) W (W3.setCell ⟨w.heap.size + 1, 0, none⟩ (.int .i64 ((Sd.cntL st pre : Int) + 1))) ∧ FairI L st (w.heap.size + 1) W0.heap.size W0 (pre ++ [x]) (W3.setCell ⟨w.heap.size + 1, 0, none⟩ (.int .i64 ((Sd.cntL st pre : Int) + 1))) from by
          have ho4 : Only L.may W W3 := ((Only.refl _ W).drewN n).trans ho3 (fun _ _ h => h)
          have ho5 : Only (fun k => L.may k ∨ k = w.heap.size + 1) W (W3.setCell ⟨w.heap.size + 1, 0, none⟩ (.int .i64 ((Sd.cntL st pre : Int) + 1))) := (ho4.mono (fun k _ h => .inl h)).setCell (p := ⟨w.heap.size + 1, 0, none⟩) (.inl (.inr rfl)) _
          have ho6 : Only (fun k => k = w.heap.size + 1) W3 (W3.setCell ⟨w.heap.size + 1, 0, none⟩ (.int .i64 ((Sd.cntL st pre : Int) + 1))) := (Only.refl (fun k => k = w.heap.size + 1) W3).setCell (p := ⟨w.heap.size + 1, 0, none⟩) (.inl rfl) _
          have ho7 := ho5.mono (T := fun k => L.may k ∨ k = w.heap.size + 1 ∨ W0.heap.size ≤ k) (fun k _ h => by rcases h with h | h; exact .inl h; exact .inr (.inl h))
          refine ⟨keepsFrom_only ho5 (fun k hk => by
            rcases hk with hk | hk
            · have := hmayw _ hk; omega
            · omega), ho7, ?_⟩
          unfold FairI
          rw [hrs, hcs]
          refine ⟨hs.only ho6 (fun k hk e => by have := (hlt0 k hk).2; omega), ?_, HOO.out.trans ho7 (fun _ _ h => h)⟩
          have := Boxed.set (.int .i64 ((Sd.cntL st pre : Int) + 1)) (Boxed.only HBN.out ho4 hnb)
          rwa [show ((Sd.cntL st pre + true.toNat : Nat) : Int) = (Sd.cntL st pre : Int) + 1 from rfl])
        clear HMM HBN HOO hrs hcs hsb cn fn
        gi_wp2_with fail
        refine And.intro trivial ?_
        refine (CallsIn.inRound y (callsIn_wide.2 HD.out)).mono ?_
        rintro e w' ⟨rfl, n, rfl⟩
        gi_wp2_with fail
        refine And.intro trivial ?_
        refine (CallsIn.inRound y (callsIn_wide.2 (HS.out _))).mono ?_
        rintro e w3 ⟨rfl, hm3, ho3⟩
        obtain ⟨cn, fn⟩ := HC.out _ _ ho3
        have H3 := hide (HFI.out _ _ hm3 ho3)
        clear hm3 ho3
        gi_wp2
        exact H3.out
  case done =>
    rintro D ys W hD rfl ⟨hM, hbn, ho⟩ hK
    have cm := (only_cell ho w.heap.size 0 (by omega) (fun h => by
      rcases h with h | h | h
      · have := hmayw _ h; omega
      · omega
      · omega)).trans bm.cell
    have cn := hbn.cell
    have HD := hide (fun n => done_c (hM.drewN n))
    have HFN := hide (fun n o' => fair_end hb0 (by omega) ho hM hlt0 hD n o')
    clear hM hbn ho
    generalize Sd.doneB (Sd.runL st (turnsOf ns most.toNat)) = dn at *
    generalize Sd.cntL st (turnsOf ns most.toNat) = cn' at *
    go_wp2_with fail
    go_quiet ((go_at_call 74; exact quiet_any (HD.out _)))
    go_wp2
    refine ⟨by simp, .inl ⟨_, _, rfl, run_takeDeferred hK, ?_⟩⟩
    exact ⟨_, results_tmp2 rfl _ _ _, rfl, HFN.out _ _⟩
  case stop =>
    rintro D c pre W hD ⟨rst, hrst⟩ ⟨rfl, ⟨hM, hbn, ho⟩, hdn⟩ hK
    have cm := (only_cell ho w.heap.size 0 (by omega) (fun h => by
      rcases h with h | h | h
      · have := hmayw _ h; omega
      · omega
      · omega)).trans bm.cell
    have cn := hbn.cell
    have hd2 := hdn
    obtain ⟨r1, r2⟩ := Sd.done_run hdn rst
    have e1 : Sd.runL st (turnsOf ns most.toNat) = Sd.runL st pre := by rw [hrst, Sd.runL_append, r1]
    have e2 : Sd.cntL st (turnsOf ns most.toNat) = Sd.cntL st pre := by rw [hrst, Sd.cntL_append, r2]; rfl
    have HD := hide (fun n => done_c (hM.drewN n))
    have HFN := hide (fun n o' => fair_end hb0 (by omega) ho hM hlt0 hD n o')
    rw [hdn] at HD
    have HE := hide (And.intro e1 (And.intro e2 hdn))
    clear hM hbn ho hrst hdn hd2 r1 r2 e1 e2
    refine wpIn_wide (n := 5) |>.2 ?_
    go_wp2_with fail
    go_quiet ((go_at_call 74; exact quiet_any (HD.out _)))
    go_wp2
    refine ⟨by simp, .inl ⟨_, _, rfl, run_takeDeferred hK, ?_⟩⟩
    rw [HE.out.1, HE.out.2.1, HE.out.2.2]
    exact ⟨_, results_tmp2 rfl _ _ _, rfl, HFN.out _ _⟩
end
end Go.Proofs.Ytaoonjamlcdfaaa
