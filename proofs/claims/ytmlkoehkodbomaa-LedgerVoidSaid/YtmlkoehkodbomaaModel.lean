/-
  The plain laws of a ledger: what it holds as a list of spans, and what is added to, taken back from and told of it. No program stands here.
-/
namespace Go.Proofs.Ytmlkoehkodbomaa

/-- A span from a up to b; k: it was accepted. -/
structure Sp where
  a : Int
  b : Int
  k : Bool
  deriving DecidableEq

namespace Lg

/-- Where the spans end. -/
def fin (f : Int) (l : List Sp) : Int := match l.getLast? with | some t => t.b | none => f

/-- An addition's answer. -/
def addE (f : Int) (l : List Sp) (to : Int) (k : Bool) : Int :=
  if to ≤ fin f l ∨ 1099511627776 < to then 2 else
  match l.getLast? with
  | some t => if t.k = k then 0 else if l.length = 256 then 4 else 0
  | none => 0

def addL (f : Int) (l : List Sp) (to : Int) (k : Bool) : List Sp :=
  if to ≤ fin f l ∨ 1099511627776 < to then l else
  match l.getLast? with
  | some t => if t.k = k then l.dropLast ++ [⟨t.a, to, k⟩] else if l.length = 256 then l else l ++ [⟨t.b, to, k⟩]
  | none => [⟨f, to, k⟩]

def backE (f : Int) (l : List Sp) (to : Int) : Int := if to < 0 then 2 else if to < f ∨ fin f l < to then 61 else 0

/-- What stays ahead of an offset, by taking from the end. -/
def popR (to : Int) : List Sp → List Sp
  | [] => []
  | t :: r => if to ≤ t.a then popR to r else if to < t.b then ⟨t.a, to, t.k⟩ :: r else t :: r
def pop (l : List Sp) (to : Int) : List Sp := (popR to l.reverse).reverse

/-- What stays ahead of an offset, span by span. -/
def cut (l : List Sp) (to : Int) : List Sp := (l.filter fun t => decide (t.a < to)).map fun t => ⟨t.a, if t.b ≤ to then t.b else to, t.k⟩

def backL (f : Int) (l : List Sp) (to : Int) : List Sp := if to < 0 then l else if to < f ∨ fin f l < to then l else pop l to

def has (p : Int) (t : Sp) : Bool := decide (t.a ≤ p) && decide (p < t.b)
def isB (l : List Sp) (p : Int) : Bool := match l.find? (has p) with | some t => t.k | none => false
def isE (l : List Sp) (p : Int) : Int := match l.find? (has p) with | some _ => 0 | none => 5

def of (k : Bool) (l : List Sp) : List Sp := l.filter fun t => t.k == k

/-- The spans begin where the one ahead ends, and go on. -/
def Chain : Int → List Sp → Prop
  | _, [] => True
  | f, t :: r => t.a = f ∧ t.a < t.b ∧ Chain t.b r

/-- The kinds take turns. -/
def Alt : List Sp → Prop
  | [] => True
  | t :: r => (∀ u, r.head? = some u → u.k ≠ t.k) ∧ Alt r

/-- What is kept of a ledger's spans. -/
structure Good (f : Int) (l : List Sp) : Prop where
  lo : 0 ≤ f
  hi : f ≤ 1099511627776
  chain : Chain f l
  len : l.length ≤ 256
  top : fin f l ≤ 1099511627776

theorem fin_nil (f : Int) : fin f [] = f := rfl
theorem fin_snoc (f : Int) (l : List Sp) (t : Sp) : fin f (l ++ [t]) = t.b := by simp [fin]
theorem fin_cons (f : Int) (t : Sp) (r : List Sp) : fin f (t :: r) = fin t.b r := by
  unfold fin
  cases r with
  | nil => rfl
  | cons u r =>
    rw [List.getLast?_cons_cons, List.getLast?_eq_some_getLast (List.cons_ne_nil u r)]
theorem fin_append (f : Int) (l r : List Sp) : fin f (l ++ r) = fin (fin f l) r := by
  induction l generalizing f with
  | nil => rfl
  | cons t l ih => rw [List.cons_append, fin_cons, fin_cons, ih]

theorem chain_append (f : Int) (l r : List Sp) : Chain f (l ++ r) ↔ Chain f l ∧ Chain (fin f l) r := by
  induction l generalizing f with
  | nil => simp [Chain, fin_nil]
  | cons t l ih => simp only [List.cons_append, Chain, ih, fin_cons]; simp only [and_assoc]

theorem chain_le {f : Int} {l : List Sp} (h : Chain f l) : f ≤ fin f l := by
  induction l generalizing f with
  | nil => exact Int.le_refl _
  | cons t l ih => rw [fin_cons]; have := ih h.2.2; have := h.1; have := h.2.1; omega

/-- Each span of a chain lies in it. -/
theorem chain_mem {f : Int} {l : List Sp} (h : Chain f l) : ∀ t ∈ l, f ≤ t.a ∧ t.a < t.b ∧ t.b ≤ fin f l := by
  induction l generalizing f with
  | nil => simp
  | cons u l ih =>
    obtain ⟨h1, h2, h3⟩ := h
    have hle := chain_le h3
    intro t ht
    rw [fin_cons]
    rcases List.mem_cons.1 ht with rfl | ht
    · exact ⟨by omega, h2, hle⟩
    · have := ih h3 t ht
      exact ⟨by omega, this.2.1, this.2.2⟩

theorem good_nil {f : Int} (h0 : 0 ≤ f) (h1 : f ≤ 1099511627776) : Good f [] := ⟨h0, h1, trivial, by simp, h1⟩

/-- The bounds of each number of a good ledger. -/
theorem Good.mem {f : Int} {l : List Sp} (h : Good f l) : ∀ t ∈ l, 0 ≤ t.a ∧ t.a < t.b ∧ t.b ≤ 1099511627776 := by
  intro t ht
  have := chain_mem h.chain t ht
  have := h.lo
  have := h.top
  omega
theorem Good.fin_ge {f : Int} {l : List Sp} (h : Good f l) : f ≤ fin f l := chain_le h.chain

theorem snoc_cases (l : List Sp) : l = [] ∨ ∃ r t, l = r ++ [t] := by
  rcases List.eq_nil_or_concat l with h | ⟨r, t, h⟩
  · exact .inl h
  · exact .inr ⟨r, t, by rw [h, List.concat_eq_append]⟩

theorem good_add {f : Int} {l : List Sp} (h : Good f l) (to : Int) (k : Bool) : Good f (addL f l to k) := by
  unfold addL
  split
  · exact h
  · rename_i hb
    obtain ⟨h0, h1, h2, h3, h4⟩ := h
    rcases snoc_cases l with rfl | ⟨r, t, rfl⟩
    · simp only [List.getLast?_nil, fin_nil] at hb ⊢
      exact ⟨h0, h1, ⟨rfl, by show f < to; omega, trivial⟩, by simp, by rw [fin_cons]; show to ≤ _; omega⟩
    · simp only [List.getLast?_append, List.getLast?_singleton, Option.some_or, List.dropLast_concat, fin_snoc] at hb h4 ⊢
      split
      · rw [chain_append] at h2
        obtain ⟨ha, hab, _⟩ := h2.2
        refine ⟨h0, h1, ?_, by simpa using h3, by rw [fin_snoc]; show to ≤ _; omega⟩
        rw [chain_append]
        exact ⟨h2.1, ha, by show t.a < to; omega, trivial⟩
      · split
        · exact ⟨h0, h1, h2, h3, by rw [fin_snoc]; exact h4⟩
        · refine ⟨h0, h1, ?_, ?_, by rw [fin_snoc]; show to ≤ _; omega⟩
          · rw [chain_append, fin_snoc]
            exact ⟨h2, rfl, by show t.b < to; omega, trivial⟩
          · simp only [List.length_append, List.length_singleton] at *; omega

theorem cut_nil (to : Int) : cut [] to = [] := rfl
theorem cut_append (l r : List Sp) (to : Int) : cut (l ++ r) to = cut l to ++ cut r to := by simp [cut]
theorem cut_all {l : List Sp} {to : Int} (h : ∀ t ∈ l, t.a < to ∧ t.b ≤ to) : cut l to = l := by
  induction l with
  | nil => rfl
  | cons t l ih =>
    have h1 := h t (by simp)
    have h2 := ih (fun u hu => h u (by simp [hu]))
    rw [show t :: l = [t] ++ l from rfl, cut_append, h2]
    simp [cut, h1.1, h1.2]
theorem cut_none {l : List Sp} {to : Int} (h : ∀ t ∈ l, to ≤ t.a) : cut l to = [] := by
  simp only [cut, List.map_eq_nil_iff, List.filter_eq_nil_iff, decide_eq_true_eq]
  intro t ht
  have := h t ht
  omega

theorem pop_nil (to : Int) : pop [] to = [] := rfl
theorem pop_snoc (l : List Sp) (t : Sp) (to : Int) : pop (l ++ [t]) to = if to ≤ t.a then pop l to else if to < t.b then l ++ [⟨t.a, to, t.k⟩] else l ++ [t] := by
  simp only [pop, List.reverse_append, List.reverse_cons, List.reverse_nil, List.nil_append, List.cons_append, popR]
  split
  · rfl
  · split <;> simp

/-- Both ways of taking back come to one. -/
theorem pop_cut {f : Int} {l : List Sp} (h : Chain f l) (to : Int) : pop l to = cut l to := by
  induction hn : l.length generalizing l with
  | zero => obtain rfl := List.eq_nil_of_length_eq_zero hn; rfl
  | succ n ih =>
    rcases snoc_cases l with rfl | ⟨r, t, rfl⟩
    · simp at hn
    · rw [chain_append] at h
      obtain ⟨hr, ha, hab, _⟩ := h
      rw [pop_snoc, cut_append]
      have hm := chain_mem hr
      split
      · rename_i hle
        rw [cut_none (l := [t]) (by simpa using hle), List.append_nil]
        exact ih hr (by simpa using hn)
      · rename_i hle
        rw [cut_all (l := r) (fun u hu => by have := hm u hu; omega)]
        split
        · rename_i hlt
          simp [cut, show t.a < to by omega, show ¬ t.b ≤ to by omega]
        · rename_i hlt
          simp [cut, show t.a < to by omega, show t.b ≤ to by omega]

theorem chain_pop {f : Int} {l : List Sp} (h : Chain f l) {to : Int} (hf : f ≤ to) : Chain f (pop l to) ∧ fin f (pop l to) = if fin f l ≤ to then fin f l else to := by
  induction hn : l.length generalizing l with
  | zero => obtain rfl := List.eq_nil_of_length_eq_zero hn; simp [pop_nil, Chain, fin_nil, hf]
  | succ n ih =>
    rcases snoc_cases l with rfl | ⟨r, t, rfl⟩
    · simp at hn
    · have h' := h
      rw [chain_append] at h
      obtain ⟨hr, ha, hab, _⟩ := h
      rw [pop_snoc, fin_snoc]
      split
      · rename_i hle
        have := ih hr (by simpa using hn)
        refine ⟨this.1, ?_⟩
        rw [this.2]
        by_cases h1 : fin f r ≤ to
        · rw [if_pos h1, if_neg (by omega)]; omega
        · rw [if_neg h1, if_neg (by omega)]
      · split
        · rw [chain_append, fin_snoc, if_neg (by omega)]
          exact ⟨⟨hr, ha, by show t.a < to; omega, trivial⟩, rfl⟩
        · exact ⟨h', by rw [fin_snoc, if_pos (by omega)]⟩

theorem length_pop (l : List Sp) (to : Int) : (pop l to).length ≤ l.length := by
  induction hn : l.length generalizing l with
  | zero => obtain rfl := List.eq_nil_of_length_eq_zero hn; simp [pop_nil]
  | succ n ih =>
    rcases snoc_cases l with rfl | ⟨r, t, rfl⟩
    · simp at hn
    · rw [pop_snoc]
      split
      · have := ih r (by simpa using hn); omega
      · split <;> simp_all

theorem good_pop {f : Int} {l : List Sp} (h : Good f l) {to : Int} (hf : f ≤ to) : Good f (pop l to) := by
  have hc := chain_pop h.chain hf
  refine ⟨h.lo, h.hi, hc.1, Nat.le_trans (length_pop l to) h.len, ?_⟩
  rw [hc.2]
  have := h.top
  split <;> omega

theorem good_back {f : Int} {l : List Sp} (h : Good f l) (to : Int) : Good f (backL f l to) := by
  unfold backL
  split
  · exact h
  · split
    · exact h
    · exact good_pop h (by omega)

/-- How many spans of both kinds there are. -/
theorem length_of (l : List Sp) : (of true l).length + (of false l).length = l.length := by
  induction l with
  | nil => rfl
  | cons t l ih =>
    rcases t with ⟨a, b, k⟩
    cases k <;> simp [of] at * <;> omega

theorem of_snoc (k : Bool) (l : List Sp) (t : Sp) : of k (l ++ [t]) = if t.k = k then of k l ++ [t] else of k l := by
  simp only [of, List.filter_append]
  split
  · rename_i h; simp [h]
  · rename_i h; simp [h]

theorem length_of_le (k : Bool) (l : List Sp) : (of k l).length ≤ l.length := List.length_filter_le _ _

end Lg
end Go.Proofs.Ytmlkoehkodbomaa
