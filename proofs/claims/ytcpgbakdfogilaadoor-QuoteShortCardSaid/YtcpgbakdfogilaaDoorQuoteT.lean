/- A set's class is the shortest one: plain. -/
import Derived.Test.YtcpgbakdfogilaaDoorQuoteQ
namespace Go.Proofs.YtcpgbakdfogilaaDoor
open Go.RowKit
set_option maxRecDepth 100000

def sl (a : Nat) : Nat := (signL (UInt8.ofNat a) inClass).length
theorem sl_pos (a : Nat) : 1 ≤ sl a := (sgn_pos _).2
/-- What an item costs. -/
abbrev Itm := Nat × Nat × Nat
structure ItmOk (i : Itm) : Prop where
  le : i.1 ≤ i.2.1
  lt : i.2.1 < 256
  cost : (i.1 = i.2.1 ∧ sl i.1 ≤ i.2.2) ∨ sl i.1 + 1 + sl i.2.1 ≤ i.2.2
theorem ItmOk.fst {i : Itm} (h : ItmOk i) : sl i.1 ≤ i.2.2 := by rcases h.cost with ⟨_, h⟩ | h <;> omega
theorem ItmOk.snd {i : Itm} (h : ItmOk i) : sl i.2.1 ≤ i.2.2 := by
  rcases h.cost with ⟨e, h⟩ | h
  · rw [← e]; exact h
  · omega
theorem ItmOk.two {i : Itm} (h : ItmOk i) (hne : i.1 ≠ i.2.1) : sl i.1 + 1 + sl i.2.1 ≤ i.2.2 := by rcases h.cost with ⟨e, _⟩ | h <;> first | exact absurd e hne | exact h
def sumK : List Itm → Nat
  | [] => 0
  | i :: l => i.2.2 + sumK l
theorem sumK_erase {i : Itm} : ∀ {l : List Itm}, i ∈ l → sumK l = i.2.2 + sumK (l.erase i)
  | [], h => by cases h
  | j :: l, h => by
    by_cases hij : j = i
    · subst hij; simp [sumK]
    · have hm : i ∈ l := (List.mem_cons.1 h).resolve_left (fun e => hij e.symm)
      have hbe : (j == i) = false := by simpa using hij
      rw [List.erase_cons, hbe]
      simp only [Bool.false_eq_true, if_false, sumK]
      have := sumK_erase hm
      omega
theorem sumK_filter (p : Itm → Bool) : ∀ l : List Itm, sumK l = sumK (l.filter p) + sumK (l.filter fun i => !p i)
  | [] => rfl
  | i :: l => by
    have ih := sumK_filter p l
    cases h : p i <;> simp [h, sumK] <;> omega
theorem cst_le (s e : Nat) (h : s ≤ e) : (itemL (s, e)).length ≤ (if e = s then sl s else if e = s + 1 then sl s + sl e else sl s + 1 + sl e) := by
  unfold itemL sl
  simp only []
  by_cases h1 : e = s
  · rw [if_pos h1, if_pos h1]; exact Nat.le_refl _
  · by_cases h2 : e = s + 1
    · rw [if_neg h1, if_pos h2, if_neg h1, if_pos h2]; simp
    · rw [if_neg h1, if_neg h2, if_neg h1, if_neg h2]; simp; omega
/-- A run, covered by items within it, costs no more than these. -/
theorem run_cost (I : List Itm) (hI : ∀ i ∈ I, ItmOk i) (s e : Nat) (hse : s ≤ e) (hcov : ∀ j, s ≤ j → j ≤ e → ∃ i ∈ I, i.1 ≤ j ∧ j ≤ i.2.1) (hin : ∀ i ∈ I, s ≤ i.1 ∧ i.2.1 ≤ e) : (itemL (s, e)).length ≤ sumK I := by
  have hc := cst_le s e hse
  obtain ⟨i1, m1, a1, b1⟩ := hcov s (Nat.le_refl _) hse
  have n1 := hin i1 m1
  have e1 : i1.1 = s := by omega
  have s1 := sumK_erase m1
  have f1 := (hI i1 m1).fst
  rw [e1] at f1
  by_cases h1 : i1.2.1 = e
  · by_cases hs : e = s
    · rw [if_pos hs] at hc; omega
    · have := (hI i1 m1).two (by omega)
      rw [e1, h1] at this
      rw [if_neg hs] at hc
      split at hc <;> omega
  · obtain ⟨i2, m2, a2, b2⟩ := hcov e hse (Nat.le_refl _)
    have n2 := hin i2 m2
    have e2 : i2.2.1 = e := by omega
    have hne : i2 ≠ i1 := fun h => h1 (by rw [← h]; exact e2)
    have m2' : i2 ∈ I.erase i1 := (List.mem_erase_of_ne hne).2 m2
    have s2 := sumK_erase m2'
    have f2 := (hI i2 m2).snd
    rw [e2] at f2
    have hlt : s < e := by omega
    rw [if_neg (by omega)] at hc
    by_cases h2 : e = s + 1
    · rw [if_pos h2] at hc; omega
    · rw [if_neg h2] at hc
      by_cases g1 : i1.1 = i1.2.1
      · by_cases g2 : i2.1 = i2.2.1
        · obtain ⟨i3, m3, a3, b3⟩ := hcov (s + 1) (by omega) (by omega)
          have q1 : i3 ≠ i1 := fun h => by subst h; omega
          have q2 : i3 ≠ i2 := fun h => by subst h; omega
          have m3' : i3 ∈ (I.erase i1).erase i2 := (List.mem_erase_of_ne q2).2 ((List.mem_erase_of_ne q1).2 m3)
          have s3 := sumK_erase m3'
          have f3 := (hI i3 m3).fst
          have := sl_pos i3.1
          omega
        · have := (hI i2 m2).two g2
          rw [e2] at this
          omega
      · have := (hI i1 m1).two g1
        rw [e1] at this
        omega
def within (p : Nat × Nat) (i : Itm) : Bool := decide (p.1 ≤ i.1) && decide (i.1 ≤ p.2)
theorem sum_runs : ∀ (R : List (Nat × Nat)) (I : List Itm), R.Pairwise (fun p q => p.2 + 2 ≤ q.1) → (∀ p ∈ R, (itemL p).length ≤ sumK (I.filter (within p))) → (itemsL R).length ≤ sumK I
  | [], I, _, _ => by simp [itemsL]
  | p :: R, I, hp, h => by
    rw [List.pairwise_cons] at hp
    have h1 := h p (List.mem_cons_self ..)
    have h2 := sumK_filter (within p) I
    have ih := sum_runs R (I.filter fun i => !within p i) hp.2 (fun q hq => by
      have := h q (List.mem_cons_of_mem _ hq)
      have hap := hp.1 q hq
      have e : (I.filter fun i => !within p i).filter (within q) = I.filter (within q) := by
        rw [List.filter_filter]
        apply List.filter_congr
        intro i _
        unfold within
        rw [Bool.eq_iff_iff]
        simp only [Bool.and_eq_true, Bool.not_eq_true', decide_eq_true_eq, Bool.and_eq_false_iff, decide_eq_false_iff_not]
        omega
      rw [e]; exact this)
    have e : (itemsL (p :: R)).length = (itemL p).length + (itemsL R).length := by simp [itemsL]
    omega
theorem sep_of : ∀ (l : List (Nat × Nat)), (∀ p ∈ l, p.1 ≤ p.2) → Apart l → l.Pairwise (fun p q => p.2 + 2 ≤ q.1)
  | [], _, _ => List.Pairwise.nil
  | p :: l, h, ha => by
    have ha' : Apart l := fun i x y hx hy => ha (i + 1) x y (by simpa using hx) (by simpa using hy)
    have ih := sep_of l (fun q hq => h q (List.mem_cons_of_mem _ hq)) ha'
    refine List.pairwise_cons.2 ⟨fun q hq => ?_, ih⟩
    cases l with
    | nil => cases hq
    | cons z l =>
      have hz := ha 0 p z rfl rfl
      rcases List.mem_cons.1 hq with rfl | hq
      · exact hz
      · have h1 := (List.pairwise_cons.1 ih).1 q hq
        have h2 := h z (by simp)
        omega
theorem orFrom_bit (j : Nat) (hj : j < 256) : ∀ (R : List (Nat × Nat)) (S : Nat), (orFrom S R).testBit j = true ↔ S.testBit j = true ∨ ∃ p ∈ R, p.1 ≤ j ∧ j ≤ p.2
  | [], S => by simp [orFrom]
  | p :: R, S => by
    have := orFrom_bit j hj R (S ||| rng (p.1 : Int) ((p.2 : Int) + 1))
    rw [show orFrom S (p :: R) = orFrom (S ||| rng (p.1 : Int) ((p.2 : Int) + 1)) R from rfl, this, Nat.testBit_or, rng_bit _ _ j hj]
    simp only [Bool.or_eq_true, Bool.and_eq_true, decide_eq_true_eq, List.mem_cons, exists_eq_or_imp]
    constructor
    · rintro ((h | h) | h)
      · exact Or.inl h
      · exact Or.inr (Or.inl (by omega))
      · exact Or.inr (Or.inr h)
    · rintro (h | h | h)
      · exact Or.inl (Or.inl h)
      · exact Or.inl (Or.inr (by omega))
      · exact Or.inr h
theorem eq_or_ne_pair (p q : Nat × Nat) : p = q ∨ p ≠ q := Decidable.em _
theorem pair_sep : ∀ {R : List (Nat × Nat)} (_ : R.Pairwise (fun p q => p.2 + 2 ≤ q.1)) {p q : Nat × Nat}, p ∈ R → q ∈ R → p ≠ q → p.2 + 2 ≤ q.1 ∨ q.2 + 2 ≤ p.1
  | [], _, _, _, hp, _, _ => by cases hp
  | z :: R, h, p, q, hp, hq, hne => by
    have h' := List.pairwise_cons.1 h
    rcases List.mem_cons.1 hp with e1 | hp1
    · rcases List.mem_cons.1 hq with e2 | hq1
      · exact absurd (e1.trans e2.symm) hne
      · rw [e1]; exact Or.inl (h'.1 q hq1)
    · rcases List.mem_cons.1 hq with e2 | hq1
      · rw [e2]; exact Or.inr (h'.1 p hp1)
      · exact pair_sep h'.2 hp1 hq1 hne
/-- The class of a set of items is no longer than they are. -/
theorem cover (I : List Itm) (hI : ∀ i ∈ I, ItmOk i) (x : Nat) (hx : x < 2 ^ 256) (h : orFrom 0 (I.map fun i => (i.1, i.2.1)) = x) : (itemsL (runsL (bytesTo x 256))).length ≤ sumK I := by
  have hg := goodRuns x 256 (Nat.le_refl _)
  have ho : orFrom 0 (runsL (bytesTo x 256)) = x := orRuns_self hx
  generalize runsL (bytesTo x 256) = R at *
  have hsep := sep_of R (fun p hp => (hg.each p hp).1) hg.apart
  have item_in : ∀ i ∈ I, ∀ j, i.1 ≤ j → j ≤ i.2.1 → ∃ p ∈ R, p.1 ≤ j ∧ j ≤ p.2 := by
    intro i hi j h1 h2
    have hj : j < 256 := by have := (hI i hi).lt; omega
    have hb : x.testBit j = true := by rw [← h, orFrom_bit j hj]; exact Or.inr ⟨_, List.mem_map.2 ⟨i, hi, rfl⟩, h1, h2⟩
    rw [← ho, orFrom_bit j hj] at hb
    simpa using hb
  have run_out : ∀ p ∈ R, ∀ q ∈ R, q.1 ≤ p.2 + 1 → p.2 + 1 ≤ q.2 → False := by
    intro p hp q hq h1 h2
    have := hg.each p hp
    have := hg.each q hq
    rcases eq_or_ne_pair p q with rfl | hne
    · omega
    · have := pair_sep hsep hp hq hne
      omega
  have run_out2 : ∀ p ∈ R, ∀ q ∈ R, q.1 + 1 ≤ p.1 → p.1 ≤ q.2 + 1 → False := by
    intro p hp q hq h1 h2
    have := hg.each p hp
    have := hg.each q hq
    rcases eq_or_ne_pair p q with rfl | hne
    · omega
    · have := pair_sep hsep hp hq hne
      omega
  refine sum_runs R I hsep fun p hp => ?_
  obtain ⟨s, e⟩ := p
  have hpe := hg.each (s, e) hp
  have hin : ∀ i ∈ I, s ≤ i.1 → i.1 ≤ e → i.2.1 ≤ e := by
    intro i hi h1 h2
    rcases Nat.lt_or_ge e i.2.1 with hlt | hge
    · obtain ⟨q, hq, g1, g2⟩ := item_in i hi (e + 1) (by omega) hlt
      exact (run_out (s, e) hp q hq g1 g2).elim
    · exact hge
  refine run_cost _ (fun i hi => hI i (List.mem_filter.1 hi).1) s e hpe.1 ?_ ?_
  · intro j h1 h2
    have hj : j < 256 := by have := hpe.2; simp at this; omega
    have hb : x.testBit j = true := by rw [← ho, orFrom_bit j hj]; exact Or.inr ⟨(s, e), hp, h1, h2⟩
    rw [← h, orFrom_bit j hj] at hb
    obtain ⟨q, hq, g1, g2⟩ : ∃ p ∈ I.map (fun i => (i.1, i.2.1)), p.1 ≤ j ∧ j ≤ p.2 := by simpa using hb
    obtain ⟨i, hi, rfl⟩ := List.mem_map.1 hq
    refine ⟨i, List.mem_filter.2 ⟨hi, ?_⟩, g1, g2⟩
    have hge : s ≤ i.1 := by
      rcases Nat.lt_or_ge i.1 s with hlt | hge
      · obtain ⟨q, hq, u1, u2⟩ := item_in i hi (s - 1) (by omega) (by simp at g2; omega)
        exact (run_out2 (s, e) hp q hq (by simp; omega) (by simp; omega)).elim
      · exact hge
    unfold within
    simp only [Bool.and_eq_true, decide_eq_true_eq]
    simp at g1
    omega
  · intro i hi
    obtain ⟨hi, hw⟩ := List.mem_filter.1 hi
    unfold within at hw
    simp only [Bool.and_eq_true, decide_eq_true_eq] at hw
    exact ⟨hw.1, hin i hi hw.1 hw.2⟩
end Go.Proofs.YtcpgbakdfogilaaDoor
