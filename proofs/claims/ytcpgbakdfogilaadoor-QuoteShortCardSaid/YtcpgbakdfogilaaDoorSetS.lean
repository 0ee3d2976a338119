/- Plain laws of a set's runs. -/
import Derived.Test.YtcpgbakdfogilaaDoorSetP
namespace Go.Proofs.YtcpgbakdfogilaaDoor
open Go.RowKit
set_option maxRecDepth 100000

def orRuns (r : List (Nat × Nat)) : Nat := r.foldl (fun (a : Nat) p => a ||| rng (p.1 : Int) ((p.2 : Int) + 1)) 0
def sumRuns (r : List (Nat × Nat)) : Int := r.foldl (fun (a : Int) p => a + (p.2 : Int) - (p.1 : Int) + 1) 0
theorem orRuns_snoc (r : List (Nat × Nat)) (p : Nat × Nat) : orRuns (r ++ [p]) = orRuns r ||| rng (p.1 : Int) ((p.2 : Int) + 1) := by simp [orRuns]
theorem sumRuns_snoc (r : List (Nat × Nat)) (p : Nat × Nat) : sumRuns (r ++ [p]) = sumRuns r + (p.2 : Int) - (p.1 : Int) + 1 := by simp [sumRuns]
theorem orRuns_lt (r : List (Nat × Nat)) : orRuns r < 2 ^ 256 := by
  have : ∀ (r : List (Nat × Nat)) (a : Nat), a < 2 ^ 256 → r.foldl (fun (a : Nat) p => a ||| rng (p.1 : Int) ((p.2 : Int) + 1)) a < 2 ^ 256 := by
    intro r
    induction r with
    | nil => intro a h; exact h
    | cons p r ih => intro a h; exact ih _ (Nat.or_lt_two_pow h (rng_lt _ _))
  exact this r 0 (by decide)
theorem rng_bit (a b : Int) (j : Nat) (h : j < 256) : (rng a b).testBit j = (decide (a ≤ j) && decide ((j : Int) < b)) := by
  unfold rng; rw [ofPred_bit, decide_eq_true h, Bool.true_and]

def Apart (r : List (Nat × Nat)) : Prop := ∀ i p q, r[i]? = some p → r[i + 1]? = some q → p.2 + 2 ≤ q.1
theorem Apart.snoc {r : List (Nat × Nat)} {q : Nat × Nat} (h : Apart r) (hl : ∀ p, r.getLast? = some p → p.2 + 2 ≤ q.1) : Apart (r ++ [q]) := by
  intro i p x hp hx
  by_cases h1 : i + 1 < r.length
  · rw [List.getElem?_append_left (by omega)] at hp
    rw [List.getElem?_append_left h1] at hx
    exact h i p x hp hx
  · by_cases h2 : i + 1 = r.length
    · rw [List.getElem?_append_left (by omega)] at hp
      rw [List.getElem?_append_right (by omega), h2, Nat.sub_self] at hx
      simp at hx
      subst hx
      apply hl
      rw [List.getLast?_eq_getElem?, show r.length - 1 = i by omega]; exact hp
    · rw [List.getElem?_append_right (by omega)] at hx
      rw [List.getElem?_eq_none (by simp; omega)] at hx
      cases hx
theorem Apart.left {r : List (Nat × Nat)} {q : Nat × Nat} (h : Apart (r ++ [q])) : Apart r := by
  intro i p x hp hx
  have h1 : i + 1 < r.length := by
    rcases Nat.lt_or_ge (i + 1) r.length with h | h
    · exact h
    · rw [List.getElem?_eq_none h] at hx; cases hx
  exact h i p x (by rw [List.getElem?_append_left (by omega)]; exact hp) (by rw [List.getElem?_append_left h1]; exact hx)
theorem Apart.last {r : List (Nat × Nat)} {q : Nat × Nat} (h : Apart (r ++ [q])) : ∀ p, r.getLast? = some p → p.2 + 2 ≤ q.1 := by
  intro p hp
  rw [List.getLast?_eq_getElem?] at hp
  have h1 : r.length - 1 < r.length := by
    rcases Nat.lt_or_ge (r.length - 1) r.length with h | h
    · exact h
    · rw [List.getElem?_eq_none h] at hp; cases hp
  refine h (r.length - 1) p q (by rw [List.getElem?_append_left h1]; exact hp) ?_
  rw [show r.length - 1 + 1 = r.length by omega, List.getElem?_append_right (by omega), Nat.sub_self]; rfl

structure GoodRuns (s k : Nat) (r : List (Nat × Nat)) : Prop where
  each : ∀ p ∈ r, p.1 ≤ p.2 ∧ p.2 < k
  apart : Apart r
  all : ∀ j, j < 256 → (orRuns r).testBit j = (decide (j < k) && s.testBit j)
  sum : sumRuns r = ((bytesTo s k).length : Int)

theorem goodRuns (s : Nat) : ∀ k, k ≤ 256 → GoodRuns s k (runsL (bytesTo s k))
  | 0, _ => by
    have h0 : runsL (bytesTo s 0) = [] := rfl
    rw [h0]
    refine ⟨?_, ?_, ?_, ?_⟩
    · intro p hp; cases hp
    · intro i p q hp; simp at hp
    · intro j _; simp [orRuns]
    · simp [sumRuns, bytesTo]
  | k + 1, hk => by
    have ih := goodRuns s k (by omega)
    by_cases hs : s.testBit k = true
    · have hk' : (UInt8.ofNat k).toNat = k := by rw [UInt8.toNat_ofNat']; omega
      rw [bytesTo_yes s k hs, runsL_snoc, hk']
      generalize hr : runsL (bytesTo s k) = r at ih
      have hlen : ((bytesTo s (k + 1)).length : Int) = ((bytesTo s k).length : Int) + 1 := by rw [bytesTo_yes s k hs]; simp
      obtain ⟨h1, h2, h3, h4⟩ := ih
      by_cases hne : r = []
      · subst hne
        have ha : addRun [] k = [] ++ [(k, k)] := rfl
        rw [ha]
        refine ⟨?_, ?_, ?_, ?_⟩
        · intro p hp; simp at hp; subst hp; simp
        · exact h2.snoc (by intro p hp; cases hp)
        · intro j hj
          have h5 := h3 j hj
          rw [orRuns_snoc, Nat.testBit_or, h5, rng_bit _ _ _ hj]
          by_cases hjk : j = k
          · subst hjk; simp [hs]; omega
          · have e1 : decide (j < k + 1) = decide (j < k) := by rw [decide_eq_decide]; omega
            have e2 : (decide ((k : Int) ≤ (j : Int)) && decide ((j : Int) < (k : Int) + 1)) = false := by simp; omega
            simp only [e1, e2, Bool.or_false]
        · rw [sumRuns_snoc, h4, hlen]; simp
      · obtain ⟨o', q, rfl⟩ := List.eq_nil_or_concat r |>.resolve_left hne
        rw [List.concat_eq_append] at *
        have hq := h1 q (by simp)
        have hgl : (o' ++ [q]).getLast? = some q := by simp
        by_cases hqb : q.2 + 1 = k
        · have ha : addRun (o' ++ [q]) k = o' ++ [(q.1, k)] := by simp [addRun, hqb]
          rw [ha]
          refine ⟨?_, ?_, ?_, ?_⟩
          · intro p hp
            rcases List.mem_append.1 hp with hp | hp
            · have := h1 p (by simp [hp]); omega
            · simp at hp; subst hp; simp; omega
          · exact h2.left.snoc h2.last
          · intro j hj
            have h5 := h3 j hj
            rw [orRuns_snoc, Nat.testBit_or, rng_bit _ _ _ hj] at h5
            rw [orRuns_snoc, Nat.testBit_or, rng_bit _ _ _ hj]
            by_cases hjk : j = k
            · subst hjk
              have e1 : (decide ((q.1 : Int) ≤ (j : Int)) && decide ((j : Int) < (j : Int) + 1)) = true := by simp; omega
              simp only [e1, hs]; simp
            · have e1 : decide (j < k + 1) = decide (j < k) := by rw [decide_eq_decide]; omega
              have e2 : decide ((j : Int) < (k : Int) + 1) = decide ((j : Int) < (q.2 : Int) + 1) := by rw [decide_eq_decide]; omega
              rw [e1, ← h5]
              simp only [e2]
          · rw [sumRuns_snoc] at h4 ⊢
            rw [hlen]; simp only []; omega
        · have ha : addRun (o' ++ [q]) k = (o' ++ [q]) ++ [(k, k)] := by simp [addRun, hqb]
          rw [ha]
          refine ⟨?_, ?_, ?_, ?_⟩
          · intro p hp
            rcases List.mem_append.1 hp with hp | hp
            · have := h1 p hp; omega
            · simp at hp; subst hp; simp
          · refine h2.snoc ?_
            intro p hp
            rw [hgl] at hp
            cases hp
            simp only []
            omega
          · intro j hj
            have h5 := h3 j hj
            rw [orRuns_snoc, Nat.testBit_or, h5, rng_bit _ _ _ hj]
            by_cases hjk : j = k
            · subst hjk; simp [hs]; omega
            · have e1 : decide (j < k + 1) = decide (j < k) := by rw [decide_eq_decide]; omega
              have e2 : (decide ((k : Int) ≤ (j : Int)) && decide ((j : Int) < (k : Int) + 1)) = false := by simp; omega
              simp only [e1, e2, Bool.or_false]
          · rw [sumRuns_snoc, h4, hlen]; simp
    · have hs' : s.testBit k = false := by simpa using hs
      rw [bytesTo_no s k hs']
      obtain ⟨h1, h2, h3, h4⟩ := ih
      refine ⟨fun p hp => by have := h1 p hp; omega, h2, fun j hj => ?_, by rw [bytesTo_no s k hs']; exact h4⟩
      rw [h3 j hj]
      by_cases hjk : j = k
      · subst hjk; simp [hs']
      · have e1 : decide (j < k + 1) = decide (j < k) := by rw [decide_eq_decide]; omega
        rw [e1]
theorem orRuns_self {s : Nat} (hs : s < 2 ^ 256) : orRuns (runsL (bytesTo s 256)) = s := by
  refine set_ext (orRuns_lt _) hs fun i hi => ?_
  rw [(goodRuns s 256 (Nat.le_refl _)).all i hi, decide_eq_true hi, Bool.true_and]
end Go.Proofs.YtcpgbakdfogilaaDoor
