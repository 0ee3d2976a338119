/- The document's runs are the program's: plain. -/
import Derived.Test.YtcpgbakdfogilaaDoorSetS
namespace Go.Proofs.YtcpgbakdfogilaaDoor
open Go.RowKit
set_option maxRecDepth 100000

/-- The last byte of a run. -/
def endR (s : Nat) : Nat → Nat → Nat
  | 0, t => t
  | f + 1, t => if s.testBit (t + 1) = true then endR s f (t + 1) else t
def begins (s k : Nat) : Bool := s.testBit k && !(decide (0 < k) && s.testBit (k - 1))
def refR (s : Nat) : Nat → List (Nat × Nat)
  | 0 => []
  | k + 1 => if begins s k = true then refR s k ++ [(k, endR s (255 - k) k)] else refR s k
theorem refR_len (s : Nat) : ∀ k, (refR s k).length ≤ k
  | 0 => Nat.le_refl _
  | k + 1 => by
    have := refR_len s k
    rw [refR]; split <;> simp <;> omega
theorem endR_le (s : Nat) : ∀ f t, endR s f t ≤ t + f
  | 0, t => by simp [endR]
  | f + 1, t => by
    have := endR_le s f (t + 1)
    rw [endR]; split <;> omega
theorem orRuns_any (r : List (Nat × Nat)) (j : Nat) : ∀ a : Nat, (r.foldl (fun (a : Nat) p => a ||| rng (p.1 : Int) ((p.2 : Int) + 1)) a).testBit j = (a.testBit j || r.any fun p => (rng (p.1 : Int) ((p.2 : Int) + 1)).testBit j) := by
  induction r with
  | nil => intro a; simp
  | cons p r ih => intro a; rw [List.foldl_cons, ih, Nat.testBit_or, List.any_cons, Bool.or_assoc]
theorem last_bit {s k : Nat} {r : List (Nat × Nat)} (hk : k ≤ 256) (h : GoodRuns s k r) {p : Nat × Nat} (hp : p ∈ r) : s.testBit p.2 = true := by
  have h1 := h.each p hp
  have h2 := h.all p.2 (by omega)
  have h3 : (orRuns r).testBit p.2 = true := by
    unfold orRuns
    rw [orRuns_any, Bool.or_eq_true]
    right
    rw [List.any_eq_true]
    refine ⟨p, hp, ?_⟩
    rw [rng_bit _ _ _ (by omega)]
    simp; omega
  rw [h3] at h2
  have h4 := h2.symm
  rw [Bool.and_eq_true] at h4
  exact h4.2
theorem ref_runs (s : Nat) : ∀ k, k ≤ 256 → if decide (0 < k) && s.testBit (k - 1) then ∃ r a, refR s k = r ++ [(a, endR s (256 - k) (k - 1))] ∧ runsL (bytesTo s k) = r ++ [(a, k - 1)] else refR s k = runsL (bytesTo s k)
  | 0, _ => by simp [refR, runsL, bytesTo]
  | k + 1, hk => by
    have ih := ref_runs s k (by omega)
    have hG := goodRuns s k (by omega)
    cases hs : s.testBit k
    · have e1 : (decide (0 < k + 1) && s.testBit (k + 1 - 1)) = false := by rw [Nat.add_sub_cancel, hs, Bool.and_false]
      rw [e1]
      simp only [Bool.false_eq_true, if_false]
      have e2 : begins s k = false := by simp [begins, hs]
      rw [refR, e2, bytesTo_no s k hs]
      simp only [Bool.false_eq_true, if_false]
      by_cases hin : (decide (0 < k) && s.testBit (k - 1)) = true
      · rw [if_pos hin] at ih
        obtain ⟨r, a, h1, h2⟩ := ih
        have hk0 : 0 < k := by simp at hin; exact hin.1
        have e3 : endR s (256 - k) (k - 1) = k - 1 := by
          rw [show 256 - k = (255 - k) + 1 by omega, endR, show k - 1 + 1 = k by omega, hs]; rfl
        rw [h1, h2, e3]
      · rw [if_neg hin] at ih; exact ih
    · have e1 : (decide (0 < k + 1) && s.testBit (k + 1 - 1)) = true := by rw [Nat.add_sub_cancel, hs]; simp
      rw [if_pos e1]
      have hk' : (UInt8.ofNat k).toNat = k := by rw [UInt8.toNat_ofNat']; omega
      rw [bytesTo_yes s k hs, runsL_snoc, hk', refR, Nat.add_sub_cancel, show 256 - (k + 1) = 255 - k by omega]
      by_cases hin : (decide (0 < k) && s.testBit (k - 1)) = true
      · rw [if_pos hin] at ih
        obtain ⟨r, a, h1, h2⟩ := ih
        have hk0 : 0 < k := by simp at hin; exact hin.1
        have e2 : begins s k = false := by simp only [begins, hs, hin]; rfl
        rw [e2, h1, h2]
        simp only [Bool.false_eq_true, if_false]
        refine ⟨r, a, ?_, ?_⟩
        · rw [show 256 - k = (255 - k) + 1 by omega, endR, show k - 1 + 1 = k by omega, hs]; rfl
        · have hqb : k - 1 + 1 = k := by omega
          simp [addRun, hqb]
      · rw [if_neg hin] at ih
        have hin' : (decide (0 < k) && s.testBit (k - 1)) = false := by simpa using hin
        have e2 : begins s k = true := by simp only [begins, hs, hin']; rfl
        rw [e2, ih]
        simp only [if_true]
        refine ⟨_, k, rfl, ?_⟩
        generalize hr : runsL (bytesTo s k) = r at *
        unfold addRun
        split
        · rename_i p hp
          have hm := List.mem_of_getLast? hp
          have hb := last_bit (by omega) hG hm
          split
          · rename_i hpk
            exfalso
            apply hin
            rw [← hpk, Nat.add_sub_cancel, hb]; simp
          · rfl
        · rename_i hp
          rw [List.getLast?_eq_none_iff] at hp
          rw [hp]; rfl
theorem refR_all (s : Nat) : refR s 256 = runsL (bytesTo s 256) := by
  have h := ref_runs s 256 (Nat.le_refl _)
  split at h
  · obtain ⟨r, a, h1, h2⟩ := h
    rw [h1, h2]; rfl
  · exact h
end Go.Proofs.YtcpgbakdfogilaaDoor
