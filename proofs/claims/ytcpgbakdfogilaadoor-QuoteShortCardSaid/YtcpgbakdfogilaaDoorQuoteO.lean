/- Contracts of quote.Unclass, and of bonsailaw03's text, class, wrong. -/
import Derived.Test.YtcpgbakdfogilaaDoorQuoteN
namespace Go.Proofs.YtcpgbakdfogilaaDoor
open Go.RowKit
set_option maxRecDepth 100000

set_option maxHeartbeats 4000000 in
/-- quote.Unclass. -/
theorem unclass_any (τ : List UInt8) (hτ : τ.length ≤ 100000) (w : World) :
    Calls Tryd.prog 47 #[.string (strOf τ)] w fun e w' => e = .returned (ucV (unclassL τ)) ∧ Below w.heap.size w w' := by
  by_cases h0 : firstL τ 91 = 0
  · cases τ with
    | nil => simp [firstL] at h0
    | cons c r =>
      obtain rfl : c = 91 := by
        simp only [firstL] at h0
        split at h0
        · assumption
        · simp at h0
      by_cases hn : r.head? = some 94
      · have := uncl_in true (91 :: r) hτ h0 (decide_eq_true hn) w
        simp only [unclassL, if_pos hn]
        exact this
      · have := uncl_in false (91 :: r) hτ h0 (decide_eq_false hn) w
        simp only [unclassL, if_neg hn]
        exact this
  · have he : unclassL τ = (0, 0, firstL τ 91) := by
      cases τ with
      | nil => rfl
      | cons c r =>
        simp only [firstL] at h0
        simp only [unclassL, firstL]
        split at h0
        · exact absurd rfl h0
        · rename_i h; rw [if_neg h, if_neg h]
    rw [he]
    obtain ⟨e, hf⟩ : ∃ e, firstL τ 91 = e := ⟨_, rfl⟩
    rw [hf] at h0
    have h0b : (e == 0) = false := by simpa using h0
    have Hf := Lib.hid hf
    rw [hf]
    clear hf he h0
    have hI := (Inv.start w).alloc zeroC
    rw [zeroC_eq] at hI
    go_enter Tryd.func47, Tryd.ntmps47
    go_wp2_with (first | (go_at_call 62; refine (first_any _ 91 _).mono ?_; rw [Hf.out]; rintro e w' ⟨rfl, rfl⟩) | (refine load_set rfl (.tmp 2) rfl w.heap.size 0 rfl (hI.at (by simp)) ?_) | (refine store_set rfl (.tmp 2) _ rfl w.heap.size 0 0 rfl rfl (hI.at (by simp)) ?_; intro W5 g1 g2 g3 g4; replace hI := hI.turn (o' := setC 0) (Nat.le_refl _) (by simp) g1 g2 g3 (g4 _ _ (Nat.le_refl _)); clear g1 g2 g3 g4))
    obtain ⟨c0, c1, c2, c3, e0, e1, e2, e3⟩ := setB_facts (hI.at (g := w.heap.size) (o := setC 0) (by simp))
    clear e0 e1 e2 e3
    exact bodyPost_ret (v := ucV (0, 0, e)) (by simp [results, Tryd.results47, go_sem, c0, c1, c2, c3]) rfl ⟨rfl, hI.below⟩
end Go.Proofs.YtcpgbakdfogilaaDoor
