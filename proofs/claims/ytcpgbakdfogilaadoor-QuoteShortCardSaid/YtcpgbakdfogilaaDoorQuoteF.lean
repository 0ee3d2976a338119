/- What is written of a byte is read as it was, whatever stands behind it. -/
import Derived.Test.YtcpgbakdfogilaaDoorQuoteE
namespace Go.Proofs.YtcpgbakdfogilaaDoor
open Go.RowKit
set_option maxRecDepth 100000

theorem one_sign (sp rest : List UInt8) (h92 : sp.contains 92 = true) (hl : ∀ c ∈ sp, c.toNat ≠ 110 ∧ c.toNat ≠ 114 ∧ c.toNat ≠ 116 ∧ c.toNat ≠ 120) (b : UInt8) : oneL (signL b sp ++ rest) sp = (b.toNat, (signL b sp).length, 0) := by
  have e92 : (92 : UInt8).toNat = 92 := rfl
  unfold signL
  split
  · rename_i h; simp [oneL, h]
  split
  · rename_i h; simp [oneL, h]
  split
  · rename_i h; simp [oneL, h]
  split
  · have hx : sp.contains 120 = false := by
      cases hc : sp.contains 120 with
      | false => rfl
      | true => exact absurd rfl (hl 120 (by simpa using hc)).2.2.2
    have h1 := hexv_hexd (b.toNat / 16) (by have := b.toNat_lt; omega)
    have h2 := hexv_hexd (b.toNat % 16) (by omega)
    simp [oneL, hx, h1, h2] at *
    simp_all
    omega
  split
  · rename_i h1 h2 h3 h4 h5
    have := hl b (by simpa using h5)
    simp [oneL, this, h5]
    simp_all
  · rename_i h1 h2 h3 h4 h5
    have h6 : b.toNat ≠ 92 := fun h => h5 (by rw [show b = 92 from UInt8.toNat_inj.1 h]; exact h92)
    have h7 : ¬ (b.toNat < 32 ∨ 126 < b.toNat ∨ (b.toNat ≠ 92 ∧ sp.contains b = true)) := by
      rintro (h | h | h)
      · exact h4 (Or.inl h)
      · exact h4 (Or.inr h)
      · exact h5 h.2
    simp only [List.cons_append, List.nil_append, oneL]
    rw [if_neg h7, if_pos h6]
    rfl
end Go.Proofs.YtcpgbakdfogilaaDoor
