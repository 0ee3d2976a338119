/- What quote.Unliteral tells: plain. -/
import Derived.Test.YtcpgbakdfogilaaDoorQuoteI
namespace Go.Proofs.YtcpgbakdfogilaaDoor
open Go.RowKit
set_option maxRecDepth 100000

def sgnB (x : Sgn) : UInt8 := UInt8.ofNat x.1
/-- What the sign that is none makes of it. -/
def unlitEnd (τ acc : List UInt8) (x : Sgn) : List UInt8 × Nat × Int :=
  if x.2.2.1 = 0 ∧ x.2.2.2 = 4 ∧ τ[x.2.1]? = some 34 then (if 255 < acc.length then ([], 0, 40) else (acc, x.2.1 + 1, 0)) else ([], x.2.1 + x.2.2.1, x.2.2.2)
def unlitF (τ : List UInt8) : Nat → Nat → List UInt8 → List UInt8 × Nat × Int
  | 0, _, _ => ([], 0, 4)
  | f + 1, p, acc =>
    if (oneL (τ.drop p) inText).2.2 = 0 then unlitF τ f (p + (oneL (τ.drop p) inText).2.1) (acc ++ [UInt8.ofNat (oneL (τ.drop p) inText).1])
    else unlitEnd τ acc ((oneL (τ.drop p) inText).1, p, (oneL (τ.drop p) inText).2.1, (oneL (τ.drop p) inText).2.2)
def unlitL (τ : List UInt8) : List UInt8 × Nat × Int :=
  match τ with
  | [] => ([], 0, 8)
  | c :: _ => if c = 34 then unlitF τ (τ.length + 1) 1 [] else ([], 0, 4)

theorem unlit_pre (τ : List UInt8) : ∀ (pre : List Sgn) (f p : Nat) (acc : List UInt8) (x : Sgn), pre ++ [x] <+: signsF inText τ f p → (∀ y ∈ pre, y.2.2.2 = 0) → x.2.2.2 ≠ 0 →
    unlitF τ f p acc = unlitEnd τ (acc ++ pre.map sgnB) x
  | [], f, p, acc, x, h, _, hx => by
    cases f with
    | zero => simp [signsF] at h
    | succ f =>
      rw [signsF, List.nil_append, List.cons_prefix_cons] at h
      have h1 := h.1
      subst h1
      rw [unlitF, if_neg hx]
      simp
  | y :: pre, f, p, acc, x, h, hp, hx => by
    cases f with
    | zero => simp [signsF] at h
    | succ f =>
      rw [signsF, List.cons_append, List.cons_prefix_cons] at h
      have h1 := h.1
      have h0 := hp y (List.mem_cons_self ..)
      subst h1
      have h0' : (oneL (τ.drop p) inText).2.2 = 0 := h0
      have h2 := h.2
      rw [if_pos h0'] at h2
      rw [unlitF, if_pos h0', unlit_pre τ pre f _ _ x h2 (fun z hz => hp z (List.mem_cons_of_mem _ hz)) hx]
      simp [sgnB]
theorem signs_mem (sp τ : List UInt8) : ∀ (f p : Nat) (x : Sgn), p ≤ τ.length → x ∈ signsF sp τ f p → x.2.1 ≤ τ.length ∧ x.2.2 = (oneL (τ.drop x.2.1) sp).2 ∧ x.1 = (oneL (τ.drop x.2.1) sp).1
  | 0, _, _, _, h => by simp [signsF] at h
  | f + 1, p, x, hp, h => by
    rw [signsF] at h
    rcases List.mem_cons.1 h with rfl | h
    · exact ⟨hp, rfl, rfl⟩
    · have hl := oneL_le (τ.drop p) sp
      rw [List.length_drop] at hl
      split at h
      · exact signs_mem sp τ f _ x (by omega) h
      · cases h
theorem signs_last (sp τ : List UInt8) : ∀ (f p : Nat), p ≤ τ.length → τ.length - p < f → ∃ y ∈ signsF sp τ f p, y.2.2.2 ≠ 0
  | 0, _, _, h => by omega
  | f + 1, p, hp, hf => by
    rw [signsF]
    have hl := oneL_le (τ.drop p) sp
    rw [List.length_drop] at hl
    by_cases h0 : (oneL (τ.drop p) sp).2.2 = 0
    · rw [if_pos h0]
      have h1 := hl.2 h0
      obtain ⟨y, hy, hne⟩ := signs_last sp τ f (p + (oneL (τ.drop p) sp).2.1) (by omega) (by omega)
      exact ⟨y, List.mem_cons_of_mem _ hy, hne⟩
    · exact ⟨_, List.mem_cons_self .., h0⟩
theorem mem_of_pre {α : Type} {pre l : List α} {x : α} (h : pre ++ [x] <+: l) : x ∈ l := h.subset (by simp)
theorem signs_len (sp τ : List UInt8) : ∀ (f p : Nat), (signsF sp τ f p).length ≤ f
  | 0, _ => by simp [signsF]
  | f + 1, p => by
    rw [signsF]
    split
    · have := signs_len sp τ f (p + (oneL (τ.drop p) sp).2.1); simp; omega
    · simp
theorem oneL_none {t sp : List UInt8} (h : (oneL t sp).2.2 = 4) : 0 < t.length := by
  cases t with
  | nil => simp [oneL] at h
  | cons c r => simp
end Go.Proofs.YtcpgbakdfogilaaDoor
