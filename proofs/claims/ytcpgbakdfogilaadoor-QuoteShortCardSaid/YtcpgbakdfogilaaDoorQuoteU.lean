/- What is read is not shorter than what is written of it: plain. -/
import Derived.Test.YtcpgbakdfogilaaDoorQuoteT
namespace Go.Proofs.YtcpgbakdfogilaaDoor
open Go.RowKit
set_option maxRecDepth 100000

/-- A sign that is read is not shorter than the one that is written. -/
theorem sign_min (sp : List UInt8) (h92 : sp.contains 92 = true) (hs : ∀ c ∈ sp, 32 ≤ c.toNat ∧ c.toNat ≤ 126) (t : List UInt8) (h : (oneL t sp).2.2 = 0) : (signL (UInt8.ofNat (oneL t sp).1) sp).length ≤ (oneL t sp).2.1 := by
  cases t with
  | nil => simp [oneL] at h
  | cons c r =>
    by_cases hc : c = 92
    · subst hc
      cases r with
      | nil => simp [oneL] at h
      | cons d r2 =>
        rw [oneL_92] at h ⊢
        split
        · show (signL (UInt8.ofNat 10) sp).length ≤ 2; unfold signL; rw [if_pos (by decide)]; simp
        split
        · show (signL (UInt8.ofNat 13) sp).length ≤ 2; unfold signL; rw [if_neg (by decide), if_pos (by decide)]; simp
        split
        · show (signL (UInt8.ofNat 9) sp).length ≤ 2; unfold signL; rw [if_neg (by decide), if_neg (by decide), if_pos (by decide)]; simp
        split
        · rename_i h1 h2 h3 h4
          have hd := hs d (by simpa using h4)
          rw [UInt8.ofNat_toNat]
          unfold signL
          rw [if_neg (by omega), if_neg (by omega), if_neg (by omega), if_neg (by omega), if_pos h4]
          simp
        split
        · rename_i h1 h2 h3 h4 h5
          rw [if_neg h1, if_neg h2, if_neg h3, if_neg h4, if_pos h5] at h
          simp at h
        · rename_i h1 h2 h3 h4 h5
          rw [if_neg h1, if_neg h2, if_neg h3, if_neg h4, if_neg h5] at h
          have hn : (hexL r2).2.1 = 4 := by
            unfold hexL at h ⊢
            repeat' split at h
            all_goals simp_all
          rw [hn]
          exact signL_len _ _
    · have hc2 : c.toNat ≠ 92 := fun e => hc (UInt8.toNat_inj.1 (by rw [e]; rfl))
      by_cases hb : c.toNat < 32 ∨ 126 < c.toNat ∨ (c.toNat ≠ 92 ∧ sp.contains c = true)
      · simp only [oneL] at h
        rw [if_pos hb] at h
        simp at h
      · have e : oneL (c :: r) sp = (c.toNat, 1, 0) := by simp only [oneL]; rw [if_neg hb, if_pos hc2]
        rw [e, UInt8.ofNat_toNat]
        have h1 : ¬ c.toNat < 32 := fun h => hb (Or.inl h)
        have h2 : ¬ 126 < c.toNat := fun h => hb (Or.inr (Or.inl h))
        have h3 : sp.contains c = false := by
          cases h : sp.contains c with
          | false => rfl
          | true => exact absurd (Or.inr (Or.inr ⟨hc2, h⟩)) hb
        unfold signL
        rw [if_neg (by omega), if_neg (by omega), if_neg (by omega), if_neg (by omega), if_neg (by rw [h3]; simp)]
        simp
theorem text_min (t : List UInt8) (h : (oneL t inText).2.2 = 0) : (signL (UInt8.ofNat (oneL t inText).1) inText).length ≤ (oneL t inText).2.1 := sign_min inText (by decide) (by decide) t h
theorem class_min (t : List UInt8) (h : (oneL t inClass).2.2 = 0) : sl (oneL t inClass).1 ≤ (oneL t inClass).2.1 := sign_min inClass (by decide) (by decide) t h
theorem flat_snoc (s : List UInt8) (b : UInt8) : (flatS inText (s ++ [b])).length = (flatS inText s).length + (signL b inText).length := by simp [flatS]
theorem unlitF_min (τ : List UInt8) : ∀ (f p : Nat) (acc s : List UInt8) (n : Nat), unlitF τ f p acc = (s, n, 0) → (flatS inText acc).length + 1 ≤ p → (litL s).length ≤ n ∧ s.length ≤ 255
  | 0, p, acc, s, n, h, _ => by simp [unlitF] at h
  | f + 1, p, acc, s, n, h, hp => by
    rw [unlitF] at h
    by_cases h0 : (oneL (τ.drop p) inText).2.2 = 0
    · rw [if_pos h0] at h
      refine unlitF_min τ f _ _ s n h ?_
      have := text_min _ h0
      rw [flat_snoc]
      omega
    · rw [if_neg h0] at h
      unfold unlitEnd at h
      split at h
      · split at h
        · simp at h
        · rename_i h1 h2
          simp only [Prod.mk.injEq] at h
          obtain ⟨rfl, rfl, _⟩ := h
          refine ⟨?_, by omega⟩
          simp [litL]
          omega
      · simp only [Prod.mk.injEq] at h
        exact absurd h.2.2 h0
theorem unlit_min {τ s : List UInt8} {n : Nat} (h : unlitL τ = (s, n, 0)) : (litL s).length ≤ n ∧ s.length ≤ 255 := by
  cases τ with
  | nil => simp [unlitL] at h
  | cons c r =>
    simp only [unlitL] at h
    split at h
    · exact unlitF_min _ _ 1 [] s n h (by simp [flatS])
    · simp at h

/-! classes, wherever they stand -/
theorem itemR_err {t : List UInt8} {k : Nat} {e : Int} (h : itemR t = .inl (k, e)) : k ≤ t.length ∧ e ≠ 0 := by
  unfold itemR at h
  have h1 := oneL_le t inClass
  have h2 := oneL_le (t.drop ((oneL t inClass).2.1 + 1)) inClass
  rw [List.length_drop] at h2
  split at h
  · rename_i h0
    simp only [Sum.inl.injEq, Prod.mk.injEq] at h
    obtain ⟨rfl, rfl⟩ := h
    exact ⟨h1.1, h0⟩
  split at h
  · rename_i h45
    have hl : (oneL t inClass).2.1 < t.length := by
      rcases Nat.lt_or_ge (oneL t inClass).2.1 t.length with h | h
      · exact h
      · rw [List.drop_of_length_le h] at h45; simp at h45
    split at h
    · rename_i h0
      simp only [Sum.inl.injEq, Prod.mk.injEq] at h
      obtain ⟨rfl, rfl⟩ := h
      exact ⟨by omega, h0⟩
    split at h
    · simp only [Sum.inl.injEq, Prod.mk.injEq] at h
      obtain ⟨rfl, rfl⟩ := h
      exact ⟨by omega, by decide⟩
    · simp at h
  · simp at h
theorem itemR_ok {t : List UInt8} {a b k : Nat} (h : itemR t = .inr (a, b, k)) : k ≤ t.length ∧ 1 ≤ k ∧ ItmOk (a, b, k) := by
  unfold itemR at h
  have h1 := oneL_le t inClass
  have h2 := oneL_le (t.drop ((oneL t inClass).2.1 + 1)) inClass
  have b1 := oneL_byte t inClass
  have b2 := oneL_byte (t.drop ((oneL t inClass).2.1 + 1)) inClass
  rw [List.length_drop] at h2
  split at h
  · simp at h
  rename_i h0
  have h0' : (oneL t inClass).2.2 = 0 := by simpa using h0
  have c1 := class_min t h0'
  split at h
  · rename_i h45
    have hl : (oneL t inClass).2.1 < t.length := by
      rcases Nat.lt_or_ge (oneL t inClass).2.1 t.length with h | h
      · exact h
      · rw [List.drop_of_length_le h] at h45; simp at h45
    split at h
    · simp at h
    rename_i g0
    have g0' : (oneL (t.drop ((oneL t inClass).2.1 + 1)) inClass).2.2 = 0 := by simpa using g0
    have c2 := class_min _ g0'
    split at h
    · simp at h
    · rename_i hlt
      simp only [Sum.inr.injEq, Prod.mk.injEq] at h
      obtain ⟨rfl, rfl, rfl⟩ := h
      exact ⟨by omega, by omega, ⟨by simp; omega, b2, Or.inr (by simp; omega)⟩⟩
  · simp only [Sum.inr.injEq, Prod.mk.injEq] at h
    obtain ⟨rfl, rfl, rfl⟩ := h
    exact ⟨h1.1, h1.2 h0', ⟨Nat.le_refl _, b1, Or.inl ⟨rfl, c1⟩⟩⟩
/-- As unclsF, of what stands there alone. -/
def unD (neg : Bool) : Nat → List UInt8 → Nat → Nat × Nat × Int
  | 0, _, _ => (0, 0, 4)
  | f + 1, t, s =>
    match t with
    | [] => (0, 0, 8)
    | c :: r => if c = 93 then (if neg then s ^^^ full else s, 1, 0)
      else match itemR (c :: r) with
        | .inl (k, e) => (0, k, e)
        | .inr (a, b, k) => ((unD neg f ((c :: r).drop k) (s ||| rng (a : Int) ((b : Int) + 1))).1, k + (unD neg f ((c :: r).drop k) (s ||| rng (a : Int) ((b : Int) + 1))).2.1, (unD neg f ((c :: r).drop k) (s ||| rng (a : Int) ((b : Int) + 1))).2.2)
theorem unD_eq (τ : List UInt8) (neg : Bool) : ∀ (f p S : Nat), (τ.drop p).length < f → unclsF τ neg f p S = ((unD neg f (τ.drop p) S).1, p + (unD neg f (τ.drop p) S).2.1, (unD neg f (τ.drop p) S).2.2)
  | 0, p, S, h => by omega
  | f + 1, p, S, h => by
    rw [unclsF]
    cases hd : τ.drop p with
    | nil => rw [unD]; rfl
    | cons c r =>
      rw [unD]
      try simp only []
      by_cases h93 : c = 93
      · rw [if_pos h93, if_pos h93]
      · rw [if_neg h93, if_neg h93]
        cases hi : itemR (c :: r) with
        | inl x => rfl
        | inr x =>
          obtain ⟨a, b, k⟩ := x
          have hk := itemR_ok hi
          have hdd : τ.drop (p + k) = (c :: r).drop k := by rw [← List.drop_drop, hd]
          simp only []
          rw [unD_eq τ neg f (p + k) _ (by rw [hdd, List.length_drop]; rw [hd] at h; omega), hdd]
          simp [Nat.add_assoc]
theorem unD_fuel (neg : Bool) : ∀ (f g : Nat) (t : List UInt8) (S : Nat), t.length < f → t.length < g → unD neg f t S = unD neg g t S
  | 0, _, t, S, h, _ => by omega
  | f + 1, 0, t, S, _, h => by omega
  | f + 1, g + 1, t, S, hf, hg => by
    cases t with
    | nil => rw [unD, unD]
    | cons c r =>
      rw [unD, unD]
      try simp only []
      by_cases h93 : c = 93
      · rw [if_pos h93, if_pos h93]
      · rw [if_neg h93, if_neg h93]
        cases hi : itemR (c :: r) with
        | inl x => rfl
        | inr x =>
          obtain ⟨a, b, k⟩ := x
          have hk := itemR_ok hi
          simp only []
          rw [unD_fuel neg f g _ _ (by rw [List.length_drop]; omega) (by rw [List.length_drop]; omega)]
theorem unD_facts : ∀ (f : Nat) (t : List UInt8) (S : Nat), t.length < f → S < 2 ^ 256 →
    (unD false f t S).2.1 ≤ t.length ∧ ((unD false f t S).2.2 ≠ 0 → (unD false f t S).1 = 0 ∧ unD true f t S = unD false f t S) ∧
    ((unD false f t S).2.2 = 0 → 1 ≤ (unD false f t S).2.1 ∧ t[(unD false f t S).2.1 - 1]? = some 93 ∧ (unD false f t S).1 < 2 ^ 256 ∧ unD true f t S = ((unD false f t S).1 ^^^ full, (unD false f t S).2.1, 0) ∧
      ∃ I : List Itm, (∀ i ∈ I, ItmOk i) ∧ orFrom S (I.map fun i => (i.1, i.2.1)) = (unD false f t S).1 ∧ sumK I + 1 = (unD false f t S).2.1)
  | 0, t, S, h, _ => by omega
  | f + 1, t, S, hf, hS => by
    cases t with
    | nil => rw [unD, unD]; exact ⟨Nat.le_refl _, fun _ => ⟨rfl, rfl⟩, fun h => by simp at h⟩
    | cons c r =>
      rw [unD, unD]
      try simp only []
      by_cases h93 : c = 93
      · rw [if_pos h93, if_pos h93]
        refine ⟨by simp, fun h => by simp at h, fun _ => ⟨Nat.le_refl _, by rw [h93]; rfl, hS, rfl, [], by simp, rfl, rfl⟩⟩
      · rw [if_neg h93, if_neg h93]
        cases hi : itemR (c :: r) with
        | inl x =>
          obtain ⟨k, e⟩ := x
          have := itemR_err hi
          exact ⟨this.1, fun _ => ⟨rfl, rfl⟩, fun h => absurd h this.2⟩
        | inr x =>
          obtain ⟨a, b, k⟩ := x
          have hk := itemR_ok hi
          have ih := unD_facts f ((c :: r).drop k) (S ||| rng (a : Int) ((b : Int) + 1)) (by rw [List.length_drop]; omega) (Nat.or_lt_two_pow hS (rng_lt _ _))
          simp only []
          generalize unD false f ((c :: r).drop k) (S ||| rng (a : Int) ((b : Int) + 1)) = D at ih ⊢
          generalize unD true f ((c :: r).drop k) (S ||| rng (a : Int) ((b : Int) + 1)) = E at ih ⊢
          rw [List.length_drop] at ih
          refine ⟨by omega, fun h => ?_, fun h => ?_⟩
          · obtain ⟨h1, h2⟩ := ih.2.1 h
            exact ⟨h1, by rw [h2]⟩
          · obtain ⟨h1, h2, h3, h4, I, h5, h6, h7⟩ := ih.2.2 h
            refine ⟨by omega, ?_, h3, ?_, (a, b, k) :: I, ?_, ?_, ?_⟩
            · rw [List.getElem?_drop] at h2
              rw [show k + D.2.1 - 1 = k + (D.2.1 - 1) by omega]; exact h2
            · rw [h4]
            · intro i hi
              rcases List.mem_cons.1 hi with rfl | hi
              · exact hk.2.2
              · exact h5 i hi
            · rw [List.map_cons]; exact h6
            · simp only [sumK]; omega
end Go.Proofs.YtcpgbakdfogilaaDoor
