/- What is written is read as it was: plain. -/
import Derived.Test.YtcpgbakdfogilaaDoorQuoteO
namespace Go.Proofs.YtcpgbakdfogilaaDoor
open Go.RowKit
set_option maxRecDepth 100000

/-! signs, byte by byte -/
def sgnOk (b : UInt8) : Bool :=
  (signL b inText).all (fun c => decide (32 ≤ c.toNat) && decide (c.toNat ≤ 126)) && (signL b inClass).all (fun c => decide (32 ≤ c.toNat) && decide (c.toNat ≤ 126)) &&
  decide (1 ≤ (signL b inText).length) && decide (1 ≤ (signL b inClass).length) &&
  (match signL b inClass with | h :: _ => h != 93 && h != 45 && h != 94 | [] => false) && (match signL b inText with | h :: _ => h != 34 | [] => false)
theorem sgnOk_all : ∀ n, n < 256 → sgnOk (UInt8.ofNat n) = true := by decide +kernel
theorem sgnOk_any (b : UInt8) : sgnOk b = true := by
  have := sgnOk_all b.toNat b.toNat_lt
  rwa [UInt8.ofNat_toNat] at this
theorem class_head (b : UInt8) : ∃ h r, signL b inClass = h :: r ∧ h ≠ 93 ∧ h ≠ 45 ∧ h ≠ 94 := by
  have := sgnOk_any b
  unfold sgnOk at this
  cases hs : signL b inClass with
  | nil => simp [hs] at this
  | cons h r =>
    simp [hs] at this
    refine ⟨h, r, rfl, ?_⟩
    simp_all
theorem text_sign (b : UInt8) (rest : List UInt8) : oneL (signL b inText ++ rest) inText = (b.toNat, (signL b inText).length, 0) := one_sign inText rest (by decide) (by decide) b
theorem class_sign (b : UInt8) (rest : List UInt8) : oneL (signL b inClass ++ rest) inClass = (b.toNat, (signL b inClass).length, 0) := one_sign inClass rest (by decide) (by decide) b

/-! literals -/
theorem unlit_flat (τ t : List UInt8) : ∀ (s acc : List UInt8) (f p : Nat), s.length < f → τ.drop p = flatS inText s ++ 34 :: t →
    unlitF τ f p acc = if 255 < (acc ++ s).length then ([], 0, 40) else (acc ++ s, p + (flatS inText s).length + 1, 0)
  | [], acc, f, p, hf, h => by
    obtain ⟨f, rfl⟩ : ∃ g, f = g + 1 := ⟨f - 1, by simp at hf; omega⟩
    have h1 : τ.drop p = 34 :: t := h
    have h2 : oneL (34 :: t) inText = (0, 0, 4) := rfl
    have h3 : τ[p]? = some 34 := by
      have := congrArg List.head? h1
      rwa [List.head?_drop] at this
    rw [unlitF, h1, h2, if_neg (by decide)]
    unfold unlitEnd
    rw [if_pos ⟨rfl, rfl, h3⟩]
    simp [flatS]
  | b :: s, acc, f, p, hf, h => by
    obtain ⟨f, rfl⟩ : ∃ g, f = g + 1 := ⟨f - 1, by simp at hf; omega⟩
    have h1 : τ.drop p = signL b inText ++ (flatS inText s ++ 34 :: t) := by rw [h]; simp [flatS]
    have h2 : τ.drop (p + (signL b inText).length) = flatS inText s ++ 34 :: t := by rw [← List.drop_drop, h1, List.drop_left]
    rw [unlitF, h1, text_sign, if_pos rfl, unlit_flat τ t s _ f _ (by simp at hf; omega) h2]
    simp [flatS, Nat.add_assoc]
theorem sgn_pos (b : UInt8) : 1 ≤ (signL b inText).length ∧ 1 ≤ (signL b inClass).length := by
  have := sgnOk_any b
  unfold sgnOk at this
  simp only [Bool.and_eq_true, decide_eq_true_eq] at this
  exact ⟨this.1.1.1.2, this.1.1.2⟩
theorem flat_cons (b : UInt8) (s : List UInt8) : flatS inText (b :: s) = signL b inText ++ flatS inText s := by simp [flatS]
theorem flat_len (s : List UInt8) : s.length ≤ (flatS inText s).length := by
  induction s with
  | nil => simp
  | cons b s ih => rw [flat_cons, List.length_append, List.length_cons]; have := (sgn_pos b).1; omega
/-- What was written is read as it was, whatever stands behind it. -/
theorem unlit_lit (s t : List UInt8) : unlitL (litL s ++ t) = if 255 < s.length then ([], 0, 40) else (s, (litL s).length, 0) := by
  have h : litL s ++ t = 34 :: (flatS inText s ++ 34 :: t) := by simp [litL]
  rw [h]
  have hf := flat_len s
  have hll : (litL s).length = 1 + (flatS inText s).length + 1 := by simp [litL]; omega
  rw [hll]
  simp only [unlitL]
  rw [if_pos trivial, unlit_flat _ t s [] _ 1 (by simp; omega) rfl, List.nil_append]

/-! classes -/
theorem rng_one (a : Nat) : rng (a : Int) ((a : Int) + 1) ||| rng ((a + 1 : Nat) : Int) (((a + 1 : Nat) : Int) + 1) = rng (a : Int) (((a + 1 : Nat) : Int) + 1) := by
  refine set_ext (Nat.or_lt_two_pow (rng_lt _ _) (rng_lt _ _)) (rng_lt _ _) fun i hi => ?_
  rw [Nat.testBit_or, rng_bit _ _ i hi, rng_bit _ _ i hi, rng_bit _ _ i hi, Bool.eq_iff_iff]
  simp only [Bool.or_eq_true, Bool.and_eq_true, decide_eq_true_eq]
  omega
def orFrom (S : Nat) (r : List (Nat × Nat)) : Nat := r.foldl (fun (a : Nat) p => a ||| rng (p.1 : Int) ((p.2 : Int) + 1)) S
theorem item_one (b : UInt8) (rest : List UInt8) (hr : rest.head? ≠ some 45) : itemR (signL b inClass ++ rest) = .inr (b.toNat, b.toNat, (signL b inClass).length) := by
  unfold itemR
  rw [class_sign, List.drop_left, if_neg (by simp), if_neg hr]
theorem item_two (a b : UInt8) (rest : List UInt8) (hab : a.toNat ≤ b.toNat) : itemR (signL a inClass ++ 45 :: (signL b inClass ++ rest)) = .inr (a.toNat, b.toNat, (signL a inClass).length + 1 + (signL b inClass).length) := by
  have h1 : (signL a inClass ++ 45 :: (signL b inClass ++ rest)).drop ((signL a inClass).length + 1) = signL b inClass ++ rest := by
    rw [← List.drop_drop, List.drop_left]; rfl
  unfold itemR
  rw [class_sign, List.drop_left, h1, class_sign, if_neg (by simp), if_pos (show (45 :: (signL b inClass ++ rest)).head? = some 45 from rfl), if_neg (by simp), if_neg (by simp; omega)]
theorem unclsF_item (τ : List UInt8) (neg : Bool) (f p S a b k : Nat) (c : UInt8) (r : List UInt8) (h : τ.drop p = c :: r) (hc : c ≠ 93) (hi : itemR (c :: r) = .inr (a, b, k)) : unclsF τ neg (f + 1) p S = unclsF τ neg f (p + k) (S ||| rng (a : Int) ((b : Int) + 1)) := by
  rw [unclsF, h]
  simp only []
  rw [if_neg hc, hi]
theorem items_head (R : List (Nat × Nat)) (t : List UInt8) : ∃ h r, itemsL R ++ 93 :: t = h :: r ∧ h ≠ 45 ∧ h ≠ 94 := by
  cases R with
  | nil => exact ⟨93, t, rfl, by decide, by decide⟩
  | cons p R =>
    obtain ⟨h, r, hs, _, h45, h94⟩ := class_head (UInt8.ofNat p.1)
    have : ∃ r', itemL p = h :: r' := by
      unfold itemL
      rw [hs]
      repeat' split
      all_goals exact ⟨_, rfl⟩
    obtain ⟨r', hr'⟩ := this
    exact ⟨h, r' ++ itemsL R ++ 93 :: t, by simp [itemsL, hr'], h45, h94⟩
theorem ofNat_toNat {n : Nat} (h : n < 256) : (UInt8.ofNat n).toNat = n := by rw [UInt8.toNat_ofNat']; omega
theorem uncls_items (τ t : List UInt8) (neg : Bool) : ∀ (R : List (Nat × Nat)) (f p S : Nat), (∀ q ∈ R, q.1 ≤ q.2 ∧ q.2 < 256) → (itemsL R).length < f → τ.drop p = itemsL R ++ 93 :: t →
    unclsF τ neg f p S = (if neg then orFrom S R ^^^ full else orFrom S R, p + (itemsL R).length + 1, 0)
  | [], f, p, S, _, hf, h => by
    obtain ⟨f, rfl⟩ : ∃ g, f = g + 1 := ⟨f - 1, by omega⟩
    have h1 : τ.drop p = 93 :: t := h
    rw [unclsF, h1]
    simp [itemsL, orFrom]
  | q :: R, f, p, S, hR, hf, h => by
    obtain ⟨f, rfl⟩ : ∃ g, f = g + 1 := ⟨f - 1, by omega⟩
    have hq := hR q (List.mem_cons_self ..)
    have hR' : ∀ q ∈ R, q.1 ≤ q.2 ∧ q.2 < 256 := fun x hx => hR x (List.mem_cons_of_mem _ hx)
    have h0 : τ.drop p = itemL q ++ (itemsL R ++ 93 :: t) := by rw [h]; simp [itemsL]
    obtain ⟨z, zr, hz, hz45, _⟩ := items_head R t
    have hzh : (itemsL R ++ 93 :: t).head? ≠ some 45 := by rw [hz]; simpa using hz45
    obtain ⟨c, r, hs, hc93, _, _⟩ := class_head (UInt8.ofNat q.1)
    have e1 := ofNat_toNat (n := q.1) (by omega)
    have e2 := ofNat_toNat (n := q.2) (by omega)
    have hlen : (itemsL (q :: R)).length = (itemL q).length + (itemsL R).length := by simp [itemsL]
    have hor : orFrom S (q :: R) = orFrom (S ||| rng (q.1 : Int) ((q.2 : Int) + 1)) R := rfl
    rw [hlen] at hf
    rw [hlen, hor]
    have sp1 := (sgn_pos (UInt8.ofNat q.1)).2
    have sp2 := (sgn_pos (UInt8.ofNat q.2)).2
    by_cases h1 : q.2 = q.1
    · have hi : itemL q = signL (UInt8.ofNat q.1) inClass := by unfold itemL; rw [if_pos h1]
      rw [hi] at h0 hf ⊢
      have hit := item_one (UInt8.ofNat q.1) (itemsL R ++ 93 :: t) hzh
      rw [e1] at hit
      have hd : τ.drop (p + (signL (UInt8.ofNat q.1) inClass).length) = itemsL R ++ 93 :: t := by rw [← List.drop_drop, h0, List.drop_left]
      rw [unclsF_item τ neg f p S q.1 q.1 _ c (r ++ (itemsL R ++ 93 :: t)) (by rw [h0, hs]; rfl) hc93 (by rw [← List.cons_append, ← hs]; exact hit),
        uncls_items τ t neg R f _ _ hR' (by omega) hd, h1]
      simp [Nat.add_assoc]
    · by_cases h2 : q.2 = q.1 + 1
      · have hi : itemL q = signL (UInt8.ofNat q.1) inClass ++ signL (UInt8.ofNat q.2) inClass := by unfold itemL; rw [if_neg h1, if_pos h2]
        rw [hi, List.length_append] at hf
        rw [hi] at h0 ⊢
        obtain ⟨c2, r2, hs2, hc932, hc452, _⟩ := class_head (UInt8.ofNat q.2)
        obtain ⟨f, rfl⟩ : ∃ g, f = g + 1 := ⟨f - 1, by omega⟩
        rw [List.append_assoc] at h0
        have hit := item_one (UInt8.ofNat q.1) (signL (UInt8.ofNat q.2) inClass ++ (itemsL R ++ 93 :: t)) (by rw [hs2]; simpa using hc452)
        have hit2 := item_one (UInt8.ofNat q.2) (itemsL R ++ 93 :: t) hzh
        rw [e1] at hit
        rw [e2] at hit2
        have hd : τ.drop (p + (signL (UInt8.ofNat q.1) inClass).length) = signL (UInt8.ofNat q.2) inClass ++ (itemsL R ++ 93 :: t) := by rw [← List.drop_drop, h0, List.drop_left]
        have hd2 : τ.drop (p + (signL (UInt8.ofNat q.1) inClass).length + (signL (UInt8.ofNat q.2) inClass).length) = itemsL R ++ 93 :: t := by rw [← List.drop_drop, hd, List.drop_left]
        rw [unclsF_item τ neg (f + 1) p S q.1 q.1 _ c (r ++ (signL (UInt8.ofNat q.2) inClass ++ (itemsL R ++ 93 :: t))) (by rw [h0, hs]; rfl) hc93 (by rw [← List.cons_append, ← hs]; exact hit),
          unclsF_item τ neg f _ _ q.2 q.2 _ c2 (r2 ++ (itemsL R ++ 93 :: t)) (by rw [hd, hs2]; rfl) hc932 (by rw [← List.cons_append, ← hs2]; exact hit2),
          uncls_items τ t neg R f _ _ hR' (by omega) hd2]
        rw [Nat.or_assoc, h2, rng_one]
        simp [Nat.add_assoc]
      · have hi : itemL q = signL (UInt8.ofNat q.1) inClass ++ [45] ++ signL (UInt8.ofNat q.2) inClass := by unfold itemL; rw [if_neg h1, if_neg h2]
        rw [hi, List.length_append, List.length_append] at hf
        rw [hi] at h0 ⊢
        have h0' : τ.drop p = signL (UInt8.ofNat q.1) inClass ++ 45 :: (signL (UInt8.ofNat q.2) inClass ++ (itemsL R ++ 93 :: t)) := by rw [h0]; simp
        have hit := item_two (UInt8.ofNat q.1) (UInt8.ofNat q.2) (itemsL R ++ 93 :: t) (by rw [e1, e2]; exact hq.1)
        rw [e1, e2] at hit
        have hd : τ.drop (p + ((signL (UInt8.ofNat q.1) inClass).length + 1 + (signL (UInt8.ofNat q.2) inClass).length)) = itemsL R ++ 93 :: t := by
          rw [← List.drop_drop, h0', ← List.drop_drop, ← List.drop_drop, List.drop_left]
          simp only [List.drop_succ_cons, List.drop_zero, List.drop_left]
        rw [unclsF_item τ neg f p S q.1 q.2 _ c (r ++ 45 :: (signL (UInt8.ofNat q.2) inClass ++ (itemsL R ++ 93 :: t))) (by rw [h0', hs]; rfl) hc93 (by rw [← List.cons_append, ← hs]; exact hit),
          uncls_items τ t neg R f _ _ hR' (by omega) hd]
        simp
        omega
/-- The class of a set is read as the set, whatever stands behind it. -/
theorem uncls_class (s : Nat) (hs : s < 2 ^ 256) (hne : s ≠ full) (t : List UInt8) : unclassL (classL s ++ t) = (s, (classL s).length, 0) := by
  have hc : classL s = 91 :: itemsL (runsL (bytesTo s 256)) ++ [93] := by unfold classL; rw [if_neg hne]
  have hg := goodRuns s 256 (Nat.le_refl _)
  have ho := orRuns_self hs
  obtain ⟨R, hR⟩ : ∃ R, runsL (bytesTo s 256) = R := ⟨_, rfl⟩
  rw [hR] at hg ho hc
  have h : classL s ++ t = 91 :: (itemsL R ++ 93 :: t) := by rw [hc]; simp
  obtain ⟨z, zr, hz, _, hz94⟩ := items_head R t
  have ht : (91 :: (itemsL R ++ 93 :: t)).length = (itemsL R).length + t.length + 2 := by simp; omega
  simp only [unclassL, h]
  rw [if_pos trivial, if_neg (by rw [hz]; simpa using hz94), uncls_items _ t false R _ 1 0 hg.each (by rw [ht]; omega) rfl, hc]
  have ho' : orFrom 0 R = s := ho
  simp [ho']
  omega
end Go.Proofs.YtcpgbakdfogilaaDoor
