/- Sets of bytes as numbers below 2^256, and their four words: plain arithmetic, no program. -/
import Derived.WalkKit
import Derived.Laws.BitsAllLaws
namespace Go.Proofs.YtcpgbakdfogilaaDoor
open Go.RowKit

/-- The word i of a set. -/
def w64 (s i : Nat) : Int := ((s / 2 ^ (64 * i) % 2 ^ 64 : Nat) : Int)
/-- A set as a value. -/
abbrev setV (s : Nat) : Value := .agg #[.int .u64 (w64 s 0), .int .u64 (w64 s 1), .int .u64 (w64 s 2), .int .u64 (w64 s 3)]
abbrev setC (s : Nat) : Obj := .cells #[.int .u64 (w64 s 0), .int .u64 (w64 s 1), .int .u64 (w64 s 2), .int .u64 (w64 s 3)] 24
def full : Nat := 2 ^ 256 - 1

theorem w64_nonneg (s i : Nat) : 0 ≤ w64 s i := by unfold w64; omega
theorem w64_lt (s i : Nat) : w64 s i < 18446744073709551616 := by unfold w64; omega
theorem w64_bit (s i j : Nat) (hj : j < 64) : (w64 s i).toNat.testBit j = s.testBit (64 * i + j) := by
  unfold w64
  rw [Int.toNat_natCast, Nat.testBit_mod_two_pow, Nat.testBit_div_two_pow, decide_eq_true hj, Bool.true_and, Nat.add_comm]
theorem lt_bit {s : Nat} (hs : s < 2 ^ 256) (i : Nat) (h : 256 ≤ i) : s.testBit i = false :=
  Nat.testBit_lt_two_pow (Nat.lt_of_lt_of_le hs (Nat.pow_le_pow_right (by decide) h))
/-- Two sets of the same bytes are one. -/
theorem set_ext {s t : Nat} (hs : s < 2 ^ 256) (ht : t < 2 ^ 256) (h : ∀ i, i < 256 → s.testBit i = t.testBit i) : s = t := by
  apply Nat.eq_of_testBit_eq
  intro i
  by_cases hi : i < 256
  · exact h i hi
  · rw [lt_bit hs i (by omega), lt_bit ht i (by omega)]
theorem words_ext {s t : Nat} (hs : s < 2 ^ 256) (ht : t < 2 ^ 256) (h0 : w64 s 0 = w64 t 0) (h1 : w64 s 1 = w64 t 1) (h2 : w64 s 2 = w64 t 2) (h3 : w64 s 3 = w64 t 3) : s = t := by
  apply set_ext hs ht
  intro i hi
  have key : ∀ k, w64 s k = w64 t k → ∀ j, j < 64 → s.testBit (64 * k + j) = t.testBit (64 * k + j) := fun k hk j hj => by rw [← w64_bit s k j hj, ← w64_bit t k j hj, hk]
  have e : i = 64 * (i / 64) + i % 64 := by omega
  rw [e]
  have hm : i % 64 < 64 := by omega
  have hq : i / 64 = 0 ∨ i / 64 = 1 ∨ i / 64 = 2 ∨ i / 64 = 3 := by omega
  rcases hq with hq | hq | hq | hq <;> rw [hq]
  · exact key 0 h0 _ hm
  · exact key 1 h1 _ hm
  · exact key 2 h2 _ hm
  · exact key 3 h3 _ hm
theorem setV_inj {s t : Nat} (hs : s < 2 ^ 256) (ht : t < 2 ^ 256) : setV s = setV t ↔ s = t := by
  constructor
  · intro h
    injection h with h
    simp only [Array.mk.injEq, List.cons.injEq, Value.int.injEq, true_and, and_true] at h
    exact words_ext hs ht h.1 h.2.1 h.2.2.1 h.2.2.2
  · rintro rfl; rfl
/-- A word is known by its bits. -/
theorem word_eq {x : Nat} (hx : x < 2 ^ 64) (s i : Nat) (h : ∀ j, j < 64 → x.testBit j = s.testBit (64 * i + j)) : (x : Int) = w64 s i := by
  unfold w64
  congr 1
  apply Nat.eq_of_testBit_eq
  intro j
  rw [Nat.testBit_mod_two_pow, Nat.testBit_div_two_pow]
  by_cases hj : j < 64
  · rw [h j hj, decide_eq_true hj, Bool.true_and, Nat.add_comm]
  · rw [Nat.testBit_lt_two_pow (Nat.lt_of_lt_of_le hx (Nat.pow_le_pow_right (by decide) (by omega))), decide_eq_false hj, Bool.false_and]
theorem w64_natlt (s i : Nat) : (w64 s i).toNat < 2 ^ 64 := by unfold w64; omega
theorem w64_cast (s i : Nat) : ((w64 s i).toNat : Int) = w64 s i := Int.toNat_of_nonneg (w64_nonneg s i)

theorem w64_or (a b i : Nat) : bits .or .u64 (w64 a i) (w64 b i) = w64 (a ||| b) i := by
  rw [u64_or _ _ (w64_nonneg _ _) (w64_lt _ _) (w64_nonneg _ _) (w64_lt _ _)]
  exact word_eq (Nat.or_lt_two_pow (w64_natlt _ _) (w64_natlt _ _)) _ _ fun j hj => by rw [Nat.testBit_or, w64_bit _ _ _ hj, w64_bit _ _ _ hj, Nat.testBit_or]
theorem w64_and (a b i : Nat) : bits .and .u64 (w64 a i) (w64 b i) = w64 (a &&& b) i := by
  rw [u64_and _ _ (w64_nonneg _ _) (w64_lt _ _) (w64_nonneg _ _) (w64_lt _ _)]
  exact word_eq (Nat.and_lt_two_pow _ (w64_natlt _ _)) _ _ fun j hj => by rw [Nat.testBit_and, w64_bit _ _ _ hj, w64_bit _ _ _ hj, Nat.testBit_and]
theorem mask_bit (x j : Nat) (hx : x < 2 ^ 64) (hj : j < 64) : (18446744073709551615 - x).testBit j = !x.testBit j := by
  have h := Nat.testBit_two_pow_sub_succ hx j
  rw [decide_eq_true hj, Bool.true_and] at h
  rw [← h]
  congr 1
  omega
theorem full_bit (j : Nat) : full.testBit j = decide (j < 256) := Nat.testBit_two_pow_sub_one 256 j
theorem w64_andNot (a b i : Nat) (hi : i < 4) : bits .andNot .u64 (w64 a i) (w64 b i) = w64 (a &&& (b ^^^ full)) i := by
  rw [u64_andNot _ _ (w64_nonneg _ _) (w64_lt _ _) (w64_nonneg _ _) (w64_lt _ _)]
  exact word_eq (Nat.and_lt_two_pow _ (by omega)) _ _ fun j hj => by
    rw [Nat.testBit_and, w64_bit _ _ _ hj, mask_bit _ _ (w64_natlt _ _) hj, w64_bit _ _ _ hj, Nat.testBit_and, Nat.testBit_xor, full_bit, decide_eq_true (show 64 * i + j < 256 by omega), Bool.xor_true]
theorem w64_not (a i : Nat) (hi : i < 4) : 18446744073709551615 - w64 a i = w64 (a ^^^ full) i := by
  have h : ((18446744073709551615 - (w64 a i).toNat : Nat) : Int) = w64 (a ^^^ full) i :=
    word_eq (by omega) _ _ fun j hj => by rw [mask_bit _ _ (w64_natlt _ _) hj, w64_bit _ _ _ hj, Nat.testBit_xor, full_bit, decide_eq_true (show 64 * i + j < 256 by omega), Bool.xor_true]
  have := w64_lt a i
  have := w64_cast a i
  omega

/-- A byte is in a set: as the program asks, and as the reference asks. -/
theorem shift_mod (s i : Nat) (b : Int) (h0 : 0 ≤ b) (h : b / 64 = i) : w64 s i / 2 ^ (b % 64).toNat % 2 = if s.testBit b.toNat then 1 else 0 := by
  obtain ⟨n, rfl⟩ := Int.eq_ofNat_of_zero_le h0
  have e1 : ((n : Int) % 64).toNat = n % 64 := by omega
  have e2 : n / 64 = i := by omega
  have e3 : n = 64 * i + n % 64 := by omega
  have hb := w64_bit s i (n % 64) (by omega)
  rw [← e3] at hb
  rw [e1, Int.toNat_natCast, ← hb, ← w64_cast s i, Int.toNat_natCast, Nat.testBit_eq_decide_div_mod_eq]
  generalize (w64 s i).toNat = x
  have hc : ((x : Int) / 2 ^ (n % 64) % 2) = ((x / 2 ^ (n % 64) % 2 : Nat) : Int) := by simp
  rw [hc]
  rcases Nat.mod_two_eq_zero_or_one (x / 2 ^ (n % 64)) with h | h <;> simp [h]
theorem and_one (x : Int) (h0 : 0 ≤ x) (h1 : x < 18446744073709551616) : bits .and .u64 x 1 = x % 2 := by
  rw [u64_and _ _ h0 h1 (by decide) (by decide)]
  show ((x.toNat &&& 1 : Nat) : Int) = _
  rw [nat_mask1]
  omega
theorem shift_lt (s i n : Nat) : 0 ≤ w64 s i / 2 ^ n ∧ w64 s i / 2 ^ n < 18446744073709551616 := by
  have h0 := w64_nonneg s i
  have h1 := w64_lt s i
  have hp : (0 : Int) < 2 ^ n := Int.pow_pos (by decide)
  exact ⟨Int.ediv_nonneg h0 (Int.le_of_lt hp), Int.lt_of_le_of_lt (Int.ediv_le_self _ h0) h1⟩
theorem has_prog (s i : Nat) (b : Int) (h0 : 0 ≤ b) (h : b / 64 = i) : (bits .and .u64 (w64 s i / 2 ^ (b % 64).toNat) 1 == 1) = s.testBit b.toNat := by
  have hl := shift_lt s i (b % 64).toNat
  rw [and_one _ hl.1 hl.2, shift_mod s i b h0 h]
  cases s.testBit b.toNat <;> rfl
theorem has_ref (s i : Nat) (b : Int) (h0 : 0 ≤ b) (h : b / 64 = i) : (w64 s i / 2 ^ (b % 64).toNat % 2 == 1) = s.testBit b.toNat := by
  rw [shift_mod s i b h0 h]
  cases s.testBit b.toNat <;> rfl

/-- The bit of a byte. -/
def bitOf (b : Int) : Nat := 2 ^ b.toNat
theorem bitOf_bit (b : Int) (j : Nat) : (bitOf b).testBit j = decide (b.toNat = j) := Nat.testBit_two_pow
theorem bitOf_lt (b : Int) (h : b < 256) : bitOf b < 2 ^ 256 := Nat.pow_lt_pow_right (by decide) (by omega)
theorem w64_same (s t i : Nat) (h : ∀ j, j < 64 → s.testBit (64 * i + j) = t.testBit (64 * i + j)) : w64 s i = w64 t i := by
  rw [← w64_cast s i]
  exact word_eq (w64_natlt s i) t i fun j hj => by rw [w64_bit s i j hj]; exact h j hj
theorem w64_or_other (s i : Nat) (b : Int) (h0 : 0 ≤ b) (h : b / 64 ≠ i) : w64 (s ||| bitOf b) i = w64 s i := by
  apply w64_same
  intro j hj
  rw [Nat.testBit_or, bitOf_bit, decide_eq_false (by omega), Bool.or_false]
theorem w64_bitOf (i : Nat) (b : Int) (h0 : 0 ≤ b) (h : b / 64 = i) : (2 : Int) ^ (b % 64).toNat = w64 (bitOf b) i := by
  have e : ((2 ^ (b % 64).toNat : Nat) : Int) = w64 (bitOf b) i := word_eq (Nat.pow_lt_pow_right (by decide) (by omega)) _ _ fun j hj => by
    rw [Nat.testBit_two_pow, bitOf_bit]
    by_cases hh : (b % 64).toNat = j
    · rw [decide_eq_true hh, decide_eq_true (by omega)]
    · rw [decide_eq_false hh, decide_eq_false (by omega)]
  rw [← e]
  simp
theorem w64_or_bit (s i : Nat) (b : Int) (h0 : 0 ≤ b) (h : b / 64 = i) : bits .or .u64 (w64 s i) (2 ^ (b % 64).toNat) = w64 (s ||| bitOf b) i := by
  rw [w64_bitOf i b h0 h, w64_or]
/-- Where a bit is not set, adding it is laying it. -/
theorem add_or (x k : Nat) (h : x.testBit k = false) : x + 2 ^ k = x ||| 2 ^ k := by
  have hd : x &&& 2 ^ k = 0 := by
    apply Nat.eq_of_testBit_eq
    intro j
    rw [Nat.testBit_and, Nat.testBit_two_pow, Nat.zero_testBit]
    by_cases hj : k = j
    · subst hj; rw [h, Bool.false_and]
    · rw [decide_eq_false hj, Bool.and_false]
  have hl : x < 2 ^ (x + k + 1) ∧ 2 ^ k < 2 ^ (x + k + 1) := ⟨Nat.lt_of_lt_of_le Nat.lt_two_pow_self (Nat.pow_le_pow_right (by decide) (by omega)), Nat.pow_lt_pow_right (by decide) (by omega)⟩
  have hs : x + 2 ^ k < 2 ^ (x + k + 1) := by
    have h1 : x < 2 ^ (x + k) := Nat.lt_of_lt_of_le Nat.lt_two_pow_self (Nat.pow_le_pow_right (by decide) (by omega))
    have h2 : 2 ^ k ≤ 2 ^ (x + k) := Nat.pow_le_pow_right (by decide) (by omega)
    rw [Nat.pow_succ]
    omega
  have := congrArg BitVec.toNat (BitVec.add_eq_or_of_and_eq_zero (BitVec.ofNat (x + k + 1) x) (BitVec.ofNat (x + k + 1) (2 ^ k)) (BitVec.eq_of_toNat_eq (by
    rw [BitVec.toNat_and, BitVec.toNat_ofNat, BitVec.toNat_ofNat, Nat.mod_eq_of_lt hl.1, Nat.mod_eq_of_lt hl.2, hd]; simp)))
  rw [BitVec.toNat_add, BitVec.toNat_or, BitVec.toNat_ofNat, BitVec.toNat_ofNat, Nat.mod_eq_of_lt hl.1, Nat.mod_eq_of_lt hl.2, Nat.mod_eq_of_lt hs] at this
  exact this
theorem w64_add_bit (s i : Nat) (b : Int) (h0 : 0 ≤ b) (h : b / 64 = i) (hn : s.testBit b.toNat = false) : w64 s i + 2 ^ (b % 64).toNat = w64 (s ||| bitOf b) i := by
  have hb := w64_bit s i (b % 64).toNat (by omega)
  rw [show 64 * i + (b % 64).toNat = b.toNat from by omega, hn] at hb
  rw [← w64_or_bit s i b h0 h]
  have hp : (2 : Int) ^ (b % 64).toNat = ((2 ^ (b % 64).toNat : Nat) : Int) := by simp
  have hp1 : 2 ^ (b % 64).toNat < 2 ^ 64 := Nat.pow_lt_pow_right (by decide) (by omega)
  rw [hp, u64_or _ _ (w64_nonneg _ _) (w64_lt _ _) (Int.natCast_nonneg _) (by omega), Int.toNat_natCast, ← add_or _ _ hb]
  have := w64_cast s i
  omega
theorem or_self_bit (s : Nat) (b : Int) (hn : s.testBit b.toNat = true) : s ||| bitOf b = s := by
  apply Nat.eq_of_testBit_eq
  intro j
  rw [Nat.testBit_or, bitOf_bit]
  by_cases hj : b.toNat = j
  · subst hj; rw [hn, Bool.true_or]
  · rw [decide_eq_false hj, Bool.or_false]
theorem or_bit_lt (s : Nat) (b : Int) (hs : s < 2 ^ 256) (h : b < 256) : s ||| bitOf b < 2 ^ 256 := Nat.or_lt_two_pow hs (bitOf_lt b h)

/-- The set of the bytes of which p holds. -/
def upTo (p : Nat → Bool) : Nat → Nat
  | 0 => 0
  | k + 1 => if p k then upTo p k ||| 2 ^ k else upTo p k
def ofPred (p : Nat → Bool) : Nat := upTo p 256
theorem upTo_bit (p : Nat → Bool) (k j : Nat) : (upTo p k).testBit j = (decide (j < k) && p j) := by
  induction k with
  | zero => simp [upTo]
  | succ k ih =>
    unfold upTo
    by_cases hk : j = k
    · subst hk
      by_cases hp : p j = true
      · rw [if_pos hp, Nat.testBit_or, Nat.testBit_two_pow_self, Bool.or_true, hp]; simp
      · rw [if_neg hp, ih]; simp [hp]
    · have e : decide (j < k + 1) = decide (j < k) := by rw [decide_eq_decide]; omega
      by_cases hp : p k = true
      · rw [if_pos hp, Nat.testBit_or, ih, Nat.testBit_two_pow, decide_eq_false (show ¬ k = j from fun h => hk h.symm), Bool.or_false, e]
      · rw [if_neg hp, ih, e]
theorem upTo_lt (p : Nat → Bool) (k : Nat) : upTo p k < 2 ^ k := by
  induction k with
  | zero => simp [upTo]
  | succ k ih =>
    unfold upTo
    have h1 : 2 ^ k < 2 ^ (k + 1) := Nat.pow_lt_pow_right (by decide) (by omega)
    split
    · exact Nat.or_lt_two_pow (Nat.lt_trans ih h1) h1
    · exact Nat.lt_trans ih h1
theorem ofPred_bit (p : Nat → Bool) (j : Nat) : (ofPred p).testBit j = (decide (j < 256) && p j) := upTo_bit p 256 j
theorem ofPred_lt (p : Nat → Bool) : ofPred p < 2 ^ 256 := upTo_lt p 256
theorem eq_ofPred {s : Nat} (hs : s < 2 ^ 256) {p : Nat → Bool} (h : ∀ i, i < 256 → s.testBit i = p i) : s = ofPred p :=
  set_ext hs (ofPred_lt p) fun i hi => by rw [h i hi, ofPred_bit, decide_eq_true hi, Bool.true_and]
end Go.Proofs.YtcpgbakdfogilaaDoor
