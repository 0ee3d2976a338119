/- Plain laws of sets of bytes: lists, order, complement. -/
import Derived.Test.YtcpgbakdfogilaaDoorSetN
namespace Go.Proofs.YtcpgbakdfogilaaDoor
open Go.RowKit
set_option maxRecDepth 100000

theorem bytesTo_mem (s : Nat) (c : UInt8) : c ∈ bytesTo s 256 ↔ s.testBit c.toNat = true := by
  unfold bytesTo
  rw [List.mem_map]
  constructor
  · rintro ⟨i, hi, rfl⟩
    rw [List.mem_filter, List.mem_range] at hi
    rw [UInt8.toNat_ofNat', Nat.mod_eq_of_lt hi.1]; exact hi.2
  · intro h
    refine ⟨c.toNat, ?_, by simp⟩
    rw [List.mem_filter, List.mem_range]
    exact ⟨c.toNat_lt, h⟩
theorem ofBytes_bit (l : List UInt8) (n : Nat) (h : n < 256) : (ofBytes l).testBit n = l.any fun c => c.toNat == n := by
  unfold ofBytes; rw [ofPred_bit, decide_eq_true h, Bool.true_and]
theorem ofBytes_list {s : Nat} (hs : s < 2 ^ 256) : ofBytes (bytesTo s 256) = s := by
  refine set_ext (ofBytes_lt _) hs fun i hi => ?_
  rw [ofBytes_bit _ _ hi, Bool.eq_iff_iff, List.any_eq_true]
  constructor
  · rintro ⟨c, hc, he⟩
    rw [beq_iff_eq] at he
    subst he
    exact (bytesTo_mem s c).1 hc
  · intro h
    have hi' : (UInt8.ofNat i).toNat = i := by rw [UInt8.toNat_ofNat', Nat.mod_eq_of_lt hi]
    exact ⟨UInt8.ofNat i, (bytesTo_mem s _).2 (by rw [hi']; exact h), by rw [hi']; simp⟩
theorem bytesTo_inj {s t : Nat} (hs : s < 2 ^ 256) (ht : t < 2 ^ 256) (h : bytesTo s 256 = bytesTo t 256) : s = t := by
  rw [← ofBytes_list hs, ← ofBytes_list ht, h]
theorem lenOf_zero {s : Nat} (hs : s < 2 ^ 256) : lenOf s = 0 ↔ s = 0 := by
  constructor
  · intro h
    have h2 : bytesTo s 256 = [] := List.eq_nil_of_length_eq_zero h
    rw [← ofBytes_list hs, h2]; exact ofBytes_nil
  · rintro rfl; decide +kernel
theorem or_pred {a b : Nat} (ha : a < 2 ^ 256) (hb : b < 2 ^ 256) : (ofPred fun n => a.testBit n || b.testBit n) = a ||| b :=
  (eq_ofPred (Nat.or_lt_two_pow ha hb) fun i _ => by rw [Nat.testBit_or]).symm
theorem and_pred {a : Nat} (ha : a < 2 ^ 256) (b : Nat) : (ofPred fun n => a.testBit n && b.testBit n) = a &&& b :=
  (eq_ofPred (and_lt ha b) fun i _ => by rw [Nat.testBit_and]).symm
theorem minus_pred {a : Nat} (ha : a < 2 ^ 256) (b : Nat) : (ofPred fun n => a.testBit n && !b.testBit n) = a &&& (b ^^^ full) :=
  (eq_ofPred (and_lt ha _) fun i hi => by rw [Nat.testBit_and, Nat.testBit_xor, full_bit, decide_eq_true hi, Bool.xor_true]).symm
theorem full_lt : full < 2 ^ 256 := by decide
theorem not_lt {a : Nat} (ha : a < 2 ^ 256) : a ^^^ full < 2 ^ 256 := Nat.xor_lt_two_pow ha full_lt
theorem not_pred {a : Nat} (ha : a < 2 ^ 256) : (ofPred fun n => full.testBit n && !a.testBit n) = a ^^^ full :=
  (eq_ofPred (not_lt ha) fun i hi => by rw [Nat.testBit_xor, full_bit, decide_eq_true hi, Bool.xor_true, Bool.true_and]).symm
theorem range_pred (a b : Int) : (ofPred fun n => decide (a ≤ n) && decide ((n : Int) ≤ b)) = rng a (b + 1) := by
  unfold rng
  congr 1
  funext n
  rw [show decide ((n : Int) ≤ b) = decide ((n : Int) < b + 1) from by rw [decide_eq_decide]; omega]
theorem not_not {a : Nat} : a ^^^ full ^^^ full = a := by rw [Nat.xor_assoc, Nat.xor_self, Nat.xor_zero]
theorem not_or {a b : Nat} (ha : a < 2 ^ 256) (hb : b < 2 ^ 256) : (a ||| b) ^^^ full = (a ^^^ full) &&& (b ^^^ full) :=
  set_ext (not_lt (Nat.or_lt_two_pow ha hb)) (and_lt (not_lt ha) _) fun i hi => by
    rw [Nat.testBit_and, Nat.testBit_xor, Nat.testBit_xor, Nat.testBit_xor, Nat.testBit_or, full_bit, decide_eq_true hi]; cases a.testBit i <;> cases b.testBit i <;> rfl
theorem sub_or {a b : Nat} (ha : a < 2 ^ 256) (hb : b < 2 ^ 256) : (a &&& (b ^^^ full) == 0) = ((a ||| b) == b) := by
  rw [Bool.eq_iff_iff, beq_iff_eq, beq_iff_eq]
  constructor
  · intro h
    refine set_ext (Nat.or_lt_two_pow ha hb) hb fun i hi => ?_
    have h2 := congrArg (fun z => z.testBit i) h
    simp only [Nat.testBit_and, Nat.testBit_xor, full_bit, decide_eq_true hi, Nat.zero_testBit] at h2
    rw [Nat.testBit_or]
    revert h2; cases a.testBit i <;> cases b.testBit i <;> simp
  · intro h
    refine set_ext (and_lt ha _) (by decide) fun i hi => ?_
    have h2 := congrArg (fun z => z.testBit i) h
    simp only [Nat.testBit_or] at h2
    rw [Nat.testBit_and, Nat.testBit_xor, full_bit, decide_eq_true hi, Nat.zero_testBit]
    revert h2; cases a.testBit i <;> cases b.testBit i <;> simp
theorem sub_and {a : Nat} (ha : a < 2 ^ 256) (b : Nat) : ((a &&& b) &&& (a ^^^ full) == 0) = true := by
  rw [beq_iff_eq]
  refine set_ext (and_lt (and_lt ha _) _) (by decide) fun i hi => ?_
  rw [Nat.testBit_and, Nat.testBit_and, Nat.testBit_xor, full_bit, decide_eq_true hi, Nat.zero_testBit]
  cases a.testBit i <;> cases b.testBit i <;> rfl
theorem sub_self_or {a : Nat} (ha : a < 2 ^ 256) (b : Nat) : (a &&& ((a ||| b) ^^^ full) == 0) = true := by
  rw [beq_iff_eq]
  refine set_ext (and_lt ha _) (by decide) fun i hi => ?_
  rw [Nat.testBit_and, Nat.testBit_xor, Nat.testBit_or, full_bit, decide_eq_true hi, Nat.zero_testBit]
  cases a.testBit i <;> cases b.testBit i <;> rfl

theorem cmpL_bounds : ∀ l m : List UInt8, cmpL l m = -1 ∨ cmpL l m = 0 ∨ cmpL l m = 1
  | [], [] => by simp [cmpL]
  | [], _ :: _ => by simp [cmpL]
  | _ :: _, [] => by simp [cmpL]
  | a :: l, b :: m => by
    have := cmpL_bounds l m
    rw [cmpL]; split
    · simp
    · split
      · simp
      · exact this
theorem cmpL_neg : ∀ l m : List UInt8, cmpL m l = -cmpL l m
  | [], [] => by simp [cmpL]
  | [], _ :: _ => by simp [cmpL]
  | _ :: _, [] => by simp [cmpL]
  | a :: l, b :: m => by
    have := cmpL_neg l m
    rw [cmpL, cmpL]
    by_cases h1 : a.toNat < b.toNat
    · rw [if_pos h1, if_neg (by omega), if_pos h1]; rfl
    · by_cases h2 : b.toNat < a.toNat
      · rw [if_pos h2, if_neg (by omega), if_pos h2]
      · rw [if_neg h2, if_neg h1, if_neg h1, if_neg h2, this]
theorem cmpL_zero : ∀ l m : List UInt8, cmpL l m = 0 ↔ l = m
  | [], [] => by simp [cmpL]
  | [], _ :: _ => by simp [cmpL]
  | _ :: _, [] => by simp [cmpL]
  | a :: l, b :: m => by
    have := cmpL_zero l m
    rw [cmpL]
    by_cases h1 : a.toNat < b.toNat
    · rw [if_pos h1]; constructor
      · intro h; omega
      · intro h; injection h with h3 h4; subst h3; omega
    · by_cases h2 : b.toNat < a.toNat
      · rw [if_neg h1, if_pos h2]; constructor
        · intro h; omega
        · intro h; injection h with h3 h4; subst h3; omega
      · rw [if_neg h1, if_neg h2, this]
        have he : a = b := UInt8.toNat_inj.1 (by omega)
        subst he; simp
theorem cmpL_le : ∀ l m r : List UInt8, cmpL l m ≤ 0 → cmpL m r ≤ 0 → cmpL l r ≤ 0
  | [], m, [], _, _ => by simp [cmpL]
  | [], m, _ :: _, _, _ => by simp [cmpL]
  | a :: l, [], r, h, _ => by simp [cmpL] at h
  | a :: l, b :: m, [], _, h => by simp [cmpL] at h
  | a :: l, b :: m, c :: r, h1, h2 => by
    have ih := cmpL_le l m r
    rw [cmpL] at h1 h2 ⊢
    by_cases p1 : a.toNat < b.toNat <;> by_cases p2 : b.toNat < a.toNat <;> by_cases q1 : b.toNat < c.toNat <;> by_cases q2 : c.toNat < b.toNat <;> simp only [p1, p2, q1, q2, if_true, if_false] at h1 h2 <;>
      first
        | omega
        | (rw [if_pos (by omega)]; omega)
        | (rw [if_neg (by omega), if_neg (by omega)]; exact ih h1 h2)
theorem cmpL_lt (l m r : List UInt8) (h1 : cmpL l m < 0) (h2 : cmpL m r < 0) : cmpL l r < 0 := by
  have h := cmpL_le l m r (by omega) (by omega)
  rcases Int.lt_or_eq_of_le h with h3 | h3
  · exact h3
  · rw [cmpL_zero] at h3
    subst h3
    have := cmpL_neg l m
    omega
end Go.Proofs.YtcpgbakdfogilaaDoor
