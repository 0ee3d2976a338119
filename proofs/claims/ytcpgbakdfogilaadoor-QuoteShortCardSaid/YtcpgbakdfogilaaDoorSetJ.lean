/- Contracts of set.Range, Len, Subset, Meets. -/
import Derived.Test.YtcpgbakdfogilaaDoorSetI
namespace Go.Proofs.YtcpgbakdfogilaaDoor
open Go.RowKit
set_option maxRecDepth 100000

def rng (a b : Int) : Nat := ofPred fun n => decide (a ≤ n) && decide ((n : Int) < b)
theorem rng_lt (a b : Int) : rng a b < 2 ^ 256 := ofPred_lt _
theorem rng_none (a b : Int) (h : b ≤ a) : rng a b = 0 := by
  symm
  exact eq_ofPred (by decide) fun i _ => by
    rw [Nat.zero_testBit]
    symm
    rw [Bool.and_eq_false_iff, decide_eq_false_iff_not, decide_eq_false_iff_not]
    omega
theorem rng_step (a k : Int) (h0 : 0 ≤ a) (h : a ≤ k) (hk : k < 256) : rng a (k + 1) = rng a k ||| bitOf k := by
  symm
  refine eq_ofPred (or_bit_lt _ _ (rng_lt _ _) hk) fun i hi => ?_
  unfold rng
  rw [Nat.testBit_or, ofPred_bit, bitOf_bit, decide_eq_true hi, Bool.true_and, Bool.eq_iff_iff]
  simp only [Bool.or_eq_true, Bool.and_eq_true, decide_eq_true_eq]
  omega

set_option maxHeartbeats 4000000 in
/-- set.Range. -/
theorem range_any (a b : Int) (a0 : 0 ≤ a) (a1 : a < 256) (b0 : 0 ≤ b) (b1 : b < 256) (w : World) :
    Calls Tryd.prog 17 #[.int .u8 a, .int .u8 b] w fun e w' => e = .returned (setV (rng a (b + 1))) ∧ Below w.heap.size w w' := by
  have hI := (Inv.start w).alloc zeroC
  go_enter Tryd.func17, Tryd.ntmps17
  go_wp2
  go_loopw [5] (fun i wr => ∃ k : Int, a ≤ k ∧ (k ≤ b + 1 ∨ k = a) ∧ i = .int .i64 k ∧ Inv w.heap.size w [(w.heap.size, setC (rng a k))] wr) (fun i _ => (b + 1 - intOf i).toNat)
  case atStart => exact ⟨a, by omega, .inr rfl, rfl, by rw [rng_none a a (by omega)]; simpa [zeroC_eq] using hI⟩
  case round =>
    clear hI
    obtain ⟨k, hk, hk', rfl, hI⟩ := hrel
    by_cases hlt : k ≤ b
    · clear hk'
      have hn := Lib.hid (rng_step a k a0 hk (by omega))
      have hk0 : 0 ≤ k := by omega
      have hk1 : k < 256 := by omega
      have hq : k / 64 = (0 : Nat) ∨ k / 64 = (1 : Nat) ∨ k / 64 = (2 : Nat) ∨ k / 64 = (3 : Nat) := by omega
      have q1 := IntWalk.i64_quo k 64 (by omega)
      have q2 : k.tmod 64 = k % 64 := Int.tmod_eq_emod_of_nonneg hk0
      have q3 := shl_u64 (k % 64) (by omega) (by omega)
      have q4 : 0 ≤ k % 64 := by omega
      have q5 : k % 64 < 64 := by omega
      obtain ⟨c0, c1, c2, c3, f0, f1, f2, f3⟩ := setB_facts (hI.at (g := w.heap.size) (o := setC (rng a k)) (by simp))
      rcases hq with hq | hq | hq | hq
      · clear c1 f1 c2 f2 c3 f3
        have q6 := w64_or_bit (rng a k) 0 k hk0 hq
        have HI := Lib.hid hI
        clear hI
        go_wp2
        go_region
        all_goals go_wp2
        all_goals go_roundw
        all_goals first
          | exact ⟨k + 1, by omega, .inl (by omega), rfl, by rw [hn.out]; first | exact (HI.out.word (by omega) 0 (by decide) hk0 hq).drew | exact HI.out.drew.word (by omega) 0 (by decide) hk0 hq⟩
          | (simp [intOf]; omega)
      · clear c0 f0 c2 f2 c3 f3
        have q6 := w64_or_bit (rng a k) 1 k hk0 hq
        have HI := Lib.hid hI
        clear hI
        go_wp2
        go_region
        all_goals go_wp2
        all_goals go_roundw
        all_goals first
          | exact ⟨k + 1, by omega, .inl (by omega), rfl, by rw [hn.out]; first | exact (HI.out.word (by omega) 1 (by decide) hk0 hq).drew | exact HI.out.drew.word (by omega) 1 (by decide) hk0 hq⟩
          | (simp [intOf]; omega)
      · clear c0 f0 c1 f1 c3 f3
        have q6 := w64_or_bit (rng a k) 2 k hk0 hq
        have HI := Lib.hid hI
        clear hI
        go_wp2
        go_region
        all_goals go_wp2
        all_goals go_roundw
        all_goals first
          | exact ⟨k + 1, by omega, .inl (by omega), rfl, by rw [hn.out]; first | exact (HI.out.word (by omega) 2 (by decide) hk0 hq).drew | exact HI.out.drew.word (by omega) 2 (by decide) hk0 hq⟩
          | (simp [intOf]; omega)
      · clear c0 f0 c1 f1 c2 f2
        have q6 := w64_or_bit (rng a k) 3 k hk0 hq
        have HI := Lib.hid hI
        clear hI
        go_wp2
        go_region
        all_goals go_wp2
        all_goals go_roundw
        all_goals first
          | exact ⟨k + 1, by omega, .inl (by omega), rfl, by rw [hn.out]; first | exact (HI.out.word (by omega) 3 (by decide) hk0 hq).drew | exact HI.out.drew.word (by omega) 3 (by decide) hk0 hq⟩
          | (simp [intOf]; omega)
    · have he := Lib.hid (show rng a k = rng a (b + 1) by
        rcases hk' with h | rfl
        · rw [show k = b + 1 by omega]
        · rw [rng_none _ _ (by omega), rng_none _ _ (by omega)])
      clear hk'
      go_wp2_with (first | (refine load_set rfl (.tmp 4) rfl w.heap.size (rng a k) rfl (hI.at (by simp)) ?_) | (refine store_set rfl (.tmp 4) _ rfl w.heap.size (rng a k) (rng a k) rfl rfl (hI.at (by simp)) ?_; intro W2 g1 g2 g3 g4))
      rw [← he.out]
      exact end_set rfl _ _ rfl g1 rfl ⟨rfl, g4 _ _ (by omega) hI.below⟩

/-- How many numbers below n meet p. -/
def cnt (p : Nat → Bool) : Nat → Nat
  | 0 => 0
  | n + 1 => cnt p n + if p n then 1 else 0
theorem cnt_bytes (s n : Nat) : (bytesTo s n).length = cnt s.testBit n := by
  induction n with
  | zero => rfl
  | succ n ih =>
    rw [cnt]
    cases h : s.testBit n
    · rw [bytesTo_no s n h, ih]; simp
    · rw [bytesTo_yes s n h, List.length_append, ih]; simp
theorem cnt_succ' (p : Nat → Bool) (n : Nat) : cnt p (n + 1) = (if p 0 then 1 else 0) + cnt (fun i => p (i + 1)) n := by
  induction n with
  | zero => simp [cnt]
  | succ n ih => rw [cnt, ih, cnt]; omega
theorem cnt_add (p : Nat → Bool) (a b : Nat) : cnt p (a + b) = cnt p a + cnt (fun i => p (a + i)) b := by
  induction b with
  | zero => simp [cnt]
  | succ b ih => rw [← Nat.add_assoc, cnt, ih, cnt]; omega
theorem cnt_congr {p q : Nat → Bool} (n : Nat) (h : ∀ i, i < n → p i = q i) : cnt p n = cnt q n := by
  induction n with
  | zero => rfl
  | succ n ih => rw [cnt, cnt, ih fun i hi => h i (by omega), h n (by omega)]
theorem digs_cnt : ∀ n x : Nat, digs 2 n x = cnt x.testBit n := by
  intro n
  induction n with
  | zero => intro x; rfl
  | succ n ih =>
    intro x
    rw [digs, ih, cnt_succ']
    have e : cnt (x / 2).testBit n = cnt (fun i => x.testBit (i + 1)) n := cnt_congr n fun i _ => by rw [Nat.testBit_succ]
    rw [e, Nat.testBit_zero]
    have h := Nat.mod_two_eq_zero_or_one x
    rcases h with h | h <;> simp [h]
theorem pop_word (s i : Nat) : pop (w64 s i).toNat = cnt (fun j => s.testBit (64 * i + j)) 64 := by
  unfold pop
  rw [digs_cnt]
  exact cnt_congr 64 fun j hj => w64_bit s i j hj
theorem len_pops (s : Nat) : pop (w64 s 0).toNat + pop (w64 s 1).toNat + pop (w64 s 2).toNat + pop (w64 s 3).toNat = lenOf s := by
  unfold lenOf
  rw [cnt_bytes, show (256 : Nat) = 64 + 64 + 64 + 64 from rfl, cnt_add, cnt_add, cnt_add, pop_word, pop_word, pop_word, pop_word]
  simp
theorem pop_le (x : Nat) : pop x ≤ 64 := digs2_le 64 x

set_option maxHeartbeats 4000000 in
/-- set.Len. -/
theorem len_any (s : Nat) (w : World) :
    Calls Tryd.prog 21 #[setV s] w fun e w' => e = .returned (.int .i64 (lenOf s : Nat)) ∧ Below w.heap.size w w' := by
  have hI := (Inv.start w).alloc (setC s)
  have hl := Lib.hid (len_pops s)
  have p0 := pop_le (w64 s 0).toNat
  have p1 := pop_le (w64 s 1).toNat
  have p2 := pop_le (w64 s 2).toNat
  have p3 := pop_le (w64 s 3).toNat
  have i0 : ∀ w, (Instr.index 24 (setV s) (.int .i64 0)).run Tryd.prog w = .ok (.int .u64 (w64 s 0)) w := fun _ => by kernel_rfl
  have i1 : ∀ w, (Instr.index 24 (setV s) (.int .i64 1)).run Tryd.prog w = .ok (.int .u64 (w64 s 1)) w := fun _ => by kernel_rfl
  have i2 : ∀ w, (Instr.index 24 (setV s) (.int .i64 2)).run Tryd.prog w = .ok (.int .u64 (w64 s 2)) w := fun _ => by kernel_rfl
  have i3 : ∀ w, (Instr.index 24 (setV s) (.int .i64 3)).run Tryd.prog w = .ok (.int .u64 (w64 s 3)) w := fun _ => by kernel_rfl
  go_enter Tryd.func21, Tryd.ntmps21
  go_wp2
  refine wp_loop_rounds 5 ?_
  rw [rounds_succ]
  go_wp2_with (go_at_call 50; refine (ones_any _ (w64_nonneg _ _) (w64_lt _ _) _).mono ?_; rintro e w1 ⟨rfl, rfl⟩)
  rw [rounds_succ]
  go_wp2_with (go_at_call 50; refine (ones_any _ (w64_nonneg _ _) (w64_lt _ _) _).mono ?_; rintro e w1 ⟨rfl, rfl⟩)
  rw [rounds_succ]
  go_wp2_with (go_at_call 50; refine (ones_any _ (w64_nonneg _ _) (w64_lt _ _) _).mono ?_; rintro e w1 ⟨rfl, rfl⟩)
  rw [rounds_succ]
  go_wp2_with (go_at_call 50; refine (ones_any _ (w64_nonneg _ _) (w64_lt _ _) _).mono ?_; rintro e w1 ⟨rfl, rfl⟩)
  rw [rounds_succ]
  go_wp2
  go_ret
  refine ⟨ret_int ?_, hI.below⟩
  rw [← hl.out]
  simp
end Go.Proofs.YtcpgbakdfogilaaDoor
