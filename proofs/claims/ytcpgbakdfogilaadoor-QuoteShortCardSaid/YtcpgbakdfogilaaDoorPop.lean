/- How many bits a word has: the sums of math/bits, as plain arithmetic. -/
import Derived.WalkKit
namespace Go.Proofs.YtcpgbakdfogilaaDoor

theorem and_step (k a b : Nat) : a &&& b = (a % 2 ^ k &&& b % 2 ^ k) + 2 ^ k * (a / 2 ^ k &&& b / 2 ^ k) := by
  have h1 : (a &&& b) % 2 ^ k = a % 2 ^ k &&& b % 2 ^ k := Nat.and_mod_two_pow
  have h2 : (a &&& b) / 2 ^ k = a / 2 ^ k &&& b / 2 ^ k := Nat.and_div_two_pow
  rw [← h1, ← h2]
  exact (Nat.mod_add_div _ _).symm
/-- The mask of the lower halves of n places. -/
def mask (b : Nat) : Nat → Nat
  | 0 => 0
  | n + 1 => (b - 1) + b * b * mask b n
/-- The lower halves alone. -/
def low (b : Nat) : Nat → Nat → Nat
  | 0, _ => 0
  | n + 1, x => x % b + b * b * low b n (x / (b * b))
theorem and_mask (k : Nat) : ∀ n x, x &&& mask (2 ^ k) n = low (2 ^ k) n x := by
  intro n
  induction n with
  | zero => intro x; simp [mask, low]
  | succ n ih =>
    intro x
    have hb : 0 < 2 ^ k := Nat.pow_pos (by decide)
    have hbb : 2 ^ k * 2 ^ k = 2 ^ (k + k) := (Nat.pow_add 2 k k).symm
    have hlt : 2 ^ k - 1 < 2 ^ (k + k) := by
      have : 2 ^ k ≤ 2 ^ (k + k) := Nat.pow_le_pow_right (by decide) (by omega)
      omega
    rw [and_step (k + k), mask, low, hbb, ← ih]
    have e1 : (2 ^ k - 1 + 2 ^ (k + k) * mask (2 ^ k) n) % 2 ^ (k + k) = 2 ^ k - 1 := by rw [Nat.add_mul_mod_self_left, Nat.mod_eq_of_lt hlt]
    have e2 : (2 ^ k - 1 + 2 ^ (k + k) * mask (2 ^ k) n) / 2 ^ (k + k) = mask (2 ^ k) n := by
      rw [Nat.add_mul_div_left _ _ (Nat.pow_pos (by decide)), Nat.div_eq_of_lt hlt, Nat.zero_add]
    rw [e1, e2, Nat.and_two_pow_sub_one_eq_mod]
    congr 1
    rw [← hbb]
    exact Nat.mod_mul_right_mod x (2 ^ k) (2 ^ k)
/-- Two neighbours together. -/
def pairs (b : Nat) : Nat → Nat → Nat
  | 0, _ => 0
  | n + 1, x => (x % b + x / b % b) + b * b * pairs b n (x / (b * b))
/-- The sum of the places. -/
def digs (b : Nat) : Nat → Nat → Nat
  | 0, _ => 0
  | n + 1, x => x % b + digs b n (x / b)
/-- No place is greater than m. -/
def most (b m : Nat) : Nat → Nat → Prop
  | 0, _ => True
  | n + 1, x => x % b ≤ m ∧ most b m n (x / b)
theorem low_pairs (b : Nat) : ∀ n x, low b n (x / b) + low b n x = pairs b n x := by
  intro n
  induction n with
  | zero => intro x; rfl
  | succ n ih =>
    intro x
    have h := ih (x / (b * b))
    have e : x / b / (b * b) = x / (b * b) / b := by rw [Nat.div_div_eq_div_mul, Nat.div_div_eq_div_mul, Nat.mul_comm]
    simp only [low, pairs]
    rw [← h, e, Nat.mul_add]
    omega
theorem pairs_mod {b : Nat} (n x : Nat) (h : x % b + x / b % b < b * b) : pairs b (n + 1) x % (b * b) = x % b + x / b % b := by rw [pairs, Nat.add_mul_mod_self_left, Nat.mod_eq_of_lt h]
theorem pairs_div {b : Nat} (n x : Nat) (h : x % b + x / b % b < b * b) : pairs b (n + 1) x / (b * b) = pairs b n (x / (b * b)) := by
  rw [pairs, Nat.add_mul_div_left _ _ (by omega), Nat.div_eq_of_lt h, Nat.zero_add]
theorem pair_lt {b : Nat} (hb : 2 ≤ b) (x : Nat) : x % b + x / b % b < b * b := by
  have h1 := Nat.mod_lt x (show 0 < b by omega)
  have h2 := Nat.mod_lt (x / b) (show 0 < b by omega)
  have h3 : 2 * b ≤ b * b := Nat.mul_le_mul_right b hb
  omega
theorem digs_pairs {b : Nat} (hb : 2 ≤ b) : ∀ n x, digs (b * b) n (pairs b n x) = digs b (2 * n) x := by
  intro n
  induction n with
  | zero => intro x; rfl
  | succ n ih =>
    intro x
    have h := pair_lt hb x
    rw [digs, pairs_mod n x h, pairs_div n x h, ih]
    show _ = digs b (2 * n + 1 + 1) x
    rw [digs, digs, Nat.div_div_eq_div_mul]
    omega
theorem most_pairs {b m : Nat} (hb : 2 ≤ b) : ∀ n x, most b m (2 * n) x → most (b * b) (m + m) n (pairs b n x) := by
  intro n
  induction n with
  | zero => intro x _; trivial
  | succ n ih =>
    intro x hm
    have h := pair_lt hb x
    have hm' : most b m (2 * n + 1 + 1) x := hm
    rw [most, most, Nat.div_div_eq_div_mul] at hm'
    rw [most, pairs_mod n x h, pairs_div n x h]
    exact ⟨by omega, ih _ hm'.2.2⟩
/-- The third sum: first together, then the mask. -/
theorem add_mask : ∀ n x, most 16 4 (2 * n) x → x < 256 ^ n → low 16 n (x / 16 + x) = pairs 16 n x := by
  intro n
  induction n with
  | zero => intro x _ _; rfl
  | succ n ih =>
    intro x hm hx
    have hm' : most 16 4 (2 * n + 1 + 1) x := hm
    rw [most, most] at hm'
    obtain ⟨a1, a2, a3⟩ := hm'
    have hx' : x / 256 < 256 ^ n := by rw [Nat.pow_succ] at hx; omega
    have e0 : x / 16 / 16 = x / 256 := by omega
    rw [e0] at a3
    have a4 : x / 256 % 16 ≤ 4 := by
      cases n with
      | zero => have : x / 256 = 0 := by simpa using hx'
                omega
      | succ n => exact a3.1
    have h := ih (x / 256) a3 hx'
    rw [low, pairs]
    have e1 : (x / 16 + x) % 16 = x % 16 + x / 16 % 16 := by omega
    have e2 : (x / 16 + x) / (16 * 16) = x / 256 / 16 + x / 256 := by omega
    rw [e1, e2, h]
theorem digs_le_one : ∀ n x, most 2 1 n x := by
  intro n
  induction n with
  | zero => intro x; trivial
  | succ n ih => intro x; exact ⟨by omega, ih _⟩
/-- The bits of a word. -/
def pop (x : Nat) : Nat := digs 2 64 x
theorem digs2_le : ∀ n x, digs 2 n x ≤ n := by
  intro n
  induction n with
  | zero => intro x; simp [digs]
  | succ n ih => intro x; rw [digs]; have := ih (x / 2); omega
theorem low_lt (b : Nat) (hb : 0 < b) : ∀ n x, low b n x < (b * b) ^ n := by
  intro n
  induction n with
  | zero => intro x; simp [low]
  | succ n ih =>
    intro x
    have h1 := Nat.mod_lt x hb
    have h2 := ih (x / (b * b))
    have h3 : b ≤ b * b := Nat.le_mul_of_pos_left b hb
    rw [low, Nat.pow_succ, Nat.mul_comm ((b * b) ^ n)]
    have h4 : b * b * low b n (x / (b * b)) + b * b ≤ b * b * (b * b) ^ n := by
      rw [← Nat.mul_succ]; exact Nat.mul_le_mul_left _ h2
    omega
theorem pairs_lt {b : Nat} (hb : 2 ≤ b) : ∀ n x, pairs b n x < (b * b) ^ n := by
  intro n
  induction n with
  | zero => intro x; simp [pairs]
  | succ n ih =>
    intro x
    have h1 := pair_lt hb x
    have h2 := ih (x / (b * b))
    rw [pairs, Nat.pow_succ, Nat.mul_comm ((b * b) ^ n)]
    have h4 : b * b * pairs b n (x / (b * b)) + b * b ≤ b * b * (b * b) ^ n := by
      rw [← Nat.mul_succ]; exact Nat.mul_le_mul_left _ h2
    omega
/-- What the three first sums come to: a number of eight bytes whose sum is the word's bits. -/
theorem third (x : Nat) : ∃ c0 c1 c2 c3 c4 c5 c6 c7 : Nat, pairs 16 8 (pairs 4 16 (pairs 2 32 x)) = c0 + 256 * (c1 + 256 * (c2 + 256 * (c3 + 256 * (c4 + 256 * (c5 + 256 * (c6 + 256 * c7)))))) ∧ c0 + c1 + c2 + c3 + c4 + c5 + c6 + c7 = pop x := by
  have h : digs 256 8 (pairs 16 8 (pairs 4 16 (pairs 2 32 x))) = pop x := by
    have h1 := digs_pairs (b := 16) (by decide) 8 (pairs 4 16 (pairs 2 32 x))
    have h2 := digs_pairs (b := 4) (by decide) 16 (pairs 2 32 x)
    have h3 := digs_pairs (b := 2) (by decide) 32 x
    exact h1.trans (h2.trans h3)
  have hl : pairs 16 8 (pairs 4 16 (pairs 2 32 x)) < 256 ^ 8 := pairs_lt (b := 16) (by decide) _ _
  generalize pairs 16 8 (pairs 4 16 (pairs 2 32 x)) = y at h hl
  refine ⟨y % 256, y / 256 % 256, y / 256 / 256 % 256, y / 256 / 256 / 256 % 256, y / 256 / 256 / 256 / 256 % 256, y / 256 / 256 / 256 / 256 / 256 % 256, y / 256 / 256 / 256 / 256 / 256 / 256 % 256, y / 256 / 256 / 256 / 256 / 256 / 256 / 256 % 256, by omega, ?_⟩
  rw [← h]
  simp only [digs]
  omega
/-- The three last sums. -/
theorem sum1 {c0 c1 q1 q2 v : Nat} (hv : v = c0 + 256 * q1) (h1 : q1 = c1 + 256 * q2) (h : c0 ≤ 64) : v + v / 256 = (c0 + c1) + 256 * (q1 + q2) := by omega
theorem sum2 {a0 a1 a2 a3 r : Nat} (h0 : a0 ≤ 64) (h1 : a1 ≤ 64) {v : Nat} (hv : v = a0 + 256 * (a1 + 256 * (a2 + 256 * (a3 + 256 * r)))) : v / 65536 = a2 + 256 * (a3 + 256 * r) := by omega
theorem sum3 {a0 a1 a2 a3 r : Nat} (h0 : a0 ≤ 64) (h1 : a1 ≤ 64) (h2 : a2 ≤ 64) (h3 : a3 ≤ 64) {v : Nat} (hv : v = a0 + 256 * (a1 + 256 * (a2 + 256 * (a3 + 256 * r)))) : v / 4294967296 = r := by omega
theorem bytes_sum (c0 c1 c2 c3 c4 c5 c6 c7 v : Nat) (hv : v = c0 + 256 * (c1 + 256 * (c2 + 256 * (c3 + 256 * (c4 + 256 * (c5 + 256 * (c6 + 256 * c7))))))) (hs : c0 + c1 + c2 + c3 + c4 + c5 + c6 + c7 ≤ 64) :
    ∃ v1 v2 v3, v + v / 256 = v1 ∧ v1 < 18446744073709551616 ∧ v1 + v1 / 65536 = v2 ∧ v2 < 18446744073709551616 ∧ v2 + v2 / 4294967296 = v3 ∧ v3 < 9223372036854775808 ∧ v3 % 128 = c0 + c1 + c2 + c3 + c4 + c5 + c6 + c7 := by
  have e1 : v + v / 256 = (c0 + c1) + 256 * ((c1 + c2) + 256 * ((c2 + c3) + 256 * ((c3 + c4) + 256 * ((c4 + c5) + 256 * ((c5 + c6) + 256 * ((c6 + c7) + 256 * c7)))))) := by
    rw [sum1 hv rfl (by omega)]; omega
  obtain ⟨v1, h1⟩ : ∃ v1, v + v / 256 = v1 := ⟨_, rfl⟩
  rw [h1] at e1
  have d2 := sum2 (show c0 + c1 ≤ 64 by omega) (show c1 + c2 ≤ 64 by omega) e1
  have e2 : v1 + v1 / 65536 = (c0 + c1 + c2 + c3) + 256 * ((c1 + c2 + c3 + c4) + 256 * ((c2 + c3 + c4 + c5) + 256 * ((c3 + c4 + c5 + c6) + 256 * ((c4 + c5 + c6 + c7) + 256 * ((c5 + c6 + c7) + 256 * ((c6 + c7) + 256 * c7)))))) := by
    rw [d2, e1]; clear hv h1 e1 d2; omega
  obtain ⟨v2, h2⟩ : ∃ v2, v1 + v1 / 65536 = v2 := ⟨_, rfl⟩
  rw [h2] at e2
  have d3 := sum3 (show c0 + c1 + c2 + c3 ≤ 64 by omega) (show c1 + c2 + c3 + c4 ≤ 64 by omega) (show c2 + c3 + c4 + c5 ≤ 64 by omega) (show c3 + c4 + c5 + c6 ≤ 64 by omega) e2
  have e3 : v2 + v2 / 4294967296 = (c0 + c1 + c2 + c3 + c4 + c5 + c6 + c7) + 256 * ((c1 + c2 + c3 + c4) + (c5 + c6 + c7) + 256 * ((c2 + c3 + c4 + c5) + (c6 + c7) + 256 * ((c3 + c4 + c5 + c6) + c7 + 256 * ((c4 + c5 + c6 + c7) + 256 * ((c5 + c6 + c7) + 256 * ((c6 + c7) + 256 * c7)))))) := by
    rw [d3, e2]; clear hv h1 e1 d2 h2 e2 d3; omega
  obtain ⟨v3, h3⟩ : ∃ v3, v2 + v2 / 4294967296 = v3 := ⟨_, rfl⟩
  rw [h3] at e3
  refine ⟨v1, v2, v3, h1, ?_, h2, ?_, h3, ?_, ?_⟩
  · clear hv h1 d2 h2 e2 d3 h3 e3; omega
  · clear hv h1 e1 d2 h2 d3 h3 e3; omega
  · clear hv h1 e1 d2 h2 e2 d3 h3; omega
  · clear hv h1 e1 d2 h2 e2 d3 h3; omega
end Go.Proofs.YtcpgbakdfogilaaDoor
