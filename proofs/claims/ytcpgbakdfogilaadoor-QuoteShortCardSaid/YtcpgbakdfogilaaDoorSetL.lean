/- The iterator set.all: its contract. -/
import Derived.Test.YtcpgbakdfogilaaDoorSetK
import Derived.RangeFuncBox
import Derived.RangeFuncNested
import Derived.RangeFuncLeaves
import Derived.Shelf.Abstract
import Derived.OwnWalkIn
import Derived.TacticsInMore
import Derived.LoopNIn
import Derived.LoopIn
import Derived.Maps.AppendAt
namespace Go.Proofs.YtcpgbakdfogilaaDoor
open Go.RowKit Go.Shelf
set_option maxRecDepth 100000
attribute [local go_sem] Oper.semAt_some

/-- The lowest bit of a word, and the word without it. -/
theorem low_bit (r : Nat) (h0 : r ≠ 0) (h : r < 2 ^ 64) : ∃ k, Lib.ctz 64 r = k ∧ k < 64 ∧ r.testBit k = true ∧ (∀ j, j < k → r.testBit j = false) ∧ ∀ j, (r &&& (r - 1)).testBit j = (decide (k < j) && r.testBit j) := by
  obtain ⟨m, hm, hk⟩ := Lib.ctzFrom_spec 64 r (by omega) h
  have e : Lib.ctz 64 r = Lib.ctzFrom 64 r := by simp [Lib.ctz, h0]
  refine ⟨Lib.ctzFrom 64 r, e, hk, ?_⟩
  generalize Lib.ctzFrom 64 r = k at *
  have hp : 0 < 2 ^ k := Nat.pow_pos (by decide)
  have hr : r = 2 ^ k + 2 ^ (k + 1) * m := by rw [hm, Nat.pow_succ, Nat.mul_add, Nat.mul_one, Nat.mul_assoc]; omega
  have hlt : 2 ^ k < 2 ^ (k + 1) := Nat.pow_lt_pow_right (by decide) (by omega)
  have m1 : r % 2 ^ (k + 1) = 2 ^ k := by rw [hr, Nat.add_mul_mod_self_left, Nat.mod_eq_of_lt hlt]
  have d1 : r / 2 ^ (k + 1) = m := by rw [hr, Nat.add_mul_div_left _ _ (by omega), Nat.div_eq_of_lt hlt, Nat.zero_add]
  have hr' : r - 1 = (2 ^ k - 1) + 2 ^ (k + 1) * m := by omega
  have m2 : (r - 1) % 2 ^ (k + 1) = 2 ^ k - 1 := by rw [hr', Nat.add_mul_mod_self_left, Nat.mod_eq_of_lt (by omega)]
  have d2 : (r - 1) / 2 ^ (k + 1) = m := by rw [hr', Nat.add_mul_div_left _ _ (by omega), Nat.div_eq_of_lt (by omega), Nat.zero_add]
  have bit : ∀ j, r.testBit j = if j < k + 1 then decide (k = j) else m.testBit (j - (k + 1)) := by
    intro j
    by_cases hj : j < k + 1
    · have := congrArg (fun x => x.testBit j) m1
      simp only [Nat.testBit_mod_two_pow, decide_eq_true hj, Bool.true_and, Nat.testBit_two_pow] at this
      rw [if_pos hj, this]
    · have := congrArg (fun x => x.testBit (j - (k + 1))) d1
      simp only [Nat.testBit_div_two_pow] at this
      rw [if_neg hj, ← this]
      congr 1
      omega
  have hand : r &&& (r - 1) = 2 ^ (k + 1) * m := by
    rw [and_step (k + 1), m1, m2, d1, d2, Nat.and_two_pow_sub_one_eq_mod, Nat.mod_self, Nat.and_self, Nat.zero_add]
  refine ⟨?_, ?_, ?_⟩
  · rw [bit, if_pos (by omega)]; simp
  · intro j hj; rw [bit, if_pos (by omega), decide_eq_false (by omega)]
  · intro j
    rw [hand, Nat.testBit_two_pow_mul, bit]
    by_cases hj : k < j
    · rw [if_neg (by omega), decide_eq_true hj, decide_eq_true (by omega)]
    · rw [decide_eq_false hj, decide_eq_false (by omega)]; rfl

/-- What is left of the word i when all below p has been told. -/
structure LeftOf (s i p r : Nat) : Prop where
  lt : r < 18446744073709551616
  lo : 64 * i ≤ p
  hi : p ≤ 64 * i + 64
  bit : ∀ j, j < 64 → r.testBit j = (decide (p ≤ 64 * i + j) && s.testBit (64 * i + j))
theorem LeftOf.start (s i : Nat) : LeftOf s i (64 * i) (w64 s i).toNat := ⟨by have := w64_natlt s i; omega, by omega, by omega, fun j hj => by rw [w64_bit s i j hj, decide_eq_true (by omega), Bool.true_and]⟩
theorem bytesTo_gap (s p : Nat) : ∀ d, (∀ j, p ≤ j → j < p + d → s.testBit j = false) → bytesTo s (p + d) = bytesTo s p := by
  intro d
  induction d with
  | zero => intro _; rfl
  | succ d ih => intro h; rw [← Nat.add_assoc, bytesTo_no s _ (h _ (by omega) (by omega)), ih fun j h1 h2 => h j h1 (by omega)]
theorem LeftOf.done {s i p : Nat} (h : LeftOf s i p 0) : bytesTo s (64 * (i + 1)) = bytesTo s p := by
  have hg := bytesTo_gap s p (64 * i + 64 - p) fun j h1 h2 => by
    have hb := h.bit (j - 64 * i) (by have := h.lo; omega)
    rw [Nat.zero_testBit, show 64 * i + (j - 64 * i) = j by have := h.lo; omega, decide_eq_true (by omega), Bool.true_and] at hb
    exact hb.symm
  rw [← hg]; congr 1; have := h.hi; omega
theorem LeftOf.step {s i p r : Nat} (h : LeftOf s i p r) (h0 : r ≠ 0) : ∃ k, Lib.ctz 64 r = k ∧ k < 64 ∧ bytesTo s (64 * i + k + 1) = bytesTo s p ++ [UInt8.ofNat (64 * i + k)] ∧ p ≤ 64 * i + k ∧ LeftOf s i (64 * i + k + 1) (r &&& (r - 1)) := by
  obtain ⟨k, hc, hk, h1, h2, h3⟩ := low_bit r h0 h.lt
  have hb := h.bit k hk
  rw [h1] at hb
  have hpk : p ≤ 64 * i + k ∧ s.testBit (64 * i + k) = true := by simpa using hb.symm
  have hg := bytesTo_gap s p (64 * i + k - p) fun j g1 g2 => by
    have hj := h.bit (j - 64 * i) (by have := h.lo; omega)
    rw [h2 _ (by have := h.lo; omega), show 64 * i + (j - 64 * i) = j by have := h.lo; omega, decide_eq_true g1, Bool.true_and] at hj
    exact hj.symm
  rw [show p + (64 * i + k - p) = 64 * i + k by omega] at hg
  refine ⟨k, hc, hk, by rw [bytesTo_yes s _ hpk.2, hg], hpk.1, ⟨Nat.lt_of_le_of_lt Nat.and_le_left h.lt, by omega, by omega, fun j hj => ?_⟩⟩
  rw [h3, h.bit j hj]
  by_cases hkj : k < j
  · rw [decide_eq_true hkj, decide_eq_true (show p ≤ 64 * i + j by omega), decide_eq_true (show 64 * i + k + 1 ≤ 64 * i + j by omega), Bool.true_and]
  · rw [decide_eq_false hkj, decide_eq_false (show ¬ 64 * i + k + 1 ≤ 64 * i + j by omega)]; rfl
theorem LeftOf.and {s i p r : Nat} (h : LeftOf s i p r) (h0 : r ≠ 0) : bits .and .u64 (r : Int) (IntKind.u64.wrap ((r : Int) - 1)) = ((r &&& (r - 1) : Nat) : Int) := by
  have hl := h.lt
  rw [u64_small (by omega) (by omega), show (r : Int) - 1 = ((r - 1 : Nat) : Int) by omega]
  exact u64_and_nat _ _ hl (by omega)
theorem idx_any (s k : Nat) (hk : k < 4) (w : World) : (Instr.index 24 (setV s) (.int .i64 (k : Int))).run Tryd.prog w = .ok (.int .u64 (w64 s k)) w := by
  have h : k = 0 ∨ k = 1 ∨ k = 2 ∨ k = 3 := by omega
  have h0 : ∀ w, (Instr.index 24 (setV s) (.int .i64 0)).run Tryd.prog w = .ok (.int .u64 (w64 s 0)) w := fun _ => by kernel_rfl
  have h1 : ∀ w, (Instr.index 24 (setV s) (.int .i64 1)).run Tryd.prog w = .ok (.int .u64 (w64 s 1)) w := fun _ => by kernel_rfl
  have h2 : ∀ w, (Instr.index 24 (setV s) (.int .i64 2)).run Tryd.prog w = .ok (.int .u64 (w64 s 2)) w := fun _ => by kernel_rfl
  have h3 : ∀ w, (Instr.index 24 (setV s) (.int .i64 3)).run Tryd.prog w = .ok (.int .u64 (w64 s 3)) w := fun _ => by kernel_rfl
  rcases h with rfl | rfl | rfl | rfl
  · exact h0 w
  · exact h1 w
  · exact h2 w
  · exact h3 w
theorem w64_name (s k : Nat) : ∃ r : Nat, w64 s k = (r : Int) ∧ (w64 s k).toNat = r := ⟨(w64 s k).toNat, (w64_cast s k).symm, rfl⟩

theorem Tb.keep {n : Nat} {w w1 : World} (h : Tb w) (hn : 0 < n) (hb : Below n w w1) : Tb w1 := fun j hj => (hb.cell (p := ⟨0, j, none⟩) hn).trans (h j hj)
theorem bytesTo_prefix (s a b : Nat) (h : a ≤ b) : bytesTo s a <+: bytesTo s b := by
  obtain ⟨d, rfl⟩ : ∃ d, b = a + d := ⟨b - a, by omega⟩
  clear h
  induction d with
  | zero => exact List.prefix_refl _
  | succ d ih =>
    rw [← Nat.add_assoc]
    cases hb : s.testBit (a + d)
    · rw [bytesTo_no _ _ hb]; exact ih
    · rw [bytesTo_yes _ _ hb]; exact ih.trans (List.prefix_append _ _)
set_option maxHeartbeats 4000000 in
/-- set.all's function: for every loop body that keeps what lay below n₀. -/
theorem all1_in (l B n₀ s : Nat) (hg : 0 < n₀) (J Jx : List UInt8 → World → Prop)
    (hY : ∀ pre (x : UInt8) W, J pre W → pre.length < 256 → YieldAt Fence.wide (2 - 1) Tryd.prog l #[.int .u8 (x.toNat : Int)] W fun e W' =>
      (e = .returned (.bool true) ∧ J (pre ++ [x]) W' ∧ Below n₀ W W') ∨ (e = .returned (.bool false) ∧ Jx (pre ++ [x]) W'))
    (W : World) (hB : W.heap[B]? = some (setC s)) (hT : Tb W) (h0 : J [] W) :
    CallsIn Fence.wide 2 Tryd.prog 66 #[.func (.yield l) #[] #[], .pointer (some ⟨B, 0, none⟩)] W fun e W' => (∃ v, e = .returned v) ∧
      ((∃ ys, ys = bytesTo s 256 ∧ J ys W') ∨ (∃ pre, pre <+: bytesTo s 256 ∧ Jx pre W')) := by
  obtain ⟨c0, c1, c2, c3, f0, f1, f2, f3⟩ := setB_facts hB
  clear f0 f1 f2 f3
  refine callsIn_of_wp Tryd.func66 rfl trivial ?_ rfl
  simp only [Tryd.ntmps66, List.size_toArray, List.length_cons, List.length_nil, Nat.reduceAdd, Nat.reduceSub, Array.replicate_succ, Array.replicate_zero, List.push_toArray, List.append_toArray, List.nil_append, List.cons_append]
  gi_wp2
  clear c0 c1 c2 c3
  gi_loopw [3, 4, 6] (fun _ _ i wr => ∃ k : Nat, k ≤ 4 ∧ i = .int .i64 k ∧ J (bytesTo s (64 * k)) wr ∧ Tb wr) (fun _ _ i _ => 4 - (intOf i).toNat)
  case atStart => exact ⟨0, by omega, rfl, h0, hT⟩
  case round =>
    obtain ⟨k, hk, rfl, hJ, hT⟩ := hrel
    by_cases hlt : k < 4
    · obtain ⟨r0, hr0, hr0'⟩ := w64_name s k
      have ik : ∀ w, (Instr.index 24 (setV s) (.int .i64 (k : Int))).run Tryd.prog w = .ok (.int .u64 (r0 : Int)) w := fun w => by rw [idx_any s k hlt, hr0]
      have hL0 := Lib.hid (LeftOf.start s k)
      rw [hr0'] at hL0
      clear hr0 hr0'
      have hdk : decide ((k : Int) < 4) = true := by simp; omega
      gi_wp2
      obtain ⟨wo, rfl⟩ : ∃ wo : World, wo = wr := ⟨_, rfl⟩
      gi_loopw [4] (fun v wr => ∃ r p : Nat, v = .int .u64 (r : Int) ∧ Hid (LeftOf s k p r) ∧ J (bytesTo s p) wr ∧ Tb wr) (fun v _ => (intOf v).toNat)
      case atStart => exact ⟨r0, 64 * k, rfl, hL0.out, hJ, hT⟩
      case round =>
        clear hJ hT hL0
        obtain ⟨r, p, rfl, hL, hJ, hT⟩ := hrel
        by_cases hr : r = 0
        · subst hr
          have hd := Lib.hid hL.out.done
          gi_wp2
          go_roundw
          case rel => exact ⟨k + 1, by omega, by go_num, by rw [hd.out]; exact hJ, hT⟩
          case measure => simp [intOf]; omega
        · obtain ⟨c, hc, hc64, hb, hpc, hL'⟩ := hL.out.step hr
          have hand := hL.out.and hr
          have hrl := hL.out.lt
          obtain ⟨r', hr'⟩ : ∃ r', r &&& (r - 1) = r' := ⟨_, rfl⟩
          have hr'' : r' < r := by rw [← hr']; exact Nat.lt_of_le_of_lt Nat.and_le_right (by omega)
          rw [hr'] at hand hL'
          have HB := Lib.hid hb
          have HL := Lib.hid hL'
          have hr1 : (0 : Int) < (r : Int) := by omega
          have hle := bytesTo_len s p
          have hx : ((UInt8.ofNat (64 * k + c)).toNat : Int) = (k : Int) * 64 + (c : Int) := by rw [u8_nat _ (by omega)]; omega
          obtain ⟨fn, tmps, assign, body, hy, hRd⟩ := hY (bytesTo s p) (UInt8.ofNat (64 * k + c)) wr hJ (by omega)
          rw [hx] at hy
          clear hb hL' hx hle hrl hr'
          gi_wp2_with (refine ⟨trivial, ?_⟩; gi_at_call 67; refine (callsIn_wide.2 (tz_any _ hr1 (by have := hL.out.lt; omega) _ hT)).mono ?_; rintro e w1 ⟨rfl, rfl⟩)
          refine hRd.mono ?_
          rintro e W3 (⟨rfl, hJ3, hk3⟩ | ⟨rfl, hJx3⟩)
          · have hT3 := hT.keep hg hk3
            clear hY hy hRd hT
            gi_wp2
            go_roundw
            case rel => exact ⟨r', 64 * k + c + 1, rfl, HL, by rw [HB.out]; exact hJ3, hT3⟩
            case measure => simp [intOf]; omega
          · clear hY hy hRd hT
            gi_wp2
            refine bodyPost_ret (results_none rfl _ _ _) rfl ?_
            exact ⟨⟨_, rfl⟩, .inr ⟨_, bytesTo_prefix s (64 * k + c + 1) 256 (by omega), by rw [HB.out]; exact hJx3⟩⟩
    · obtain rfl : k = 4 := by omega
      gi_wp2
      go_end0
      exact ⟨⟨_, rfl⟩, .inl ⟨_, rfl, hJ⟩⟩

set_option maxHeartbeats 1000000 in
/-- set.all: the set is boxed; the function value captures the box. -/
theorem iter_any (s : Nat) (w : World) :
    Calls Tryd.prog 51 #[setV s] w fun e w' => e = .returned (.func (.func 66) #[] #[.pointer (some ⟨w.heap.size, 0, none⟩)]) ∧ w' = w.alloc (setC s) := by
  go_enter Tryd.func51, Tryd.ntmps51
  go_wp2
  go_ret
  exact ⟨rfl, rfl⟩
/-- It tells all of the set's bytes, rising; or a beginning of them, where a round has said 'no more'. -/
theorem all_stops (B n₀ s : Nat) (w : World) (hg : 0 < n₀) (hB : w.heap[B]? = some (setC s)) (hT : Tb w) :
    SeqStopsK Fence.wide 2 Tryd.prog 66 #[.pointer (some ⟨B, 0, none⟩)] (fun x : UInt8 => #[Value.int .u8 (x.toNat : Int)]) (Below n₀) (fun ys => ys = bytesTo s 256) (fun pre => pre <+: bytesTo s 256) 256 w := fun l J Jx W hW _ _ hY h0 =>
  all1_in l B n₀ s hg J Jx hY W ((hW.block _ (lt_of_heap hB)).trans hB) (hT.call hW) h0
end Go.Proofs.YtcpgbakdfogilaaDoor
