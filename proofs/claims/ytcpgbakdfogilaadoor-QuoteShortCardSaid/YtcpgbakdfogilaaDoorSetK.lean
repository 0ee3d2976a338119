/- Contracts of set.Subset, Meets; cmp.Compare on strings. -/
import Derived.Test.YtcpgbakdfogilaaDoorSetJ
import Derived.Test.YtcpgbakdfogilaaDoorSetF
import Derived.Laws.StructEq
import Derived.KernelRfl
namespace Go.Proofs.YtcpgbakdfogilaaDoor
open Go.RowKit
set_option maxRecDepth 100000

@[go_sem] theorem egSet : Tryd.prog.eqGuardType Tryd.prog.depth 24 = false := by kernel_rfl
@[go_sem] theorem egPair : Tryd.prog.eqGuardType Tryd.prog.depth 36 = false := by kernel_rfl
@[go_sem] theorem eqSet (a0 a1 a2 a3 b0 b1 b2 b3 : Int) (w : World) : (Op.equalIn 10000 24 (.agg #[.int .u64 a0, .int .u64 a1, .int .u64 a2, .int .u64 a3]) (.agg #[.int .u64 b0, .int .u64 b1, .int .u64 b2, .int .u64 b3])).run Tryd.prog w = .ok (a0 == b0 && (a1 == b1 && (a2 == b2 && a3 == b3))) w := by
  have u3 := Tryd.underlying22
  have a3' := Tryd.isAgg22
  have z3 := Tryd.sizeOf22
  rw [show (10000 : Nat) = 9999 + 1 from rfl, Op.equalIn]
  simp only [Sem.run_bind, run_underlying tySet, Result.andThen_ok]
  simp only [Std.Legacy.Range.forIn_eq_forIn_range', Std.Legacy.Range.size, Nat.sub_zero, Nat.add_sub_cancel, Nat.div_one, List.range'_succ, List.range'_zero, List.forIn_cons, List.forIn_nil]
  go_simp
  by_cases h0 : a0 = b0 <;> by_cases h1 : a1 = b1 <;> by_cases h2 : a2 = b2 <;> by_cases h3 : a3 = b3 <;> simp [h0, h1, h2, h3]
theorem tyPair : Tryd.prog.underlying 36 = some (.array 2 5) := by kernel_rfl
@[go_sem] theorem eqPair (a0 a1 b0 b1 : Int) (w : World) : (Op.equalIn 10000 36 (.agg #[.int .u8 a0, .int .u8 a1]) (.agg #[.int .u8 b0, .int .u8 b1])).run Tryd.prog w = .ok (a0 == b0 && a1 == b1) w := by
  have u3 := Tryd.underlying5
  have a3' := Tryd.isAgg5
  have z3 := Tryd.sizeOf5
  rw [show (10000 : Nat) = 9999 + 1 from rfl, Op.equalIn]
  simp only [Sem.run_bind, run_underlying tyPair, Result.andThen_ok]
  simp only [Std.Legacy.Range.forIn_eq_forIn_range', Std.Legacy.Range.size, Nat.sub_zero, Nat.add_sub_cancel, Nat.div_one, List.range'_succ, List.range'_zero, List.forIn_cons, List.forIn_nil]
  go_simp
  by_cases h0 : a0 = b0 <;> by_cases h1 : a1 = b1 <;> simp [h0, h1]
theorem words_beq {s t : Nat} (hs : s < 2 ^ 256) (ht : t < 2 ^ 256) : (w64 s 0 == w64 t 0 && (w64 s 1 == w64 t 1 && (w64 s 2 == w64 t 2 && w64 s 3 == w64 t 3))) = (s == t) := by
  rw [Bool.eq_iff_iff]
  simp only [Bool.and_eq_true, beq_iff_eq]
  exact ⟨fun h => words_ext hs ht h.1 h.2.1 h.2.2.1 h.2.2.2, fun h => by subst h; simp⟩
theorem words_zero {s : Nat} (hs : s < 2 ^ 256) : (w64 s 0 == 0 && (w64 s 1 == 0 && (w64 s 2 == 0 && w64 s 3 == 0))) = (s == 0) := by
  have h := words_beq hs (show 0 < 2 ^ 256 by decide)
  simpa [w64_zero] using h
theorem and_lt {a : Nat} (ha : a < 2 ^ 256) (b : Nat) : a &&& b < 2 ^ 256 := Nat.lt_of_le_of_lt Nat.and_le_left ha

set_option maxHeartbeats 4000000 in
/-- set.Subset. -/
theorem subset_any (a b : Nat) (ha : a < 2 ^ 256) (w : World) :
    Calls Tryd.prog 29 #[setV a, setV b] w fun e w' => e = .returned (.bool (a &&& (b ^^^ full) == 0)) ∧ Below w.heap.size w w' := by
  have hI := ((Inv.start w).alloc (setC a)).alloc (setC b)
  rw [World.size_alloc] at hI
  have hz := words_zero (and_lt ha (b ^^^ full))
  clear ha
  go_enter Tryd.func29, Tryd.ntmps29
  go_wp2_with (first | (go_at_call 33; refine (minus_any _ _ _).mono ?_; rintro e W1 ⟨rfl, hb⟩; replace hI := hI.call hb; clear hb) | (refine load_set rfl (.tmp 2) rfl w.heap.size a rfl (hI.at (by simp)) ?_) | (refine load_set rfl (.tmp 3) rfl (w.heap.size + 1) b rfl (hI.at (by simp)) ?_))
  go_ret
  exact ⟨rfl, hI.below⟩
set_option maxHeartbeats 4000000 in
/-- set.Meets. -/
theorem meets_any (a b : Nat) (ha : a < 2 ^ 256) (w : World) :
    Calls Tryd.prog 30 #[setV a, setV b] w fun e w' => e = .returned (.bool (!(a &&& b == 0))) ∧ Below w.heap.size w w' := by
  have hI := ((Inv.start w).alloc (setC a)).alloc (setC b)
  rw [World.size_alloc] at hI
  have hz := words_zero (and_lt ha b)
  clear ha
  go_enter Tryd.func30, Tryd.ntmps30
  go_wp2_with (first | (go_at_call 32; refine (and_any _ _ _).mono ?_; rintro e W1 ⟨rfl, hb⟩; replace hI := hI.call hb; clear hb) | (refine load_set rfl (.tmp 2) rfl w.heap.size a rfl (hI.at (by simp)) ?_) | (refine load_set rfl (.tmp 3) rfl (w.heap.size + 1) b rfl (hI.at (by simp)) ?_))
  go_ret
  exact ⟨rfl, hI.below⟩

theorem less_cmp : ∀ l m : List UInt8, cmpL l m = if Op.bytesLess l m = true then -1 else if (!(l == m)) = true then 1 else 0
  | [], [] => rfl
  | [], _ :: _ => rfl
  | _ :: _, [] => rfl
  | a :: l, b :: m => by
    have ih := less_cmp l m
    rw [cmpL, Op.bytesLess]
    by_cases h1 : a.toNat < b.toNat
    · have : a < b := h1
      simp [h1, this]
    · have h1' : ¬ a < b := h1
      by_cases h2 : b.toNat < a.toNat
      · have hne : a ≠ b := fun h => by subst h; omega
        simp [h1, h1', h2, hne]
      · have he : a = b := UInt8.toNat_inj.1 (by omega)
        subst he
        simp only [Nat.lt_irrefl, if_false, ih, h1']
        simp
set_option maxHeartbeats 4000000 in
/-- cmp.Compare at strings. -/
theorem cmp_any (l m : List UInt8) (w : World) :
    Calls Tryd.prog 55 #[.string (strOf l), .string (strOf m)] w fun e w' => e = .returned (.int .i64 (cmpL l m)) ∧ w' = w := by
  have hl : (strOf l).toList = l := by simp [strOf, ByteArray.toList_eq]
  have hm : (strOf m).toList = m := by simp [strOf, ByteArray.toList_eq]
  have hc := Lib.hid (less_cmp l m)
  go_enter Tryd.func55, Tryd.ntmps55
  go_wp2
  all_goals go_ret
  all_goals refine ⟨ret_int ?_, rfl⟩
  all_goals rw [hc.out]
  all_goals simp_all
end Go.Proofs.YtcpgbakdfogilaaDoor
