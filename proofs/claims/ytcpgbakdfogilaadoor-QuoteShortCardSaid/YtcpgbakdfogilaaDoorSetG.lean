/- Contracts of set.each at its four functions, and of Or, And, Minus, Not. -/
import Derived.Test.YtcpgbakdfogilaaDoorSetE
namespace Go.Proofs.YtcpgbakdfogilaaDoor
open Go.RowKit
set_option maxRecDepth 100000

/-- The function of set.Or. -/
theorem cloOr (x y : Int) (w : World) : Calls Tryd.prog 53 #[.int .u64 x, .int .u64 y] w fun e w' => e = .returned (.int .u64 (bits .or .u64 x y)) ∧ w' = w := by
  go_enter Tryd.func53, Tryd.ntmps53
  go_wp2
  go_ret
  exact ⟨rfl, rfl⟩
set_option maxHeartbeats 4000000 in
theorem eachOr (a b : Nat) (w : World) :
    Calls Tryd.prog 52 #[setV a, setV b, .func (.func 53) #[] #[]] w fun e w' => e = .returned (setV (a ||| b)) ∧ Below w.heap.size w w' := by
  have q0 := w64_or a b 0
  have q1 := w64_or a b 1
  have q2 := w64_or a b 2
  have q3 := w64_or a b 3
  go_enter Tryd.func52, Tryd.ntmps52
  go_wp2
  refine wp_loop_rounds 5 ?_
  rw [rounds_succ]; go_wp2
  go_region_held3 (fun w' => w'.cell? ⟨w.heap.size, 0, none⟩ = some (.int .u64 (w64 a 0)) ∧ w'.cell? ⟨w.heap.size + 1, 0, none⟩ = some (.int .u64 (w64 b 0))) (go_keep) ((go_at_call 53; refine (cloOr _ _ _).mono ?_; rintro e w1 ⟨rfl, rfl⟩))
  go_wp2
  rw [rounds_succ]; go_wp2
  go_region_held3 (fun w' => w'.cell? ⟨w.heap.size, 1, none⟩ = some (.int .u64 (w64 a 1)) ∧ w'.cell? ⟨w.heap.size + 1, 1, none⟩ = some (.int .u64 (w64 b 1))) (go_keep) ((go_at_call 53; refine (cloOr _ _ _).mono ?_; rintro e w1 ⟨rfl, rfl⟩))
  go_wp2
  rw [rounds_succ]; go_wp2
  go_region_held3 (fun w' => w'.cell? ⟨w.heap.size, 2, none⟩ = some (.int .u64 (w64 a 2)) ∧ w'.cell? ⟨w.heap.size + 1, 2, none⟩ = some (.int .u64 (w64 b 2))) (go_keep) ((go_at_call 53; refine (cloOr _ _ _).mono ?_; rintro e w1 ⟨rfl, rfl⟩))
  go_wp2
  rw [rounds_succ]; go_wp2
  go_region_held3 (fun w' => w'.cell? ⟨w.heap.size, 3, none⟩ = some (.int .u64 (w64 a 3)) ∧ w'.cell? ⟨w.heap.size + 1, 3, none⟩ = some (.int .u64 (w64 b 3))) (go_keep) ((go_at_call 53; refine (cloOr _ _ _).mono ?_; rintro e w1 ⟨rfl, rfl⟩))
  go_wp2
  rw [rounds_succ]; go_wp2
  refine bodyPost_ret (v := setV (a ||| b)) (by simp [results, Tryd.results52, go_sem]) rfl ⟨rfl, ?_⟩
  exact (((((((Below.refl _ _).alloc (Nat.le_refl _) _).alloc (by simp) _).alloc (by simp; omega) _).drew).drew).drew).drew

/-- The function of set.And. -/
theorem cloAnd (x y : Int) (w : World) : Calls Tryd.prog 56 #[.int .u64 x, .int .u64 y] w fun e w' => e = .returned (.int .u64 (bits .and .u64 x y)) ∧ w' = w := by
  go_enter Tryd.func56, Tryd.ntmps56
  go_wp2
  go_ret
  exact ⟨rfl, rfl⟩
set_option maxHeartbeats 4000000 in
theorem eachAnd (a b : Nat) (w : World) :
    Calls Tryd.prog 52 #[setV a, setV b, .func (.func 56) #[] #[]] w fun e w' => e = .returned (setV (a &&& b)) ∧ Below w.heap.size w w' := by
  have q0 := w64_and a b 0
  have q1 := w64_and a b 1
  have q2 := w64_and a b 2
  have q3 := w64_and a b 3
  go_enter Tryd.func52, Tryd.ntmps52
  go_wp2
  refine wp_loop_rounds 5 ?_
  rw [rounds_succ]; go_wp2
  go_region_held3 (fun w' => w'.cell? ⟨w.heap.size, 0, none⟩ = some (.int .u64 (w64 a 0)) ∧ w'.cell? ⟨w.heap.size + 1, 0, none⟩ = some (.int .u64 (w64 b 0))) (go_keep) ((go_at_call 56; refine (cloAnd _ _ _).mono ?_; rintro e w1 ⟨rfl, rfl⟩))
  go_wp2
  rw [rounds_succ]; go_wp2
  go_region_held3 (fun w' => w'.cell? ⟨w.heap.size, 1, none⟩ = some (.int .u64 (w64 a 1)) ∧ w'.cell? ⟨w.heap.size + 1, 1, none⟩ = some (.int .u64 (w64 b 1))) (go_keep) ((go_at_call 56; refine (cloAnd _ _ _).mono ?_; rintro e w1 ⟨rfl, rfl⟩))
  go_wp2
  rw [rounds_succ]; go_wp2
  go_region_held3 (fun w' => w'.cell? ⟨w.heap.size, 2, none⟩ = some (.int .u64 (w64 a 2)) ∧ w'.cell? ⟨w.heap.size + 1, 2, none⟩ = some (.int .u64 (w64 b 2))) (go_keep) ((go_at_call 56; refine (cloAnd _ _ _).mono ?_; rintro e w1 ⟨rfl, rfl⟩))
  go_wp2
  rw [rounds_succ]; go_wp2
  go_region_held3 (fun w' => w'.cell? ⟨w.heap.size, 3, none⟩ = some (.int .u64 (w64 a 3)) ∧ w'.cell? ⟨w.heap.size + 1, 3, none⟩ = some (.int .u64 (w64 b 3))) (go_keep) ((go_at_call 56; refine (cloAnd _ _ _).mono ?_; rintro e w1 ⟨rfl, rfl⟩))
  go_wp2
  rw [rounds_succ]; go_wp2
  refine bodyPost_ret (v := setV (a &&& b)) (by simp [results, Tryd.results52, go_sem]) rfl ⟨rfl, ?_⟩
  exact (((((((Below.refl _ _).alloc (Nat.le_refl _) _).alloc (by simp) _).alloc (by simp; omega) _).drew).drew).drew).drew

/-- The function of set.Minus. -/
theorem cloMinus (x y : Int) (w : World) : Calls Tryd.prog 57 #[.int .u64 x, .int .u64 y] w fun e w' => e = .returned (.int .u64 (bits .andNot .u64 x y)) ∧ w' = w := by
  go_enter Tryd.func57, Tryd.ntmps57
  go_wp2
  go_ret
  exact ⟨rfl, rfl⟩
set_option maxHeartbeats 4000000 in
theorem eachMinus (a b : Nat) (w : World) :
    Calls Tryd.prog 52 #[setV a, setV b, .func (.func 57) #[] #[]] w fun e w' => e = .returned (setV (a &&& (b ^^^ full))) ∧ Below w.heap.size w w' := by
  have q0 := w64_andNot a b 0 (by decide)
  have q1 := w64_andNot a b 1 (by decide)
  have q2 := w64_andNot a b 2 (by decide)
  have q3 := w64_andNot a b 3 (by decide)
  go_enter Tryd.func52, Tryd.ntmps52
  go_wp2
  refine wp_loop_rounds 5 ?_
  rw [rounds_succ]; go_wp2
  go_region_held3 (fun w' => w'.cell? ⟨w.heap.size, 0, none⟩ = some (.int .u64 (w64 a 0)) ∧ w'.cell? ⟨w.heap.size + 1, 0, none⟩ = some (.int .u64 (w64 b 0))) (go_keep) ((go_at_call 57; refine (cloMinus _ _ _).mono ?_; rintro e w1 ⟨rfl, rfl⟩))
  go_wp2
  rw [rounds_succ]; go_wp2
  go_region_held3 (fun w' => w'.cell? ⟨w.heap.size, 1, none⟩ = some (.int .u64 (w64 a 1)) ∧ w'.cell? ⟨w.heap.size + 1, 1, none⟩ = some (.int .u64 (w64 b 1))) (go_keep) ((go_at_call 57; refine (cloMinus _ _ _).mono ?_; rintro e w1 ⟨rfl, rfl⟩))
  go_wp2
  rw [rounds_succ]; go_wp2
  go_region_held3 (fun w' => w'.cell? ⟨w.heap.size, 2, none⟩ = some (.int .u64 (w64 a 2)) ∧ w'.cell? ⟨w.heap.size + 1, 2, none⟩ = some (.int .u64 (w64 b 2))) (go_keep) ((go_at_call 57; refine (cloMinus _ _ _).mono ?_; rintro e w1 ⟨rfl, rfl⟩))
  go_wp2
  rw [rounds_succ]; go_wp2
  go_region_held3 (fun w' => w'.cell? ⟨w.heap.size, 3, none⟩ = some (.int .u64 (w64 a 3)) ∧ w'.cell? ⟨w.heap.size + 1, 3, none⟩ = some (.int .u64 (w64 b 3))) (go_keep) ((go_at_call 57; refine (cloMinus _ _ _).mono ?_; rintro e w1 ⟨rfl, rfl⟩))
  go_wp2
  rw [rounds_succ]; go_wp2
  refine bodyPost_ret (v := setV (a &&& (b ^^^ full))) (by simp [results, Tryd.results52, go_sem]) rfl ⟨rfl, ?_⟩
  exact (((((((Below.refl _ _).alloc (Nat.le_refl _) _).alloc (by simp) _).alloc (by simp; omega) _).drew).drew).drew).drew

/-- All bits turned. -/
def notW (x : Int) : Int := bits .xor .u64 18446744073709551615 x
theorem notW_w64 (a i : Nat) (hi : i < 4) : notW (w64 a i) = w64 (a ^^^ full) i := by
  unfold notW
  rw [u64_xor _ _ (by decide) (by decide) (w64_nonneg _ _) (w64_lt _ _)]
  exact word_eq (Nat.xor_lt_two_pow (by decide) (w64_natlt _ _)) _ _ fun j hj => by
    have hm : (18446744073709551615 : Int).toNat = 2 ^ 64 - 1 := by decide
    rw [Nat.testBit_xor, hm, Nat.testBit_two_pow_sub_one, decide_eq_true hj, w64_bit _ _ _ hj, Nat.testBit_xor, full_bit, decide_eq_true (show 64 * i + j < 256 by omega), Bool.xor_comm]

/-- The function of set.Not. -/
theorem cloNot (x y : Int) (w : World) : Calls Tryd.prog 54 #[.int .u64 x, .int .u64 y] w fun e w' => e = .returned (.int .u64 (notW x)) ∧ w' = w := by
  go_enter Tryd.func54, Tryd.ntmps54
  go_wp2
  go_ret
  exact ⟨rfl, rfl⟩
set_option maxHeartbeats 4000000 in
theorem eachNot (a b : Nat) (w : World) :
    Calls Tryd.prog 52 #[setV a, setV b, .func (.func 54) #[] #[]] w fun e w' => e = .returned (setV (a ^^^ full)) ∧ Below w.heap.size w w' := by
  have q0 := notW_w64 a 0 (by decide)
  have q1 := notW_w64 a 1 (by decide)
  have q2 := notW_w64 a 2 (by decide)
  have q3 := notW_w64 a 3 (by decide)
  go_enter Tryd.func52, Tryd.ntmps52
  go_wp2
  refine wp_loop_rounds 5 ?_
  rw [rounds_succ]; go_wp2
  go_region_held3 (fun w' => w'.cell? ⟨w.heap.size, 0, none⟩ = some (.int .u64 (w64 a 0)) ∧ w'.cell? ⟨w.heap.size + 1, 0, none⟩ = some (.int .u64 (w64 b 0))) (go_keep) ((go_at_call 54; refine (cloNot _ _ _).mono ?_; rintro e w1 ⟨rfl, rfl⟩))
  go_wp2
  rw [rounds_succ]; go_wp2
  go_region_held3 (fun w' => w'.cell? ⟨w.heap.size, 1, none⟩ = some (.int .u64 (w64 a 1)) ∧ w'.cell? ⟨w.heap.size + 1, 1, none⟩ = some (.int .u64 (w64 b 1))) (go_keep) ((go_at_call 54; refine (cloNot _ _ _).mono ?_; rintro e w1 ⟨rfl, rfl⟩))
  go_wp2
  rw [rounds_succ]; go_wp2
  go_region_held3 (fun w' => w'.cell? ⟨w.heap.size, 2, none⟩ = some (.int .u64 (w64 a 2)) ∧ w'.cell? ⟨w.heap.size + 1, 2, none⟩ = some (.int .u64 (w64 b 2))) (go_keep) ((go_at_call 54; refine (cloNot _ _ _).mono ?_; rintro e w1 ⟨rfl, rfl⟩))
  go_wp2
  rw [rounds_succ]; go_wp2
  go_region_held3 (fun w' => w'.cell? ⟨w.heap.size, 3, none⟩ = some (.int .u64 (w64 a 3)) ∧ w'.cell? ⟨w.heap.size + 1, 3, none⟩ = some (.int .u64 (w64 b 3))) (go_keep) ((go_at_call 54; refine (cloNot _ _ _).mono ?_; rintro e w1 ⟨rfl, rfl⟩))
  go_wp2
  rw [rounds_succ]; go_wp2
  refine bodyPost_ret (v := setV (a ^^^ full)) (by simp [results, Tryd.results52, go_sem]) rfl ⟨rfl, ?_⟩
  exact (((((((Below.refl _ _).alloc (Nat.le_refl _) _).alloc (by simp) _).alloc (by simp; omega) _).drew).drew).drew).drew

set_option maxHeartbeats 2000000 in
/-- set.Or. -/
theorem or_any (a b : Nat) (w : World) :
    Calls Tryd.prog 26 #[setV a, setV b] w fun e w' => e = .returned (setV (a ||| b)) ∧ Below w.heap.size w w' := by
  have hI := (((Inv.start w).alloc (setC a)).alloc (setC b)).alloc zeroC
  simp only [World.size_alloc] at hI
  go_enter Tryd.func26, Tryd.ntmps26
  go_wp2_with (first | (go_at_call 52; refine (eachOr _ _ _).mono ?_; rintro e W1 ⟨rfl, hb⟩; replace hI := hI.call hb; clear hb) | (refine load_set rfl (.tmp 2) rfl w.heap.size a rfl (hI.at (by simp)) ?_) | (refine load_set rfl (.tmp 3) rfl (w.heap.size + 1) b rfl (hI.at (by simp)) ?_) | (refine store_set rfl (.tmp 4) _ rfl (w.heap.size + 1 + 1) (a ||| b) 0 rfl rfl ((hI.at (o := zeroC) (by simp)).trans (congrArg some zeroC_eq)) ?_; intro W2 g1 g2 g3 g4))
  exact end_set rfl _ _ rfl g1 rfl ⟨rfl, g4 _ _ (by omega) hI.below⟩

set_option maxHeartbeats 2000000 in
/-- set.And. -/
theorem and_any (a b : Nat) (w : World) :
    Calls Tryd.prog 32 #[setV a, setV b] w fun e w' => e = .returned (setV (a &&& b)) ∧ Below w.heap.size w w' := by
  have hI := (((Inv.start w).alloc (setC a)).alloc (setC b)).alloc zeroC
  simp only [World.size_alloc] at hI
  go_enter Tryd.func32, Tryd.ntmps32
  go_wp2_with (first | (go_at_call 52; refine (eachAnd _ _ _).mono ?_; rintro e W1 ⟨rfl, hb⟩; replace hI := hI.call hb; clear hb) | (refine load_set rfl (.tmp 2) rfl w.heap.size a rfl (hI.at (by simp)) ?_) | (refine load_set rfl (.tmp 3) rfl (w.heap.size + 1) b rfl (hI.at (by simp)) ?_) | (refine store_set rfl (.tmp 4) _ rfl (w.heap.size + 1 + 1) (a &&& b) 0 rfl rfl ((hI.at (o := zeroC) (by simp)).trans (congrArg some zeroC_eq)) ?_; intro W2 g1 g2 g3 g4))
  exact end_set rfl _ _ rfl g1 rfl ⟨rfl, g4 _ _ (by omega) hI.below⟩

set_option maxHeartbeats 2000000 in
/-- set.Minus. -/
theorem minus_any (a b : Nat) (w : World) :
    Calls Tryd.prog 33 #[setV a, setV b] w fun e w' => e = .returned (setV (a &&& (b ^^^ full))) ∧ Below w.heap.size w w' := by
  have hI := (((Inv.start w).alloc (setC a)).alloc (setC b)).alloc zeroC
  simp only [World.size_alloc] at hI
  go_enter Tryd.func33, Tryd.ntmps33
  go_wp2_with (first | (go_at_call 52; refine (eachMinus _ _ _).mono ?_; rintro e W1 ⟨rfl, hb⟩; replace hI := hI.call hb; clear hb) | (refine load_set rfl (.tmp 2) rfl w.heap.size a rfl (hI.at (by simp)) ?_) | (refine load_set rfl (.tmp 3) rfl (w.heap.size + 1) b rfl (hI.at (by simp)) ?_) | (refine store_set rfl (.tmp 4) _ rfl (w.heap.size + 1 + 1) (a &&& (b ^^^ full)) 0 rfl rfl ((hI.at (o := zeroC) (by simp)).trans (congrArg some zeroC_eq)) ?_; intro W2 g1 g2 g3 g4))
  exact end_set rfl _ _ rfl g1 rfl ⟨rfl, g4 _ _ (by omega) hI.below⟩

set_option maxHeartbeats 2000000 in
/-- set.Not. -/
theorem not_any (a : Nat) (w : World) :
    Calls Tryd.prog 27 #[setV a] w fun e w' => e = .returned (setV (a ^^^ full)) ∧ Below w.heap.size w w' := by
  have hI := ((Inv.start w).alloc (setC a)).alloc zeroC
  simp only [World.size_alloc] at hI
  go_enter Tryd.func27, Tryd.ntmps27
  go_wp2_with (first | (go_at_call 52; refine (eachNot _ _ _).mono ?_; rintro e W1 ⟨rfl, hb⟩; replace hI := hI.call hb; clear hb) | (refine load_set rfl (.tmp 1) rfl w.heap.size a rfl (hI.at (by simp)) ?_) | (refine store_set rfl (.tmp 2) _ rfl (w.heap.size + 1) (a ^^^ full) 0 rfl rfl ((hI.at (o := zeroC) (by simp)).trans (congrArg some zeroC_eq)) ?_; intro W2 g1 g2 g3 g4))
  exact end_set rfl _ _ rfl g1 rfl ⟨rfl, g4 _ _ (by omega) hI.below⟩
theorem zeroV_eq : (Value.agg #[.int .u64 0, .int .u64 0, .int .u64 0, .int .u64 0]) = setV 0 := by simp [w64_zero]
set_option maxHeartbeats 2000000 in
/-- set.All. -/
theorem all_any (w : World) :
    Calls Tryd.prog 28 #[] w fun e w' => e = .returned (setV full) ∧ Below w.heap.size w w' := by
  have hI := (Inv.start w).alloc zeroC
  have hf : 0 ^^^ full = full := by decide
  go_enter Tryd.func28, Tryd.ntmps28
  go_wp2_with (first | (go_at_call 27; rw [zeroV_eq]; refine (not_any _ _).mono ?_; rw [hf]; rintro e W1 ⟨rfl, hb⟩; replace hI := hI.call hb; clear hb) | (refine store_set rfl (.tmp 0) _ rfl w.heap.size full 0 rfl rfl ((hI.at (o := zeroC) (by simp)).trans (congrArg some zeroC_eq)) ?_; intro W2 g1 g2 g3 g4))
  exact end_set rfl _ _ rfl g1 rfl ⟨rfl, g4 _ _ (by omega) hI.below⟩
end Go.Proofs.YtcpgbakdfogilaaDoor
