/- SetParts' walk. -/
import Derived.Test.YtcpgbakdfogilaaDoorSetX
namespace Go.Proofs.YtcpgbakdfogilaaDoor
open Go.RowKit
set_option maxRecDepth 100000

theorem Inv.other {n g j : Nat} {w W : World} {L : List (Nat × Obj)} {v : Value} (h : Inv n w L W) (hg : n ≤ g) (hn : ∀ p ∈ L, p.1 ≠ g) : Inv n w L (W.setCell ⟨g, j, none⟩ v) :=
  ⟨h.below.setCell (p := ⟨g, j, none⟩) hg _, by have := h.size; simpa using this, fun p hp => (heap_setCell_other _ _ _ _ (hn p hp)).trans (h.blk p hp)⟩

set_option maxHeartbeats 32000000 in
/-- bonsailaw01.SetParts. -/
theorem parts_any (x y : Nat) (hx : x < 2 ^ 256) (hy : y < 2 ^ 256) (w : World) (hT : Tb w) :
    Calls Tryd.prog 7 #[setV x, setV y] w fun e w' => e = .returned (.bool true) ∧ Below w.heap.size w w' := by
  have hI := ((Inv.start w).alloc (setC x)).alloc (setC y)
  rw [World.size_alloc] at hI
  replace hT := (hT.alloc (setC x)).alloc (setC y)
  obtain ⟨R, hR⟩ : ∃ R, runsL (bytesTo x 256) = R := ⟨_, rfl⟩
  have hrl := runsL_len (bytesTo x 256)
  have hbl := bytesTo_len x 256
  rw [hR] at hrl
  have hRl : R.length ≤ 256 := by omega
  have HRl := Lib.hid hRl
  have HR := Lib.hid hR
  have Hor := Lib.hid (or_pred hx hy)
  have Han := Lib.hid (and_pred hx y)
  have Hmi := Lib.hid (minus_pred hx y)
  have Hno := Lib.hid (not_pred hx)
  obtain ⟨P, hP⟩ : ∃ P, (x &&& (y ^^^ full) == 0) = P := ⟨_, rfl⟩
  obtain ⟨Q, hQ⟩ : ∃ Q, (!(x &&& y == 0)) = Q := ⟨_, rfl⟩
  have HP := Lib.hid hP
  have HQ := Lib.hid hQ
  have HP2 := Lib.hid (show (((lenOf (ofPred fun n => x.testBit n && !y.testBit n) : Nat) : Int) == 0) = P by
    rw [minus_pred hx y, ← hP, Bool.eq_iff_iff, beq_iff_eq, beq_iff_eq, ← lenOf_zero (and_lt hx _)]; omega)
  have HQ2 := Lib.hid (show decide (0 < lenOf (ofPred fun n => x.testBit n && y.testBit n)) = Q by
    have h0 := lenOf_zero (and_lt hx y)
    rw [and_pred hx y, ← hQ, Bool.eq_iff_iff, decide_eq_true_iff, Bool.not_eq_true', beq_eq_false_iff_ne, Ne, ← h0]; omega)
  have Hx := Lib.hid hx
  clear hR hrl hbl hP hQ hx hy
  go_enter Tryd.func7, Tryd.ntmps7
  go_wp2_with (refine load_set rfl (.tmp 2) rfl w.heap.size x rfl (hI.at (by simp)) ?_)
  refine (runs_any x _ hT).mono ?_
  rw [HR.out]
  rintro e W1 ⟨v, rfl, hrowA, hb⟩
  replace hI := hI.call hb
  replace hT := hT.call hb
  simp only [World.size_alloc] at hrowA
  clear hb
  go_wp2_with (refine load_set rfl (.tmp 2) rfl w.heap.size x rfl (hI.at (by simp)) ?_)
  refine (rruns_any x _).mono ?_
  rw [HR.out]
  rintro e W2 ⟨v2, rfl, hrowB, hb⟩
  replace hI := hI.call hb
  replace hT := hT.call hb
  replace hrowA := ownsRow_below hrowA hb
  clear hb
  go_wp2_with fail
  refine (same_both R hRl _ _ _ _ _ hrowA hrowB).mono ?_
  rintro e W3 ⟨rfl, hb⟩
  replace hI := hI.call hb
  replace hT := hT.call hb
  replace hrowA := ownsRow_below hrowA hb
  clear hb hrowB
  obtain ⟨pA, cA, rfl⟩ := row_slice hrowA
  have hposT := Lib.hid (show 0 < w.heap.size + 1 + 1 by omega)
  go_wp2
  go_loopw [7] (fun i wr => ∃ k : Nat, k ≤ R.length ∧ i = .int .i64 k ∧ Inv w.heap.size w [(w.heap.size + 1, setC y), (w.heap.size, setC x)] wr ∧ Tb wr ∧ ∃ xs, wr.ownsRow (w.heap.size + 1 + 1) 36 2 (.slice pA R.length cA) R.length xs) (fun i _ => R.length - (intOf i).toNat)
  case atStart => exact ⟨0, by omega, rfl, hI, hT, _, hrowA⟩
  case round =>
    clear hI hT hrowA
    obtain ⟨k, hk, rfl, hI, hT, xs, hrow⟩ := hrel
    by_cases hlt : k < R.length
    · rcases hrow.2 with ⟨h, h0⟩ | ⟨g, cap, cur, h, hgb, -⟩
      · omega
      · cases h
        obtain ⟨z, hz⟩ : ∃ z, xs[k * 2]? = some z := ⟨_, List.getElem?_eq_getElem (by rw [hrow.1]; omega)⟩
        have k0 := hrow.cellAt (k * 2) (by omega)
        rw [hz] at k0
        have f0 := hrow.frozenAt (k * 2)
        have hst := hrow.stored (k * 2) (.int .u8 77)
        have HI := Lib.hid hI
        have HT := Lib.hid hT
        have Hst := Lib.hid hst
        have Hgb := Lib.hid hgb
        clear hI hT hst hz hgb hrow
        go_wp2
        exact ⟨⟨k + 1, by omega, by go_num, HI.out.other (by have := Hgb.out; omega) (by intro p hp; simp at hp; have := Hgb.out; rcases hp with rfl | rfl <;> simp <;> omega), HT.out.keep (n := w.heap.size + 1 + 1) (by omega) ((Below.refl _ _).setCell (p := ⟨g, k * 2, none⟩) Hgb.out _), _, Hst.out.1⟩, by simp [intOf]; omega⟩
    · obtain rfl : k = R.length := by omega
      go_wp2
      simp only [List.append_eq, List.cons_append, List.nil_append]
      obtain ⟨c00, c01, c02, c03, e0, e1, e2, e3⟩ := setB_facts (hI.at (g := w.heap.size) (o := setC x) (by simp))
      clear e0 e1 e2 e3
      obtain ⟨c10, c11, c12, c13, e0, e1, e2, e3⟩ := setB_facts (hI.at (g := w.heap.size + 1) (o := setC y) (by simp))
      clear e0 e1 e2 e3
      go_region_held3 (fun w' => (w'.cell? ⟨w.heap.size, 0, none⟩ = some (.int .u64 (w64 x 0)) ∧ w'.cell? ⟨w.heap.size, 1, none⟩ = some (.int .u64 (w64 x 1)) ∧ w'.cell? ⟨w.heap.size, 2, none⟩ = some (.int .u64 (w64 x 2)) ∧ w'.cell? ⟨w.heap.size, 3, none⟩ = some (.int .u64 (w64 x 3))) ∧ (w'.cell? ⟨w.heap.size + 1, 0, none⟩ = some (.int .u64 (w64 y 0)) ∧ w'.cell? ⟨w.heap.size + 1, 1, none⟩ = some (.int .u64 (w64 y 1)) ∧ w'.cell? ⟨w.heap.size + 1, 2, none⟩ = some (.int .u64 (w64 y 2)) ∧ w'.cell? ⟨w.heap.size + 1, 3, none⟩ = some (.int .u64 (w64 y 3)))) (go_keep)
        (first
          | (go_at_call 25; refine (runs_any x _ (by exact hT)).mono ?_; rw [HR.out]; rintro e W1 ⟨vA, rfl, hrowA, hb⟩; (first | replace hI := hI.call hb | replace hI := hI.drew.call hb); (first | replace hT := hT.call hb | replace hT := hT.drew.call hb); (try replace hrowB := ownsRow_below hrowB hb); obtain ⟨c00, c01, c02, c03, e0, e1, e2, e3⟩ := setB_facts (hI.at (g := w.heap.size) (o := setC x) (by simp)); clear e0 e1 e2 e3; obtain ⟨c10, c11, c12, c13, e0, e1, e2, e3⟩ := setB_facts (hI.at (g := w.heap.size + 1) (o := setC y) (by simp)); clear e0 e1 e2 e3; clear hb)
          | (go_at_call 35; refine (rruns_any x _).mono ?_; rw [HR.out]; rintro e W1 ⟨vB, rfl, hrowB, hb⟩; (first | replace hI := hI.call hb | replace hI := hI.drew.call hb); (first | replace hT := hT.call hb | replace hT := hT.drew.call hb); (try replace hrowA := ownsRow_below hrowA hb); obtain ⟨c00, c01, c02, c03, e0, e1, e2, e3⟩ := setB_facts (hI.at (g := w.heap.size) (o := setC x) (by simp)); clear e0 e1 e2 e3; obtain ⟨c10, c11, c12, c13, e0, e1, e2, e3⟩ := setB_facts (hI.at (g := w.heap.size + 1) (o := setC y) (by simp)); clear e0 e1 e2 e3; clear hb)
          | (go_at_call 34; refine (same_both R HRl.out _ _ _ _ _ hrowA hrowB).mono ?_; rintro e W1 ⟨rfl, hb⟩; (first | replace hI := hI.call hb | replace hI := hI.drew.call hb); (first | replace hT := hT.call hb | replace hT := hT.drew.call hb); obtain ⟨c00, c01, c02, c03, e0, e1, e2, e3⟩ := setB_facts (hI.at (g := w.heap.size) (o := setC x) (by simp)); clear e0 e1 e2 e3; obtain ⟨c10, c11, c12, c13, e0, e1, e2, e3⟩ := setB_facts (hI.at (g := w.heap.size + 1) (o := setC y) (by simp)); clear e0 e1 e2 e3; clear hb)
          | (go_at_call 26; refine (or_any _ _ _).mono ?_; rintro e W1 ⟨rfl, hb⟩; (first | replace hI := hI.call hb | replace hI := hI.drew.call hb); (first | replace hT := hT.call hb | replace hT := hT.drew.call hb); obtain ⟨c00, c01, c02, c03, e0, e1, e2, e3⟩ := setB_facts (hI.at (g := w.heap.size) (o := setC x) (by simp)); clear e0 e1 e2 e3; obtain ⟨c10, c11, c12, c13, e0, e1, e2, e3⟩ := setB_facts (hI.at (g := w.heap.size + 1) (o := setC y) (by simp)); clear e0 e1 e2 e3; clear hb)
          | (go_at_call 36; refine (ror_any _ _ _).mono ?_; rw [Hor.out]; rintro e W1 ⟨rfl, hb⟩; (first | replace hI := hI.call hb | replace hI := hI.drew.call hb); (first | replace hT := hT.call hb | replace hT := hT.drew.call hb); obtain ⟨c00, c01, c02, c03, e0, e1, e2, e3⟩ := setB_facts (hI.at (g := w.heap.size) (o := setC x) (by simp)); clear e0 e1 e2 e3; obtain ⟨c10, c11, c12, c13, e0, e1, e2, e3⟩ := setB_facts (hI.at (g := w.heap.size + 1) (o := setC y) (by simp)); clear e0 e1 e2 e3; clear hb)
          | (go_at_call 32; refine (and_any _ _ _).mono ?_; rintro e W1 ⟨rfl, hb⟩; (first | replace hI := hI.call hb | replace hI := hI.drew.call hb); (first | replace hT := hT.call hb | replace hT := hT.drew.call hb); obtain ⟨c00, c01, c02, c03, e0, e1, e2, e3⟩ := setB_facts (hI.at (g := w.heap.size) (o := setC x) (by simp)); clear e0 e1 e2 e3; obtain ⟨c10, c11, c12, c13, e0, e1, e2, e3⟩ := setB_facts (hI.at (g := w.heap.size + 1) (o := setC y) (by simp)); clear e0 e1 e2 e3; clear hb)
          | (go_at_call 37; refine (rand_any _ _ _).mono ?_; rw [Han.out]; rintro e W1 ⟨rfl, hb⟩; (first | replace hI := hI.call hb | replace hI := hI.drew.call hb); (first | replace hT := hT.call hb | replace hT := hT.drew.call hb); obtain ⟨c00, c01, c02, c03, e0, e1, e2, e3⟩ := setB_facts (hI.at (g := w.heap.size) (o := setC x) (by simp)); clear e0 e1 e2 e3; obtain ⟨c10, c11, c12, c13, e0, e1, e2, e3⟩ := setB_facts (hI.at (g := w.heap.size + 1) (o := setC y) (by simp)); clear e0 e1 e2 e3; clear hb)
          | (go_at_call 33; refine (minus_any _ _ _).mono ?_; rintro e W1 ⟨rfl, hb⟩; (first | replace hI := hI.call hb | replace hI := hI.drew.call hb); (first | replace hT := hT.call hb | replace hT := hT.drew.call hb); obtain ⟨c00, c01, c02, c03, e0, e1, e2, e3⟩ := setB_facts (hI.at (g := w.heap.size) (o := setC x) (by simp)); clear e0 e1 e2 e3; obtain ⟨c10, c11, c12, c13, e0, e1, e2, e3⟩ := setB_facts (hI.at (g := w.heap.size + 1) (o := setC y) (by simp)); clear e0 e1 e2 e3; clear hb)
          | (go_at_call 38; refine (rminus_any _ _ _).mono ?_; rw [Hmi.out]; rintro e W1 ⟨rfl, hb⟩; (first | replace hI := hI.call hb | replace hI := hI.drew.call hb); (first | replace hT := hT.call hb | replace hT := hT.drew.call hb); obtain ⟨c00, c01, c02, c03, e0, e1, e2, e3⟩ := setB_facts (hI.at (g := w.heap.size) (o := setC x) (by simp)); clear e0 e1 e2 e3; obtain ⟨c10, c11, c12, c13, e0, e1, e2, e3⟩ := setB_facts (hI.at (g := w.heap.size + 1) (o := setC y) (by simp)); clear e0 e1 e2 e3; clear hb)
          | (go_at_call 27; refine (not_any _ _).mono ?_; rintro e W1 ⟨rfl, hb⟩; (first | replace hI := hI.call hb | replace hI := hI.drew.call hb); (first | replace hT := hT.call hb | replace hT := hT.drew.call hb); obtain ⟨c00, c01, c02, c03, e0, e1, e2, e3⟩ := setB_facts (hI.at (g := w.heap.size) (o := setC x) (by simp)); clear e0 e1 e2 e3; obtain ⟨c10, c11, c12, c13, e0, e1, e2, e3⟩ := setB_facts (hI.at (g := w.heap.size + 1) (o := setC y) (by simp)); clear e0 e1 e2 e3; clear hb)
          | (go_at_call 39; refine (rnot_any _ _).mono ?_; rw [Hno.out]; rintro e W1 ⟨rfl, hb⟩; (first | replace hI := hI.call hb | replace hI := hI.drew.call hb); (first | replace hT := hT.call hb | replace hT := hT.drew.call hb); obtain ⟨c00, c01, c02, c03, e0, e1, e2, e3⟩ := setB_facts (hI.at (g := w.heap.size) (o := setC x) (by simp)); clear e0 e1 e2 e3; obtain ⟨c10, c11, c12, c13, e0, e1, e2, e3⟩ := setB_facts (hI.at (g := w.heap.size + 1) (o := setC y) (by simp)); clear e0 e1 e2 e3; clear hb)
          | (go_at_call 29; refine (subset_any _ _ Hx.out _).mono ?_; rw [HP.out]; rintro e W1 ⟨rfl, hb⟩; (first | replace hI := hI.call hb | replace hI := hI.drew.call hb); (first | replace hT := hT.call hb | replace hT := hT.drew.call hb); obtain ⟨c00, c01, c02, c03, e0, e1, e2, e3⟩ := setB_facts (hI.at (g := w.heap.size) (o := setC x) (by simp)); clear e0 e1 e2 e3; obtain ⟨c10, c11, c12, c13, e0, e1, e2, e3⟩ := setB_facts (hI.at (g := w.heap.size + 1) (o := setC y) (by simp)); clear e0 e1 e2 e3; clear hb)
          | (go_at_call 40; refine (rsubset_any _ _ _).mono ?_; rw [HP2.out]; rintro e W1 ⟨rfl, hb⟩; (first | replace hI := hI.call hb | replace hI := hI.drew.call hb); (first | replace hT := hT.call hb | replace hT := hT.drew.call hb); obtain ⟨c00, c01, c02, c03, e0, e1, e2, e3⟩ := setB_facts (hI.at (g := w.heap.size) (o := setC x) (by simp)); clear e0 e1 e2 e3; obtain ⟨c10, c11, c12, c13, e0, e1, e2, e3⟩ := setB_facts (hI.at (g := w.heap.size + 1) (o := setC y) (by simp)); clear e0 e1 e2 e3; clear hb)
          | (go_at_call 30; refine (meets_any _ _ Hx.out _).mono ?_; rw [HQ.out]; rintro e W1 ⟨rfl, hb⟩; (first | replace hI := hI.call hb | replace hI := hI.drew.call hb); (first | replace hT := hT.call hb | replace hT := hT.drew.call hb); obtain ⟨c00, c01, c02, c03, e0, e1, e2, e3⟩ := setB_facts (hI.at (g := w.heap.size) (o := setC x) (by simp)); clear e0 e1 e2 e3; obtain ⟨c10, c11, c12, c13, e0, e1, e2, e3⟩ := setB_facts (hI.at (g := w.heap.size + 1) (o := setC y) (by simp)); clear e0 e1 e2 e3; clear hb)
          | (go_at_call 41; refine (rmeets_any _ _ _).mono ?_; rw [HQ2.out]; rintro e W1 ⟨rfl, hb⟩; (first | replace hI := hI.call hb | replace hI := hI.drew.call hb); (first | replace hT := hT.call hb | replace hT := hT.drew.call hb); obtain ⟨c00, c01, c02, c03, e0, e1, e2, e3⟩ := setB_facts (hI.at (g := w.heap.size) (o := setC x) (by simp)); clear e0 e1 e2 e3; obtain ⟨c10, c11, c12, c13, e0, e1, e2, e3⟩ := setB_facts (hI.at (g := w.heap.size + 1) (o := setC y) (by simp)); clear e0 e1 e2 e3; clear hb)
          | (go_at_call 31; refine (compare_any _ _ _ (by exact hT)).mono ?_; rintro e W1 ⟨rfl, hb⟩; (first | replace hI := hI.call hb | replace hI := hI.drew.call hb); (first | replace hT := hT.call hb | replace hT := hT.drew.call hb); obtain ⟨c00, c01, c02, c03, e0, e1, e2, e3⟩ := setB_facts (hI.at (g := w.heap.size) (o := setC x) (by simp)); clear e0 e1 e2 e3; obtain ⟨c10, c11, c12, c13, e0, e1, e2, e3⟩ := setB_facts (hI.at (g := w.heap.size + 1) (o := setC y) (by simp)); clear e0 e1 e2 e3; clear hb)
          | (go_at_call 42; refine (rcompare_any _ _ _).mono ?_; rintro e W1 ⟨rfl, hb⟩; (first | replace hI := hI.call hb | replace hI := hI.drew.call hb); (first | replace hT := hT.call hb | replace hT := hT.drew.call hb); obtain ⟨c00, c01, c02, c03, e0, e1, e2, e3⟩ := setB_facts (hI.at (g := w.heap.size) (o := setC x) (by simp)); clear e0 e1 e2 e3; obtain ⟨c10, c11, c12, c13, e0, e1, e2, e3⟩ := setB_facts (hI.at (g := w.heap.size + 1) (o := setC y) (by simp)); clear e0 e1 e2 e3; clear hb)
          | (go_at_call 12; refine (awake1_any _ (by exact hT)).mono ?_; rintro e W1 ⟨rfl, hb⟩; (first | replace hI := hI.call hb | replace hI := hI.drew.call hb); (first | replace hT := hT.call hb | replace hT := hT.drew.call hb); obtain ⟨c00, c01, c02, c03, e0, e1, e2, e3⟩ := setB_facts (hI.at (g := w.heap.size) (o := setC x) (by simp)); clear e0 e1 e2 e3; obtain ⟨c10, c11, c12, c13, e0, e1, e2, e3⟩ := setB_facts (hI.at (g := w.heap.size + 1) (o := setC y) (by simp)); clear e0 e1 e2 e3; clear hb))
      go_wp2
      go_ret
      exact ⟨rfl, hI.below⟩
end Go.Proofs.YtcpgbakdfogilaaDoor
