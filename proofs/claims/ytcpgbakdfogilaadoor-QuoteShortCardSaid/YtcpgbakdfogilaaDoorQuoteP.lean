/- bonsailaw03.awake: the examples. -/
import Derived.Test.YtcpgbakdfogilaaDoorQuoteO
import Derived.Deep.RegionHeldLaw
namespace Go.Proofs.YtcpgbakdfogilaaDoor
open Go.RowKit
set_option maxRecDepth 100000

theorem str_back (l : List UInt8) : (strOf l).toList = l := by simp [strOf, ByteArray.toList_eq]
set_option maxHeartbeats 4000000 in
theorem text_yes (t s : List UInt8) (n : Nat) (hl : t.length ≤ 1000) (h : unlitL t = (s, n, 0)) (w : World) :
    Calls Tryd.prog 59 #[.string (strOf t), .string (strOf s), .int .i64 (n : Int)] w fun e w' => e = .returned (.bool true) ∧ Below w.heap.size w w' := by
  have H := Lib.hid h
  clear h
  go_enter Tryd.func59, Tryd.ntmps59
  go_wp2_with (go_at_call 45; refine (unliteral_any t (by omega) _).mono ?_; rw [H.out]; rintro e w1 ⟨rfl, hb⟩)
  go_ret
  exact ⟨rfl, hb⟩
set_option maxHeartbeats 4000000 in
theorem wrong_yes (r : List UInt8) (n : Nat) (e : Int) (hl : (91 :: r).length ≤ 1000) (h : unclassL (91 :: r) = (0, n, e)) (w : World) :
    Calls Tryd.prog 60 #[.string (strOf (91 :: r)), .int .i64 (n : Int), .int .i64 e] w fun e w' => e = .returned (.bool true) ∧ Below w.heap.size w w' := by
  have H := Lib.hid h
  have hsz : ((strOf (91 :: r)).size : Int) = (r.length : Int) + 1 := by rw [strOf_size]; simp
  obtain ⟨σ, hσ, hsz2, hgt⟩ := strOf_name (91 :: r)
  have hs0 : 0 < σ.size := by rw [hsz2]; simp
  have e0 : σ[0] = 91 := hgt.out 0 hs0 (by simp)
  have ix : ∀ w : World, (Instr.index 9 (.string (strOf (91 :: r))) (.int .i64 0)).run Tryd.prog w = .ok (.int .u8 91) w := fun w => by
    have h := idx_str σ 0 hs0 w
    rw [e0, ← hσ] at h
    exact h
  have hne : ((strOf (91 :: r)).toList == []) = false := by rw [str_back]; rfl
  clear hσ hsz2 hgt hs0 e0 h hsz
  have hI := Inv.start w
  go_enter Tryd.func60, Tryd.ntmps60
  go_wp2_with (go_at_call 47; refine (unclass_any (91 :: r) (by omega) _).mono ?_; rw [H.out]; rintro e1 w1 ⟨rfl, hb⟩; replace hI := (hI.call hb).alloc zeroC; clear hb)
  go_ret
  exact ⟨rfl, hI.below⟩
/-! awake -/
def X3 : Nat := ofBytes [97] ^^^ full
theorem X3_lt : X3 < 2 ^ 256 := by decide +kernel
def S5 : Nat := ofBytes [97, 98, 99, 100, 45]
def S2a : Nat := ofBytes [97, 98]
def S1a : Nat := ofBytes [97]
theorem k_uncl (w : World) (hT : Tb w) : Calls Tryd.prog 47 #[.string ⟨#[91, 94, 97, 93]⟩] w fun e w' => e = .returned (.tuple #[setV X3, .int .i64 4, .int .i64 0]) ∧ Below w.heap.size w w' := by
  have h := unclass_any [91, 94, 97, 93] (by decide) w
  rw [show unclassL [91, 94, 97, 93] = (X3, 4, 0) by decide +kernel] at h
  exact h
theorem k_lit (w : World) (hT : Tb w) : Calls Tryd.prog 44 #[.string ⟨#[97, 34, 10, 0]⟩] w fun e w' => e = .returned (.string ⟨#[34, 97, 92, 34, 92, 110, 92, 120, 48, 48, 34]⟩) ∧ Below w.heap.size w w' := by
  have h := literal_any [97, 34, 10, 0] (by decide) w hT
  rw [show litL [97, 34, 10, 0] = [34, 97, 92, 34, 92, 110, 92, 120, 48, 48, 34] by decide +kernel] at h
  exact h
theorem k_text (w : World) (hT : Tb w) : Calls Tryd.prog 59 #[.string ⟨#[34, 92, 120, 52, 65, 34, 120]⟩, .string ⟨#[74]⟩, .int .i64 6] w fun e w' => e = .returned (.bool true) ∧ Below w.heap.size w w' := by
  exact text_yes [34, 92, 120, 52, 65, 34, 120] [74] 6 (by decide) (by decide +kernel) w
theorem k_of5 (w : World) (hT : Tb w) : Calls Tryd.prog 15 #[.string ⟨#[97, 98, 99, 100, 45]⟩] w fun e w' => e = .returned (setV S5) ∧ Below w.heap.size w w' := by
  exact of_str [97, 98, 99, 100, 45] (by decide) w
theorem k_of2 (w : World) (hT : Tb w) : Calls Tryd.prog 15 #[.string ⟨#[97, 98]⟩] w fun e w' => e = .returned (setV S2a) ∧ Below w.heap.size w w' := by
  exact of_str [97, 98] (by decide) w
theorem k_of1 (w : World) (hT : Tb w) : Calls Tryd.prog 15 #[.string ⟨#[97]⟩] w fun e w' => e = .returned (setV S1a) ∧ Below w.heap.size w w' := by
  exact of_str [97] (by decide) w
theorem k_cl5 (w : World) (hT : Tb w) : Calls Tryd.prog 46 #[setV S5] w fun e w' => e = .returned (.string ⟨#[91, 92, 45, 97, 45, 100, 93]⟩) ∧ Below w.heap.size w w' := by
  have h := class_any S5 (by decide +kernel) w hT
  rw [show classL S5 = [91, 92, 45, 97, 45, 100, 93] by decide +kernel] at h
  exact h
theorem k_cl2 (w : World) (hT : Tb w) : Calls Tryd.prog 46 #[setV S2a] w fun e w' => e = .returned (.string ⟨#[91, 97, 98, 93]⟩) ∧ Below w.heap.size w w' := by
  have h := class_any S2a (by decide +kernel) w hT
  rw [show classL S2a = [91, 97, 98, 93] by decide +kernel] at h
  exact h
theorem k_cl0 (w : World) (hT : Tb w) : Calls Tryd.prog 46 #[.agg #[.int .u64 0, .int .u64 0, .int .u64 0, .int .u64 0]] w fun e w' => e = .returned (.string ⟨#[91, 93]⟩) ∧ Below w.heap.size w w' := by
  rw [zeroV_eq]
  have h := class_any 0 (by decide) w hT
  rw [show classL 0 = [91, 93] by decide +kernel] at h
  exact h
theorem k_clf (w : World) (hT : Tb w) : Calls Tryd.prog 46 #[setV full] w fun e w' => e = .returned (.string ⟨#[46]⟩) ∧ Below w.heap.size w w' := by
  exact class_all w hT
theorem k_all (w : World) (hT : Tb w) : Calls Tryd.prog 28 #[] w fun e w' => e = .returned (setV full) ∧ Below w.heap.size w w' := by
  exact all_any w
theorem k_not (w : World) (hT : Tb w) : Calls Tryd.prog 27 #[setV S1a] w fun e w' => e = .returned (setV X3) ∧ Below w.heap.size w w' := by
  exact not_any S1a w
theorem k_w1 (w : World) (hT : Tb w) : Calls Tryd.prog 60 #[.string ⟨#[91, 98, 45, 97, 93]⟩, .int .i64 1, .int .i64 4] w fun e w' => e = .returned (.bool true) ∧ Below w.heap.size w w' := by
  exact wrong_yes [98, 45, 97, 93] 1 4 (by decide) (by decide +kernel) w
theorem k_w2 (w : World) (hT : Tb w) : Calls Tryd.prog 60 #[.string ⟨#[91, 97]⟩, .int .i64 2, .int .i64 8] w fun e w' => e = .returned (.bool true) ∧ Below w.heap.size w w' := by
  exact wrong_yes [97] 2 8 (by decide) (by decide +kernel) w
theorem k_w3 (w : World) (hT : Tb w) : Calls Tryd.prog 60 #[.string ⟨#[91, 97, 94, 93]⟩, .int .i64 2, .int .i64 4] w fun e w' => e = .returned (.bool true) ∧ Below w.heap.size w w' := by
  exact wrong_yes [97, 94, 93] 2 4 (by decide) (by decide +kernel) w
set_option maxHeartbeats 16000000 in
/-- bonsailaw03.awake. -/
theorem awake3_any (w : World) (hT : Tb w) :
    Calls Tryd.prog 43 #[] w fun e w' => e = .returned (.bool true) ∧ Below w.heap.size w w' := by
  have hI := Inv.start w
  go_enter Tryd.func43, Tryd.ntmps43
  go_wp2_with fail
  refine (k_uncl _ hT).mono ?_
  rintro e W0 ⟨rfl, hb⟩
  replace hI := (hI.call hb).alloc (setC X3)
  replace hT := (hT.call hb).alloc (setC X3)
  clear hb
  go_wp2_with fail
  obtain ⟨c0, c1, c2, c3, e0, e1, e2, e3⟩ := setB_facts (hI.at (g := W0.heap.size) (o := setC X3) (by simp))
  clear e0 e1 e2 e3
  replace hI := hI.drew
  replace hT := hT.drew
  go_region_held_law (fun w' => w'.cell? ⟨W0.heap.size, 0, none⟩ = some (.int .u64 (w64 X3 0)) ∧ w'.cell? ⟨W0.heap.size, 1, none⟩ = some (.int .u64 (w64 X3 1)) ∧ w'.cell? ⟨W0.heap.size, 2, none⟩ = some (.int .u64 (w64 X3 2)) ∧ w'.cell? ⟨W0.heap.size, 3, none⟩ = some (.int .u64 (w64 X3 3))) (go_keep)
    (first
      | (go_at_call 44; (with_reducible refine (k_lit _ hT).mono ?_); rintro e W1 ⟨rfl, hb⟩; replace hI := hI.call hb; replace hT := hT.call hb; obtain ⟨c0, c1, c2, c3, e0, e1, e2, e3⟩ := setB_facts (hI.at (g := W0.heap.size) (o := setC X3) (by simp)); clear e0 e1 e2 e3 hb)
      | (go_at_call 59; (with_reducible refine (k_text _ hT).mono ?_); rintro e W1 ⟨rfl, hb⟩; replace hI := hI.call hb; replace hT := hT.call hb; obtain ⟨c0, c1, c2, c3, e0, e1, e2, e3⟩ := setB_facts (hI.at (g := W0.heap.size) (o := setC X3) (by simp)); clear e0 e1 e2 e3 hb)
      | (go_at_call 15; (with_reducible refine (k_of5 _ hT).mono ?_); rintro e W1 ⟨rfl, hb⟩; replace hI := hI.call hb; replace hT := hT.call hb; obtain ⟨c0, c1, c2, c3, e0, e1, e2, e3⟩ := setB_facts (hI.at (g := W0.heap.size) (o := setC X3) (by simp)); clear e0 e1 e2 e3 hb)
      | (go_at_call 15; (with_reducible refine (k_of2 _ hT).mono ?_); rintro e W1 ⟨rfl, hb⟩; replace hI := hI.call hb; replace hT := hT.call hb; obtain ⟨c0, c1, c2, c3, e0, e1, e2, e3⟩ := setB_facts (hI.at (g := W0.heap.size) (o := setC X3) (by simp)); clear e0 e1 e2 e3 hb)
      | (go_at_call 15; (with_reducible refine (k_of1 _ hT).mono ?_); rintro e W1 ⟨rfl, hb⟩; replace hI := hI.call hb; replace hT := hT.call hb; obtain ⟨c0, c1, c2, c3, e0, e1, e2, e3⟩ := setB_facts (hI.at (g := W0.heap.size) (o := setC X3) (by simp)); clear e0 e1 e2 e3 hb)
      | (go_at_call 46; (with_reducible refine (k_cl5 _ hT).mono ?_); rintro e W1 ⟨rfl, hb⟩; replace hI := hI.call hb; replace hT := hT.call hb; obtain ⟨c0, c1, c2, c3, e0, e1, e2, e3⟩ := setB_facts (hI.at (g := W0.heap.size) (o := setC X3) (by simp)); clear e0 e1 e2 e3 hb)
      | (go_at_call 46; (with_reducible refine (k_cl2 _ hT).mono ?_); rintro e W1 ⟨rfl, hb⟩; replace hI := hI.call hb; replace hT := hT.call hb; obtain ⟨c0, c1, c2, c3, e0, e1, e2, e3⟩ := setB_facts (hI.at (g := W0.heap.size) (o := setC X3) (by simp)); clear e0 e1 e2 e3 hb)
      | (go_at_call 46; (with_reducible refine (k_cl0 _ hT).mono ?_); rintro e W1 ⟨rfl, hb⟩; replace hI := hI.call hb; replace hT := hT.call hb; obtain ⟨c0, c1, c2, c3, e0, e1, e2, e3⟩ := setB_facts (hI.at (g := W0.heap.size) (o := setC X3) (by simp)); clear e0 e1 e2 e3 hb)
      | (go_at_call 46; (with_reducible refine (k_clf _ hT).mono ?_); rintro e W1 ⟨rfl, hb⟩; replace hI := hI.call hb; replace hT := hT.call hb; obtain ⟨c0, c1, c2, c3, e0, e1, e2, e3⟩ := setB_facts (hI.at (g := W0.heap.size) (o := setC X3) (by simp)); clear e0 e1 e2 e3 hb)
      | (go_at_call 28; (with_reducible refine (k_all _ hT).mono ?_); rintro e W1 ⟨rfl, hb⟩; replace hI := hI.call hb; replace hT := hT.call hb; obtain ⟨c0, c1, c2, c3, e0, e1, e2, e3⟩ := setB_facts (hI.at (g := W0.heap.size) (o := setC X3) (by simp)); clear e0 e1 e2 e3 hb)
      | (go_at_call 27; (with_reducible refine (k_not _ hT).mono ?_); rintro e W1 ⟨rfl, hb⟩; replace hI := hI.call hb; replace hT := hT.call hb; obtain ⟨c0, c1, c2, c3, e0, e1, e2, e3⟩ := setB_facts (hI.at (g := W0.heap.size) (o := setC X3) (by simp)); clear e0 e1 e2 e3 hb)
      | (go_at_call 60; (with_reducible refine (k_w1 _ hT).mono ?_); rintro e W1 ⟨rfl, hb⟩; replace hI := hI.call hb; replace hT := hT.call hb; obtain ⟨c0, c1, c2, c3, e0, e1, e2, e3⟩ := setB_facts (hI.at (g := W0.heap.size) (o := setC X3) (by simp)); clear e0 e1 e2 e3 hb)
      | (go_at_call 60; (with_reducible refine (k_w2 _ hT).mono ?_); rintro e W1 ⟨rfl, hb⟩; replace hI := hI.call hb; replace hT := hT.call hb; obtain ⟨c0, c1, c2, c3, e0, e1, e2, e3⟩ := setB_facts (hI.at (g := W0.heap.size) (o := setC X3) (by simp)); clear e0 e1 e2 e3 hb)
      | (go_at_call 60; (with_reducible refine (k_w3 _ hT).mono ?_); rintro e W1 ⟨rfl, hb⟩; replace hI := hI.call hb; replace hT := hT.call hb; obtain ⟨c0, c1, c2, c3, e0, e1, e2, e3⟩ := setB_facts (hI.at (g := W0.heap.size) (o := setC X3) (by simp)); clear e0 e1 e2 e3 hb))
  go_wp2
  go_ret
  exact ⟨rfl, hI.below⟩
end Go.Proofs.YtcpgbakdfogilaaDoor
