/- SetTells' walk. -/
import Derived.Test.YtcpgbakdfogilaaDoorSetU
namespace Go.Proofs.YtcpgbakdfogilaaDoor
open Go.RowKit
set_option maxRecDepth 100000

/-- Only, in the program and in the document, alike. -/
theorem only_both (x : Nat) : ∃ (c : Int) (i : Bool), (∀ w, Tb w → Calls Tryd.prog 13 #[setV x] w fun e w' => e = .returned (.tuple #[.int .u8 c, .bool i]) ∧ Below w.heap.size w w') ∧
    ∀ w, Calls Tryd.prog 14 #[setV x] w fun e w' => e = .returned (.tuple #[.int .u8 c, .bool i]) ∧ Below w.heap.size w w' := by
  by_cases h : lenOf x = 1
  · obtain ⟨b, hb⟩ : ∃ b, bytesTo x 256 = [b] := List.length_eq_one_iff.1 h
    exact ⟨_, _, fun w hT => only_yes x b hb w hT, fun w => ronly_yes x b hb w⟩
  · exact ⟨_, _, fun w _ => only_no x h w, fun w => ronly_no x h w⟩

set_option maxHeartbeats 16000000 in
/-- bonsailaw01.SetTells. -/
theorem tells_any (σ : ByteArray) (a b : Int) (x : Nat) (hσ : σ.size ≤ maxLen) (a0 : 0 ≤ a) (a1 : a < 256) (b0 : 0 ≤ b) (b1 : b < 256) (hx : x < 2 ^ 256) (w : World) (hT : Tb w) :
    Calls Tryd.prog 3 #[.string σ, .int .u8 a, .int .u8 b, setV x] w fun e w' => e = .returned (.bool true) ∧ Below w.heap.size w w' := by
  have hI := (Inv.start w).alloc (setC x)
  replace hT := hT.alloc (setC x)
  have Hb := Lib.hid (And.intro a0 (And.intro a1 (And.intro b0 b1)))
  have Hr := Lib.hid (range_pred a b)
  have Hσ := Lib.hid (show σ.size ≤ 9223372036854775807 from hσ)
  obtain ⟨c, i, o1, o2⟩ := only_both x
  have O1 := Lib.hid o1
  have O2 := Lib.hid o2
  clear o1 o2 a0 a1 b0 b1 hx hσ
  by_cases h5 : (5000 : Int) < (σ.size : Int)
  · go_enter Tryd.func3, Tryd.ntmps3
    go_wp2_with ((go_at_call 12; refine (awake1_any _ hT).mono ?_; rintro e W1 ⟨rfl, hb⟩; replace hI := hI.call hb; replace hT := hT.call hb; clear hb))
    go_ret
    exact ⟨rfl, hI.below⟩
  have h5' : decide ((5000 : Int) < (σ.size : Int)) = false := by simpa using h5
  clear h5
  go_enter Tryd.func3, Tryd.ntmps3
  go_wp2_with (first | (go_at_call 13; refine (O1.out _ hT).mono ?_; rintro e W1 ⟨rfl, hb⟩; replace hI := hI.call hb; replace hT := hT.call hb; clear hb) | (go_at_call 14; refine (O2.out _).mono ?_; rintro e W1 ⟨rfl, hb⟩; replace hI := hI.call hb; replace hT := hT.call hb; clear hb) | (refine load_set rfl (.tmp 7) rfl w.heap.size x rfl (hI.at (by simp)) ?_))
  obtain ⟨c00, c01, c02, c03, e0, e1, e2, e3⟩ := setB_facts (hI.at (g := w.heap.size) (o := setC x) (by simp))
  clear e0 e1 e2 e3
  go_region_held3 (fun w' => (w'.cell? ⟨w.heap.size, 0, none⟩ = some (.int .u64 (w64 x 0)) ∧ w'.cell? ⟨w.heap.size, 1, none⟩ = some (.int .u64 (w64 x 1)) ∧ w'.cell? ⟨w.heap.size, 2, none⟩ = some (.int .u64 (w64 x 2)) ∧ w'.cell? ⟨w.heap.size, 3, none⟩ = some (.int .u64 (w64 x 3)))) (go_keep)
    (first
      | (go_at_call 15; refine (of_any _ Hσ.out _).mono ?_; rintro e W1 ⟨rfl, hb⟩; (first | replace hI := hI.call hb | replace hI := hI.drew.call hb); (first | replace hT := hT.call hb | replace hT := hT.drew.call hb); obtain ⟨c00, c01, c02, c03, e0, e1, e2, e3⟩ := setB_facts (hI.at (g := w.heap.size) (o := setC x) (by simp)); clear e0 e1 e2 e3; clear hb)
      | (go_at_call 16; refine (rof_any _ Hσ.out _).mono ?_; rintro e W1 ⟨rfl, hb⟩; (first | replace hI := hI.call hb | replace hI := hI.drew.call hb); (first | replace hT := hT.call hb | replace hT := hT.drew.call hb); obtain ⟨c00, c01, c02, c03, e0, e1, e2, e3⟩ := setB_facts (hI.at (g := w.heap.size) (o := setC x) (by simp)); clear e0 e1 e2 e3; clear hb)
      | (go_at_call 17; refine (range_any _ _ Hb.out.1 Hb.out.2.1 Hb.out.2.2.1 Hb.out.2.2.2 _).mono ?_; rintro e W1 ⟨rfl, hb⟩; (first | replace hI := hI.call hb | replace hI := hI.drew.call hb); (first | replace hT := hT.call hb | replace hT := hT.drew.call hb); obtain ⟨c00, c01, c02, c03, e0, e1, e2, e3⟩ := setB_facts (hI.at (g := w.heap.size) (o := setC x) (by simp)); clear e0 e1 e2 e3; clear hb)
      | (go_at_call 18; refine (rrange_any _ _ Hb.out.1 Hb.out.2.1 Hb.out.2.2.1 Hb.out.2.2.2 _).mono ?_; rw [Hr.out]; rintro e W1 ⟨rfl, hb⟩; (first | replace hI := hI.call hb | replace hI := hI.drew.call hb); (first | replace hT := hT.call hb | replace hT := hT.drew.call hb); obtain ⟨c00, c01, c02, c03, e0, e1, e2, e3⟩ := setB_facts (hI.at (g := w.heap.size) (o := setC x) (by simp)); clear e0 e1 e2 e3; clear hb)
      | (go_at_call 19; refine (has_any _ _ Hb.out.1 Hb.out.2.1 _).mono ?_; rintro e W1 ⟨rfl, hb⟩; (first | replace hI := hI.call hb | replace hI := hI.drew.call hb); (first | replace hT := hT.call hb | replace hT := hT.drew.call hb); obtain ⟨c00, c01, c02, c03, e0, e1, e2, e3⟩ := setB_facts (hI.at (g := w.heap.size) (o := setC x) (by simp)); clear e0 e1 e2 e3; clear hb)
      | (go_at_call 20; refine (rhas_any _ _ Hb.out.1 Hb.out.2.1 _).mono ?_; rintro e W1 ⟨rfl, hb⟩; (first | replace hI := hI.call hb | replace hI := hI.drew.call hb); (first | replace hT := hT.call hb | replace hT := hT.drew.call hb); obtain ⟨c00, c01, c02, c03, e0, e1, e2, e3⟩ := setB_facts (hI.at (g := w.heap.size) (o := setC x) (by simp)); clear e0 e1 e2 e3; clear hb)
      | (go_at_call 21; refine (len_any _ _).mono ?_; rintro e W1 ⟨rfl, hb⟩; (first | replace hI := hI.call hb | replace hI := hI.drew.call hb); (first | replace hT := hT.call hb | replace hT := hT.drew.call hb); obtain ⟨c00, c01, c02, c03, e0, e1, e2, e3⟩ := setB_facts (hI.at (g := w.heap.size) (o := setC x) (by simp)); clear e0 e1 e2 e3; clear hb)
      | (go_at_call 22; refine (rlen_any _ _).mono ?_; rintro e W1 ⟨rfl, hb⟩; (first | replace hI := hI.call hb | replace hI := hI.drew.call hb); (first | replace hT := hT.call hb | replace hT := hT.drew.call hb); obtain ⟨c00, c01, c02, c03, e0, e1, e2, e3⟩ := setB_facts (hI.at (g := w.heap.size) (o := setC x) (by simp)); clear e0 e1 e2 e3; clear hb)
      | (go_at_call 23; refine (list_any _ _ (by exact hT)).mono ?_; rintro e W1 ⟨rfl, hb⟩; (first | replace hI := hI.call hb | replace hI := hI.drew.call hb); (first | replace hT := hT.call hb | replace hT := hT.drew.call hb); obtain ⟨c00, c01, c02, c03, e0, e1, e2, e3⟩ := setB_facts (hI.at (g := w.heap.size) (o := setC x) (by simp)); clear e0 e1 e2 e3; clear hb)
      | (go_at_call 24; refine (rlist_any _ _).mono ?_; rintro e W1 ⟨rfl, hb⟩; (first | replace hI := hI.call hb | replace hI := hI.drew.call hb); (first | replace hT := hT.call hb | replace hT := hT.drew.call hb); obtain ⟨c00, c01, c02, c03, e0, e1, e2, e3⟩ := setB_facts (hI.at (g := w.heap.size) (o := setC x) (by simp)); clear e0 e1 e2 e3; clear hb)
      | (go_at_call 12; refine (awake1_any _ (by exact hT)).mono ?_; rintro e W1 ⟨rfl, hb⟩; (first | replace hI := hI.call hb | replace hI := hI.drew.call hb); (first | replace hT := hT.call hb | replace hT := hT.drew.call hb); obtain ⟨c00, c01, c02, c03, e0, e1, e2, e3⟩ := setB_facts (hI.at (g := w.heap.size) (o := setC x) (by simp)); clear e0 e1 e2 e3; clear hb))
  go_wp2
  go_ret
  exact ⟨rfl, hI.below⟩
end Go.Proofs.YtcpgbakdfogilaaDoor
