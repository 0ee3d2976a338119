/- The examples of stage 1: bonsailaw01.awake. -/
import Derived.Test.YtcpgbakdfogilaaDoorSetN
namespace Go.Proofs.YtcpgbakdfogilaaDoor
open Go.RowKit
set_option maxRecDepth 100000

theorem of_str (l : List UInt8) (h : l.length ≤ 9223372036854775807) (w : World) :
    Calls Tryd.prog 15 #[.string ⟨l.toArray⟩] w fun e w' => e = .returned (setV (ofBytes l)) ∧ Below w.heap.size w w' := by
  have := of_any ⟨l.toArray⟩ (by simpa [ByteArray.size] using h) w
  simpa using this
set_option maxHeartbeats 8000000 in
/-- bonsailaw01.awake. -/
theorem awake1_any (w : World) (hT : Tb w) :
    Calls Tryd.prog 12 #[] w fun e w' => e = .returned (.bool true) ∧ Below w.heap.size w w' := by
  have hT0 := hT
  have hI0 := Inv.start w
  obtain ⟨A, hA⟩ : ∃ A, ofBytes [98, 97] = A := ⟨_, rfl⟩
  obtain ⟨X, hX⟩ : ∃ A, ofBytes [120] = A := ⟨_, rfl⟩
  obtain ⟨XY, hXY⟩ : ∃ A, ofBytes [120, 121] = A := ⟨_, rfl⟩
  obtain ⟨Sa, hSa⟩ : ∃ A, ofBytes [97] = A := ⟨_, rfl⟩
  obtain ⟨Sab, hSab⟩ : ∃ A, ofBytes [97, 98] = A := ⟨_, rfl⟩
  obtain ⟨Sb, hSb⟩ : ∃ A, ofBytes [98] = A := ⟨_, rfl⟩
  obtain ⟨Sac, hSac⟩ : ∃ A, ofBytes [97, 99] = A := ⟨_, rfl⟩
  have a1 : lenOf A = 2 := by rw [← hA]; decide +kernel
  have a2 : bytesTo A 256 = [97, 98] := by rw [← hA]; decide +kernel
  have a3 : runsL [97, 98] = [(97, 98)] := by decide +kernel
  have a4 : bytesTo X 256 = [120] := by rw [← hX]; decide +kernel
  have a5 : lenOf XY ≠ 1 := by rw [← hXY]; decide +kernel
  have a6 : rng 122 98 = 0 := by decide +kernel
  have a7 : 0 ^^^ full = full := by decide +kernel
  have a8 : lenOf full = 256 := by decide +kernel
  have a9 : cmpL (bytesTo Sa 256) (bytesTo Sab 256) = -1 := by rw [← hSa, ← hSab]; decide +kernel
  have a10 : cmpL (bytesTo Sb 256) (bytesTo Sac 256) = 1 := by rw [← hSb, ← hSac]; decide +kernel
  have a11 : (strOf [97, 98]).toList = [97, 98] := by simp [strOf, ByteArray.toList_eq]
  go_enter Tryd.func12, Tryd.ntmps12
  go_wp2_with fail
  refine (of_str [98, 97] (by simp) w).mono ?_
  rw [hA]
  rintro e W1 ⟨rfl, hb⟩
  have hI := (hI0.call hb).alloc zeroC
  have hp1 := Lib.hid (hT.call hb).pos
  have hp2 := Lib.hid hb.size
  replace hT := (hT.call hb).alloc zeroC
  clear hb hI0
  go_wp2_with (first | (refine store_set rfl (.tmp 1) _ rfl W1.heap.size A 0 rfl rfl ((hI.at (o := zeroC) (by simp)).trans (congrArg some zeroC_eq)) ?_; intro W2 g1 g2 g3 g4; replace hT := hT.keep hp1.out (g4 _ _ (Nat.le_refl _) (Below.refl _ _)); replace hI := (hI.turn (o' := setC A) hp2.out (by simp) g1 g2 g3 (g4 _ _ hp2.out)); clear g1 g2 g3 g4) | (go_at_call 15; refine (of_str _ (by simp) _).mono ?_; rintro e W3 ⟨rfl, hb⟩; replace hI := hI.call hb; replace hT := hT.call hb; clear hb) | (go_at_call 13; (with_reducible refine (only_yes X 120 a4 _ hT).mono ?_); rintro e W3 ⟨rfl, hb⟩; replace hI := hI.call hb; replace hT := hT.call hb; clear hb) | (go_at_call 13; (with_reducible refine (only_no XY a5 _).mono ?_); rintro e W3 ⟨rfl, hb⟩; replace hI := hI.call hb; replace hT := hT.call hb; clear hb) | (go_at_call 21; refine (len_any _ _).mono ?_; rintro e W3 ⟨rfl, hb⟩; replace hI := hI.call hb; replace hT := hT.call hb; clear hb) | (go_at_call 23; refine (list_any _ _ hT).mono ?_; rw [a2]; rintro e W3 ⟨rfl, hb⟩; replace hI := hI.call hb; replace hT := hT.call hb; replace hrow := ownsRow_below hrow hb; have k0 := hrow.cellAt 0 (by decide); have k1 := hrow.cellAt 1 (by decide); rw [pc1] at k0 k1; clear hb) | (go_at_call 17; refine (range_any _ _ (by omega) (by omega) (by omega) (by omega) _).mono ?_; rintro e W3 ⟨rfl, hb⟩; replace hI := hI.call hb; replace hT := hT.call hb; clear hb) | (go_at_call 27; rw [zeroV_eq]; refine (not_any _ _).mono ?_; rintro e W3 ⟨rfl, hb⟩; replace hI := hI.call hb; replace hT := hT.call hb; clear hb) | (go_at_call 28; refine (all_any _).mono ?_; rintro e W3 ⟨rfl, hb⟩; replace hI := hI.call hb; replace hT := hT.call hb; clear hb) | (go_at_call 31; refine (compare_any _ _ _ hT).mono ?_; rintro e W3 ⟨rfl, hb⟩; replace hI := hI.call hb; replace hT := hT.call hb; clear hb) | (refine load_set rfl (.tmp 1) rfl W1.heap.size A rfl (hI.at (by simp)) ?_))
  refine (runs_any A _ hT).mono ?_
  rw [a2, a3]
  rintro e W4 ⟨v, rfl, hrow, hb⟩
  obtain ⟨g, cap, rfl⟩ := ownsRow_succ hrow
  replace hI := hI.call hb
  replace hT := hT.call hb
  clear hb
  have pc1 : pairCells [(97, 98)] = [.int .u8 97, .int .u8 98] := rfl
  go_wp2_with (first | (refine load_set rfl (.tmp 1) rfl W1.heap.size A rfl (hI.at (by simp)) ?_) | (go_at_call 21; refine (len_any _ _).mono ?_; rintro e W3 ⟨rfl, hb⟩; replace hI := hI.call hb; replace hT := hT.call hb; replace hrow := ownsRow_below hrow hb; clear hb))
  refine (list_any A _ hT).mono ?_
  rw [a2]
  rintro e W3 ⟨rfl, hb⟩
  replace hI := hI.call hb
  replace hT := hT.call hb
  replace hrow := ownsRow_below hrow hb
  have k0 := hrow.cellAt 0 (by decide)
  have k1 := hrow.cellAt 1 (by decide)
  rw [pc1] at k0 k1
  clear hb
  go_wp2_with (first | (refine store_set rfl (.tmp 1) _ rfl W1.heap.size A 0 rfl rfl ((hI.at (o := zeroC) (by simp)).trans (congrArg some zeroC_eq)) ?_; intro W2 g1 g2 g3 g4; replace hT := hT.keep hp1.out (g4 _ _ (Nat.le_refl _) (Below.refl _ _)); replace hI := (hI.turn (o' := setC A) hp2.out (by simp) g1 g2 g3 (g4 _ _ hp2.out)); clear g1 g2 g3 g4) | (go_at_call 15; refine (of_str _ (by simp) _).mono ?_; rintro e W3 ⟨rfl, hb⟩; replace hI := hI.call hb; replace hT := hT.call hb; clear hb) | (go_at_call 13; (with_reducible refine (only_yes X 120 a4 _ hT).mono ?_); rintro e W3 ⟨rfl, hb⟩; replace hI := hI.call hb; replace hT := hT.call hb; clear hb) | (go_at_call 13; (with_reducible refine (only_no XY a5 _).mono ?_); rintro e W3 ⟨rfl, hb⟩; replace hI := hI.call hb; replace hT := hT.call hb; clear hb) | (go_at_call 21; refine (len_any _ _).mono ?_; rintro e W3 ⟨rfl, hb⟩; replace hI := hI.call hb; replace hT := hT.call hb; clear hb) | (go_at_call 23; refine (list_any _ _ hT).mono ?_; rw [a2]; rintro e W3 ⟨rfl, hb⟩; replace hI := hI.call hb; replace hT := hT.call hb; replace hrow := ownsRow_below hrow hb; have k0 := hrow.cellAt 0 (by decide); have k1 := hrow.cellAt 1 (by decide); rw [pc1] at k0 k1; clear hb) | (go_at_call 17; refine (range_any _ _ (by omega) (by omega) (by omega) (by omega) _).mono ?_; rintro e W3 ⟨rfl, hb⟩; replace hI := hI.call hb; replace hT := hT.call hb; clear hb) | (go_at_call 27; rw [zeroV_eq]; refine (not_any _ _).mono ?_; rintro e W3 ⟨rfl, hb⟩; replace hI := hI.call hb; replace hT := hT.call hb; clear hb) | (go_at_call 28; refine (all_any _).mono ?_; rintro e W3 ⟨rfl, hb⟩; replace hI := hI.call hb; replace hT := hT.call hb; clear hb) | (go_at_call 31; refine (compare_any _ _ _ hT).mono ?_; rintro e W3 ⟨rfl, hb⟩; replace hI := hI.call hb; replace hT := hT.call hb; clear hb) | (refine load_set rfl (.tmp 1) rfl W1.heap.size A rfl (hI.at (by simp)) ?_))
  go_ret
  exact ⟨rfl, hI.below⟩
end Go.Proofs.YtcpgbakdfogilaaDoor
