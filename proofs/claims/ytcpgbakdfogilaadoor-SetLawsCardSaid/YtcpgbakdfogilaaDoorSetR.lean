/- SetLaws' walk. -/
import Derived.Test.YtcpgbakdfogilaaDoorSetO
import Derived.Test.YtcpgbakdfogilaaDoorSetP
import Derived.Deep.CutRange
namespace Go.Proofs.YtcpgbakdfogilaaDoor
open Go.RowKit
set_option maxRecDepth 100000

theorem size_app (σ : ByteArray) : (σ ++ σ).size = σ.size + σ.size := by simp [ByteArray.size_append]
theorem twice (σ : ByteArray) : ofBytes (σ ++ σ).data.toList = ofBytes σ.data.toList := by
  refine set_ext (ofBytes_lt _) (ofBytes_lt _) fun i hi => ?_
  rw [ofBytes_bit _ _ hi, ofBytes_bit _ _ hi]
  simp [ByteArray.data_append]
theorem list_beq {x y : Nat} (hx : x < 2 ^ 256) (hy : y < 2 ^ 256) : (bytesTo x 256 == bytesTo y 256) = (x == y) := by
  rw [Bool.eq_iff_iff, beq_iff_eq, beq_iff_eq]
  exact ⟨bytesTo_inj hx hy, fun h => by rw [h]⟩
theorem strOf_list (l : List UInt8) : (strOf l).toList = l := by simp [strOf, ByteArray.toList_eq]

set_option maxHeartbeats 16000000 in
/-- bonsailaw01.SetLaws. -/
theorem laws_any (x y : Nat) (b : Int) (σ : ByteArray) (hx : x < 2 ^ 256) (hy : y < 2 ^ 256) (b0 : 0 ≤ b) (b1 : b < 256) (hσ : σ.size ≤ maxLen) (w : World) (hT : Tb w) :
    Calls Tryd.prog 6 #[setV x, setV y, .int .u8 b, .string σ] w fun e w' => e = .returned (.bool true) ∧ Below w.heap.size w w' := by
  have hI := ((Inv.start w).alloc (setC x)).alloc (setC y)
  rw [World.size_alloc] at hI
  replace hT := (hT.alloc (setC x)).alloc (setC y)
  have Hb := Lib.hid (And.intro b0 b1)
  have hn : b.toNat < 256 := by omega
  have Hxy := Lib.hid (words_beq hx hy)
  have Hnn := Lib.hid (not_not (a := x))
  have Hnor := Lib.hid (not_or hx hy)
  obtain ⟨X, hX⟩ : ∃ X, bytesTo x 256 = X := ⟨_, rfl⟩
  obtain ⟨Y, hY⟩ : ∃ X, bytesTo y 256 = X := ⟨_, rfl⟩
  have hss := list_beq hx hy
  rw [hX, hY] at hss
  have HX := Lib.hid hX
  have HY := Lib.hid hY
  have Hol := Lib.hid (show ofBytes (strOf X).data.toList = x by rw [← hX]; exact ofBytes_list hx)
  have Hll := Lib.hid (show (strOf X).size ≤ 9223372036854775807 by rw [strOf_size, ← hX]; have := bytesTo_len x 256; omega)
  obtain ⟨r, hr⟩ : ∃ r, (x == y) = r := ⟨_, rfl⟩
  have Hr := Lib.hid (show (X == Y) = r by rw [← hr]; exact hss)
  have Hxr := Lib.hid hr
  obtain ⟨p, hp⟩ : ∃ p, x.testBit b.toNat = p := ⟨_, rfl⟩
  obtain ⟨q, hq⟩ : ∃ q, y.testBit b.toNat = q := ⟨_, rfl⟩
  have Hp := Lib.hid hp
  have Hq := Lib.hid hq
  have Hor := Lib.hid (show (x ||| y).testBit b.toNat = (p || q) by rw [Nat.testBit_or, hp, hq])
  have Han := Lib.hid (show (x &&& y).testBit b.toNat = (p && q) by rw [Nat.testBit_and, hp, hq])
  have Hmi := Lib.hid (show (x &&& (y ^^^ full)).testBit b.toNat = (p && !q) by rw [Nat.testBit_and, Nat.testBit_xor, full_bit, decide_eq_true hn, hp, hq, Bool.xor_true])
  have Hno := Lib.hid (show (x ^^^ full).testBit b.toNat = !p by rw [Nat.testBit_xor, full_bit, decide_eq_true hn, hp, Bool.xor_true])
  clear hr hp hq hx hy b0 b1 hn hX hY hss
  by_cases h5 : (5000 : Int) < (σ.size : Int)
  · go_enter Tryd.func6, Tryd.ntmps6
    go_wp2_with ((go_at_call 12; refine (awake1_any _ hT).mono ?_; rintro e W1 ⟨rfl, hb⟩; replace hI := hI.call hb; replace hT := hT.call hb; clear hb))
    go_ret
    exact ⟨rfl, hI.below⟩
  have h5' : decide ((5000 : Int) < (σ.size : Int)) = false := by simpa using h5
  have Hs5 := Lib.hid h5
  clear h5
  go_enter Tryd.func6, Tryd.ntmps6
  go_wp2_with ((go_at_call 12; refine (awake1_any _ hT).mono ?_; rintro e W1 ⟨rfl, hb⟩; replace hI := hI.call hb; replace hT := hT.call hb; clear hb))
  obtain ⟨c00, c01, c02, c03, e0, e1, e2, e3⟩ := setB_facts (hI.at (g := w.heap.size) (o := setC x) (by simp))
  clear e0 e1 e2 e3
  obtain ⟨c10, c11, c12, c13, e0, e1, e2, e3⟩ := setB_facts (hI.at (g := w.heap.size + 1) (o := setC y) (by simp))
  clear e0 e1 e2 e3
  go_region_held3 (fun w' => (w'.cell? ⟨w.heap.size, 0, none⟩ = some (.int .u64 (w64 x 0)) ∧ w'.cell? ⟨w.heap.size, 1, none⟩ = some (.int .u64 (w64 x 1)) ∧ w'.cell? ⟨w.heap.size, 2, none⟩ = some (.int .u64 (w64 x 2)) ∧ w'.cell? ⟨w.heap.size, 3, none⟩ = some (.int .u64 (w64 x 3))) ∧ (w'.cell? ⟨w.heap.size + 1, 0, none⟩ = some (.int .u64 (w64 y 0)) ∧ w'.cell? ⟨w.heap.size + 1, 1, none⟩ = some (.int .u64 (w64 y 1)) ∧ w'.cell? ⟨w.heap.size + 1, 2, none⟩ = some (.int .u64 (w64 y 2)) ∧ w'.cell? ⟨w.heap.size + 1, 3, none⟩ = some (.int .u64 (w64 y 3)))) (go_keep)
    ((go_at_call 19; refine (has_any _ _ Hb.out.1 Hb.out.2 _).mono ?_; (first | rw [Hp.out] | rw [Hq.out] | rw [Hor.out] | rw [Han.out] | rw [Hmi.out] | rw [Hno.out] | rw [Hz.out]); rintro e W1 ⟨rfl, hb⟩; (first | replace hI := hI.call hb | replace hI := hI.drew.call hb); (first | replace hT := hT.call hb | replace hT := hT.drew.call hb); obtain ⟨c00, c01, c02, c03, e0, e1, e2, e3⟩ := setB_facts (hI.at (g := w.heap.size) (o := setC x) (by simp)); clear e0 e1 e2 e3; obtain ⟨c10, c11, c12, c13, e0, e1, e2, e3⟩ := setB_facts (hI.at (g := w.heap.size + 1) (o := setC y) (by simp)); clear e0 e1 e2 e3; clear hb))
  clear c00 c01 c02 c03 c10 c11 c12 c13
  go_upto_region 4 with fail
  go_cut [70] from 28 to 70 (fun c wx => c = .bool false ∧ Inv w.heap.size w [(w.heap.size + 1, setC y), (w.heap.size, setC x)] wx ∧ Tb wx)
  case first =>
    cases p <;> cases q
    all_goals (
      go_wp2_with (first | (go_at_call 19; refine (has_any _ _ Hb.out.1 Hb.out.2 _).mono ?_; (first | rw [Hp.out] | rw [Hq.out] | rw [Hor.out] | rw [Han.out] | rw [Hmi.out] | rw [Hno.out] | rw [Hz.out]); rintro e W1 ⟨rfl, hb⟩; replace hI := hI.call hb; replace hT := hT.call hb; clear hb) | (go_at_call 26; refine (or_any _ _ _).mono ?_; rintro e W1 ⟨rfl, hb⟩; replace hI := hI.call hb; replace hT := hT.call hb; clear hb) | (go_at_call 32; refine (and_any _ _ _).mono ?_; rintro e W1 ⟨rfl, hb⟩; replace hI := hI.call hb; replace hT := hT.call hb; clear hb) | (go_at_call 33; refine (minus_any _ _ _).mono ?_; rintro e W1 ⟨rfl, hb⟩; replace hI := hI.call hb; replace hT := hT.call hb; clear hb) | (go_at_call 27; refine (not_any _ _).mono ?_; rintro e W1 ⟨rfl, hb⟩; replace hI := hI.call hb; replace hT := hT.call hb; clear hb) | (refine load_set rfl (.tmp 4) rfl w.heap.size x rfl (hI.at (by simp)) ?_) | (refine load_set rfl (.tmp 5) rfl (w.heap.size + 1) y rfl (hI.at (by simp)) ?_))
      go_meet
      exact ⟨rfl, hI, hT⟩)
  case rest =>
  clear hI hT
  obtain ⟨rfl, hI, hT⟩ := hcut
  go_wp2_with fail
  go_loopw [11, 12] (fun v i wr => ∃ k : Nat, k ≤ σ.size ∧ i = .int .i64 k ∧ v = .bool ((σ.data.toList.take k).any fun c => (c.toNat : Int) == b) ∧ Inv w.heap.size w [(w.heap.size + 1, setC y), (w.heap.size, setC x)] wr ∧ Tb wr) (fun _ i _ => σ.size - (intOf i).toNat)
  case atStart => exact ⟨0, by omega, rfl, rfl, hI, hT⟩
  case round =>
    clear hI hT
    obtain ⟨k, hk, rfl, rfl, hI, hT⟩ := hrel
    by_cases hlt : k < σ.size
    · have hs : σ.data.toList.take (k + 1) = σ.data.toList.take k ++ [σ[k]] := by rw [List.take_succ_eq_append_getElem (by simpa using hlt)]; rfl
      have hv : ((σ.data.toList.take (k + 1)).any fun c => (c.toNat : Int) == b) = (((σ.data.toList.take k).any fun c => (c.toNat : Int) == b) || ((σ[k].toNat : Int) == b)) := by rw [hs, List.any_append]; simp
      have Hv := Lib.hid hv
      clear hs hv
      generalize hg : ((σ.data.toList.take k).any fun c => (c.toNat : Int) == b) = v at *
      have Hg := Lib.hid hg
      clear hg
      have hlt' : (k : Int) < (σ.size : Int) := by omega
      have hk5 : (k : Int) < 5000 := by have := Hs5.out; omega
      cases v
      · go_wp2
        go_roundw
        case rel => exact ⟨k + 1, by omega, by have := Hs5.out; go_num, by rw [Hv.out]; simp, hI, hT⟩
        case measure => simp [intOf]; omega
      · go_wp2
        go_roundw
        case rel => exact ⟨k + 1, by omega, by have := Hs5.out; go_num, by rw [Hv.out]; simp, hI, hT⟩
        case measure => simp [intOf]; omega
    · obtain rfl : k = σ.size := by omega
      rw [List.take_of_length_le (by simp)]
      obtain ⟨z, hz⟩ : ∃ z, ofBytes σ.data.toList = z := ⟨_, rfl⟩
      obtain ⟨v, hv⟩ : ∃ v, (σ.data.toList.any fun c => (c.toNat : Int) == b) = v := ⟨_, rfl⟩
      have Hz0 := Lib.hid hz
      have Hz := Lib.hid (show z.testBit b.toNat = v by
        rw [← hz, ← hv, ofBytes_bit _ _ (by have := Hb.out; omega)]
        congr 1
        funext c
        rw [Bool.eq_iff_iff, beq_iff_eq, beq_iff_eq]
        have := Hb.out
        omega)
      have Hzz := Lib.hid (show ofBytes (σ ++ σ).data.toList = z by rw [← hz]; exact twice σ)
      have Hsz := Lib.hid (show (σ ++ σ).size ≤ 9223372036854775807 by rw [size_app]; have := Hs5.out; omega)
      have Hsz1 := Lib.hid (show σ.size ≤ 9223372036854775807 by have := Hs5.out; omega)
      rw [hv]
      clear hz hv
      go_wp2_with fail
      refine (of_any σ Hsz1.out _).mono ?_
      rw [Hz0.out]
      rintro e W9 ⟨rfl, hb⟩
      have hp2 := Lib.hid (hI.call hb).size
      have hp3 := Lib.hid (lt_of_heap ((hI.call hb).at (g := w.heap.size + 1) (o := setC y) (by simp)))
      replace hI := (hI.call hb).alloc zeroC
      have hp1 := Lib.hid (hT.call hb).pos
      replace hT := (hT.call hb).alloc zeroC
      clear hb
      go_wp2_with (refine store_set rfl (.tmp 13) _ rfl W9.heap.size z 0 rfl rfl ((hI.at (o := zeroC) (by simp)).trans (congrArg some zeroC_eq)) ?_; intro W2 g1 g2 g3 g4; replace hT := hT.keep hp1.out (g4 _ _ (Nat.le_refl _) (Below.refl _ _)); replace hI := (hI.turn (o' := setC z) hp2.out (by intro p hp; simp at hp; have := hp3.out; rcases hp with rfl | rfl <;> simp <;> omega) g1 g2 g3 (g4 _ _ hp2.out)); clear g1 g2 g3 g4)
      have hxy := Hxy.out
      rw [Hxr.out] at hxy
      have hadd : ∀ (P : Program) (w : World), (Op.stringOp .add σ σ).run P w = .ok (.string (σ ++ σ)) w := fun P w => run_string_add_sum w σ σ (by have := Hs5.out; omega)
      have hlx := strOf_list X
      have hly := strOf_list Y
      have hr := Hr.out
      obtain ⟨c00, c01, c02, c03, e0, e1, e2, e3⟩ := setB_facts (hI.at (g := w.heap.size) (o := setC x) (by simp))
      clear e0 e1 e2 e3
      obtain ⟨c10, c11, c12, c13, e0, e1, e2, e3⟩ := setB_facts (hI.at (g := w.heap.size + 1) (o := setC y) (by simp))
      clear e0 e1 e2 e3
      obtain ⟨c20, c21, c22, c23, e0, e1, e2, e3⟩ := setB_facts (hI.at (g := W9.heap.size) (o := setC z) (by simp))
      clear e0 e1 e2 e3
      go_region_held3 (fun w' => (w'.cell? ⟨w.heap.size, 0, none⟩ = some (.int .u64 (w64 x 0)) ∧ w'.cell? ⟨w.heap.size, 1, none⟩ = some (.int .u64 (w64 x 1)) ∧ w'.cell? ⟨w.heap.size, 2, none⟩ = some (.int .u64 (w64 x 2)) ∧ w'.cell? ⟨w.heap.size, 3, none⟩ = some (.int .u64 (w64 x 3))) ∧ (w'.cell? ⟨w.heap.size + 1, 0, none⟩ = some (.int .u64 (w64 y 0)) ∧ w'.cell? ⟨w.heap.size + 1, 1, none⟩ = some (.int .u64 (w64 y 1)) ∧ w'.cell? ⟨w.heap.size + 1, 2, none⟩ = some (.int .u64 (w64 y 2)) ∧ w'.cell? ⟨w.heap.size + 1, 3, none⟩ = some (.int .u64 (w64 y 3))) ∧ (w'.cell? ⟨W9.heap.size, 0, none⟩ = some (.int .u64 (w64 z 0)) ∧ w'.cell? ⟨W9.heap.size, 1, none⟩ = some (.int .u64 (w64 z 1)) ∧ w'.cell? ⟨W9.heap.size, 2, none⟩ = some (.int .u64 (w64 z 2)) ∧ w'.cell? ⟨W9.heap.size, 3, none⟩ = some (.int .u64 (w64 z 3)))) (go_keep)
        (first
          | (go_at_call 19; refine (has_any _ _ Hb.out.1 Hb.out.2 _).mono ?_; rw [Hz.out]; rintro e W1 ⟨rfl, hb⟩; (first | replace hI := hI.call hb | replace hI := hI.drew.call hb); (first | replace hT := hT.call hb | replace hT := hT.drew.call hb); obtain ⟨c00, c01, c02, c03, e0, e1, e2, e3⟩ := setB_facts (hI.at (g := w.heap.size) (o := setC x) (by simp)); clear e0 e1 e2 e3; obtain ⟨c10, c11, c12, c13, e0, e1, e2, e3⟩ := setB_facts (hI.at (g := w.heap.size + 1) (o := setC y) (by simp)); clear e0 e1 e2 e3; obtain ⟨c20, c21, c22, c23, e0, e1, e2, e3⟩ := setB_facts (hI.at (g := W9.heap.size) (o := setC z) (by simp)); clear e0 e1 e2 e3; clear hb)
          | (go_at_call 15; (with_reducible refine (of_any _ Hsz.out _).mono ?_); rw [Hzz.out]; rintro e W1 ⟨rfl, hb⟩; (first | replace hI := hI.call hb | replace hI := hI.drew.call hb); (first | replace hT := hT.call hb | replace hT := hT.drew.call hb); obtain ⟨c00, c01, c02, c03, e0, e1, e2, e3⟩ := setB_facts (hI.at (g := w.heap.size) (o := setC x) (by simp)); clear e0 e1 e2 e3; obtain ⟨c10, c11, c12, c13, e0, e1, e2, e3⟩ := setB_facts (hI.at (g := w.heap.size + 1) (o := setC y) (by simp)); clear e0 e1 e2 e3; obtain ⟨c20, c21, c22, c23, e0, e1, e2, e3⟩ := setB_facts (hI.at (g := W9.heap.size) (o := setC z) (by simp)); clear e0 e1 e2 e3; clear hb)
          | (go_at_call 15; (with_reducible refine (of_any _ Hll.out _).mono ?_); rw [Hol.out]; rintro e W1 ⟨rfl, hb⟩; (first | replace hI := hI.call hb | replace hI := hI.drew.call hb); (first | replace hT := hT.call hb | replace hT := hT.drew.call hb); obtain ⟨c00, c01, c02, c03, e0, e1, e2, e3⟩ := setB_facts (hI.at (g := w.heap.size) (o := setC x) (by simp)); clear e0 e1 e2 e3; obtain ⟨c10, c11, c12, c13, e0, e1, e2, e3⟩ := setB_facts (hI.at (g := w.heap.size + 1) (o := setC y) (by simp)); clear e0 e1 e2 e3; obtain ⟨c20, c21, c22, c23, e0, e1, e2, e3⟩ := setB_facts (hI.at (g := W9.heap.size) (o := setC z) (by simp)); clear e0 e1 e2 e3; clear hb)
          | (go_at_call 23; refine (list_any _ _ (by exact hT)).mono ?_; (first | rw [HX.out] | rw [HY.out]); rintro e W1 ⟨rfl, hb⟩; (first | replace hI := hI.call hb | replace hI := hI.drew.call hb); (first | replace hT := hT.call hb | replace hT := hT.drew.call hb); obtain ⟨c00, c01, c02, c03, e0, e1, e2, e3⟩ := setB_facts (hI.at (g := w.heap.size) (o := setC x) (by simp)); clear e0 e1 e2 e3; obtain ⟨c10, c11, c12, c13, e0, e1, e2, e3⟩ := setB_facts (hI.at (g := w.heap.size + 1) (o := setC y) (by simp)); clear e0 e1 e2 e3; obtain ⟨c20, c21, c22, c23, e0, e1, e2, e3⟩ := setB_facts (hI.at (g := W9.heap.size) (o := setC z) (by simp)); clear e0 e1 e2 e3; clear hb)
          | (go_at_call 27; refine (not_any _ _).mono ?_; (first | rw [Hnn.out] | rw [Hnor.out] | skip); rintro e W1 ⟨rfl, hb⟩; (first | replace hI := hI.call hb | replace hI := hI.drew.call hb); (first | replace hT := hT.call hb | replace hT := hT.drew.call hb); obtain ⟨c00, c01, c02, c03, e0, e1, e2, e3⟩ := setB_facts (hI.at (g := w.heap.size) (o := setC x) (by simp)); clear e0 e1 e2 e3; obtain ⟨c10, c11, c12, c13, e0, e1, e2, e3⟩ := setB_facts (hI.at (g := w.heap.size + 1) (o := setC y) (by simp)); clear e0 e1 e2 e3; obtain ⟨c20, c21, c22, c23, e0, e1, e2, e3⟩ := setB_facts (hI.at (g := W9.heap.size) (o := setC z) (by simp)); clear e0 e1 e2 e3; clear hb)
          | (go_at_call 26; refine (or_any _ _ _).mono ?_; rintro e W1 ⟨rfl, hb⟩; (first | replace hI := hI.call hb | replace hI := hI.drew.call hb); (first | replace hT := hT.call hb | replace hT := hT.drew.call hb); obtain ⟨c00, c01, c02, c03, e0, e1, e2, e3⟩ := setB_facts (hI.at (g := w.heap.size) (o := setC x) (by simp)); clear e0 e1 e2 e3; obtain ⟨c10, c11, c12, c13, e0, e1, e2, e3⟩ := setB_facts (hI.at (g := w.heap.size + 1) (o := setC y) (by simp)); clear e0 e1 e2 e3; obtain ⟨c20, c21, c22, c23, e0, e1, e2, e3⟩ := setB_facts (hI.at (g := W9.heap.size) (o := setC z) (by simp)); clear e0 e1 e2 e3; clear hb)
          | (go_at_call 32; refine (and_any _ _ _).mono ?_; rintro e W1 ⟨rfl, hb⟩; (first | replace hI := hI.call hb | replace hI := hI.drew.call hb); (first | replace hT := hT.call hb | replace hT := hT.drew.call hb); obtain ⟨c00, c01, c02, c03, e0, e1, e2, e3⟩ := setB_facts (hI.at (g := w.heap.size) (o := setC x) (by simp)); clear e0 e1 e2 e3; obtain ⟨c10, c11, c12, c13, e0, e1, e2, e3⟩ := setB_facts (hI.at (g := w.heap.size + 1) (o := setC y) (by simp)); clear e0 e1 e2 e3; obtain ⟨c20, c21, c22, c23, e0, e1, e2, e3⟩ := setB_facts (hI.at (g := W9.heap.size) (o := setC z) (by simp)); clear e0 e1 e2 e3; clear hb)
          | (go_at_call 33; refine (minus_any _ _ _).mono ?_; rintro e W1 ⟨rfl, hb⟩; (first | replace hI := hI.call hb | replace hI := hI.drew.call hb); (first | replace hT := hT.call hb | replace hT := hT.drew.call hb); obtain ⟨c00, c01, c02, c03, e0, e1, e2, e3⟩ := setB_facts (hI.at (g := w.heap.size) (o := setC x) (by simp)); clear e0 e1 e2 e3; obtain ⟨c10, c11, c12, c13, e0, e1, e2, e3⟩ := setB_facts (hI.at (g := w.heap.size + 1) (o := setC y) (by simp)); clear e0 e1 e2 e3; obtain ⟨c20, c21, c22, c23, e0, e1, e2, e3⟩ := setB_facts (hI.at (g := W9.heap.size) (o := setC z) (by simp)); clear e0 e1 e2 e3; clear hb))
      go_wp2
      go_ret
      exact ⟨rfl, hI.below⟩
end Go.Proofs.YtcpgbakdfogilaaDoor
