/- QuoteBack's walk. -/
import Derived.Test.YtcpgbakdfogilaaDoorQuoteP
import Derived.Test.YtcpgbakdfogilaaDoorQuoteQ
namespace Go.Proofs.YtcpgbakdfogilaaDoor
open Go.RowKit
set_option maxRecDepth 100000

theorem litL_len (s : List UInt8) : (litL s).length ≤ 4 * s.length + 2 := by have := flatS_len inText s; simp [litL]; omega
theorem classL_len (x : Nat) : (classL x).length ≤ 2400 := by
  unfold classL
  split
  · simp
  · have := itemsL_len (runsL (bytesTo x 256)); have := runsL_len (bytesTo x 256); have := bytesTo_len x 256; simp; omega
set_option maxHeartbeats 4000000 in
theorem back_big (s u t : List UInt8) (x : Nat) (h1 : s.length ≤ 2 ^ 60) (h2 : u.length ≤ 2 ^ 60) (h3 : t.length ≤ 2 ^ 60) (hbig : 5000 < s.length + u.length + t.length) (w : World) (hT : Tb w) :
    Calls Tryd.prog 9 #[.string (strOf s), .string (strOf u), setV x, .string (strOf t)] w fun e w' => e = .returned (.bool true) ∧ Below w.heap.size w w' := by
  have hI := (Inv.start w).alloc (setC x)
  replace hT := hT.alloc (setC x)
  obtain ⟨a, ha⟩ : ∃ a, (strOf s).size = a := ⟨_, rfl⟩
  obtain ⟨b, hb⟩ : ∃ a, (strOf u).size = a := ⟨_, rfl⟩
  obtain ⟨c, hc⟩ : ∃ a, (strOf t).size = a := ⟨_, rfl⟩
  have ha2 : s.length = a := by rw [← ha, strOf_size]
  have hb2 : u.length = b := by rw [← hb, strOf_size]
  have hc2 : t.length = c := by rw [← hc, strOf_size]
  rw [ha2] at h1 hbig
  rw [hb2] at h2 hbig
  rw [hc2] at h3 hbig
  have w1 : IntKind.i64.wrap ((a : Int) + (b : Int)) = (a : Int) + (b : Int) := IntWalk.i64_in _ (by omega)
  have w2 : IntKind.i64.wrap ((a : Int) + (b : Int) + (c : Int)) = (a : Int) + (b : Int) + (c : Int) := IntWalk.i64_in _ (by omega)
  have hgt : (5000 : Int) < (a : Int) + (b : Int) + (c : Int) := by omega
  clear ha2 hb2 hc2 h1 h2 h3 hbig
  go_enter Tryd.func9, Tryd.ntmps9
  go_wp2_with (go_at_call 43; (with_reducible refine (awake3_any _ hT).mono ?_); rintro e W1 ⟨rfl, hb⟩; replace hI := hI.call hb; replace hT := hT.call hb; clear hb)
  go_ret
  exact ⟨rfl, hI.below⟩
set_option maxHeartbeats 16000000 in
theorem back_small (s u t : List UInt8) (x : Nat) (hx : x < 2 ^ 256) (hsm : s.length + u.length + t.length ≤ 5000) (w : World) (hT : Tb w) :
    Calls Tryd.prog 9 #[.string (strOf s), .string (strOf u), setV x, .string (strOf t)] w fun e w' => e = .returned (.bool true) ∧ Below w.heap.size w w' := by
  have hI := (Inv.start w).alloc (setC x)
  replace hT := hT.alloc (setC x)
  have Hx := Lib.hid hx
  have Hs := Lib.hid (show s.length ≤ 100000 by omega)
  have Hu := Lib.hid (show u.length ≤ 100000 by omega)
  have hlA := litL_len s
  have hlB := litL_len u
  have hlC := classL_len x
  have hU1 := unlit_lit s (litL u ++ t)
  have hU2 := unlit_lit u t
  have hCC : x ≠ full → unclassL (classL x ++ t) = (x, (classL x).length, 0) := fun h => uncls_class x hx h t
  have hqq := words_beq hx full_lt
  obtain ⟨A, hA⟩ : ∃ A, litL s = A := ⟨_, rfl⟩
  obtain ⟨B, hB⟩ : ∃ A, litL u = A := ⟨_, rfl⟩
  obtain ⟨C, hC⟩ : ∃ A, classL x = A := ⟨_, rfl⟩
  obtain ⟨T1, hT1⟩ : ∃ T, A ++ B ++ t = T := ⟨_, rfl⟩
  obtain ⟨T2, hT2⟩ : ∃ T, B ++ t = T := ⟨_, rfl⟩
  have hT12 : A ++ T2 = T1 := by rw [← hT1, ← hT2, List.append_assoc]
  rw [hA] at hlA hU1
  rw [hB] at hlB hU1 hU2
  rw [hC] at hlC hCC
  rw [hT2] at hU1 hU2
  rw [hT12] at hU1
  have HA := Lib.hid hA
  have HB := Lib.hid hB
  have HC := Lib.hid hC
  have Ht1 := Lib.hid (show T1.length ≤ 100000 by rw [← hT1]; simp; omega)
  have Ht2 := Lib.hid (show T2.length ≤ 100000 by rw [← hT2]; simp; omega)
  have Hct := Lib.hid (show (C ++ t).length ≤ 100000 by simp; omega)
  have a1 := add_strs A B (by omega)
  have a2 := add_strs (A ++ B) t (by simp; omega)
  have a3 := add_strs C t (by omega)
  rw [hT1] at a2
  have sl : ∀ W : World, (Instr.slice 9 (.string (strOf T1)) (some (.int .i64 (A.length : Int))) none none).run Tryd.prog W = .ok (.string (strOf T2)) W := fun W => by
    rw [slice_from T1 A.length (by rw [← hT12]; simp) W, ← hT12, List.drop_left]
  have zA := strOf_size A
  have zB := strOf_size B
  have zC := strOf_size C
  have zs : ((strOf s).size : Int) = (s.length : Int) := by rw [strOf_size]
  have zu : ((strOf u).size : Int) = (u.length : Int) := by rw [strOf_size]
  have zt : ((strOf t).size : Int) = (t.length : Int) := by rw [strOf_size]
  have hsmI : ¬ (5000 : Int) < (s.length : Int) + (u.length : Int) + (t.length : Int) := by omega
  have hs0 : (0 : Int) ≤ (s.length : Int) + (u.length : Int) := by omega
  have hs1 : (s.length : Int) + (u.length : Int) ≤ 5000 := by omega
  have hs2 : (s.length : Int) + (u.length : Int) + (t.length : Int) ≤ 5000 := by omega
  clear hA hB hC hT1 hT2 hT12 hlA hlB hlC hx
  have Hsm := Lib.hid hsm
  clear hsm
  by_cases hsl : s.length ≤ 255
  · by_cases hul : u.length ≤ 255
    · have HU1 := Lib.hid (hU1.trans (if_neg (show ¬ 255 < s.length by omega)))
      have HU2 := Lib.hid (hU2.trans (if_neg (show ¬ 255 < u.length by omega)))
      have l1 : (s.length : Int) ≤ 255 := by omega
      have l2 : (u.length : Int) ≤ 255 := by omega
      clear hU1 hU2 hsl hul
      by_cases hfull : x = full
      · have hr : (x == full) = true := by simpa using hfull
        rw [hr] at hqq
        have Hfull := Lib.hid (show C = [46] by rw [← HC.out, hfull]; rfl)
        clear hr hfull hCC
        go_enter Tryd.func9, Tryd.ntmps9
        go_wp2_with (first
          | (go_at_call 43; (with_reducible refine (awake3_any _ hT).mono ?_); rintro e W1 ⟨rfl, hb⟩; replace hI := hI.call hb; replace hT := hT.call hb; clear hb)
          | (go_at_call 44; (with_reducible refine (literal_any s Hs.out _ hT).mono ?_); rw [HA.out]; rintro e W1 ⟨rfl, hb⟩; replace hI := hI.call hb; replace hT := hT.call hb; clear hb)
          | (go_at_call 44; (with_reducible refine (literal_any u Hu.out _ hT).mono ?_); rw [HB.out]; rintro e W1 ⟨rfl, hb⟩; replace hI := hI.call hb; replace hT := hT.call hb; clear hb)
          | (go_at_call 45; (with_reducible refine (unliteral_any T1 Ht1.out _).mono ?_); rw [HU1.out]; rintro e W1 ⟨rfl, hb⟩; replace hI := hI.call hb; replace hT := hT.call hb; clear hb)
          | (go_at_call 45; (with_reducible refine (unliteral_any T2 Ht2.out _).mono ?_); rw [HU2.out]; rintro e W1 ⟨rfl, hb⟩; replace hI := hI.call hb; replace hT := hT.call hb; clear hb)
          | (go_at_call 46; (with_reducible refine (class_any x Hx.out _ hT).mono ?_); rw [HC.out]; rintro e W1 ⟨rfl, hb⟩; replace hI := hI.call hb; replace hT := hT.call hb; clear hb)
          | (refine load_set rfl (.tmp 6) rfl w.heap.size x rfl (hI.at (by simp)) ?_))
        obtain ⟨c0, c1, c2, c3, e0, e1, e2, e3⟩ := setB_facts (hI.at (g := w.heap.size) (o := setC x) (by simp))
        clear e0 e1 e2 e3
        replace hI := hI.drew
        replace hT := hT.drew
        go_region_held_law (fun w' => w'.cell? ⟨w.heap.size, 0, none⟩ = some (.int .u64 (w64 x 0)) ∧ w'.cell? ⟨w.heap.size, 1, none⟩ = some (.int .u64 (w64 x 1)) ∧ w'.cell? ⟨w.heap.size, 2, none⟩ = some (.int .u64 (w64 x 2)) ∧ w'.cell? ⟨w.heap.size, 3, none⟩ = some (.int .u64 (w64 x 3))) (go_keep)
          (first | (go_at_call 28; refine (all_any _).mono ?_; rintro e W1 ⟨rfl, hb⟩; replace hI := hI.call hb; replace hT := hT.call hb; obtain ⟨c0, c1, c2, c3, e0, e1, e2, e3⟩ := setB_facts (hI.at (g := w.heap.size) (o := setC x) (by simp)); clear e0 e1 e2 e3; clear hb))
        clear c0 c1 c2 c3
        go_wp2
        go_ret
        exact ⟨ret_bool (by rw [Hfull.out, str_back]; rfl), hI.below⟩

      · have hr : (x == full) = false := by simpa using hfull
        rw [hr] at hqq
        have HCC := Lib.hid (hCC hfull)
        clear hr hfull hCC
        go_enter Tryd.func9, Tryd.ntmps9
        go_wp2_with (first
          | (go_at_call 43; (with_reducible refine (awake3_any _ hT).mono ?_); rintro e W1 ⟨rfl, hb⟩; replace hI := hI.call hb; replace hT := hT.call hb; clear hb)
          | (go_at_call 44; (with_reducible refine (literal_any s Hs.out _ hT).mono ?_); rw [HA.out]; rintro e W1 ⟨rfl, hb⟩; replace hI := hI.call hb; replace hT := hT.call hb; clear hb)
          | (go_at_call 44; (with_reducible refine (literal_any u Hu.out _ hT).mono ?_); rw [HB.out]; rintro e W1 ⟨rfl, hb⟩; replace hI := hI.call hb; replace hT := hT.call hb; clear hb)
          | (go_at_call 45; (with_reducible refine (unliteral_any T1 Ht1.out _).mono ?_); rw [HU1.out]; rintro e W1 ⟨rfl, hb⟩; replace hI := hI.call hb; replace hT := hT.call hb; clear hb)
          | (go_at_call 45; (with_reducible refine (unliteral_any T2 Ht2.out _).mono ?_); rw [HU2.out]; rintro e W1 ⟨rfl, hb⟩; replace hI := hI.call hb; replace hT := hT.call hb; clear hb)
          | (go_at_call 46; (with_reducible refine (class_any x Hx.out _ hT).mono ?_); rw [HC.out]; rintro e W1 ⟨rfl, hb⟩; replace hI := hI.call hb; replace hT := hT.call hb; clear hb)
          | (refine load_set rfl (.tmp 6) rfl w.heap.size x rfl (hI.at (by simp)) ?_))
        obtain ⟨c0, c1, c2, c3, e0, e1, e2, e3⟩ := setB_facts (hI.at (g := w.heap.size) (o := setC x) (by simp))
        clear e0 e1 e2 e3
        replace hI := hI.drew
        replace hT := hT.drew
        go_region_held_law (fun w' => w'.cell? ⟨w.heap.size, 0, none⟩ = some (.int .u64 (w64 x 0)) ∧ w'.cell? ⟨w.heap.size, 1, none⟩ = some (.int .u64 (w64 x 1)) ∧ w'.cell? ⟨w.heap.size, 2, none⟩ = some (.int .u64 (w64 x 2)) ∧ w'.cell? ⟨w.heap.size, 3, none⟩ = some (.int .u64 (w64 x 3))) (go_keep)
          (first | (go_at_call 28; refine (all_any _).mono ?_; rintro e W1 ⟨rfl, hb⟩; replace hI := hI.call hb; replace hT := hT.call hb; obtain ⟨c0, c1, c2, c3, e0, e1, e2, e3⟩ := setB_facts (hI.at (g := w.heap.size) (o := setC x) (by simp)); clear e0 e1 e2 e3; clear hb))
        clear c0 c1 c2 c3
        go_wp2_with fail
        refine (unclass_any (C ++ t) Hct.out _).mono ?_
        rw [HCC.out]
        rintro e W5 ⟨rfl, hb⟩
        replace hI := (hI.call hb).alloc (setC x)
        clear hb
        go_wp2_with (first | (refine load_set rfl (.tmp 15) rfl W5.heap.size x rfl (hI.at (by simp)) ?_) | (refine load_set rfl (.tmp 6) rfl w.heap.size x rfl (hI.at (by simp)) ?_))
        go_ret
        exact ⟨rfl, hI.below⟩


    · have l1 : (s.length : Int) ≤ 255 := by omega
      have l2 : ¬ (u.length : Int) ≤ 255 := by omega
      clear hU1 hU2 hsl hul
      by_cases hfull : x = full
      · have hr : (x == full) = true := by simpa using hfull
        rw [hr] at hqq
        have Hfull := Lib.hid (show C = [46] by rw [← HC.out, hfull]; rfl)
        clear hr hfull hCC
        go_enter Tryd.func9, Tryd.ntmps9
        go_wp2_with (first
          | (go_at_call 43; (with_reducible refine (awake3_any _ hT).mono ?_); rintro e W1 ⟨rfl, hb⟩; replace hI := hI.call hb; replace hT := hT.call hb; clear hb)
          | (go_at_call 44; (with_reducible refine (literal_any s Hs.out _ hT).mono ?_); rw [HA.out]; rintro e W1 ⟨rfl, hb⟩; replace hI := hI.call hb; replace hT := hT.call hb; clear hb)
          | (go_at_call 44; (with_reducible refine (literal_any u Hu.out _ hT).mono ?_); rw [HB.out]; rintro e W1 ⟨rfl, hb⟩; replace hI := hI.call hb; replace hT := hT.call hb; clear hb)
          | (go_at_call 46; (with_reducible refine (class_any x Hx.out _ hT).mono ?_); rw [HC.out]; rintro e W1 ⟨rfl, hb⟩; replace hI := hI.call hb; replace hT := hT.call hb; clear hb)
          | (refine load_set rfl (.tmp 6) rfl w.heap.size x rfl (hI.at (by simp)) ?_))
        obtain ⟨c0, c1, c2, c3, e0, e1, e2, e3⟩ := setB_facts (hI.at (g := w.heap.size) (o := setC x) (by simp))
        clear e0 e1 e2 e3
        replace hI := hI.drew
        replace hT := hT.drew
        go_region_held_law (fun w' => w'.cell? ⟨w.heap.size, 0, none⟩ = some (.int .u64 (w64 x 0)) ∧ w'.cell? ⟨w.heap.size, 1, none⟩ = some (.int .u64 (w64 x 1)) ∧ w'.cell? ⟨w.heap.size, 2, none⟩ = some (.int .u64 (w64 x 2)) ∧ w'.cell? ⟨w.heap.size, 3, none⟩ = some (.int .u64 (w64 x 3))) (go_keep)
          (first | (go_at_call 28; refine (all_any _).mono ?_; rintro e W1 ⟨rfl, hb⟩; replace hI := hI.call hb; replace hT := hT.call hb; obtain ⟨c0, c1, c2, c3, e0, e1, e2, e3⟩ := setB_facts (hI.at (g := w.heap.size) (o := setC x) (by simp)); clear e0 e1 e2 e3; clear hb))
        clear c0 c1 c2 c3
        go_wp2
        go_ret
        exact ⟨ret_bool (by rw [Hfull.out, str_back]; rfl), hI.below⟩

      · have hr : (x == full) = false := by simpa using hfull
        rw [hr] at hqq
        have HCC := Lib.hid (hCC hfull)
        clear hr hfull hCC
        go_enter Tryd.func9, Tryd.ntmps9
        go_wp2_with (first
          | (go_at_call 43; (with_reducible refine (awake3_any _ hT).mono ?_); rintro e W1 ⟨rfl, hb⟩; replace hI := hI.call hb; replace hT := hT.call hb; clear hb)
          | (go_at_call 44; (with_reducible refine (literal_any s Hs.out _ hT).mono ?_); rw [HA.out]; rintro e W1 ⟨rfl, hb⟩; replace hI := hI.call hb; replace hT := hT.call hb; clear hb)
          | (go_at_call 44; (with_reducible refine (literal_any u Hu.out _ hT).mono ?_); rw [HB.out]; rintro e W1 ⟨rfl, hb⟩; replace hI := hI.call hb; replace hT := hT.call hb; clear hb)
          | (go_at_call 46; (with_reducible refine (class_any x Hx.out _ hT).mono ?_); rw [HC.out]; rintro e W1 ⟨rfl, hb⟩; replace hI := hI.call hb; replace hT := hT.call hb; clear hb)
          | (refine load_set rfl (.tmp 6) rfl w.heap.size x rfl (hI.at (by simp)) ?_))
        obtain ⟨c0, c1, c2, c3, e0, e1, e2, e3⟩ := setB_facts (hI.at (g := w.heap.size) (o := setC x) (by simp))
        clear e0 e1 e2 e3
        replace hI := hI.drew
        replace hT := hT.drew
        go_region_held_law (fun w' => w'.cell? ⟨w.heap.size, 0, none⟩ = some (.int .u64 (w64 x 0)) ∧ w'.cell? ⟨w.heap.size, 1, none⟩ = some (.int .u64 (w64 x 1)) ∧ w'.cell? ⟨w.heap.size, 2, none⟩ = some (.int .u64 (w64 x 2)) ∧ w'.cell? ⟨w.heap.size, 3, none⟩ = some (.int .u64 (w64 x 3))) (go_keep)
          (first | (go_at_call 28; refine (all_any _).mono ?_; rintro e W1 ⟨rfl, hb⟩; replace hI := hI.call hb; replace hT := hT.call hb; obtain ⟨c0, c1, c2, c3, e0, e1, e2, e3⟩ := setB_facts (hI.at (g := w.heap.size) (o := setC x) (by simp)); clear e0 e1 e2 e3; clear hb))
        clear c0 c1 c2 c3
        go_wp2_with fail
        refine (unclass_any (C ++ t) Hct.out _).mono ?_
        rw [HCC.out]
        rintro e W5 ⟨rfl, hb⟩
        replace hI := (hI.call hb).alloc (setC x)
        clear hb
        go_wp2_with (first | (refine load_set rfl (.tmp 15) rfl W5.heap.size x rfl (hI.at (by simp)) ?_) | (refine load_set rfl (.tmp 6) rfl w.heap.size x rfl (hI.at (by simp)) ?_))
        go_ret
        exact ⟨rfl, hI.below⟩


  · have l1 : ¬ (s.length : Int) ≤ 255 := by omega
    clear hU1 hU2 hsl
    by_cases hfull : x = full
    · have hr : (x == full) = true := by simpa using hfull
      rw [hr] at hqq
      have Hfull := Lib.hid (show C = [46] by rw [← HC.out, hfull]; rfl)
      clear hr hfull hCC
      go_enter Tryd.func9, Tryd.ntmps9
      go_wp2_with (first
        | (go_at_call 43; (with_reducible refine (awake3_any _ hT).mono ?_); rintro e W1 ⟨rfl, hb⟩; replace hI := hI.call hb; replace hT := hT.call hb; clear hb)
        | (go_at_call 44; (with_reducible refine (literal_any s Hs.out _ hT).mono ?_); rw [HA.out]; rintro e W1 ⟨rfl, hb⟩; replace hI := hI.call hb; replace hT := hT.call hb; clear hb)
        | (go_at_call 44; (with_reducible refine (literal_any u Hu.out _ hT).mono ?_); rw [HB.out]; rintro e W1 ⟨rfl, hb⟩; replace hI := hI.call hb; replace hT := hT.call hb; clear hb)
        | (go_at_call 46; (with_reducible refine (class_any x Hx.out _ hT).mono ?_); rw [HC.out]; rintro e W1 ⟨rfl, hb⟩; replace hI := hI.call hb; replace hT := hT.call hb; clear hb)
        | (refine load_set rfl (.tmp 6) rfl w.heap.size x rfl (hI.at (by simp)) ?_))
      obtain ⟨c0, c1, c2, c3, e0, e1, e2, e3⟩ := setB_facts (hI.at (g := w.heap.size) (o := setC x) (by simp))
      clear e0 e1 e2 e3
      replace hI := hI.drew
      replace hT := hT.drew
      go_region_held_law (fun w' => w'.cell? ⟨w.heap.size, 0, none⟩ = some (.int .u64 (w64 x 0)) ∧ w'.cell? ⟨w.heap.size, 1, none⟩ = some (.int .u64 (w64 x 1)) ∧ w'.cell? ⟨w.heap.size, 2, none⟩ = some (.int .u64 (w64 x 2)) ∧ w'.cell? ⟨w.heap.size, 3, none⟩ = some (.int .u64 (w64 x 3))) (go_keep)
        (first | (go_at_call 28; refine (all_any _).mono ?_; rintro e W1 ⟨rfl, hb⟩; replace hI := hI.call hb; replace hT := hT.call hb; obtain ⟨c0, c1, c2, c3, e0, e1, e2, e3⟩ := setB_facts (hI.at (g := w.heap.size) (o := setC x) (by simp)); clear e0 e1 e2 e3; clear hb))
      clear c0 c1 c2 c3
      go_wp2
      go_ret
      exact ⟨ret_bool (by rw [Hfull.out, str_back]; rfl), hI.below⟩

    · have hr : (x == full) = false := by simpa using hfull
      rw [hr] at hqq
      have HCC := Lib.hid (hCC hfull)
      clear hr hfull hCC
      go_enter Tryd.func9, Tryd.ntmps9
      go_wp2_with (first
        | (go_at_call 43; (with_reducible refine (awake3_any _ hT).mono ?_); rintro e W1 ⟨rfl, hb⟩; replace hI := hI.call hb; replace hT := hT.call hb; clear hb)
        | (go_at_call 44; (with_reducible refine (literal_any s Hs.out _ hT).mono ?_); rw [HA.out]; rintro e W1 ⟨rfl, hb⟩; replace hI := hI.call hb; replace hT := hT.call hb; clear hb)
        | (go_at_call 44; (with_reducible refine (literal_any u Hu.out _ hT).mono ?_); rw [HB.out]; rintro e W1 ⟨rfl, hb⟩; replace hI := hI.call hb; replace hT := hT.call hb; clear hb)
        | (go_at_call 46; (with_reducible refine (class_any x Hx.out _ hT).mono ?_); rw [HC.out]; rintro e W1 ⟨rfl, hb⟩; replace hI := hI.call hb; replace hT := hT.call hb; clear hb)
        | (refine load_set rfl (.tmp 6) rfl w.heap.size x rfl (hI.at (by simp)) ?_))
      obtain ⟨c0, c1, c2, c3, e0, e1, e2, e3⟩ := setB_facts (hI.at (g := w.heap.size) (o := setC x) (by simp))
      clear e0 e1 e2 e3
      replace hI := hI.drew
      replace hT := hT.drew
      go_region_held_law (fun w' => w'.cell? ⟨w.heap.size, 0, none⟩ = some (.int .u64 (w64 x 0)) ∧ w'.cell? ⟨w.heap.size, 1, none⟩ = some (.int .u64 (w64 x 1)) ∧ w'.cell? ⟨w.heap.size, 2, none⟩ = some (.int .u64 (w64 x 2)) ∧ w'.cell? ⟨w.heap.size, 3, none⟩ = some (.int .u64 (w64 x 3))) (go_keep)
        (first | (go_at_call 28; refine (all_any _).mono ?_; rintro e W1 ⟨rfl, hb⟩; replace hI := hI.call hb; replace hT := hT.call hb; obtain ⟨c0, c1, c2, c3, e0, e1, e2, e3⟩ := setB_facts (hI.at (g := w.heap.size) (o := setC x) (by simp)); clear e0 e1 e2 e3; clear hb))
      clear c0 c1 c2 c3
      go_wp2_with fail
      refine (unclass_any (C ++ t) Hct.out _).mono ?_
      rw [HCC.out]
      rintro e W5 ⟨rfl, hb⟩
      replace hI := (hI.call hb).alloc (setC x)
      clear hb
      go_wp2_with (first | (refine load_set rfl (.tmp 15) rfl W5.heap.size x rfl (hI.at (by simp)) ?_) | (refine load_set rfl (.tmp 6) rfl w.heap.size x rfl (hI.at (by simp)) ?_))
      go_ret
      exact ⟨rfl, hI.below⟩


/-- bonsailaw03.QuoteBack. -/
theorem back_any (s u t : List UInt8) (x : Nat) (hx : x < 2 ^ 256) (h1 : s.length ≤ 2 ^ 60) (h2 : u.length ≤ 2 ^ 60) (h3 : t.length ≤ 2 ^ 60) (w : World) (hT : Tb w) :
    Calls Tryd.prog 9 #[.string (strOf s), .string (strOf u), setV x, .string (strOf t)] w fun e w' => e = .returned (.bool true) ∧ Below w.heap.size w w' := by
  by_cases h : s.length + u.length + t.length ≤ 5000
  · exact back_small s u t x hx h w hT
  · exact back_big s u t x h1 h2 h3 (by omega) w hT
end Go.Proofs.YtcpgbakdfogilaaDoor
