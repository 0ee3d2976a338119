/- SetNames' walk. -/
import Derived.Test.YtcpgbakdfogilaaDoorSetNa
import Derived.Deep.CutRange
import Derived.Deep.RegionHeldLaw
namespace Go.Proofs.YtcpgbakdfogilaaDoor
open Go.RowKit
set_option maxRecDepth 100000

theorem word_other (b : Int) (j : Nat) (h0 : 0 ≤ b) (h : b / 64 ≠ j) : w64 (bitOf b) j = 0 := by
  have := w64_or_other 0 j b h0 h
  rwa [Nat.zero_or, w64_zero] at this

/-- 'string([]byte{b})'. -/
theorem conv_one (b : Int) (c : UInt8) (h : ((c.toNat : Nat) : Int) = b) (W : World) : (convert 41 9 (.slice (some ⟨W.heap.size, 0, none⟩) 1 1)).run Tryd.prog (W.alloc (.cells #[.int .u8 b] 5)) = .ok (.string ⟨[c].toArray⟩) (W.alloc (.cells #[.int .u8 b] 5)) := by
  subst h
  exact run_conv_str (base := 0) (k := 1) tBytes.slice tyStr tyU8 [c] ⟨rfl, Or.inr ⟨W.heap.size, 1, #[.int .u8 (c.toNat : Int)], rfl, Nat.zero_le _, heap_alloc_new W _, Nat.le_refl _, by decide, rfl, rfl⟩⟩
theorem Inv.tail {n : Nat} {w W : World} {p : Nat × Obj} {L : List (Nat × Obj)} (h : Inv n w (p :: L) W) : Inv n w L W := h.sub fun _ hq => List.mem_cons_of_mem _ hq
theorem row_sl {w : World} {b n : Nat} {e : TypeId} {size : Nat} {v : Value} {xs : List Value} (h : w.ownsRow b e size v n xs) : ∃ p c, v = .slice p n c := by
  rcases h.2 with ⟨rfl, rfl⟩ | ⟨g, cap, cur, rfl, _⟩
  · exact ⟨_, _, rfl⟩
  · exact ⟨_, _, rfl⟩

theorem lt256 : 0 < 2 ^ 256 := by decide
theorem strOf_nil : (strOf []).toList = [] := by simp [strOf, ByteArray.toList_eq]
theorem rngA : rng 0 (255 + 1) = full := rngFull
theorem rngB : setV (rng 60 (70 + 1)) = .agg #[.int .u64 17293822569102704640, .int .u64 127, .int .u64 0, .int .u64 0] := rng6070
theorem range_0_255 (w : World) : Calls Tryd.prog 17 #[.int .u8 0, .int .u8 255] w fun e w' => e = .returned (setV full) ∧ Below w.heap.size w w' := by
  have := range_any 0 255 (by omega) (by omega) (by omega) (by omega) w
  rwa [rngA] at this
theorem range_60_70 (w : World) : Calls Tryd.prog 17 #[.int .u8 60, .int .u8 70] w fun e w' => e = .returned (.agg #[.int .u64 17293822569102704640, .int .u64 127, .int .u64 0, .int .u64 0]) ∧ Below w.heap.size w w' := by
  have := range_any 60 70 (by omega) (by omega) (by omega) (by omega) w
  rwa [rngB] at this
theorem sub00 : (0 &&& (0 ^^^ full) == 0) = true := by decide +kernel
theorem meet0 : (!(0 &&& full == 0)) = false := by decide +kernel
theorem lt0 {w : World} {b o : Nat} {v : Value} (h : w.cell? ⟨b, o, none⟩ = some v) : b < w.heap.size := block_lt_of_cell h
set_option maxHeartbeats 32000000 in
/-- bonsailaw01.SetNames. -/
theorem names_any (w : World) (hT : Tb w) :
    Calls Tryd.prog 5 #[] w fun e w' => e = .returned (.bool true) ∧ Below w.heap.size w w' := by
  go_enter Tryd.func5, Tryd.ntmps5
  go_wp2_with fail
  refine (awake1_any _ hT).mono ?_
  rintro e W1 ⟨rfl, hb⟩
  have hn1 := Lib.hid hb.size
  have hI := ((Inv.start w).call hb).alloc C9
  replace hT := (hT.call hb)
  have hp0 := Lib.hid hT.pos
  replace hT := hT.alloc C9
  clear hb
  go_wp2_with fail
  go_loopw [15] (fun i wr => ∃ k : Nat, k ≤ 9 ∧ i = .int .i64 k ∧ Inv w.heap.size w [(W1.heap.size, C9)] wr ∧ Tb wr) (fun i _ => 9 - (intOf i).toNat)
  case atStart => exact ⟨0, by omega, rfl, hI, hT⟩
  case round =>
    clear hI hT
    obtain ⟨k, hk, rfl, hI, hT⟩ := hrel
    by_cases hlt : k < 9
    · obtain ⟨b, c, X, E⟩ := elt k hlt
      have k0 := hI.cell (g := W1.heap.size) (j := k) (List.mem_cons_self ..) E.cell
      have hb0 := E.lo
      have hb1 := E.hi
      have HE := Lib.hid E
      have hlt' : (k : Int) < 9 := by omega
      clear E
      go_wp2_with fail
      refine (range_any b b hb0 hb1 hb0 hb1 _).mono ?_
      rw [HE.out.rngX]
      rintro e W2 ⟨rfl, hb⟩
      have hp1 := Lib.hid (hI.call hb).size
      have hp2 := Lib.hid (lt_of_heap ((hI.call hb).at (g := W1.heap.size) (List.mem_cons_self ..)))
      have hp3 := Lib.hid (hT.call hb).pos
      replace hI := (hI.call hb).alloc zeroC
      replace hT := (hT.call hb).alloc zeroC
      clear hb k0
      go_upto_region 9 with (refine store_set rfl (.tmp 4) _ rfl W2.heap.size X 0 rfl rfl ((hI.at (o := zeroC) (by simp)).trans (congrArg some zeroC_eq)) ?_; intro W4 g1 g2 g3 g4; replace hT := hT.keep hp3.out (g4 _ _ (Nat.le_refl _) (Below.refl _ _)); replace hI := (hI.turn (o' := setC X) hp1.out (by intro p hp; simp at hp; subst hp; have := hp2.out; simp; omega) g1 g2 g3 (g4 _ _ hp1.out)); have hs4 := Lib.hid g3; clear g1 g2 g3 g4)
      have hp4 := Lib.hid hI.size
      have hp5 := Lib.hid (lt_of_heap (hI.at (g := W2.heap.size) (o := setC X) (List.mem_cons_self ..)))
      have HI4 := Lib.hid hI
      have HT4 := Lib.hid hT
      replace hI := hI.alloc zeroC
      replace hT := hT.alloc zeroC
      have hq : b / 64 = (0 : Nat) ∨ b / 64 = (1 : Nat) ∨ b / 64 = (2 : Nat) ∨ b / 64 = (3 : Nat) := by omega
      go_cut [15] from 15 to 85 (fun i wx => i = .int .i64 k ∧ Inv w.heap.size w [(W4.heap.size, setC X), (W2.heap.size, setC X), (W1.heap.size, C9)] wx ∧ Tb wx)
      case first =>
        have q2 : b.tmod 64 = b % 64 := Int.tmod_eq_emod_of_nonneg hb0
        have q3 := shl_u64 (b % 64) (by omega) (by omega)
        have q4 : 0 ≤ b % 64 := by omega
        have q5 : b % 64 < 64 := by omega
        obtain ⟨c0, c1, c2, c3, f0, f1, f2, f3⟩ := setB_facts ((hI.at (g := W4.heap.size) (o := zeroC) (List.mem_cons_self ..)).trans (congrArg some zeroC_eq))
        clear hI hT
        rcases hq with hq | hq | hq | hq
        · go_wp2
          go_meet
          have hX : setC X = .cells #[.int .u64 (2 ^ (b % 64).toNat), .int .u64 (0), .int .u64 (0), .int .u64 (0)] 24 := by
            have e0 : w64 X 0 = 2 ^ (b % 64).toNat := by rw [← HE.out.bit]; exact (w64_bitOf 0 b hb0 hq).symm
            have e1 : w64 X 1 = 0 := by rw [← HE.out.bit]; exact word_other b 1 hb0 (by omega)
            have e2 : w64 X 2 = 0 := by rw [← HE.out.bit]; exact word_other b 2 hb0 (by omega)
            have e3 : w64 X 3 = 0 := by rw [← HE.out.bit]; exact word_other b 3 hb0 (by omega)
            show Obj.cells #[.int .u64 (w64 X 0), .int .u64 (w64 X 1), .int .u64 (w64 X 2), .int .u64 (w64 X 3)] _ = _
            rw [e0, e1, e2, e3]
          rw [← hX]
          exact ⟨rfl, HI4.out.alloc _, HT4.out.alloc _⟩
        · go_wp2
          go_meet
          have hX : setC X = .cells #[.int .u64 (0), .int .u64 (2 ^ (b % 64).toNat), .int .u64 (0), .int .u64 (0)] 24 := by
            have e0 : w64 X 0 = 0 := by rw [← HE.out.bit]; exact word_other b 0 hb0 (by omega)
            have e1 : w64 X 1 = 2 ^ (b % 64).toNat := by rw [← HE.out.bit]; exact (w64_bitOf 1 b hb0 hq).symm
            have e2 : w64 X 2 = 0 := by rw [← HE.out.bit]; exact word_other b 2 hb0 (by omega)
            have e3 : w64 X 3 = 0 := by rw [← HE.out.bit]; exact word_other b 3 hb0 (by omega)
            show Obj.cells #[.int .u64 (w64 X 0), .int .u64 (w64 X 1), .int .u64 (w64 X 2), .int .u64 (w64 X 3)] _ = _
            rw [e0, e1, e2, e3]
          rw [← hX]
          exact ⟨rfl, HI4.out.alloc _, HT4.out.alloc _⟩
        · go_wp2
          go_meet
          have hX : setC X = .cells #[.int .u64 (0), .int .u64 (0), .int .u64 (2 ^ (b % 64).toNat), .int .u64 (0)] 24 := by
            have e0 : w64 X 0 = 0 := by rw [← HE.out.bit]; exact word_other b 0 hb0 (by omega)
            have e1 : w64 X 1 = 0 := by rw [← HE.out.bit]; exact word_other b 1 hb0 (by omega)
            have e2 : w64 X 2 = 2 ^ (b % 64).toNat := by rw [← HE.out.bit]; exact (w64_bitOf 2 b hb0 hq).symm
            have e3 : w64 X 3 = 0 := by rw [← HE.out.bit]; exact word_other b 3 hb0 (by omega)
            show Obj.cells #[.int .u64 (w64 X 0), .int .u64 (w64 X 1), .int .u64 (w64 X 2), .int .u64 (w64 X 3)] _ = _
            rw [e0, e1, e2, e3]
          rw [← hX]
          exact ⟨rfl, HI4.out.alloc _, HT4.out.alloc _⟩
        · go_wp2
          go_meet
          have hX : setC X = .cells #[.int .u64 (0), .int .u64 (0), .int .u64 (0), .int .u64 (2 ^ (b % 64).toNat)] 24 := by
            have e0 : w64 X 0 = 0 := by rw [← HE.out.bit]; exact word_other b 0 hb0 (by omega)
            have e1 : w64 X 1 = 0 := by rw [← HE.out.bit]; exact word_other b 1 hb0 (by omega)
            have e2 : w64 X 2 = 0 := by rw [← HE.out.bit]; exact word_other b 2 hb0 (by omega)
            have e3 : w64 X 3 = 2 ^ (b % 64).toNat := by rw [← HE.out.bit]; exact (w64_bitOf 3 b hb0 hq).symm
            show Obj.cells #[.int .u64 (w64 X 0), .int .u64 (w64 X 1), .int .u64 (w64 X 2), .int .u64 (w64 X 3)] _ = _
            rw [e0, e1, e2, e3]
          rw [← hX]
          exact ⟨rfl, HI4.out.alloc _, HT4.out.alloc _⟩
      case rest =>
      clear hI hT
      obtain ⟨rfl, hI, hT⟩ := hcut
      clear HI4 HT4
      go_wp2_with (refine load_set rfl (.tmp 4) rfl W2.heap.size X rfl (hI.at (by simp)) ?_)
      refine (only_yes X c HE.out.bytes _ hT).mono ?_
      rw [HE.out.cb]
      rintro e W5 ⟨rfl, hb⟩
      replace hI := hI.call hb
      replace hT := hT.call hb
      clear hb
      have hconv := conv_one b c HE.out.cb
      go_wp2_with fail
      obtain ⟨c00, c01, c02, c03, e0, e1, e2, e3⟩ := setB_facts (hI.at (g := W2.heap.size) (o := setC X) (by simp))
      clear e0 e1 e2 e3
      obtain ⟨c10, c11, c12, c13, e0, e1, e2, e3⟩ := setB_facts (hI.at (g := W4.heap.size) (o := setC X) (by simp))
      clear e0 e1 e2 e3
      have hc0 : (convert 41 9 (.slice (some ⟨W5.heap.size, 0, none⟩) 1 1)).run Tryd.prog (W5.alloc (.cells #[.int .u8 b] 5)).drew = .ok (.string ⟨[c].toArray⟩) (W5.alloc (.cells #[.int .u8 b] 5)).drew := conv_one b c HE.out.cb W5.drew
      clear hconv
      go_cut [15, 84] from 15 to 85 (fun i c wx => i = .int .i64 k ∧ c = .bool false ∧ Inv w.heap.size w [(W4.heap.size, setC X), (W2.heap.size, setC X), (W1.heap.size, C9)] wx ∧ Tb wx)
      case first =>
        go_region_held_law (fun w' => (w'.cell? ⟨W2.heap.size, 0, none⟩ = some (.int .u64 (w64 X 0)) ∧ w'.cell? ⟨W2.heap.size, 1, none⟩ = some (.int .u64 (w64 X 1)) ∧ w'.cell? ⟨W2.heap.size, 2, none⟩ = some (.int .u64 (w64 X 2)) ∧ w'.cell? ⟨W2.heap.size, 3, none⟩ = some (.int .u64 (w64 X 3))) ∧ (w'.cell? ⟨W4.heap.size, 0, none⟩ = some (.int .u64 (w64 X 0)) ∧ w'.cell? ⟨W4.heap.size, 1, none⟩ = some (.int .u64 (w64 X 1)) ∧ w'.cell? ⟨W4.heap.size, 2, none⟩ = some (.int .u64 (w64 X 2)) ∧ w'.cell? ⟨W4.heap.size, 3, none⟩ = some (.int .u64 (w64 X 3)))) (go_keep)
         (first
          | (go_at_call 15; refine (of_str [c] (by simp) _).mono ?_; rw [HE.out.ofB]; rintro e W6 ⟨rfl, hb⟩; (first | replace hI := hI.call hb | replace hI := hI.drew.call hb | replace hI := (hI.alloc _).tail.call hb | replace hI := (hI.drew.alloc _).tail.call hb); (first | replace hT := hT.call hb | replace hT := hT.drew.call hb | replace hT := (hT.alloc _).call hb | replace hT := (hT.drew.alloc _).call hb); obtain ⟨c00, c01, c02, c03, e0, e1, e2, e3⟩ := setB_facts (hI.at (g := W2.heap.size) (o := setC X) (by simp)); clear e0 e1 e2 e3; obtain ⟨c10, c11, c12, c13, e0, e1, e2, e3⟩ := setB_facts (hI.at (g := W4.heap.size) (o := setC X) (by simp)); clear e0 e1 e2 e3; clear hb)
          | (go_at_call 19; refine (has_any _ _ hb0 hb1 _).mono ?_; (first | rw [HE.out.has] | rw [HE.out.hasN]); rintro e W6 ⟨rfl, hb⟩; (first | replace hI := hI.call hb | replace hI := hI.drew.call hb | replace hI := (hI.alloc _).tail.call hb | replace hI := (hI.drew.alloc _).tail.call hb); (first | replace hT := hT.call hb | replace hT := hT.drew.call hb | replace hT := (hT.alloc _).call hb | replace hT := (hT.drew.alloc _).call hb); obtain ⟨c00, c01, c02, c03, e0, e1, e2, e3⟩ := setB_facts (hI.at (g := W2.heap.size) (o := setC X) (by simp)); clear e0 e1 e2 e3; obtain ⟨c10, c11, c12, c13, e0, e1, e2, e3⟩ := setB_facts (hI.at (g := W4.heap.size) (o := setC X) (by simp)); clear e0 e1 e2 e3; clear hb)
          | (go_at_call 21; refine (len_any _ _).mono ?_; (first | rw [HE.out.len] | rw [HE.out.lenN]); rintro e W6 ⟨rfl, hb⟩; (first | replace hI := hI.call hb | replace hI := hI.drew.call hb | replace hI := (hI.alloc _).tail.call hb | replace hI := (hI.drew.alloc _).tail.call hb); (first | replace hT := hT.call hb | replace hT := hT.drew.call hb | replace hT := (hT.alloc _).call hb | replace hT := (hT.drew.alloc _).call hb); obtain ⟨c00, c01, c02, c03, e0, e1, e2, e3⟩ := setB_facts (hI.at (g := W2.heap.size) (o := setC X) (by simp)); clear e0 e1 e2 e3; obtain ⟨c10, c11, c12, c13, e0, e1, e2, e3⟩ := setB_facts (hI.at (g := W4.heap.size) (o := setC X) (by simp)); clear e0 e1 e2 e3; clear hb)
          | (go_at_call 27; refine (not_any _ _).mono ?_; rintro e W6 ⟨rfl, hb⟩; (first | replace hI := hI.call hb | replace hI := hI.drew.call hb | replace hI := (hI.alloc _).tail.call hb | replace hI := (hI.drew.alloc _).tail.call hb); (first | replace hT := hT.call hb | replace hT := hT.drew.call hb | replace hT := (hT.alloc _).call hb | replace hT := (hT.drew.alloc _).call hb); obtain ⟨c00, c01, c02, c03, e0, e1, e2, e3⟩ := setB_facts (hI.at (g := W2.heap.size) (o := setC X) (by simp)); clear e0 e1 e2 e3; obtain ⟨c10, c11, c12, c13, e0, e1, e2, e3⟩ := setB_facts (hI.at (g := W4.heap.size) (o := setC X) (by simp)); clear e0 e1 e2 e3; clear hb)
          | (go_at_call 25; refine (runs_any X _ (by exact hT)).mono ?_; rw [HE.out.runs]; rintro e W6 ⟨v, rfl, hrow, hb⟩; (first | replace hI := hI.call hb | replace hI := hI.drew.call hb | replace hI := (hI.alloc _).tail.call hb | replace hI := (hI.drew.alloc _).tail.call hb); (first | replace hT := hT.call hb | replace hT := hT.drew.call hb | replace hT := (hT.alloc _).call hb | replace hT := (hT.drew.alloc _).call hb); obtain ⟨pA, cA, rfl⟩ := row_sl hrow; clear hrow; obtain ⟨c00, c01, c02, c03, e0, e1, e2, e3⟩ := setB_facts (hI.at (g := W2.heap.size) (o := setC X) (by simp)); clear e0 e1 e2 e3; obtain ⟨c10, c11, c12, c13, e0, e1, e2, e3⟩ := setB_facts (hI.at (g := W4.heap.size) (o := setC X) (by simp)); clear e0 e1 e2 e3; clear hb))
        all_goals (go_wp2; go_meet)
        all_goals exact ⟨rfl, rfl, hI, hT⟩
      case rest =>
      clear hI hT
      obtain ⟨rfl, rfl, hI, hT⟩ := hcut
      go_wp2
      exact ⟨⟨k + 1, by omega, by go_num, hI.sub (fun p hp => List.mem_cons_of_mem _ (List.mem_cons_of_mem _ hp)), hT⟩, by simp [intOf]; omega⟩
    · obtain rfl : k = 9 := by omega
      have pc1 : pairCells [(0, 255)] = [.int .u8 0, .int .u8 255] := rfl
      obtain ⟨F, hF⟩ : ∃ F, bytesTo full 256 = F := ⟨_, rfl⟩
      have HF := Lib.hid hF
      have hsz : ((strOf F).size : Int) = 256 := by rw [strOf_size, ← hF]; decide +kernel
      have hs0 : (strOf []).toList = [] := strOf_nil
      clear hF
      go_wp2_with (first | (go_at_call 13; rw [zeroV_eq]; (with_reducible refine (only_no 0 len0 _).mono ?_); rintro e W8 ⟨rfl, hb⟩; replace hI := hI.call hb; replace hT := hT.call hb; clear hb) | (go_at_call 28; (with_reducible refine (all_any _).mono ?_); rintro e W8 ⟨rfl, hb⟩; replace hI := hI.call hb; replace hT := hT.call hb; clear hb))
      go_at_call 25
      refine (runs_any full _ hT).mono ?_
      rw [runsFull]
      rintro e W8 ⟨v, rfl, hrow, hb⟩
      obtain ⟨gR, cR, rfl⟩ := ownsRow_succ hrow
      replace hI := hI.call hb
      replace hT := hT.call hb
      have k0 := hrow.cellAt 0 (by decide)
      have k1 := hrow.cellAt 1 (by decide)
      rw [pc1] at k0 k1
      clear hb
      go_wp2_with (first
        | (go_at_call 23; rw [zeroV_eq]; (with_reducible refine (list_any 0 _ hT).mono ?_); rw [bytes0]; rintro e W8 ⟨rfl, hb⟩; replace hI := hI.call hb; replace hT := hT.call hb; (try replace k0 := ((bcell hb).1 _ _ (lt0 k0)).trans k0); (try replace k1 := ((bcell hb).1 _ _ (lt0 k1)).trans k1); clear hb)
        | (go_at_call 25; rw [zeroV_eq]; (with_reducible refine (runs_any 0 _ hT).mono ?_); rw [bytes0]; rintro e W8 ⟨v0, rfl, hrow0, hb⟩; replace hI := hI.call hb; replace hT := hT.call hb; obtain ⟨p0, c0, rfl⟩ := row_sl hrow0; clear hrow0; (try replace k0 := ((bcell hb).1 _ _ (lt0 k0)).trans k0); (try replace k1 := ((bcell hb).1 _ _ (lt0 k1)).trans k1); clear hb)
        | (go_at_call 28; (with_reducible refine (all_any _).mono ?_); rintro e W8 ⟨rfl, hb⟩; replace hI := hI.call hb; replace hT := hT.call hb; (try replace k0 := ((bcell hb).1 _ _ (lt0 k0)).trans k0); (try replace k1 := ((bcell hb).1 _ _ (lt0 k1)).trans k1); clear hb)
        | (go_at_call 23; (with_reducible refine (list_any full _ hT).mono ?_); rw [HF.out]; rintro e W8 ⟨rfl, hb⟩; replace hI := hI.call hb; replace hT := hT.call hb; clear hb)
        | (go_at_call 17; (with_reducible refine (range_0_255 _).mono ?_); rintro e W8 ⟨rfl, hb⟩; replace hI := hI.call hb; replace hT := hT.call hb; clear hb)
        | (go_at_call 17; (with_reducible refine (range_60_70 _).mono ?_); rintro e W8 ⟨rfl, hb⟩; replace hI := hI.call hb; replace hT := hT.call hb; clear hb)
        | (go_at_call 29; rw [zeroV_eq]; (with_reducible refine (subset_any 0 0 lt256 _).mono ?_); rw [sub00]; rintro e W8 ⟨rfl, hb⟩; replace hI := hI.call hb; replace hT := hT.call hb; clear hb)
        | (go_at_call 30; rw [zeroV_eq]; (with_reducible refine (meets_any 0 full lt256 _).mono ?_); rw [meet0]; rintro e W8 ⟨rfl, hb⟩; replace hI := hI.call hb; replace hT := hT.call hb; clear hb)
        | (go_at_call 31; rw [zeroV_eq]; (with_reducible refine (compare_any 0 0 _ hT).mono ?_); rw [bytes0, cmp0]; rintro e W8 ⟨rfl, hb⟩; replace hI := hI.call hb; replace hT := hT.call hb; clear hb))
      go_ret
      exact ⟨rfl, hI.below⟩
end Go.Proofs.YtcpgbakdfogilaaDoor
