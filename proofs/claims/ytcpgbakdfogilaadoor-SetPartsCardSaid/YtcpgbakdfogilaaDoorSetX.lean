/- Contracts of the reference's Runs and Same. -/
import Derived.Test.YtcpgbakdfogilaaDoorSetW
import Derived.Test.YtcpgbakdfogilaaDoorSetO
import Derived.Test.YtcpgbakdfogilaaDoorSetT
import Derived.BigQuiet
namespace Go.Proofs.YtcpgbakdfogilaaDoor
open Go.RowKit
set_option maxRecDepth 100000

set_option maxHeartbeats 8000000 in
/-- bonsairef01.Runs. -/
theorem rruns_any (s : Nat) (w : World) :
    Calls Tryd.prog 35 #[setV s] w fun e w' => ∃ v, e = .returned v ∧ w'.ownsRow (w.heap.size + 1) 36 2 v (runsL (bytesTo s 256)).length (pairCells (runsL (bytesTo s 256))) ∧ Below w.heap.size w w' := by
  have hJ := (Inv.start w).alloc (setC s)
  have hO : OInv w.heap.size w [(w.heap.size, setC s)] (w.alloc (setC s)).heap.size 36 2 (.slice none 0 0) 0 [] (w.alloc (setC s)) := OInv.start hJ (by simp) (by simp)
  rw [World.size_alloc] at hO
  have Hall := Lib.hid (refR_all s)
  clear hJ
  go_enter Tryd.func35, Tryd.ntmps35
  go_wp2
  go_loopw [3, 4] (fun v i wr => ∃ k : Nat, k ≤ 256 ∧ i = .int .i64 k ∧ OInv w.heap.size w [(w.heap.size, setC s)] (w.heap.size + 1) 36 2 v (refR s k).length (pairCells (refR s k)) wr) (fun _ i _ => 256 - (intOf i).toNat)
  case atStart => exact ⟨0, by omega, rfl, hO⟩
  case round =>
    clear hO
    obtain ⟨k, hk, rfl, hI⟩ := hrel
    have ek : ((k : Int)).toNat = k := Int.toNat_natCast k
    by_cases hlt : k < 256
    · have hlt' : (k : Int) < 256 := by omega
      cases ha : s.testBit k
      · have Hy := Lib.hid (show refR s (k + 1) = refR s k by rw [refR]; simp [begins, ha])
        go_wp2_with (first | (go_at_call 20; refine (rhas_any _ _ (by omega) (by omega) _).mono ?_; rintro e W1 ⟨rfl, hb⟩; replace hI := hI.call hb; clear hb) | (refine load_set rfl (.tmp 1) rfl w.heap.size s rfl (hI.at (by simp)) ?_))
        go_roundw
        case rel => exact ⟨k + 1, by omega, by go_num, by rw [Hy.out]; exact hI⟩
        case measure => simp [intOf]; omega
      · by_cases hc : 0 < k ∧ s.testBit (k - 1) = true
        · obtain ⟨hk0, hb1⟩ := hc
          have Hy := Lib.hid (show refR s (k + 1) = refR s k by rw [refR]; simp [begins, ha, hk0, hb1])
          have hk0' : (0 : Int) < (k : Int) := by omega
          have hk1 : ((k : Int) - 1).toNat = k - 1 := by omega
          go_wp2_with (first | (go_at_call 20; refine (rhas_any _ _ (by omega) (by omega) _).mono ?_; rintro e W1 ⟨rfl, hb⟩; replace hI := hI.call hb; clear hb) | (refine load_set rfl (.tmp 1) rfl w.heap.size s rfl (hI.at (by simp)) ?_))
          go_roundw
          case rel => exact ⟨k + 1, by omega, by go_num, by rw [Hy.out]; exact hI⟩
          case measure => simp [intOf]; omega
        · have Hy := Lib.hid (show refR s (k + 1) = refR s k ++ [(k, endR s (255 - k) k)] by
            rw [refR]
            have : begins s k = true := by
              unfold begins; rw [ha, Bool.true_and]
              by_cases h0 : 0 < k
              · have : s.testBit (k - 1) = false := by simpa using fun h => hc ⟨h0, h⟩
                simp [this]
              · simp [h0]
            rw [if_pos this])
          have hl := refR_len s k
          have hE : endR s (255 - k) k ≤ 255 := by have := endR_le s (255 - k) k; omega
          obtain ⟨E, hEe⟩ : ∃ E, endR s (255 - k) k = E := ⟨_, rfl⟩
          rw [hEe] at hE
          have HE := Lib.hid hEe
          clear hEe
          by_cases h0 : 0 < k
          · have hb1 : s.testBit (k - 1) = false := by simpa using fun h => hc ⟨h0, h⟩
            have hk0' : (0 : Int) < (k : Int) := by omega
            have hk1 : ((k : Int) - 1).toNat = k - 1 := by omega
            clear hc
            go_wp2_with (first | (go_at_call 20; refine (rhas_any _ _ (by omega) (by omega) _).mono ?_; rintro e W1 ⟨rfl, hb⟩; replace hI := hI.call hb; clear hb) | (refine load_set rfl (.tmp 1) rfl w.heap.size s rfl (hI.at (by simp)) ?_))
            go_loopw [5] (fun t wr => ∃ j : Nat, k ≤ j ∧ j ≤ 255 ∧ t = .int .i64 j ∧ Hid (endR s (255 - j) j = E) ∧ OInv w.heap.size w [(w.heap.size, setC s)] (w.heap.size + 1) 36 2 u3 (refR s k).length (pairCells (refR s k)) wr) (fun t _ => 255 - (intOf t).toNat)
            case atStart => exact ⟨k, by omega, by omega, by go_num, HE.out, hI⟩
            case round =>
              clear hI
              obtain ⟨j, hj0, hj1, rfl, hje, hI⟩ := hrel
              have hj0' : (k : Int) ≤ (j : Int) := by omega
              have ej : ((j : Int) + 1).toNat = j + 1 := by omega
              by_cases hj : j < 255
              · have hj' : (j : Int) < 255 := by omega
                cases hbj : s.testBit (j + 1)
                · have hEj := Lib.hid (show E = j by rw [← hje.out, show 255 - j = (255 - (j + 1)) + 1 by omega, endR, if_neg (by rw [hbj]; simp)])
                  go_wp2_with (first | (go_at_call 20; refine (rhas_any _ _ (by omega) (by omega) _).mono ?_; rintro e W1 ⟨rfl, hb⟩; replace hI := hI.call hb; clear hb) | (refine load_set rfl (.tmp 1) rfl w.heap.size s rfl (hI.at (by simp)) ?_) | (at_builtin; refine app_one tPairs rfl _ _ rfl _ rfl rfl rfl (by simp [Value.oneCell']) hI (by unfold maxLen; omega) (by omega) ?_; intro v' W2 hI'; replace hI := hI'; clear hI'))
                  go_roundw
                  case rel => exact ⟨k + 1, by omega, by go_num, by rw [Hy.out, HE.out, hEj.out, List.length_append, pairCells_snoc]; exact hI⟩
                  case measure => simp [intOf]; omega
                · have hje2 := Lib.hid (show endR s (255 - (j + 1)) (j + 1) = E by rw [← hje.out, show 255 - j = (255 - (j + 1)) + 1 by omega, endR, if_pos hbj])
                  go_wp2_with (first | (go_at_call 20; refine (rhas_any _ _ (by omega) (by omega) _).mono ?_; rintro e W1 ⟨rfl, hb⟩; replace hI := hI.call hb; clear hb) | (refine load_set rfl (.tmp 1) rfl w.heap.size s rfl (hI.at (by simp)) ?_))
                  go_roundw
                  case rel => exact ⟨j + 1, by omega, by omega, by go_num, hje2, hI⟩
                  case measure => simp [intOf]; omega
              · obtain rfl : j = 255 := by omega
                have hEj := Lib.hid (show E = 255 by rw [← hje.out]; rfl)
                go_wp2_with (first | (go_at_call 20; refine (rhas_any _ _ (by omega) (by omega) _).mono ?_; rintro e W1 ⟨rfl, hb⟩; replace hI := hI.call hb; clear hb) | (refine load_set rfl (.tmp 1) rfl w.heap.size s rfl (hI.at (by simp)) ?_) | (at_builtin; refine app_one tPairs rfl _ _ rfl _ rfl rfl rfl (by simp [Value.oneCell']) hI (by unfold maxLen; omega) (by omega) ?_; intro v' W2 hI'; replace hI := hI'; clear hI'))
                go_roundw
                case rel => exact ⟨k + 1, by omega, by go_num, by rw [Hy.out, HE.out, hEj.out, List.length_append, pairCells_snoc]; exact hI⟩
                case measure => simp [intOf]; omega
          · have hkz : (k : Int) = 0 := by omega
            have hkd : decide ((0 : Int) < (k : Int)) = false := decide_eq_false (by omega)
            have hkd2 : decide (0 < k) = false := decide_eq_false h0
            clear hc h0
            have Hkz := Lib.hid hkz
            clear hkz
            go_wp2_with (first | (go_at_call 20; refine (rhas_any _ _ (by omega) (by omega) _).mono ?_; rintro e W1 ⟨rfl, hb⟩; replace hI := hI.call hb; clear hb) | (refine load_set rfl (.tmp 1) rfl w.heap.size s rfl (hI.at (by simp)) ?_))
            go_loopw [5] (fun t wr => ∃ j : Nat, k ≤ j ∧ j ≤ 255 ∧ t = .int .i64 j ∧ Hid (endR s (255 - j) j = E) ∧ OInv w.heap.size w [(w.heap.size, setC s)] (w.heap.size + 1) 36 2 u3 (refR s k).length (pairCells (refR s k)) wr) (fun t _ => 255 - (intOf t).toNat)
            case atStart => exact ⟨k, by omega, by omega, by go_num, HE.out, hI⟩
            case round =>
              clear hI
              obtain ⟨j, hj0, hj1, rfl, hje, hI⟩ := hrel
              have hj0' : (k : Int) ≤ (j : Int) := by omega
              have ej : ((j : Int) + 1).toNat = j + 1 := by omega
              by_cases hj : j < 255
              · have hj' : (j : Int) < 255 := by omega
                cases hbj : s.testBit (j + 1)
                · have hEj := Lib.hid (show E = j by rw [← hje.out, show 255 - j = (255 - (j + 1)) + 1 by omega, endR, if_neg (by rw [hbj]; simp)])
                  go_wp2_with (first | (go_at_call 20; refine (rhas_any _ _ (by omega) (by omega) _).mono ?_; rintro e W1 ⟨rfl, hb⟩; replace hI := hI.call hb; clear hb) | (refine load_set rfl (.tmp 1) rfl w.heap.size s rfl (hI.at (by simp)) ?_) | (at_builtin; refine app_one tPairs rfl _ _ rfl _ rfl rfl rfl (by simp [Value.oneCell']) hI (by unfold maxLen; omega) (by omega) ?_; intro v' W2 hI'; replace hI := hI'; clear hI'))
                  go_roundw
                  case rel => exact ⟨k + 1, by omega, by go_num, by rw [Hy.out, HE.out, hEj.out, List.length_append, pairCells_snoc]; exact hI⟩
                  case measure => simp [intOf]; omega
                · have hje2 := Lib.hid (show endR s (255 - (j + 1)) (j + 1) = E by rw [← hje.out, show 255 - j = (255 - (j + 1)) + 1 by omega, endR, if_pos hbj])
                  go_wp2_with (first | (go_at_call 20; refine (rhas_any _ _ (by omega) (by omega) _).mono ?_; rintro e W1 ⟨rfl, hb⟩; replace hI := hI.call hb; clear hb) | (refine load_set rfl (.tmp 1) rfl w.heap.size s rfl (hI.at (by simp)) ?_))
                  go_roundw
                  case rel => exact ⟨j + 1, by omega, by omega, by go_num, hje2, hI⟩
                  case measure => simp [intOf]; omega
              · obtain rfl : j = 255 := by omega
                have hEj := Lib.hid (show E = 255 by rw [← hje.out]; rfl)
                go_wp2_with (first | (go_at_call 20; refine (rhas_any _ _ (by omega) (by omega) _).mono ?_; rintro e W1 ⟨rfl, hb⟩; replace hI := hI.call hb; clear hb) | (refine load_set rfl (.tmp 1) rfl w.heap.size s rfl (hI.at (by simp)) ?_) | (at_builtin; refine app_one tPairs rfl _ _ rfl _ rfl rfl rfl (by simp [Value.oneCell']) hI (by unfold maxLen; omega) (by omega) ?_; intro v' W2 hI'; replace hI := hI'; clear hI'))
                go_roundw
                case rel => exact ⟨k + 1, by omega, by go_num, by rw [Hy.out, HE.out, hEj.out, List.length_append, pairCells_snoc]; exact hI⟩
                case measure => simp [intOf]; omega
    · obtain rfl : k = 256 := by omega
      go_wp2
      go_ret
      rw [Hall.out] at hI
      exact ⟨_, rfl, hI.own, hI.inv.below⟩

set_option maxHeartbeats 4000000 in
/-- bonsairef01.Same, of two slices that hold the same runs. -/
theorem same_any (R : List (Nat × Nat)) (hR : R.length ≤ 256) (b1 b2 : Nat) (v1 v2 : Value) (w : World) (h1 : w.ownsRow b1 36 2 v1 R.length (pairCells R)) (h2 : w.ownsRow b2 36 2 v2 R.length (pairCells R)) :
    Calls Tryd.prog 34 #[v1, v2] w fun e w' => e = .returned (.bool true) ∧ ∃ n, w' = w.drewN n := by
  by_cases h0 : R = []
  · subst h0
    have k1 : ∃ p c, v1 = .slice p 0 c := by
      rcases h1.2 with ⟨rfl, _⟩ | ⟨g, cap, cur, rfl, _⟩
      · exact ⟨_, _, rfl⟩
      · exact ⟨_, _, rfl⟩
    have k2 : ∃ p c, v2 = .slice p 0 c := by
      rcases h2.2 with ⟨rfl, _⟩ | ⟨g, cap, cur, rfl, _⟩
      · exact ⟨_, _, rfl⟩
      · exact ⟨_, _, rfl⟩
    obtain ⟨p1, c1, rfl⟩ := k1
    obtain ⟨p2, c2, rfl⟩ := k2
    clear h1 h2
    go_enter Tryd.func34, Tryd.ntmps34
    go_wp2
    refine wp_loop_rounds 1 ?_
    rw [rounds_succ]
    go_wp2
    go_ret
    exact ⟨rfl, 0, rfl⟩
  · obtain ⟨n, hn⟩ : ∃ n, R.length = n + 1 := ⟨R.length - 1, by have := List.length_pos_iff.2 h0; omega⟩
    rw [hn] at h1 h2
    obtain ⟨g1, c1, rfl⟩ := ownsRow_succ h1
    obtain ⟨g2, c2, rfl⟩ := ownsRow_succ h2
    have H1 := Lib.hid h1
    have H2 := Lib.hid h2
    have Hn := Lib.hid hn
    have hn' : (n : Int) + 1 ≤ 256 := by omega
    clear h1 h2 hn h0 hR
    go_enter Tryd.func34, Tryd.ntmps34
    go_wp2
    go_loopw [5] (fun i wr => ∃ k : Nat, k ≤ n + 1 ∧ i = .int .i64 k ∧ ∃ m, wr = w.drewN m) (fun i _ => n + 1 - (intOf i).toNat)
    case atStart => exact ⟨0, by omega, rfl, 0, rfl⟩
    case round =>
      obtain ⟨k, hk, rfl, m, rfl⟩ := hrel
      by_cases hlt : k < n + 1
      · obtain ⟨p, hp⟩ : ∃ p, R[k]? = some p := ⟨_, List.getElem?_eq_getElem (by rw [Hn.out]; exact hlt)⟩
        have d0 := H1.out.cellAt (k * 2) (by omega)
        have d1 := H1.out.cellAt (k * 2 + 1) (by omega)
        have e0 := H2.out.cellAt (k * 2) (by omega)
        have e1 := H2.out.cellAt (k * 2 + 1) (by omega)
        rw [pairCells_0 R k _ hp] at d0 e0
        rw [pairCells_1 R k _ hp] at d1 e1
        clear hp
        have hlt' : (k : Int) < (n : Int) + 1 := by omega
        go_wp2
        go_quiet (fail)
        go_wp2
        go_roundw
        case rel => exact ⟨k + 1, by omega, by go_num, m + nq, by simp⟩
        case measure => simp [intOf]; omega
      · obtain rfl : k = n + 1 := by omega
        go_wp2
        go_ret
        exact ⟨rfl, m, rfl⟩
theorem same_both (R : List (Nat × Nat)) (hR : R.length ≤ 256) (b1 b2 : Nat) (v1 v2 : Value) (w : World) (h1 : w.ownsRow b1 36 2 v1 R.length (pairCells R)) (h2 : w.ownsRow b2 36 2 v2 R.length (pairCells R)) :
    Calls Tryd.prog 34 #[v1, v2] w fun e w' => e = .returned (.bool true) ∧ Below w.heap.size w w' :=
  (same_any R hR b1 b2 v1 v2 w h1 h2).mono fun e w' ⟨he, n, hn⟩ => ⟨he, by subst hn; exact below_drewN (Below.refl _ _) n⟩
theorem row_slice {w : World} {b n : Nat} {e : TypeId} {size : Nat} {v : Value} {xs : List Value} (h : w.ownsRow b e size v n xs) : ∃ p c, v = .slice p n c := by
  rcases h.2 with ⟨rfl, rfl⟩ | ⟨g, cap, cur, rfl, _⟩
  · exact ⟨_, _, rfl⟩
  · exact ⟨_, _, rfl⟩
end Go.Proofs.YtcpgbakdfogilaaDoor
