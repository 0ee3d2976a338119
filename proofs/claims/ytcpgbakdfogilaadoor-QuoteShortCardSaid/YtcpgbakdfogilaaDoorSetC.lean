/- Contracts of the reference's Range, Of, All, Not. -/
import Derived.Test.YtcpgbakdfogilaaDoorSetB
namespace Go.Proofs.YtcpgbakdfogilaaDoor
open Go.RowKit
set_option maxRecDepth 100000

abbrev L2 (n acc : Nat) : List (Nat × Obj) := [(n + 1, setC acc), (n, setC 0)]
theorem L2_acc {n : Nat} {w W W1 : World} {s t : Nat} (h : Inv n w (L2 n s) W) (h1 : W1.heap[n + 1]? = some (setC t)) (h2 : ∀ k, k ≠ n + 1 → W1.heap[k]? = W.heap[k]?)
    (h3 : W1.heap.size = W.heap.size) (h4 : ∀ B w0, B ≤ n + 1 → Below B w0 W → Below B w0 W1) : Inv n w (L2 n t) W1 :=
  h.turn (by omega) (by intro p hp; simp at hp; subst hp; simp) h1 h2 h3 (h4 _ _ (by omega))
theorem L2_start (w : World) : Inv w.heap.size w (L2 w.heap.size 0) ((w.alloc zeroC).alloc zeroC) := by
  have h := ((Inv.start w).alloc zeroC).alloc zeroC
  simp only [zeroC_eq, World.size_alloc] at h ⊢
  exact h

set_option maxHeartbeats 2000000 in
/-- bonsairef01.Range. -/
theorem rrange_any (a b : Int) (a0 : 0 ≤ a) (a1 : a < 256) (b0 : 0 ≤ b) (b1 : b < 256) (w : World) :
    Calls Tryd.prog 18 #[.int .u8 a, .int .u8 b] w fun e w' => e = .returned (setV (ofPred fun n => decide (a ≤ n) && decide ((n : Int) ≤ b))) ∧ Below w.heap.size w w' := by
  have hJ := L2_start w
  generalize hp : (fun n : Nat => decide (a ≤ n) && decide ((n : Int) ≤ b)) = p
  have Hp := Lib.hid fun k => congrFun hp k
  clear hp
  go_enter Tryd.func18, Tryd.ntmps18
  go_wp2
  go_loopw [6] (fun i wr => ∃ k : Nat, k ≤ 256 ∧ i = .int .i64 k ∧ Inv w.heap.size w (L2 w.heap.size (upTo p k)) wr) (fun i _ => 256 - (intOf i).toNat)
  case atStart => exact ⟨0, by omega, rfl, hJ⟩
  case round =>
    clear hJ
    obtain ⟨k, hk, rfl, hI⟩ := hrel
    by_cases hlt : k < 256
    · have hlt' : (k : Int) < 256 := by omega
      by_cases hpk : p k = true
      · have hc : a ≤ (k : Int) ∧ (k : Int) ≤ b := by have h := Hp.out k; rw [hpk] at h; simpa using h
        have Hy := Lib.hid (upTo_yes p k hpk)
        clear hpk
        obtain ⟨c1, c2⟩ := hc
        go_wp2_with (first | (go_at_call 48; refine (with_any _ _ (by omega) (by omega) _).mono ?_; rintro e W1 ⟨rfl, hb⟩; replace hI := hI.call hb; clear hb; rw [Hy.out]) | (refine load_set rfl (.tmp 5) rfl (w.heap.size + 1) (upTo p k) rfl (hI.at (by simp)) ?_) | (refine store_set rfl (.tmp 5) _ rfl (w.heap.size + 1) (upTo p (k + 1)) (upTo p k) rfl rfl (hI.at (by simp)) ?_; intro W2 g1 g2 g3 g4; replace hI := L2_acc hI g1 g2 g3 g4; clear g1 g2 g3 g4))
        go_roundw
        case rel => exact ⟨k + 1, by omega, by go_num, hI⟩
        case measure => simp [intOf]; omega
      · have hpk' : p k = false := by simpa using hpk
        have hc : ¬ (a ≤ (k : Int) ∧ (k : Int) ≤ b) := by have h := Hp.out k; rw [hpk'] at h; intro hh; simp [hh.1, hh.2] at h
        have Hy := Lib.hid (upTo_no p k hpk')
        clear hpk hpk'
        by_cases c1 : a ≤ (k : Int)
        · have c2 : b < (k : Int) := by omega
          clear hc
          go_wp2
          go_roundw
          case rel => exact ⟨k + 1, by omega, by go_num, by rw [← Hy.out]; exact hI⟩
          case measure => simp [intOf]; omega
        · have c2 : (k : Int) < a := by omega
          clear hc c1
          go_wp2
          go_roundw
          case rel => exact ⟨k + 1, by omega, by go_num, by rw [← Hy.out]; exact hI⟩
          case measure => simp [intOf]; omega
    · obtain rfl : k = 256 := by omega
      go_wp2_with (first | (refine load_set rfl (.tmp 5) rfl (w.heap.size + 1) (upTo p 256) rfl (hI.at (by simp)) ?_) | (refine store_set rfl (.tmp 4) _ rfl w.heap.size (upTo p 256) 0 rfl rfl (hI.at (by simp)) ?_; intro W2 g1 g2 g3 g4))
      exact end_set rfl _ _ rfl g1 rfl ⟨rfl, g4 _ _ (by omega) hI.below⟩

/-- bonsairef01.All. -/
theorem rall_any (w : World) : Calls Tryd.prog 58 #[] w fun e w' => e = .returned (setV full) ∧ Below w.heap.size w w' := by
  have hf : (ofPred fun n => decide ((0 : Int) ≤ n) && decide ((n : Int) ≤ 255)) = full := by
    refine (eq_ofPred (s := full) (by decide) fun i hi => ?_).symm
    rw [full_bit, decide_eq_true hi]; simp; omega
  have hJ := (Inv.start w).alloc zeroC
  go_enter Tryd.func58, Tryd.ntmps58
  go_wp2_with (first | (go_at_call 18; refine (rrange_any _ _ (by omega) (by omega) (by omega) (by omega) _).mono ?_; rw [hf]; rintro e W1 ⟨rfl, hb⟩; have hI := hJ.call hb; clear hb hJ) | (refine store_set rfl (.tmp 0) _ rfl w.heap.size full 0 rfl rfl ((hI.at (o := zeroC) (by simp)).trans (congrArg some zeroC_eq)) ?_; intro W2 g1 g2 g3 g4))
  exact end_set rfl _ _ rfl g1 rfl ⟨rfl, g4 _ _ (by omega) hI.below⟩
end Go.Proofs.YtcpgbakdfogilaaDoor
