/- Contracts of the reference's sets: with, and the loops over all bytes. -/
import Derived.Test.YtcpgbakdfogilaaDoorSetA
namespace Go.Proofs.YtcpgbakdfogilaaDoor
open Go.RowKit

theorem bitOf_nat (k : Nat) : bitOf (k : Int) = 2 ^ k := by unfold bitOf; rw [Int.toNat_natCast]
theorem upTo_yes (p : Nat → Bool) (k : Nat) (h : p k = true) : upTo p k ||| bitOf (k : Int) = upTo p (k + 1) := by rw [bitOf_nat]; simp [upTo, h]
theorem upTo_no (p : Nat → Bool) (k : Nat) (h : p k = false) : upTo p k = upTo p (k + 1) := by simp [upTo, h]

set_option maxHeartbeats 1000000 in
/-- bonsairef01.with, the byte is in it. -/
theorem with_yes (s : Nat) (b : Int) (h0 : 0 ≤ b) (h : b < 256) (hn : s.testBit b.toNat = true) (w : World) :
    Calls Tryd.prog 48 #[setV s, .int .u8 b] w fun e w' => e = .returned (setV (s ||| bitOf b)) ∧ Below w.heap.size w w' := by
  rw [or_self_bit s b hn]
  have H := Lib.hid hn
  clear hn
  go_enter Tryd.func48, Tryd.ntmps48
  go_wp2_with (first | (go_at_call 20; refine (rhas_any _ _ h0 h _).mono ?_; rw [H.out]; rintro e W1 ⟨rfl, hb⟩; have hI := ((((Inv.start w).alloc (setC s)).alloc zeroC).call hb); clear hb) | (refine load_set rfl (.tmp 2) rfl w.heap.size s rfl (hI.at (by simp)) ?_) | (refine store_set rfl (.tmp 4) _ rfl (w.heap.size + 1) s 0 rfl rfl ((hI.at (o := zeroC) (by simp)).trans (congrArg some zeroC_eq)) ?_; intro W2 g1 g2 g3 g4))
  exact end_set rfl _ _ rfl g1 rfl ⟨rfl, g4 _ _ (by omega) hI.below⟩
/-- bonsairef01.with. -/
theorem with_any (s : Nat) (b : Int) (h0 : 0 ≤ b) (h : b < 256) (w : World) :
    Calls Tryd.prog 48 #[setV s, .int .u8 b] w fun e w' => e = .returned (setV (s ||| bitOf b)) ∧ Below w.heap.size w w' := by
  cases hb : s.testBit b.toNat
  · exact with_no s b h0 h hb w
  · exact with_yes s b h0 h hb w

set_option maxRecDepth 100000
/-- The ways of a round: the blocks that it knows. -/
abbrev L4 (n a b acc : Nat) : List (Nat × Obj) := [(n + 1 + 1 + 1, setC acc), (n + 1 + 1, setC 0), (n + 1, setC b), (n, setC a)]
theorem L4_acc {n : Nat} {w W W1 : World} {a b s t : Nat} (h : Inv n w (L4 n a b s) W) (h1 : W1.heap[n + 1 + 1 + 1]? = some (setC t)) (h2 : ∀ k, k ≠ n + 1 + 1 + 1 → W1.heap[k]? = W.heap[k]?)
    (h3 : W1.heap.size = W.heap.size) (h4 : ∀ B w0, B ≤ n + 1 + 1 + 1 → Below B w0 W → Below B w0 W1) : Inv n w (L4 n a b t) W1 :=
  h.turn (by omega) (by intro p hp; simp at hp; rcases hp with rfl | rfl | rfl <;> simp <;> omega) h1 h2 h3 (h4 _ _ (by omega))

set_option maxHeartbeats 2000000 in
/-- bonsairef01.Or. -/
theorem ror_any (a b : Nat) (w : World) :
    Calls Tryd.prog 36 #[setV a, setV b] w fun e w' => e = .returned (setV (ofPred fun n => a.testBit n || b.testBit n)) ∧ Below w.heap.size w w' := by
  have hJ : Inv w.heap.size w (L4 w.heap.size a b 0) ((((w.alloc (setC a)).alloc (setC b)).alloc zeroC).alloc zeroC) := by
    have h := ((((Inv.start w).alloc (setC a)).alloc (setC b)).alloc zeroC).alloc zeroC
    simp only [zeroC_eq, World.size_alloc] at h ⊢
    exact h
  generalize hp : (fun n => a.testBit n || b.testBit n) = p
  have Hp := Lib.hid fun k => congrFun hp k
  clear hp
  go_enter Tryd.func36, Tryd.ntmps36
  go_wp2
  go_loopw [6] (fun i wr => ∃ k : Nat, k ≤ 256 ∧ i = .int .i64 k ∧ Inv w.heap.size w (L4 w.heap.size a b (upTo p k)) wr) (fun i _ => 256 - (intOf i).toNat)
  case atStart => exact ⟨0, by omega, rfl, hJ⟩
  case round =>
    clear hJ
    obtain ⟨k, hk, rfl, hI⟩ := hrel
    have ek : ((k : Int)).toNat = k := Int.toNat_natCast k
    by_cases hlt : k < 256
    · have hlt' : (k : Int) < 256 := by omega
      by_cases hc : a.testBit k = true ∧ b.testBit k = true
      · obtain ⟨ha, hb⟩ := hc
        have hpk : p k = true := by have h := Hp.out k; simp only [ha, hb] at h; rw [← h]; rfl
        have Hy := Lib.hid (upTo_yes p k hpk)
        clear hpk
        go_wp2_with (first | (go_at_call 20; refine (rhas_any _ _ (by omega) (by omega) _).mono ?_; rintro e W1 ⟨rfl, hb⟩; replace hI := hI.call hb; clear hb) | (go_at_call 48; refine (with_any _ _ (by omega) (by omega) _).mono ?_; rintro e W1 ⟨rfl, hb⟩; replace hI := hI.call hb; clear hb; rw [Hy.out]) | (refine load_set rfl (.tmp 2) rfl w.heap.size a rfl (hI.at (by simp)) ?_) | (refine load_set rfl (.tmp 3) rfl (w.heap.size + 1) b rfl (hI.at (by simp)) ?_) | (refine load_set rfl (.tmp 5) rfl (w.heap.size + 1 + 1 + 1) (upTo p k) rfl (hI.at (by simp)) ?_) | (refine store_set rfl (.tmp 5) _ rfl (w.heap.size + 1 + 1 + 1) (upTo p (k + 1)) (upTo p k) rfl rfl (hI.at (by simp)) ?_; intro W2 g1 g2 g3 g4; replace hI := L4_acc hI g1 g2 g3 g4; clear g1 g2 g3 g4))
        go_roundw
        case rel => exact ⟨k + 1, by omega, by go_num, by exact hI⟩
        case measure => simp [intOf]; omega
      by_cases hc : a.testBit k = true ∧ b.testBit k = false
      · obtain ⟨ha, hb⟩ := hc
        have hpk : p k = true := by have h := Hp.out k; simp only [ha, hb] at h; rw [← h]; rfl
        have Hy := Lib.hid (upTo_yes p k hpk)
        clear hpk
        go_wp2_with (first | (go_at_call 20; refine (rhas_any _ _ (by omega) (by omega) _).mono ?_; rintro e W1 ⟨rfl, hb⟩; replace hI := hI.call hb; clear hb) | (go_at_call 48; refine (with_any _ _ (by omega) (by omega) _).mono ?_; rintro e W1 ⟨rfl, hb⟩; replace hI := hI.call hb; clear hb; rw [Hy.out]) | (refine load_set rfl (.tmp 2) rfl w.heap.size a rfl (hI.at (by simp)) ?_) | (refine load_set rfl (.tmp 3) rfl (w.heap.size + 1) b rfl (hI.at (by simp)) ?_) | (refine load_set rfl (.tmp 5) rfl (w.heap.size + 1 + 1 + 1) (upTo p k) rfl (hI.at (by simp)) ?_) | (refine store_set rfl (.tmp 5) _ rfl (w.heap.size + 1 + 1 + 1) (upTo p (k + 1)) (upTo p k) rfl rfl (hI.at (by simp)) ?_; intro W2 g1 g2 g3 g4; replace hI := L4_acc hI g1 g2 g3 g4; clear g1 g2 g3 g4))
        go_roundw
        case rel => exact ⟨k + 1, by omega, by go_num, by exact hI⟩
        case measure => simp [intOf]; omega
      by_cases hc : a.testBit k = false ∧ b.testBit k = true
      · obtain ⟨ha, hb⟩ := hc
        have hpk : p k = true := by have h := Hp.out k; simp only [ha, hb] at h; rw [← h]; rfl
        have Hy := Lib.hid (upTo_yes p k hpk)
        clear hpk
        go_wp2_with (first | (go_at_call 20; refine (rhas_any _ _ (by omega) (by omega) _).mono ?_; rintro e W1 ⟨rfl, hb⟩; replace hI := hI.call hb; clear hb) | (go_at_call 48; refine (with_any _ _ (by omega) (by omega) _).mono ?_; rintro e W1 ⟨rfl, hb⟩; replace hI := hI.call hb; clear hb; rw [Hy.out]) | (refine load_set rfl (.tmp 2) rfl w.heap.size a rfl (hI.at (by simp)) ?_) | (refine load_set rfl (.tmp 3) rfl (w.heap.size + 1) b rfl (hI.at (by simp)) ?_) | (refine load_set rfl (.tmp 5) rfl (w.heap.size + 1 + 1 + 1) (upTo p k) rfl (hI.at (by simp)) ?_) | (refine store_set rfl (.tmp 5) _ rfl (w.heap.size + 1 + 1 + 1) (upTo p (k + 1)) (upTo p k) rfl rfl (hI.at (by simp)) ?_; intro W2 g1 g2 g3 g4; replace hI := L4_acc hI g1 g2 g3 g4; clear g1 g2 g3 g4))
        go_roundw
        case rel => exact ⟨k + 1, by omega, by go_num, by exact hI⟩
        case measure => simp [intOf]; omega
      by_cases hc : a.testBit k = false ∧ b.testBit k = false
      · obtain ⟨ha, hb⟩ := hc
        have hpk : p k = false := by have h := Hp.out k; simp only [ha, hb] at h; rw [← h]; rfl
        have Hy := Lib.hid (upTo_no p k hpk)
        clear hpk
        go_wp2_with (first | (go_at_call 20; refine (rhas_any _ _ (by omega) (by omega) _).mono ?_; rintro e W1 ⟨rfl, hb⟩; replace hI := hI.call hb; clear hb) | (go_at_call 48; refine (with_any _ _ (by omega) (by omega) _).mono ?_; rintro e W1 ⟨rfl, hb⟩; replace hI := hI.call hb; clear hb; rw [Hy.out]) | (refine load_set rfl (.tmp 2) rfl w.heap.size a rfl (hI.at (by simp)) ?_) | (refine load_set rfl (.tmp 3) rfl (w.heap.size + 1) b rfl (hI.at (by simp)) ?_) | (refine load_set rfl (.tmp 5) rfl (w.heap.size + 1 + 1 + 1) (upTo p k) rfl (hI.at (by simp)) ?_) | (refine store_set rfl (.tmp 5) _ rfl (w.heap.size + 1 + 1 + 1) (upTo p (k + 1)) (upTo p k) rfl rfl (hI.at (by simp)) ?_; intro W2 g1 g2 g3 g4; replace hI := L4_acc hI g1 g2 g3 g4; clear g1 g2 g3 g4))
        go_roundw
        case rel => exact ⟨k + 1, by omega, by go_num, by rw [← Hy.out]; exact hI⟩
        case measure => simp [intOf]; omega
      exfalso
      cases ha : a.testBit k <;> cases hb : b.testBit k <;> simp_all
    · obtain rfl : k = 256 := by omega
      go_wp2_with (first | (refine load_set rfl (.tmp 5) rfl (w.heap.size + 1 + 1 + 1) (upTo p 256) rfl (hI.at (by simp)) ?_) | (refine store_set rfl (.tmp 4) _ rfl (w.heap.size + 1 + 1) (upTo p 256) 0 rfl rfl (hI.at (by simp)) ?_; intro W2 g1 g2 g3 g4))
      exact end_set rfl _ _ rfl g1 rfl ⟨rfl, g4 _ _ (by omega) hI.below⟩

set_option maxHeartbeats 2000000 in
/-- bonsairef01.And. -/
theorem rand_any (a b : Nat) (w : World) :
    Calls Tryd.prog 37 #[setV a, setV b] w fun e w' => e = .returned (setV (ofPred fun n => a.testBit n && b.testBit n)) ∧ Below w.heap.size w w' := by
  have hJ : Inv w.heap.size w (L4 w.heap.size a b 0) ((((w.alloc (setC a)).alloc (setC b)).alloc zeroC).alloc zeroC) := by
    have h := ((((Inv.start w).alloc (setC a)).alloc (setC b)).alloc zeroC).alloc zeroC
    simp only [zeroC_eq, World.size_alloc] at h ⊢
    exact h
  generalize hp : (fun n => a.testBit n && b.testBit n) = p
  have Hp := Lib.hid fun k => congrFun hp k
  clear hp
  go_enter Tryd.func37, Tryd.ntmps37
  go_wp2
  go_loopw [6] (fun i wr => ∃ k : Nat, k ≤ 256 ∧ i = .int .i64 k ∧ Inv w.heap.size w (L4 w.heap.size a b (upTo p k)) wr) (fun i _ => 256 - (intOf i).toNat)
  case atStart => exact ⟨0, by omega, rfl, hJ⟩
  case round =>
    clear hJ
    obtain ⟨k, hk, rfl, hI⟩ := hrel
    have ek : ((k : Int)).toNat = k := Int.toNat_natCast k
    by_cases hlt : k < 256
    · have hlt' : (k : Int) < 256 := by omega
      by_cases hc : a.testBit k = true ∧ b.testBit k = true
      · obtain ⟨ha, hb⟩ := hc
        have hpk : p k = true := by have h := Hp.out k; simp only [ha, hb] at h; rw [← h]; rfl
        have Hy := Lib.hid (upTo_yes p k hpk)
        clear hpk
        go_wp2_with (first | (go_at_call 20; refine (rhas_any _ _ (by omega) (by omega) _).mono ?_; rintro e W1 ⟨rfl, hb⟩; replace hI := hI.call hb; clear hb) | (go_at_call 48; refine (with_any _ _ (by omega) (by omega) _).mono ?_; rintro e W1 ⟨rfl, hb⟩; replace hI := hI.call hb; clear hb; rw [Hy.out]) | (refine load_set rfl (.tmp 2) rfl w.heap.size a rfl (hI.at (by simp)) ?_) | (refine load_set rfl (.tmp 3) rfl (w.heap.size + 1) b rfl (hI.at (by simp)) ?_) | (refine load_set rfl (.tmp 5) rfl (w.heap.size + 1 + 1 + 1) (upTo p k) rfl (hI.at (by simp)) ?_) | (refine store_set rfl (.tmp 5) _ rfl (w.heap.size + 1 + 1 + 1) (upTo p (k + 1)) (upTo p k) rfl rfl (hI.at (by simp)) ?_; intro W2 g1 g2 g3 g4; replace hI := L4_acc hI g1 g2 g3 g4; clear g1 g2 g3 g4))
        go_roundw
        case rel => exact ⟨k + 1, by omega, by go_num, by exact hI⟩
        case measure => simp [intOf]; omega
      by_cases hc : a.testBit k = true ∧ b.testBit k = false
      · obtain ⟨ha, hb⟩ := hc
        have hpk : p k = false := by have h := Hp.out k; simp only [ha, hb] at h; rw [← h]; rfl
        have Hy := Lib.hid (upTo_no p k hpk)
        clear hpk
        go_wp2_with (first | (go_at_call 20; refine (rhas_any _ _ (by omega) (by omega) _).mono ?_; rintro e W1 ⟨rfl, hb⟩; replace hI := hI.call hb; clear hb) | (go_at_call 48; refine (with_any _ _ (by omega) (by omega) _).mono ?_; rintro e W1 ⟨rfl, hb⟩; replace hI := hI.call hb; clear hb; rw [Hy.out]) | (refine load_set rfl (.tmp 2) rfl w.heap.size a rfl (hI.at (by simp)) ?_) | (refine load_set rfl (.tmp 3) rfl (w.heap.size + 1) b rfl (hI.at (by simp)) ?_) | (refine load_set rfl (.tmp 5) rfl (w.heap.size + 1 + 1 + 1) (upTo p k) rfl (hI.at (by simp)) ?_) | (refine store_set rfl (.tmp 5) _ rfl (w.heap.size + 1 + 1 + 1) (upTo p (k + 1)) (upTo p k) rfl rfl (hI.at (by simp)) ?_; intro W2 g1 g2 g3 g4; replace hI := L4_acc hI g1 g2 g3 g4; clear g1 g2 g3 g4))
        go_roundw
        case rel => exact ⟨k + 1, by omega, by go_num, by rw [← Hy.out]; exact hI⟩
        case measure => simp [intOf]; omega
      by_cases hc : a.testBit k = false ∧ b.testBit k = true
      · obtain ⟨ha, hb⟩ := hc
        have hpk : p k = false := by have h := Hp.out k; simp only [ha, hb] at h; rw [← h]; rfl
        have Hy := Lib.hid (upTo_no p k hpk)
        clear hpk
        go_wp2_with (first | (go_at_call 20; refine (rhas_any _ _ (by omega) (by omega) _).mono ?_; rintro e W1 ⟨rfl, hb⟩; replace hI := hI.call hb; clear hb) | (go_at_call 48; refine (with_any _ _ (by omega) (by omega) _).mono ?_; rintro e W1 ⟨rfl, hb⟩; replace hI := hI.call hb; clear hb; rw [Hy.out]) | (refine load_set rfl (.tmp 2) rfl w.heap.size a rfl (hI.at (by simp)) ?_) | (refine load_set rfl (.tmp 3) rfl (w.heap.size + 1) b rfl (hI.at (by simp)) ?_) | (refine load_set rfl (.tmp 5) rfl (w.heap.size + 1 + 1 + 1) (upTo p k) rfl (hI.at (by simp)) ?_) | (refine store_set rfl (.tmp 5) _ rfl (w.heap.size + 1 + 1 + 1) (upTo p (k + 1)) (upTo p k) rfl rfl (hI.at (by simp)) ?_; intro W2 g1 g2 g3 g4; replace hI := L4_acc hI g1 g2 g3 g4; clear g1 g2 g3 g4))
        go_roundw
        case rel => exact ⟨k + 1, by omega, by go_num, by rw [← Hy.out]; exact hI⟩
        case measure => simp [intOf]; omega
      by_cases hc : a.testBit k = false ∧ b.testBit k = false
      · obtain ⟨ha, hb⟩ := hc
        have hpk : p k = false := by have h := Hp.out k; simp only [ha, hb] at h; rw [← h]; rfl
        have Hy := Lib.hid (upTo_no p k hpk)
        clear hpk
        go_wp2_with (first | (go_at_call 20; refine (rhas_any _ _ (by omega) (by omega) _).mono ?_; rintro e W1 ⟨rfl, hb⟩; replace hI := hI.call hb; clear hb) | (go_at_call 48; refine (with_any _ _ (by omega) (by omega) _).mono ?_; rintro e W1 ⟨rfl, hb⟩; replace hI := hI.call hb; clear hb; rw [Hy.out]) | (refine load_set rfl (.tmp 2) rfl w.heap.size a rfl (hI.at (by simp)) ?_) | (refine load_set rfl (.tmp 3) rfl (w.heap.size + 1) b rfl (hI.at (by simp)) ?_) | (refine load_set rfl (.tmp 5) rfl (w.heap.size + 1 + 1 + 1) (upTo p k) rfl (hI.at (by simp)) ?_) | (refine store_set rfl (.tmp 5) _ rfl (w.heap.size + 1 + 1 + 1) (upTo p (k + 1)) (upTo p k) rfl rfl (hI.at (by simp)) ?_; intro W2 g1 g2 g3 g4; replace hI := L4_acc hI g1 g2 g3 g4; clear g1 g2 g3 g4))
        go_roundw
        case rel => exact ⟨k + 1, by omega, by go_num, by rw [← Hy.out]; exact hI⟩
        case measure => simp [intOf]; omega
      exfalso
      cases ha : a.testBit k <;> cases hb : b.testBit k <;> simp_all
    · obtain rfl : k = 256 := by omega
      go_wp2_with (first | (refine load_set rfl (.tmp 5) rfl (w.heap.size + 1 + 1 + 1) (upTo p 256) rfl (hI.at (by simp)) ?_) | (refine store_set rfl (.tmp 4) _ rfl (w.heap.size + 1 + 1) (upTo p 256) 0 rfl rfl (hI.at (by simp)) ?_; intro W2 g1 g2 g3 g4))
      exact end_set rfl _ _ rfl g1 rfl ⟨rfl, g4 _ _ (by omega) hI.below⟩

set_option maxHeartbeats 2000000 in
/-- bonsairef01.Minus. -/
theorem rminus_any (a b : Nat) (w : World) :
    Calls Tryd.prog 38 #[setV a, setV b] w fun e w' => e = .returned (setV (ofPred fun n => a.testBit n && !b.testBit n)) ∧ Below w.heap.size w w' := by
  have hJ : Inv w.heap.size w (L4 w.heap.size a b 0) ((((w.alloc (setC a)).alloc (setC b)).alloc zeroC).alloc zeroC) := by
    have h := ((((Inv.start w).alloc (setC a)).alloc (setC b)).alloc zeroC).alloc zeroC
    simp only [zeroC_eq, World.size_alloc] at h ⊢
    exact h
  generalize hp : (fun n => a.testBit n && !b.testBit n) = p
  have Hp := Lib.hid fun k => congrFun hp k
  clear hp
  go_enter Tryd.func38, Tryd.ntmps38
  go_wp2
  go_loopw [6] (fun i wr => ∃ k : Nat, k ≤ 256 ∧ i = .int .i64 k ∧ Inv w.heap.size w (L4 w.heap.size a b (upTo p k)) wr) (fun i _ => 256 - (intOf i).toNat)
  case atStart => exact ⟨0, by omega, rfl, hJ⟩
  case round =>
    clear hJ
    obtain ⟨k, hk, rfl, hI⟩ := hrel
    have ek : ((k : Int)).toNat = k := Int.toNat_natCast k
    by_cases hlt : k < 256
    · have hlt' : (k : Int) < 256 := by omega
      by_cases hc : a.testBit k = true ∧ b.testBit k = true
      · obtain ⟨ha, hb⟩ := hc
        have hpk : p k = false := by have h := Hp.out k; simp only [ha, hb] at h; rw [← h]; rfl
        have Hy := Lib.hid (upTo_no p k hpk)
        clear hpk
        go_wp2_with (first | (go_at_call 20; refine (rhas_any _ _ (by omega) (by omega) _).mono ?_; rintro e W1 ⟨rfl, hb⟩; replace hI := hI.call hb; clear hb) | (go_at_call 48; refine (with_any _ _ (by omega) (by omega) _).mono ?_; rintro e W1 ⟨rfl, hb⟩; replace hI := hI.call hb; clear hb; rw [Hy.out]) | (refine load_set rfl (.tmp 2) rfl w.heap.size a rfl (hI.at (by simp)) ?_) | (refine load_set rfl (.tmp 3) rfl (w.heap.size + 1) b rfl (hI.at (by simp)) ?_) | (refine load_set rfl (.tmp 5) rfl (w.heap.size + 1 + 1 + 1) (upTo p k) rfl (hI.at (by simp)) ?_) | (refine store_set rfl (.tmp 5) _ rfl (w.heap.size + 1 + 1 + 1) (upTo p (k + 1)) (upTo p k) rfl rfl (hI.at (by simp)) ?_; intro W2 g1 g2 g3 g4; replace hI := L4_acc hI g1 g2 g3 g4; clear g1 g2 g3 g4))
        go_roundw
        case rel => exact ⟨k + 1, by omega, by go_num, by rw [← Hy.out]; exact hI⟩
        case measure => simp [intOf]; omega
      by_cases hc : a.testBit k = true ∧ b.testBit k = false
      · obtain ⟨ha, hb⟩ := hc
        have hpk : p k = true := by have h := Hp.out k; simp only [ha, hb] at h; rw [← h]; rfl
        have Hy := Lib.hid (upTo_yes p k hpk)
        clear hpk
        go_wp2_with (first | (go_at_call 20; refine (rhas_any _ _ (by omega) (by omega) _).mono ?_; rintro e W1 ⟨rfl, hb⟩; replace hI := hI.call hb; clear hb) | (go_at_call 48; refine (with_any _ _ (by omega) (by omega) _).mono ?_; rintro e W1 ⟨rfl, hb⟩; replace hI := hI.call hb; clear hb; rw [Hy.out]) | (refine load_set rfl (.tmp 2) rfl w.heap.size a rfl (hI.at (by simp)) ?_) | (refine load_set rfl (.tmp 3) rfl (w.heap.size + 1) b rfl (hI.at (by simp)) ?_) | (refine load_set rfl (.tmp 5) rfl (w.heap.size + 1 + 1 + 1) (upTo p k) rfl (hI.at (by simp)) ?_) | (refine store_set rfl (.tmp 5) _ rfl (w.heap.size + 1 + 1 + 1) (upTo p (k + 1)) (upTo p k) rfl rfl (hI.at (by simp)) ?_; intro W2 g1 g2 g3 g4; replace hI := L4_acc hI g1 g2 g3 g4; clear g1 g2 g3 g4))
        go_roundw
        case rel => exact ⟨k + 1, by omega, by go_num, by exact hI⟩
        case measure => simp [intOf]; omega
      by_cases hc : a.testBit k = false ∧ b.testBit k = true
      · obtain ⟨ha, hb⟩ := hc
        have hpk : p k = false := by have h := Hp.out k; simp only [ha, hb] at h; rw [← h]; rfl
        have Hy := Lib.hid (upTo_no p k hpk)
        clear hpk
        go_wp2_with (first | (go_at_call 20; refine (rhas_any _ _ (by omega) (by omega) _).mono ?_; rintro e W1 ⟨rfl, hb⟩; replace hI := hI.call hb; clear hb) | (go_at_call 48; refine (with_any _ _ (by omega) (by omega) _).mono ?_; rintro e W1 ⟨rfl, hb⟩; replace hI := hI.call hb; clear hb; rw [Hy.out]) | (refine load_set rfl (.tmp 2) rfl w.heap.size a rfl (hI.at (by simp)) ?_) | (refine load_set rfl (.tmp 3) rfl (w.heap.size + 1) b rfl (hI.at (by simp)) ?_) | (refine load_set rfl (.tmp 5) rfl (w.heap.size + 1 + 1 + 1) (upTo p k) rfl (hI.at (by simp)) ?_) | (refine store_set rfl (.tmp 5) _ rfl (w.heap.size + 1 + 1 + 1) (upTo p (k + 1)) (upTo p k) rfl rfl (hI.at (by simp)) ?_; intro W2 g1 g2 g3 g4; replace hI := L4_acc hI g1 g2 g3 g4; clear g1 g2 g3 g4))
        go_roundw
        case rel => exact ⟨k + 1, by omega, by go_num, by rw [← Hy.out]; exact hI⟩
        case measure => simp [intOf]; omega
      by_cases hc : a.testBit k = false ∧ b.testBit k = false
      · obtain ⟨ha, hb⟩ := hc
        have hpk : p k = false := by have h := Hp.out k; simp only [ha, hb] at h; rw [← h]; rfl
        have Hy := Lib.hid (upTo_no p k hpk)
        clear hpk
        go_wp2_with (first | (go_at_call 20; refine (rhas_any _ _ (by omega) (by omega) _).mono ?_; rintro e W1 ⟨rfl, hb⟩; replace hI := hI.call hb; clear hb) | (go_at_call 48; refine (with_any _ _ (by omega) (by omega) _).mono ?_; rintro e W1 ⟨rfl, hb⟩; replace hI := hI.call hb; clear hb; rw [Hy.out]) | (refine load_set rfl (.tmp 2) rfl w.heap.size a rfl (hI.at (by simp)) ?_) | (refine load_set rfl (.tmp 3) rfl (w.heap.size + 1) b rfl (hI.at (by simp)) ?_) | (refine load_set rfl (.tmp 5) rfl (w.heap.size + 1 + 1 + 1) (upTo p k) rfl (hI.at (by simp)) ?_) | (refine store_set rfl (.tmp 5) _ rfl (w.heap.size + 1 + 1 + 1) (upTo p (k + 1)) (upTo p k) rfl rfl (hI.at (by simp)) ?_; intro W2 g1 g2 g3 g4; replace hI := L4_acc hI g1 g2 g3 g4; clear g1 g2 g3 g4))
        go_roundw
        case rel => exact ⟨k + 1, by omega, by go_num, by rw [← Hy.out]; exact hI⟩
        case measure => simp [intOf]; omega
      exfalso
      cases ha : a.testBit k <;> cases hb : b.testBit k <;> simp_all
    · obtain rfl : k = 256 := by omega
      go_wp2_with (first | (refine load_set rfl (.tmp 5) rfl (w.heap.size + 1 + 1 + 1) (upTo p 256) rfl (hI.at (by simp)) ?_) | (refine store_set rfl (.tmp 4) _ rfl (w.heap.size + 1 + 1) (upTo p 256) 0 rfl rfl (hI.at (by simp)) ?_; intro W2 g1 g2 g3 g4))
      exact end_set rfl _ _ rfl g1 rfl ⟨rfl, g4 _ _ (by omega) hI.below⟩
end Go.Proofs.YtcpgbakdfogilaaDoor
