/- Contracts of the reference's List, Len, Only, Subset, Meets, Not. -/
import Derived.Test.YtcpgbakdfogilaaDoorSetC
import Derived.Test.YtcpgbakdfogilaaDoorOInv
namespace Go.Proofs.YtcpgbakdfogilaaDoor
open Go.RowKit
set_option maxRecDepth 100000

theorem tBytes : ElemT Tryd.prog 41 5 (.int .u8 0) 1 1 := ⟨by kernel_rfl, by kernel_rfl, rfl, by decide⟩
theorem tyStr : Tryd.prog.underlying 9 = some .string := by kernel_rfl
theorem tyU8 : Tryd.prog.underlying 5 = some (.int .u8) := by kernel_rfl

/-- The bytes of a set below k, rising. -/
def bytesTo (s k : Nat) : List UInt8 := ((List.range k).filter fun i => s.testBit i).map UInt8.ofNat
def cellsOf (l : List UInt8) : List Value := l.map fun b => .int .u8 (b.toNat : Int)
/-- A list of bytes as a string. -/
def strOf (l : List UInt8) : ByteArray := ⟨l.toArray⟩
theorem bytesTo_yes (s k : Nat) (h : s.testBit k = true) : bytesTo s (k + 1) = bytesTo s k ++ [UInt8.ofNat k] := by
  unfold bytesTo; rw [List.range_succ, List.filter_append]; simp [h]
theorem bytesTo_no (s k : Nat) (h : s.testBit k = false) : bytesTo s (k + 1) = bytesTo s k := by
  unfold bytesTo; rw [List.range_succ, List.filter_append]; simp [h]
theorem bytesTo_len (s k : Nat) : (bytesTo s k).length ≤ k := by
  unfold bytesTo; rw [List.length_map]; exact Nat.le_trans (List.length_filter_le _ _) (by simp)
theorem u8_nat (k : Nat) (h : k < 256) : ((UInt8.ofNat k).toNat : Int) = k := by rw [UInt8.toNat_ofNat']; omega
theorem cellsOf_snoc (l : List UInt8) (k : Nat) (h : k < 256) : cellsOf l ++ [.int .u8 (k : Int)] = cellsOf (l ++ [UInt8.ofNat k]) := by
  unfold cellsOf; rw [List.map_append, List.map_singleton, u8_nat k h]

set_option maxHeartbeats 2000000 in
/-- bonsairef01.List. -/
theorem rlist_any (s : Nat) (w : World) :
    Calls Tryd.prog 24 #[setV s] w fun e w' => e = .returned (.string (strOf (bytesTo s 256))) ∧ Below w.heap.size w w' := by
  have hJ := (Inv.start w).alloc (setC s)
  have hO : OInv w.heap.size w [(w.heap.size, setC s)] (w.alloc (setC s)).heap.size 5 1 (.slice none 0 0) 0 [] (w.alloc (setC s)) := OInv.start hJ (by simp) (by simp)
  rw [World.size_alloc] at hO
  clear hJ
  go_enter Tryd.func24, Tryd.ntmps24
  go_wp2
  go_loopw [3, 4] (fun v i wr => ∃ k : Nat, k ≤ 256 ∧ i = .int .i64 k ∧ OInv w.heap.size w [(w.heap.size, setC s)] (w.heap.size + 1) 5 1 v (bytesTo s k).length (cellsOf (bytesTo s k)) wr) (fun _ i _ => 256 - (intOf i).toNat)
  case atStart => exact ⟨0, by omega, rfl, hO⟩
  case round =>
    clear hO
    obtain ⟨k, hk, rfl, hI⟩ := hrel
    have ek : ((k : Int)).toNat = k := Int.toNat_natCast k
    by_cases hlt : k < 256
    · have hlt' : (k : Int) < 256 := by omega
      cases ha : s.testBit k
      · have Hy := Lib.hid (bytesTo_no s k ha)
        go_wp2_with (first | (go_at_call 20; refine (rhas_any _ _ (by omega) (by omega) _).mono ?_; rintro e W1 ⟨rfl, hb⟩; replace hI := hI.call hb; clear hb) | (refine load_set rfl (.tmp 1) rfl w.heap.size s rfl (hI.at (by simp)) ?_))
        go_roundw
        case rel => exact ⟨k + 1, by omega, by go_num, by rw [Hy.out]; exact hI⟩
        case measure => simp [intOf]; omega
      · have Hy := Lib.hid (bytesTo_yes s k ha)
        have hl := bytesTo_len s k
        go_wp2_with (first | (go_at_call 20; refine (rhas_any _ _ (by omega) (by omega) _).mono ?_; rintro e W1 ⟨rfl, hb⟩; replace hI := hI.call hb; clear hb) | (refine load_set rfl (.tmp 1) rfl w.heap.size s rfl (hI.at (by simp)) ?_) | (at_builtin; refine app_one tBytes rfl _ _ rfl _ rfl rfl rfl (by simp [Value.oneCell']) hI (by unfold maxLen; omega) (by omega) ?_; intro v' W2 hI'; replace hI := hI'; clear hI'))
        go_roundw
        case rel => exact ⟨k + 1, by omega, by go_num, by rw [Hy.out, List.length_append]; rw [← cellsOf_snoc _ _ hlt]; exact hI⟩
        case measure => simp [intOf]; omega
    · obtain rfl : k = 256 := by omega
      go_wp2_with (refine conv_str tBytes.slice tyStr tyU8 rfl (.tmp 18) rfl rfl _ hI.own ?_)
      go_ret
      exact ⟨rfl, hI.inv.below⟩
end Go.Proofs.YtcpgbakdfogilaaDoor
