/- Contracts of the reference's Len, Only, Subset, Meets, Not, Compare. -/
import Derived.Test.YtcpgbakdfogilaaDoorSetD
namespace Go.Proofs.YtcpgbakdfogilaaDoor
open Go.RowKit
set_option maxRecDepth 100000

theorem strOf_size (l : List UInt8) : (strOf l).size = l.length := by simp [strOf, ByteArray.size]
/-- How many bytes a set has. -/
def lenOf (s : Nat) : Nat := (bytesTo s 256).length
theorem lenOf_le (s : Nat) : lenOf s ≤ 256 := bytesTo_len s 256

set_option maxHeartbeats 2000000 in
/-- bonsairef01.Len. -/
theorem rlen_any (s : Nat) (w : World) :
    Calls Tryd.prog 22 #[setV s] w fun e w' => e = .returned (.int .i64 (lenOf s : Nat)) ∧ Below w.heap.size w w' := by
  have hI := (Inv.start w).alloc (setC s)
  have hl : (strOf (bytesTo s 256)).size = lenOf s := strOf_size _
  go_enter Tryd.func22, Tryd.ntmps22
  go_wp2_with (first | (go_at_call 24; refine (rlist_any _ _).mono ?_; rintro e W1 ⟨rfl, hb⟩; replace hI := hI.call hb; clear hb) | (refine load_set rfl (.tmp 1) rfl w.heap.size s rfl (hI.at (by simp)) ?_))
  go_ret
  exact ⟨rfl, hI.below⟩

set_option maxHeartbeats 2000000 in
/-- bonsairef01.Only: a set of one. -/
theorem ronly_yes (s : Nat) (b : UInt8) (h : bytesTo s 256 = [b]) (w : World) :
    Calls Tryd.prog 14 #[setV s] w fun e w' => e = .returned (.tuple #[.int .u8 b.toNat, .bool true]) ∧ Below w.heap.size w w' := by
  have hI := (Inv.start w).alloc (setC s)
  have Hl := Lib.hid h
  clear h
  have hs1 : (strOf [b]).size = 1 := rfl
  go_enter Tryd.func14, Tryd.ntmps14
  go_wp2_with (first | (go_at_call 24; refine (rlist_any _ _).mono ?_; rw [Hl.out]; rintro e W1 ⟨rfl, hb⟩; replace hI := hI.call hb; clear hb) | (refine load_set rfl (.tmp 1) rfl w.heap.size s rfl (hI.at (by simp)) ?_))
  go_ret2
  exact ⟨rfl, hI.below⟩
set_option maxHeartbeats 2000000 in
/-- bonsairef01.Only: a set of none, or of more. -/
theorem ronly_no (s : Nat) (h : lenOf s ≠ 1) (w : World) :
    Calls Tryd.prog 14 #[setV s] w fun e w' => e = .returned (.tuple #[.int .u8 0, .bool false]) ∧ Below w.heap.size w w' := by
  have hI := (Inv.start w).alloc (setC s)
  have hl : (strOf (bytesTo s 256)).size = lenOf s := strOf_size _
  have h1 : ((lenOf s : Nat) : Int) ≠ 1 := by omega
  go_enter Tryd.func14, Tryd.ntmps14
  go_wp2_with (first | (go_at_call 24; refine (rlist_any _ _).mono ?_; rintro e W1 ⟨rfl, hb⟩; replace hI := hI.call hb; clear hb) | (refine load_set rfl (.tmp 1) rfl w.heap.size s rfl (hI.at (by simp)) ?_))
  go_ret2
  exact ⟨rfl, hI.below⟩

set_option maxHeartbeats 2000000 in
/-- bonsairef01.Subset. -/
theorem rsubset_any (a b : Nat) (w : World) :
    Calls Tryd.prog 40 #[setV a, setV b] w fun e w' => e = .returned (.bool (((lenOf (ofPred fun n => a.testBit n && !b.testBit n) : Nat) : Int) == 0)) ∧ Below w.heap.size w w' := by
  have hI := ((Inv.start w).alloc (setC a)).alloc (setC b)
  rw [World.size_alloc] at hI
  go_enter Tryd.func40, Tryd.ntmps40
  go_wp2_with (first | (go_at_call 38; refine (rminus_any _ _ _).mono ?_; rintro e W1 ⟨rfl, hb⟩; replace hI := hI.call hb; clear hb) | (go_at_call 22; refine (rlen_any _ _).mono ?_; rintro e W1 ⟨rfl, hb⟩; replace hI := hI.call hb; clear hb) | (refine load_set rfl (.tmp 2) rfl w.heap.size a rfl (hI.at (by simp)) ?_) | (refine load_set rfl (.tmp 3) rfl (w.heap.size + 1) b rfl (hI.at (by simp)) ?_))
  go_ret
  exact ⟨rfl, hI.below⟩
set_option maxHeartbeats 2000000 in
/-- bonsairef01.Meets. -/
theorem rmeets_any (a b : Nat) (w : World) :
    Calls Tryd.prog 41 #[setV a, setV b] w fun e w' => e = .returned (.bool (decide (0 < lenOf (ofPred fun n => a.testBit n && b.testBit n)))) ∧ Below w.heap.size w w' := by
  have hI := ((Inv.start w).alloc (setC a)).alloc (setC b)
  rw [World.size_alloc] at hI
  go_enter Tryd.func41, Tryd.ntmps41
  go_wp2_with (first | (go_at_call 37; refine (rand_any _ _ _).mono ?_; rintro e W1 ⟨rfl, hb⟩; replace hI := hI.call hb; clear hb) | (go_at_call 22; refine (rlen_any _ _).mono ?_; rintro e W1 ⟨rfl, hb⟩; replace hI := hI.call hb; clear hb) | (refine load_set rfl (.tmp 2) rfl w.heap.size a rfl (hI.at (by simp)) ?_) | (refine load_set rfl (.tmp 3) rfl (w.heap.size + 1) b rfl (hI.at (by simp)) ?_))
  go_ret
  exact ⟨ret_bool (by simp), hI.below⟩

/-- A whole set is stored word by word. -/
theorem set4 {W : World} {g s t : Nat} (h : W.heap[g]? = some (setC t)) : ((((W.setCell ⟨g, 0, none⟩ (.int .u64 (w64 s 0))).setCell ⟨g, 1, none⟩ (.int .u64 (w64 s 1))).setCell ⟨g, 2, none⟩ (.int .u64 (w64 s 2))).setCell ⟨g, 3, none⟩ (.int .u64 (w64 s 3))).heap[g]? = some (setC s) := by
  have h0 := heap_setCell_same W g 0 _ _ (.int .u64 (w64 s 0)) h
  have h1 := heap_setCell_same _ g 1 _ _ (.int .u64 (w64 s 1)) h0
  have h2 := heap_setCell_same _ g 2 _ _ (.int .u64 (w64 s 2)) h1
  have h3 := heap_setCell_same _ g 3 _ _ (.int .u64 (w64 s 3)) h2
  rw [h3]; rfl

set_option maxHeartbeats 2000000 in
/-- bonsairef01.Not. -/
theorem rnot_any (a : Nat) (w : World) :
    Calls Tryd.prog 39 #[setV a] w fun e w' => e = .returned (setV (ofPred fun n => full.testBit n && !a.testBit n)) ∧ Below w.heap.size w w' := by
  have hI := ((Inv.start w).alloc (setC a)).alloc zeroC
  rw [World.size_alloc] at hI
  obtain ⟨c0, c1, c2, c3, f0, f1, f2, f3⟩ := setB_facts (hI.at (g := w.heap.size) (o := setC a) (by simp))
  clear f0 f1 f2 f3
  go_enter Tryd.func39, Tryd.ntmps39
  go_wp2_with fail
  go_region_held3 (fun w' => w'.cell? ⟨w.heap.size, 0, none⟩ = some (.int .u64 (w64 a 0)) ∧ w'.cell? ⟨w.heap.size, 1, none⟩ = some (.int .u64 (w64 a 1)) ∧ w'.cell? ⟨w.heap.size, 2, none⟩ = some (.int .u64 (w64 a 2)) ∧ w'.cell? ⟨w.heap.size, 3, none⟩ = some (.int .u64 (w64 a 3))) (go_keep)
    (first
      | (go_at_call 58; refine (rall_any _).mono ?_; rintro e W1 ⟨rfl, hb⟩; replace hI := hI.drew.call hb; obtain ⟨c0, c1, c2, c3, f0, f1, f2, f3⟩ := setB_facts (hI.at (g := w.heap.size) (o := setC a) (by simp)); clear f0 f1 f2 f3 hb)
      | (go_at_call 38; refine (rminus_any _ _ _).mono ?_; rintro e W1 ⟨rfl, hb⟩; replace hI := hI.call hb; obtain ⟨c0, c1, c2, c3, f0, f1, f2, f3⟩ := setB_facts (hI.at (g := w.heap.size) (o := setC a) (by simp)); clear f0 f1 f2 f3 hb; obtain ⟨d0, d1, d2, d3, g0, g1, g2, g3⟩ := setB_facts ((hI.at (g := w.heap.size + 1) (o := zeroC) (by simp)).trans (congrArg some zeroC_eq))))
  go_wp2
  refine end_set rfl (w.heap.size + 1) _ rfl (set4 ((hI.at (g := w.heap.size + 1) (o := zeroC) (by simp)).trans (congrArg some zeroC_eq))) rfl ⟨rfl, ?_⟩
  repeat (refine Below.setCell ?_ (by simp) _)
  exact hI.below
end Go.Proofs.YtcpgbakdfogilaaDoor
