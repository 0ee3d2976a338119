/- Contracts of math/bits.OnesCount64 and TrailingZeros64. -/
import Derived.Test.YtcpgbakdfogilaaDoorRows
import Derived.Test.YtcpgbakdfogilaaDoorInv
import Derived.Test.YtcpgbakdfogilaaDoorPop
import Derived.WalkKit
import Derived.WalkSpells
import Derived.WalkLawsBesides
import Derived.IntWalk
import Derived.Laws.BitsAllLaws
import Derived.Shelf.Spec.TrailingZeros
import Derived.Laws.Bits128
namespace Go.Proofs.YtcpgbakdfogilaaDoor
open Go.RowKit
set_option maxRecDepth 100000

theorem u64_small {n : Int} (h0 : 0 ≤ n) (h1 : n < 18446744073709551616) : IntKind.u64.wrap n = n := by rw [IntKind.wrap_u64]; omega
theorem and_num (x m : Nat) (hx : x < 18446744073709551616) (hm : m < 18446744073709551616) : bits .and .u64 (x : Int) (m : Int) = ((x &&& m : Nat) : Int) := u64_and_nat x m hx hm
theorem step_mask (k n b m x : Nat) (hb : 2 ^ k = b) (hm : mask b n = m) (hb2 : 2 ≤ b) (hlt : (b * b) ^ n = 18446744073709551616) (hx : x < 18446744073709551616) (hmm : m < 18446744073709551616) :
    IntKind.u64.wrap (bits .and .u64 ((x : Int) / (b : Int)) (m : Int) + bits .and .u64 (x : Int) (m : Int)) = ((pairs b n x : Nat) : Int) := by
  subst hb hm
  have e : ((x : Int) / ((2 ^ k : Nat) : Int)) = ((x / 2 ^ k : Nat) : Int) := by simp
  have hd : x / 2 ^ k < 18446744073709551616 := Nat.lt_of_le_of_lt (Nat.div_le_self _ _) hx
  rw [e, and_num _ _ hd hmm, and_num _ _ hx hmm, and_mask, and_mask]
  have hp := pairs_lt hb2 n x
  rw [hlt] at hp
  have hlp := low_pairs (2 ^ k) n x
  generalize low (2 ^ k) n (x / 2 ^ k) = p at *
  generalize low (2 ^ k) n x = q at *
  generalize pairs (2 ^ k) n x = r at *
  rw [u64_small (by omega) (by omega)]
  omega
theorem step_third (x : Nat) (hx : x < 18446744073709551616) :
    bits .and .u64 (IntKind.u64.wrap (((pairs 4 16 (pairs 2 32 x) : Nat) : Int) / 16 + ((pairs 4 16 (pairs 2 32 x) : Nat) : Int))) 1085102592571150095 = ((pairs 16 8 (pairs 4 16 (pairs 2 32 x)) : Nat) : Int) := by
  have hz : most 16 4 (2 * 8) (pairs 4 16 (pairs 2 32 x)) := most_pairs (b := 4) (m := 2) (by decide) 16 _ (most_pairs (b := 2) (m := 1) (by decide) 32 x (digs_le_one _ _))
  have hl : pairs 4 16 (pairs 2 32 x) < 256 ^ 8 := by have := pairs_lt (b := 4) (by decide) 16 (pairs 2 32 x); simpa using this
  have ha := add_mask 8 _ hz hl
  have hlow := hz
  generalize pairs 4 16 (pairs 2 32 x) = z at *
  have hz15 : z / 16 + z < 18446744073709551616 := by
    have hm := hz
    simp only [most] at hm
    omega
  have e : ((z : Int) / 16 + (z : Int)) = ((z / 16 + z : Nat) : Int) := by omega
  rw [e, u64_small (by omega) (by omega), show (1085102592571150095 : Int) = ((mask 16 8 : Nat) : Int) by decide, and_num _ _ hz15 (by decide), ← ha]
  exact congrArg _ (and_mask 4 8 _)

set_option maxHeartbeats 2000000 in
/-- math/bits.OnesCount64. -/
theorem ones_any (n : Int) (h0 : 0 ≤ n) (h1 : n < 18446744073709551616) (w : World) : Calls Tryd.prog 50 #[.int .u64 n] w fun e w' => e = .returned (.int .i64 (pop n.toNat : Nat)) ∧ w' = w := by
  obtain ⟨x, rfl⟩ := Int.eq_ofNat_of_zero_le h0
  have hx : x < 18446744073709551616 := by omega
  have hy : pairs 2 32 x < 18446744073709551616 := by have := pairs_lt (b := 2) (by decide) 32 x; simpa using this
  have s1 : IntKind.u64.wrap (bits .and .u64 ((x : Int) / 2) 6148914691236517205 + bits .and .u64 (x : Int) 6148914691236517205) = ((pairs 2 32 x : Nat) : Int) := step_mask 1 32 2 6148914691236517205 x rfl (by decide) (by decide) (by decide) hx (by decide)
  have s2 : IntKind.u64.wrap (bits .and .u64 (((pairs 2 32 x : Nat) : Int) / 4) 3689348814741910323 + bits .and .u64 ((pairs 2 32 x : Nat) : Int) 3689348814741910323) = ((pairs 4 16 (pairs 2 32 x) : Nat) : Int) := step_mask 2 16 4 3689348814741910323 (pairs 2 32 x) rfl (by decide) (by decide) (by decide) hy (by decide)
  have s3 := step_third x hx
  obtain ⟨c0, c1, c2, c3, c4, c5, c6, c7, hc, hsum⟩ := third x
  have hp : pop x ≤ 64 := digs2_le 64 x
  rw [hc] at s3
  obtain ⟨y, ey⟩ : ∃ y : Int, ((pairs 2 32 x : Nat) : Int) = y := ⟨_, rfl⟩
  obtain ⟨z, ez⟩ : ∃ z : Int, ((pairs 4 16 (pairs 2 32 x) : Nat) : Int) = z := ⟨_, rfl⟩
  obtain ⟨v, hv⟩ : ∃ v : Nat, c0 + 256 * (c1 + 256 * (c2 + 256 * (c3 + 256 * (c4 + 256 * (c5 + 256 * (c6 + 256 * c7)))))) = v := ⟨_, rfl⟩
  obtain ⟨v1, v2, v3, b1, l1, b2, l2, b3, l3, b4⟩ := bytes_sum c0 c1 c2 c3 c4 c5 c6 c7 v hv.symm (by omega)
  rw [hv] at s3
  rw [hsum] at b4
  rw [ez] at s2 s3
  rw [ey] at s1 s2
  clear hv hsum hc hp hy
  have s4 : IntKind.u64.wrap ((v : Int) + (v : Int) / 256) = (v1 : Int) := by rw [u64_small (by omega) (by omega)]; omega
  have s5 : IntKind.u64.wrap ((v1 : Int) + (v1 : Int) / 65536) = (v2 : Int) := by rw [u64_small (by omega) (by omega)]; omega
  have s6 : IntKind.u64.wrap ((v2 : Int) + (v2 : Int) / 4294967296) = (v3 : Int) := by rw [u64_small (by omega) (by omega)]; omega
  have s7 : bits .and .i64 (wrap64 (v3 : Int)) 127 = ((pop x : Nat) : Int) := by
    rw [i64_and127, show wrap64 (v3 : Int) = v3 from by unfold wrap64; omega]
    omega
  clear b1 l1 b2 l2 b3 l3 b4 ey ez hx h1 h0
  rw [Int.toNat_natCast]
  go_enter Tryd.func50, Tryd.ntmps50
  go_wp2
  go_ret
  exact ⟨rfl, rfl⟩

/-- The table of math/bits. -/
def Tb (w : World) : Prop := TabAt 0 Lib.deBruijn64tab w
theorem Tb.of_cells {w w1 : World} (h : Tb w) (hc : ∀ b o, b < w.heap.size → w1.cell? ⟨b, o, none⟩ = w.cell? ⟨b, o, none⟩) : Tb w1 := fun j hj => by
  have h1 := h j hj
  rw [hc _ _ (block_lt_of_cell h1)]; exact h1
theorem Tb.call {w w1 : World} (h : Tb w) (hb : Below w.heap.size w w1) : Tb w1 := h.of_cells (bcell hb).1
theorem Tb.alloc {w : World} (h : Tb w) (o : Obj) : Tb (w.alloc o) := h.call ((Below.refl _ _).alloc (Nat.le_refl _) o)
theorem Tb.drew {w : World} (h : Tb w) : Tb w.drew := h

set_option maxHeartbeats 2000000 in
theorem tz_core (x k idx : Nat) (w : World) (hx0 : ((x : Int) == 0) = false)
    (key : IntKind.u64.wrap (bits BinOp.and IntKind.u64 (x : Int) (IntKind.u64.wrap (-(x : Int))) * 285870213051353865) / 288230376151711744 = (idx : Int))
    (hi : idx < 64) (hk : k < 64) (hcell : w.cell? ⟨0, idx, none⟩ = some (.int .u8 k)) :
    Calls Tryd.prog 67 #[.int .u64 x] w fun e w' => e = .returned (.int .i64 k) ∧ w' = w := by
  go_enter Tryd.func67, Tryd.ntmps67
  go_wp2_with (simp only [key])
  go_ret
  exact ⟨rfl, rfl⟩
/-- math/bits.TrailingZeros64, of a word that is not 0. -/
theorem tz_any (n : Int) (h0 : 0 < n) (h1 : n < 18446744073709551616) (w : World) (hT : Tb w) :
    Calls Tryd.prog 67 #[.int .u64 n] w fun e w' => e = .returned (.int .i64 (Lib.ctz 64 n.toNat : Nat)) ∧ w' = w := by
  obtain ⟨x, rfl⟩ := Int.eq_ofNat_of_zero_le (Int.le_of_lt h0)
  rw [Int.toNat_natCast]
  have hx0 : x ≠ 0 := by omega
  have hx : x < 18446744073709551616 := by omega
  obtain ⟨hlow, hk⟩ := Lib.lowest_bit 64 x hx0 hx
  obtain ⟨hi, htab⟩ := Lib.deBruijn64_at _ hk
  have hcell := hT _ hi
  rw [htab] at hcell
  exact tz_core x _ _ w (by simp; omega) (tz64_key x _ hx hx0 hlow) hi hk hcell
end Go.Proofs.YtcpgbakdfogilaaDoor
