/- Contracts of set.Of, Range, Len, Subset, Meets. -/
import Derived.Test.YtcpgbakdfogilaaDoorSetG
import Derived.Test.YtcpgbakdfogilaaDoorSetH
namespace Go.Proofs.YtcpgbakdfogilaaDoor
open Go.RowKit
set_option maxRecDepth 100000

/-- The set of the first bytes of a text. -/
def ofBytes (l : List UInt8) : Nat := ofPred fun n => l.any fun c => c.toNat == n
theorem ofBytes_lt (l : List UInt8) : ofBytes l < 2 ^ 256 := ofPred_lt _
theorem ofBytes_nil : ofBytes [] = 0 := by decide +kernel
theorem ofBytes_snoc (l : List UInt8) (c : UInt8) : ofBytes (l ++ [c]) = ofBytes l ||| bitOf (c.toNat : Int) := by
  symm
  have hc : (c.toNat : Int) < 256 := by have := c.toNat_lt; omega
  refine eq_ofPred (or_bit_lt _ _ (ofBytes_lt l) hc) fun i hi => ?_
  unfold ofBytes
  rw [Nat.testBit_or, ofPred_bit, bitOf_bit, decide_eq_true hi, Bool.true_and, List.any_append, Int.toNat_natCast]
  simp only [List.any_cons, List.any_nil, Bool.or_false]
  rfl

/-- A round of Of, of Range: a bit is laid into the block. -/
theorem of_word {W : World} {g s : Nat} {b : Int} (k : Nat) (hk : k < 4) (h0 : 0 ≤ b) (hq : b / 64 = k) (hg : W.heap[g]? = some (setC s)) : (W.setCell ⟨g, k, none⟩ (.int .u64 (w64 (s ||| bitOf b) k))).heap[g]? = some (setC (s ||| bitOf b)) :=
  setB_word k hk hg fun i hi => w64_or_other s i b h0 (by omega)
theorem shl_u64 (b : Int) (h0 : 0 ≤ b) (h1 : b < 64) : IntKind.u64.wrap (2 ^ b.toNat) = 2 ^ b.toNat := by
  have hp : (2 : Int) ^ b.toNat = ((2 ^ b.toNat : Nat) : Int) := by simp
  have hl : 2 ^ b.toNat < 2 ^ 64 := Nat.pow_lt_pow_right (by decide) (by omega)
  rw [hp]
  generalize 2 ^ b.toNat = y at *
  exact u64_small (by omega) (by omega)

theorem Inv.word {n g s : Nat} {w W : World} {b : Int} (h : Inv n w [(g, setC s)] W) (hn : n ≤ g) (k : Nat) (hk : k < 4) (h0 : 0 ≤ b) (hq : b / 64 = k) : Inv n w [(g, setC (s ||| bitOf b))] (W.setCell ⟨g, k, none⟩ (.int .u64 (w64 (s ||| bitOf b) k))) :=
  h.turn hn (by simp) (of_word k hk h0 hq (h.at (by simp))) (fun j hj => heap_setCell_other _ _ _ _ hj) (by simp) (fun hb => hb.setCell hn _)

set_option maxHeartbeats 4000000 in
/-- set.Of. -/
theorem of_any (σ : ByteArray) (hσ : σ.size ≤ 9223372036854775807) (w : World) :
    Calls Tryd.prog 15 #[.string σ] w fun e w' => e = .returned (setV (ofBytes σ.data.toList)) ∧ Below w.heap.size w w' := by
  have hI := (Inv.start w).alloc zeroC
  go_enter Tryd.func15, Tryd.ntmps15
  go_wp2
  go_loopw [6] (fun i wr => ∃ k : Nat, k ≤ σ.size ∧ i = .int .i64 k ∧ Inv w.heap.size w [(w.heap.size, setC (ofBytes (σ.data.toList.take k)))] wr) (fun i _ => σ.size - (intOf i).toNat)
  case atStart => exact ⟨0, by omega, rfl, by rw [List.take_zero, ofBytes_nil]; simpa [zeroC_eq] using hI⟩
  case round =>
    clear hI
    obtain ⟨k, hk, rfl, hI⟩ := hrel
    by_cases hlt : k < σ.size
    · have hs := Lib.hid (show σ.data.toList.take (k + 1) = σ.data.toList.take k ++ [σ[k]] by rw [List.take_succ_eq_append_getElem (by simpa using hlt)]; rfl)
      obtain ⟨b, hb⟩ : ∃ b : Int, (σ[k].toNat : Int) = b := ⟨_, rfl⟩
      have hb0 : 0 ≤ b := by omega
      have hb1 : b < 256 := by have := σ[k].toNat_lt; omega
      have hn := Lib.hid (show ofBytes (σ.data.toList.take (k + 1)) = ofBytes (σ.data.toList.take k) ||| bitOf b by rw [hs.out, ofBytes_snoc, hb])
      have hq : b / 64 = (0 : Nat) ∨ b / 64 = (1 : Nat) ∨ b / 64 = (2 : Nat) ∨ b / 64 = (3 : Nat) := by omega
      have q2 : b.tmod 64 = b % 64 := Int.tmod_eq_emod_of_nonneg hb0
      have q3 := shl_u64 (b % 64) (by omega) (by omega)
      have q4 : 0 ≤ b % 64 := by omega
      have q5 : b % 64 < 64 := by omega
      obtain ⟨c0, c1, c2, c3, f0, f1, f2, f3⟩ := setB_facts (hI.at (g := w.heap.size) (o := setC (ofBytes (σ.data.toList.take k))) (by simp))
      rcases hq with hq | hq | hq | hq
      · clear c1 f1 c2 f2 c3 f3
        have q6 := w64_or_bit (ofBytes (σ.data.toList.take k)) 0 b hb0 hq
        have HI := Lib.hid hI
        clear hI
        go_wp2
        go_region
        all_goals go_wp2
        all_goals go_roundw
        all_goals first
          | exact ⟨k + 1, by omega, by go_num, by rw [hn.out]; first | exact (HI.out.word (by omega) 0 (by decide) hb0 hq).drew | exact HI.out.drew.word (by omega) 0 (by decide) hb0 hq⟩
          | (simp [intOf]; omega)
      · clear c0 f0 c2 f2 c3 f3
        have q6 := w64_or_bit (ofBytes (σ.data.toList.take k)) 1 b hb0 hq
        have HI := Lib.hid hI
        clear hI
        go_wp2
        go_region
        all_goals go_wp2
        all_goals go_roundw
        all_goals first
          | exact ⟨k + 1, by omega, by go_num, by rw [hn.out]; first | exact (HI.out.word (by omega) 1 (by decide) hb0 hq).drew | exact HI.out.drew.word (by omega) 1 (by decide) hb0 hq⟩
          | (simp [intOf]; omega)
      · clear c0 f0 c1 f1 c3 f3
        have q6 := w64_or_bit (ofBytes (σ.data.toList.take k)) 2 b hb0 hq
        have HI := Lib.hid hI
        clear hI
        go_wp2
        go_region
        all_goals go_wp2
        all_goals go_roundw
        all_goals first
          | exact ⟨k + 1, by omega, by go_num, by rw [hn.out]; first | exact (HI.out.word (by omega) 2 (by decide) hb0 hq).drew | exact HI.out.drew.word (by omega) 2 (by decide) hb0 hq⟩
          | (simp [intOf]; omega)
      · clear c0 f0 c1 f1 c2 f2
        have q6 := w64_or_bit (ofBytes (σ.data.toList.take k)) 3 b hb0 hq
        have HI := Lib.hid hI
        clear hI
        go_wp2
        go_region
        all_goals go_wp2
        all_goals go_roundw
        all_goals first
          | exact ⟨k + 1, by omega, by go_num, by rw [hn.out]; first | exact (HI.out.word (by omega) 3 (by decide) hb0 hq).drew | exact HI.out.drew.word (by omega) 3 (by decide) hb0 hq⟩
          | (simp [intOf]; omega)
    · obtain rfl : k = σ.size := by omega
      go_wp2_with (first | (refine load_set rfl (.tmp 2) rfl w.heap.size (ofBytes (σ.data.toList.take σ.size)) rfl (hI.at (by simp)) ?_) | (refine store_set rfl (.tmp 2) _ rfl w.heap.size (ofBytes (σ.data.toList.take σ.size)) (ofBytes (σ.data.toList.take σ.size)) rfl rfl (hI.at (by simp)) ?_; intro W2 g1 g2 g3 g4))
      refine end_set rfl _ _ rfl g1 rfl ⟨?_, g4 _ _ (by omega) hI.below⟩
      rw [List.take_of_length_le (by simp)]
end Go.Proofs.YtcpgbakdfogilaaDoor
