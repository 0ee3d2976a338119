/- The reference's Of; SetTells' walk. -/
import Derived.Test.YtcpgbakdfogilaaDoorSetO
import Derived.Test.YtcpgbakdfogilaaDoorSet4
import Derived.Test.YtcpgbakdfogilaaDoorSetP
import Derived.Deep.CutRange
namespace Go.Proofs.YtcpgbakdfogilaaDoor
open Go.RowKit
set_option maxRecDepth 100000

set_option maxHeartbeats 8000000 in
/-- bonsairef01.Of. -/
theorem rof_any (σ : ByteArray) (hσ : σ.size ≤ 9223372036854775807) (w : World) :
    Calls Tryd.prog 16 #[.string σ] w fun e w' => e = .returned (setV (ofBytes σ.data.toList)) ∧ Below w.heap.size w w' := by
  have hJ := L2_start w
  go_enter Tryd.func16, Tryd.ntmps16
  go_wp2
  go_loopw [4] (fun i wr => ∃ k : Nat, k ≤ σ.size ∧ i = .int .i64 k ∧ Inv w.heap.size w (L2 w.heap.size (ofBytes (σ.data.toList.take k))) wr) (fun i _ => σ.size - (intOf i).toNat)
  case atStart => exact ⟨0, by omega, rfl, by rw [List.take_zero, ofBytes_nil]; exact hJ⟩
  case round =>
    clear hJ
    obtain ⟨k, hk, rfl, hI⟩ := hrel
    by_cases hlt : k < σ.size
    · have hs := Lib.hid (show σ.data.toList.take (k + 1) = σ.data.toList.take k ++ [σ[k]] by rw [List.take_succ_eq_append_getElem (by simpa using hlt)]; rfl)
      obtain ⟨b, hb⟩ : ∃ b : Int, (σ[k].toNat : Int) = b := ⟨_, rfl⟩
      have hb0 : 0 ≤ b := by omega
      have hb1 : b < 256 := by have := σ[k].toNat_lt; omega
      obtain ⟨A, hA⟩ : ∃ A, ofBytes (σ.data.toList.take k) = A := ⟨_, rfl⟩
      obtain ⟨A', hA'⟩ : ∃ A, ofBytes (σ.data.toList.take (k + 1)) = A := ⟨_, rfl⟩
      have hn := Lib.hid (show A ||| bitOf b = A' by rw [← hA', hs.out, ofBytes_snoc, hb, hA])
      rw [hA] at hI
      have HA' := Lib.hid hA'
      clear hA hA'
      obtain ⟨c0, c1, c2, c3, f0, f1, f2, f3⟩ := setB_facts (hI.at (g := w.heap.size + 1) (o := setC A) (by simp))
      go_wp2
      go_region_with (go_at_call 48; refine (with_any _ _ hb0 hb1 _).mono ?_; rintro e W1 ⟨rfl, hb⟩; (first | replace hI := hI.call hb | replace hI := hI.drew.call hb); rw [hn.out]; obtain ⟨d0, d1, d2, d3, g0, g1, g2, g3⟩ := setB_facts (hI.at (g := w.heap.size + 1) (o := setC A) (by simp)); clear hb)
      all_goals go_wp2
      all_goals refine ⟨⟨k + 1, by omega, by go_num, ?_⟩, by simp [intOf]; omega⟩
      all_goals rw [HA'.out]
      all_goals exact Inv.set4 hI (by omega) (by intro p hp; simp at hp; subst hp; simp)
    · obtain rfl : k = σ.size := by omega
      go_wp2_with (first | (refine load_set rfl (.tmp 3) rfl (w.heap.size + 1) (ofBytes (σ.data.toList.take σ.size)) rfl (hI.at (by simp)) ?_) | (refine store_set rfl (.tmp 2) _ rfl w.heap.size (ofBytes (σ.data.toList.take σ.size)) 0 rfl rfl (hI.at (by simp)) ?_; intro W2 g1 g2 g3 g4))
      refine end_set rfl _ _ rfl g1 rfl ⟨?_, g4 _ _ (by omega) hI.below⟩
      rw [List.take_of_length_le (by simp)]
end Go.Proofs.YtcpgbakdfogilaaDoor
