/- Contract of quote.first. -/
import Derived.Test.YtcpgbakdfogilaaDoorQuoteC
namespace Go.Proofs.YtcpgbakdfogilaaDoor
open Go.RowKit
set_option maxRecDepth 100000

def firstL (l : List UInt8) (c : UInt8) : Int := match l with | [] => 8 | b :: _ => if b = c then 0 else 4
set_option maxHeartbeats 4000000 in
theorem first_any (l : List UInt8) (c : UInt8) (w : World) :
    Calls Tryd.prog 62 #[.string (strOf l), .int .u8 (c.toNat : Int)] w fun e w' => e = .returned (.int .i64 (firstL l c)) ∧ w' = w := by
  cases l with
  | nil =>
    have h0 : strOf [] = ⟨#[]⟩ := rfl
    rw [h0]
    go_enter Tryd.func62, Tryd.ntmps62
    go_wp2
    go_ret
    exact ⟨rfl, rfl⟩
  | cons b l =>
    have hl : (strOf (b :: l)).toList = b :: l := by simp [strOf, ByteArray.toList_eq]
    obtain ⟨σ, hσ, hsz, hg⟩ := strOf_name (b :: l)
    rw [hσ] at hl ⊢
    have hs : 0 < σ.size := by rw [hsz]; simp
    have e0 : σ[0] = b := hg.out 0 hs (by simp)
    have hne : (σ.toList == []) = false := by rw [hl]; rfl
    clear hσ hg
    by_cases hbc : b = c
    · subst hbc
      go_enter Tryd.func62, Tryd.ntmps62
      go_wp2
      go_ret
      exact ⟨ret_int (by simp [firstL]), rfl⟩
    · have hn : ((b.toNat : Int) == (c.toNat : Int)) = false := by
        rw [beq_eq_false_iff_ne]; intro h; exact hbc (UInt8.toNat_inj.1 (by omega))
      go_enter Tryd.func62, Tryd.ntmps62
      go_wp2
      go_ret
      exact ⟨ret_int (by simp [firstL, hbc]), rfl⟩
end Go.Proofs.YtcpgbakdfogilaaDoor
