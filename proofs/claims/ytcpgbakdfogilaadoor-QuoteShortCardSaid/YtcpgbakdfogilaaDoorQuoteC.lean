/- Contract of quote.Literal. -/
import Derived.Test.YtcpgbakdfogilaaDoorQuoteB
namespace Go.Proofs.YtcpgbakdfogilaaDoor
open Go.RowKit
set_option maxRecDepth 100000

abbrev inText : List UInt8 := [34, 92]
def flatS (sp l : List UInt8) : List UInt8 := l.flatMap fun b => signL b sp
def litL (l : List UInt8) : List UInt8 := 34 :: flatS inText l ++ [34]
theorem signL_len (b : UInt8) (sp : List UInt8) : (signL b sp).length ≤ 4 := by
  unfold signL
  repeat' split
  all_goals simp
theorem flatS_len (sp l : List UInt8) : (flatS sp l).length ≤ 4 * l.length := by
  induction l with
  | nil => simp [flatS]
  | cons b l ih => have := signL_len b sp; simp [flatS] at ih ⊢; omega
theorem flatS_snoc (sp l : List UInt8) (b : UInt8) : flatS sp (l ++ [b]) = flatS sp l ++ signL b sp := by simp [flatS]
theorem add_strs (A B : List UInt8) (h : A.length + B.length ≤ 9223372036854775807) (P : Program) (w : World) : (Op.stringOp .add (strOf A) (strOf B)).run P w = .ok (.string (strOf (A ++ B))) w := by
  rw [run_string_add_sum w _ _ (by rw [strOf_size, strOf_size]; exact h)]
  unfold strOf
  rw [ByteArray.mk_append_mk]

set_option maxHeartbeats 8000000 in
/-- quote.Literal. -/
theorem literal_any (l : List UInt8) (hl : l.length ≤ 100000) (w : World) (hT : Tb w) :
    Calls Tryd.prog 44 #[.string (strOf l)] w fun e w' => e = .returned (.string (strOf (litL l))) ∧ Below w.heap.size w w' := by
  have hI := Inv.start w
  have Hlit := Lib.hid (show litL l = (34 :: flatS inText l) ++ [34] from rfl)
  obtain ⟨σ, hσ, hsz, hg⟩ := strOf_name l
  rw [hσ]
  have h34 : (⟨#[34]⟩ : ByteArray) = strOf [34] := rfl
  have hll : (l.length : Int) ≤ 100000 := by omega
  clear hσ
  go_enter Tryd.func44, Tryd.ntmps44
  go_wp2
  go_loopw [3, 7] (fun s i wr => ∃ k : Nat, k ≤ l.length ∧ i = .int .i64 k ∧ s = .string (strOf (34 :: flatS inText (l.take k))) ∧ Inv w.heap.size w [] wr ∧ Tb wr) (fun _ i _ => l.length - (intOf i).toNat)
  case atStart => exact ⟨0, by omega, rfl, rfl, hI, hT⟩
  case round =>
    clear hI hT
    obtain ⟨k, hk, rfl, rfl, hI, hT⟩ := hrel
    by_cases hlt : k < l.length
    · have hlt2 : k < σ.size := by omega
      obtain ⟨b, hb⟩ : ∃ b, l[k] = b := ⟨_, rfl⟩
      have eb : σ[k] = b := (hg.out k hlt2 hlt).trans hb
      have hst : l.take (k + 1) = l.take k ++ [b] := by rw [List.take_succ_eq_append_getElem hlt, hb]
      obtain ⟨A, hA⟩ : ∃ A, (34 :: flatS inText (l.take k)) = A := ⟨_, rfl⟩
      have hA2 : (34 :: flatS inText (l.take (k + 1))) = A ++ signL b inText := by rw [hst, flatS_snoc, ← hA]; rfl
      have hAl : A.length ≤ 400001 := by
        rw [← hA]; have := flatS_len inText (l.take k); have := List.length_take_le k l; simp; omega
      have hadd := add_strs A (signL b inText) (by have := signL_len b inText; omega)
      have HA2 := Lib.hid hA2
      rw [hA]
      clear hA hA2 hst hb hAl
      go_wp2_with (go_at_call 61; (try rw [eb]); refine (sign_any b inText (by decide) _ hT).mono ?_; rintro e w1 ⟨rfl, hb⟩; replace hI := hI.call hb; replace hT := hT.call hb; clear hb)

      go_roundw
      case rel => exact ⟨k + 1, by omega, by go_num, by rw [HA2.out], hI, hT⟩
      case measure => simp [intOf]; omega
    · obtain rfl : k = l.length := by omega
      rw [List.take_length]
      have hadd := add_strs (34 :: flatS inText l) [34] (by have := flatS_len inText l; simp; omega)
      rw [← Hlit.out] at hadd
      go_wp2
      go_ret
      exact ⟨rfl, hI.below⟩
end Go.Proofs.YtcpgbakdfogilaaDoor
