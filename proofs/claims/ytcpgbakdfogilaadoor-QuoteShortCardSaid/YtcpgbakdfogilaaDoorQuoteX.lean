/- A byte of a text. -/
import Derived.Test.YtcpgbakdfogilaaDoorQuoteQ
namespace Go.Proofs.YtcpgbakdfogilaaDoor
open Go.RowKit
set_option maxRecDepth 100000

theorem u8_eq {c d : UInt8} (h : (c.toNat : Int) = (d.toNat : Int)) : c = d := UInt8.toNat_inj.1 (by omega)
theorem idx_at (T : List UInt8) (p : Nat) (hp : p < T.length) (c : UInt8) (hc : T[p]? = some c) (w : World) : (Instr.index 9 (.string (strOf T)) (.int .i64 (p : Int))).run Tryd.prog w = .ok (.int .u8 (c.toNat : Int)) w := by
  obtain ⟨σ, hσ, hsz2, hgt⟩ := strOf_name T
  have hs3 : p < σ.size := by omega
  have h := idx_str σ p hs3 w
  have hc' : T[p] = c := by rw [List.getElem?_eq_getElem hp] at hc; exact Option.some.inj hc
  rw [hgt.out p hs3 hp, hc', ← hσ] at h
  exact h
end Go.Proofs.YtcpgbakdfogilaaDoor
