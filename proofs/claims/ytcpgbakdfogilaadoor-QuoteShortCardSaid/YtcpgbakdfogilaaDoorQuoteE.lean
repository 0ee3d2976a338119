/- What quote.one tells: plain. -/
import Derived.Test.YtcpgbakdfogilaaDoorQuoteD
namespace Go.Proofs.YtcpgbakdfogilaaDoor
open Go.RowKit
set_option maxRecDepth 100000

/-- A hexadecimal digit's number; none: it is none. -/
def hexv (c : UInt8) : Option Nat :=
  if 48 ≤ c.toNat ∧ c.toNat ≤ 57 then some (c.toNat - 48) else if 97 ≤ c.toNat ∧ c.toNat ≤ 102 then some (c.toNat - 87) else if 65 ≤ c.toNat ∧ c.toNat ≤ 70 then some (c.toNat - 55) else none
/-- A text's first sign: its byte, its length, the error. -/
def oneL (t sp : List UInt8) : Nat × Nat × Int :=
  match t with
  | [] => (0, 0, 8)
  | c :: r =>
    if c.toNat < 32 ∨ 126 < c.toNat ∨ (c.toNat ≠ 92 ∧ sp.contains c = true) then (0, 0, 4)
    else if c.toNat ≠ 92 then (c.toNat, 1, 0)
    else match r with
      | [] => (0, 1, 8)
      | d :: r2 =>
        if d.toNat = 110 then (10, 2, 0) else if d.toNat = 114 then (13, 2, 0) else if d.toNat = 116 then (9, 2, 0)
        else if sp.contains d = true then (d.toNat, 2, 0)
        else if d.toNat ≠ 120 then (0, 1, 4)
        else match r2 with
          | [] => (0, 2, 8)
          | x :: r3 => match hexv x with
            | none => (0, 2, 4)
            | some m => match r3 with
              | [] => (0, 3, 8)
              | y :: _ => match hexv y with
                | none => (0, 3, 4)
                | some k => (m * 16 + k, 4, 0)
/-- What is written of a byte is read as it was, whatever stands behind it (a special that is no bare sign has its backslash). -/
theorem hexv_hexd : ∀ n, n < 16 → hexv (hexd n) = some n := by decide +kernel
end Go.Proofs.YtcpgbakdfogilaaDoor
