/- SetNames: the nine bytes. -/
import Derived.Test.YtcpgbakdfogilaaDoorSetP
import Derived.Test.YtcpgbakdfogilaaDoorSet4
namespace Go.Proofs.YtcpgbakdfogilaaDoor
open Go.RowKit
set_option maxRecDepth 100000

abbrev C9 : Obj := .cells #[.int .i64 0, .int .i64 1, .int .i64 63, .int .i64 64, .int .i64 127, .int .i64 128, .int .i64 191, .int .i64 192, .int .i64 255] 3
structure Elt (k : Nat) (b : Int) (c : UInt8) (X : Nat) : Prop where
  lo : 0 ≤ b
  hi : b < 256
  cb : ((c.toNat : Nat) : Int) = b
  cell : (#[.int .i64 0, .int .i64 1, .int .i64 63, .int .i64 64, .int .i64 127, .int .i64 128, .int .i64 191, .int .i64 192, .int .i64 255] : Array Value)[k]? = some (.int .i64 b)
  bit : bitOf b = X
  rngX : rng b (b + 1) = X
  bytes : bytesTo X 256 = [c]
  ofB : ofBytes [c] = X
  has : X.testBit b.toNat = true
  len : ((lenOf X : Nat) : Int) = 1
  lenN : ((lenOf (X ^^^ full) : Nat) : Int) = 255
  hasN : (X ^^^ full).testBit b.toNat = false
  runs : (runsL (bytesTo X 256)).length = 1
theorem elt : ∀ k, k < 9 → ∃ b c X, Elt k b c X
  | 0, _ => ⟨0, 0, bitOf 0, by decide, by decide, by decide, rfl, rfl, by decide +kernel, by decide +kernel, by decide +kernel, by decide +kernel, by decide +kernel, by decide +kernel, by decide +kernel, by decide +kernel⟩
  | 1, _ => ⟨1, 1, bitOf 1, by decide, by decide, by decide, rfl, rfl, by decide +kernel, by decide +kernel, by decide +kernel, by decide +kernel, by decide +kernel, by decide +kernel, by decide +kernel, by decide +kernel⟩
  | 2, _ => ⟨63, 63, bitOf 63, by decide, by decide, by decide, rfl, rfl, by decide +kernel, by decide +kernel, by decide +kernel, by decide +kernel, by decide +kernel, by decide +kernel, by decide +kernel, by decide +kernel⟩
  | 3, _ => ⟨64, 64, bitOf 64, by decide, by decide, by decide, rfl, rfl, by decide +kernel, by decide +kernel, by decide +kernel, by decide +kernel, by decide +kernel, by decide +kernel, by decide +kernel, by decide +kernel⟩
  | 4, _ => ⟨127, 127, bitOf 127, by decide, by decide, by decide, rfl, rfl, by decide +kernel, by decide +kernel, by decide +kernel, by decide +kernel, by decide +kernel, by decide +kernel, by decide +kernel, by decide +kernel⟩
  | 5, _ => ⟨128, 128, bitOf 128, by decide, by decide, by decide, rfl, rfl, by decide +kernel, by decide +kernel, by decide +kernel, by decide +kernel, by decide +kernel, by decide +kernel, by decide +kernel, by decide +kernel⟩
  | 6, _ => ⟨191, 191, bitOf 191, by decide, by decide, by decide, rfl, rfl, by decide +kernel, by decide +kernel, by decide +kernel, by decide +kernel, by decide +kernel, by decide +kernel, by decide +kernel, by decide +kernel⟩
  | 7, _ => ⟨192, 192, bitOf 192, by decide, by decide, by decide, rfl, rfl, by decide +kernel, by decide +kernel, by decide +kernel, by decide +kernel, by decide +kernel, by decide +kernel, by decide +kernel, by decide +kernel⟩
  | 8, _ => ⟨255, 255, bitOf 255, by decide, by decide, by decide, rfl, rfl, by decide +kernel, by decide +kernel, by decide +kernel, by decide +kernel, by decide +kernel, by decide +kernel, by decide +kernel, by decide +kernel⟩
  | k + 9, h => absurd h (by omega)
theorem rng6070 : setV (rng 60 71) = .agg #[.int .u64 17293822569102704640, .int .u64 127, .int .u64 0, .int .u64 0] := by
  have h0 : w64 (rng 60 71) 0 = 17293822569102704640 := by decide +kernel
  have h1 : w64 (rng 60 71) 1 = 127 := by decide +kernel
  have h2 : w64 (rng 60 71) 2 = 0 := by decide +kernel
  have h3 : w64 (rng 60 71) 3 = 0 := by decide +kernel
  show Value.agg #[.int .u64 (w64 (rng 60 71) 0), .int .u64 (w64 (rng 60 71) 1), .int .u64 (w64 (rng 60 71) 2), .int .u64 (w64 (rng 60 71) 3)] = _
  rw [h0, h1, h2, h3]
theorem rngFull : rng 0 256 = full := by decide +kernel
theorem lenFull : ((lenOf full : Nat) : Int) = 256 := by decide +kernel
theorem runsFull : runsL (bytesTo full 256) = [(0, 255)] := by decide +kernel
theorem bytes0 : bytesTo 0 256 = [] := by decide +kernel
theorem len0 : lenOf 0 ≠ 1 := by decide +kernel
theorem cmp0 : cmpL [] [] = 0 := rfl
theorem not0 : (0 ^^^ full) = full := by decide +kernel
end Go.Proofs.YtcpgbakdfogilaaDoor
