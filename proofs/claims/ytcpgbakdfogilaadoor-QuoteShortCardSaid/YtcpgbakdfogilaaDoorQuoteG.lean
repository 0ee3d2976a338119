/- A look into the map of quote.short. -/
import Derived.Test.YtcpgbakdfogilaaDoorQuoteF
namespace Go.Proofs.YtcpgbakdfogilaaDoor
open Go.RowKit
set_option maxRecDepth 100000

def shortV (k : Int) : Int := if k = 110 then 10 else if k = 114 then 13 else if k = 116 then 9 else 0
def shortIs (k : Int) : Bool := decide (k = 110) || (decide (k = 114) || decide (k = 116))
theorem find_short (k : Int) : Instr.findNow (.int .u8) (.int .u8 k) shortE.toList 0 = some (if k = 110 then some (0, .int .u8 10) else if k = 114 then some (1, .int .u8 13) else if k = 116 then some (2, .int .u8 9) else none) := by
  by_cases h1 : k = 110
  · subst h1; rfl
  by_cases h2 : k = 114
  · subst h2; rfl
  by_cases h3 : k = 116
  · subst h3; rfl
  have e1 : (k == 110) = false := beq_eq_false_iff_ne.2 h1
  have e2 : (k == 114) = false := beq_eq_false_iff_ne.2 h2
  have e3 : (k == 116) = false := beq_eq_false_iff_ne.2 h3
  simp [Instr.findNow, Instr.sameNow, h1, h2, h3, e1, e2, e3]
theorem zv_u8 (W : World) : (zeroValue 5).run Tryd.prog W = .ok (.int .u8 0) W := by
  have := Tryd.zeroValue5
  go_simp
theorem look_short (W : World) (b : Nat) (k : Int) (hb : W.heap[b]? = some (.map shortE 3)) :
    (Instr.lookup 81 (.map (some b)) (.int .u8 k) true).run Tryd.prog W = .ok (.tuple #[.int .u8 (shortV k), .bool (shortIs k)]) W := by
  have h1 := MapKept.run_getObj_map (P := Tryd.prog) hb
  have h2 : ∀ e : Bool, (Instr.checkKey e 10000 5 (.int .u8 k)).run Tryd.prog W = .ok () W := fun e => MapKept.run_checkKey (n := 9999) tyU8 (by simp [MapKept.IsKey]) e
  have h3 := MapKept.run_findKey (P := Tryd.prog) (w := W) tyU8 (find_short k)
  have h4 := zv_u8 W
  simp only [Instr.lookup, Sem.run_bind, run_underlying tyShort, Result.andThen_ok, h1, h2, h3]
  by_cases k1 : k = 110
  · subst k1; simp [h2, h3, shortV, shortIs, Sem.run_bind]
  by_cases k2 : k = 114
  · subst k2; simp [h2, h3, shortV, shortIs, Sem.run_bind]
  by_cases k3 : k = 116
  · subst k3; simp [h2, h3, shortV, shortIs, Sem.run_bind]
  simp [h2, h3, h4, k1, k2, k3, shortV, shortIs, Sem.run_bind]
end Go.Proofs.YtcpgbakdfogilaaDoor
