/- Contract of quote.short. -/
import Derived.Test.YtcpgbakdfogilaaDoorSetO
import Derived.Laws.IdiomRangeMap
namespace Go.Proofs.YtcpgbakdfogilaaDoor
open Go.RowKit
set_option maxRecDepth 100000

theorem tyShort : Tryd.prog.underlying 81 = some (.map 5 5) := by kernel_rfl
theorem push_set (h : Array Obj) (x y : Obj) : (h.push x).setIfInBounds h.size y = h.push y := by
  apply Array.toList_inj.1
  simp
/-- A new key is laid into the map that the call has just made. -/
theorem put_new (es : Array MapEntry) (clock : Nat) (k x : Int) (hn : Instr.findNow (.int .u8) (.int .u8 k) es.toList 0 = some none) (W : World) :
    (Instr.mapUpdate 81 (.map (some W.heap.size)) (.int .u8 k) (.int .u8 x)).run Tryd.prog (W.alloc (.map es clock)) = .ok () (W.alloc (.map (es.push { key := .int .u8 k, val := .int .u8 x, born := clock }) (clock + 1))) := by
  have h1 := MapKept.run_getObj_map (P := Tryd.prog) (heap_alloc_new W (.map es clock))
  have h2 : ∀ e : Bool, (Instr.checkKey e 10000 5 (.int .u8 k)).run Tryd.prog (W.alloc (.map es clock)) = .ok () (W.alloc (.map es clock)) := fun e => MapKept.run_checkKey (n := 9999) tyU8 (by simp [MapKept.IsKey]) e
  have h3 := MapKept.run_findKey (P := Tryd.prog) (w := W.alloc (.map es clock)) tyU8 hn
  simp only [Instr.mapUpdate, Sem.run_bind, run_underlying tyShort, Result.andThen_ok, h1, h2, h3]
  simp only [setObj, Sem.run]
  rw [heap_alloc_new]
  show Result.ok () ({ W.alloc (.map es clock) with heap := (W.heap.push (.map es clock)).setIfInBounds W.heap.size _ } : World) = _
  rw [push_set]
  rfl
abbrev shortE : Array MapEntry := #[{ key := .int .u8 110, val := .int .u8 10, born := 0 }, { key := .int .u8 114, val := .int .u8 13, born := 1 }, { key := .int .u8 116, val := .int .u8 9, born := 2 }]

set_option maxHeartbeats 4000000 in
/-- quote.short. -/
theorem short_any (w : World) : Calls Tryd.prog 69 #[] w fun e w' => e = .returned (.map (some w.heap.size)) ∧ w' = w.alloc (.map shortE 3) := by
  have hmm := @run_makeMap Tryd.prog
  have h1 := put_new #[] 0 110 10 rfl w
  have h2 := put_new #[{ key := .int .u8 110, val := .int .u8 10, born := 0 }] 1 114 13 rfl w
  have h3 := put_new #[{ key := .int .u8 110, val := .int .u8 10, born := 0 }, { key := .int .u8 114, val := .int .u8 13, born := 1 }] 2 116 9 rfl w
  go_enter Tryd.func69, Tryd.ntmps69
  go_wp2
  go_ret
  exact ⟨rfl, rfl⟩
end Go.Proofs.YtcpgbakdfogilaaDoor
