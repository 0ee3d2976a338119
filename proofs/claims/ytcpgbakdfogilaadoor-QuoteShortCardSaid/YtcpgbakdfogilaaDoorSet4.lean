/- A set's block, stored anew word by word. -/
import Derived.Test.YtcpgbakdfogilaaDoorSetO
namespace Go.Proofs.YtcpgbakdfogilaaDoor
open Go.RowKit
set_option maxRecDepth 100000

/-- A set's block, stored anew word by word. -/
theorem Inv.set4 {n g s t : Nat} {w W : World} {L : List (Nat × Obj)} (h : Inv n w ((g, setC t) :: L) W) (hg : n ≤ g) (hn : ∀ p ∈ L, p.1 ≠ g) :
    Inv n w ((g, setC s) :: L) ((((W.setCell ⟨g, 0, none⟩ (.int .u64 (w64 s 0))).setCell ⟨g, 1, none⟩ (.int .u64 (w64 s 1))).setCell ⟨g, 2, none⟩ (.int .u64 (w64 s 2))).setCell ⟨g, 3, none⟩ (.int .u64 (w64 s 3))) :=
  h.turn hg hn (Go.Proofs.YtcpgbakdfogilaaDoor.set4 (t := t) (h.blk _ (List.mem_cons_self ..))) (fun k hk => by rw [heap_setCell_other _ _ _ _ hk, heap_setCell_other _ _ _ _ hk, heap_setCell_other _ _ _ _ hk, heap_setCell_other _ _ _ _ hk]) (by simp) (fun hb => (((hb.setCell (p := ⟨g, 0, none⟩) hg _).setCell (p := ⟨g, 1, none⟩) hg _).setCell (p := ⟨g, 2, none⟩) hg _).setCell (p := ⟨g, 3, none⟩) hg _)
theorem Tb.set4 {g s : Nat} {W : World} (h : Tb W) (hg : 0 < g) :
    Tb ((((W.setCell ⟨g, 0, none⟩ (.int .u64 (w64 s 0))).setCell ⟨g, 1, none⟩ (.int .u64 (w64 s 1))).setCell ⟨g, 2, none⟩ (.int .u64 (w64 s 2))).setCell ⟨g, 3, none⟩ (.int .u64 (w64 s 3))) :=
  h.keep hg (((((Below.refl g W).setCell (p := ⟨g, 0, none⟩) (Nat.le_refl _) _).setCell (p := ⟨g, 1, none⟩) (Nat.le_refl _) _).setCell (p := ⟨g, 2, none⟩) (Nat.le_refl _) _).setCell (p := ⟨g, 3, none⟩) (Nat.le_refl _) _)
theorem row_set4 {g s base size n : Nat} {e : TypeId} {v : Value} {xs : List Value} {W : World} (h : W.ownsRow base e size v n xs) (hg : g < base) :
    ((((W.setCell ⟨g, 0, none⟩ (.int .u64 (w64 s 0))).setCell ⟨g, 1, none⟩ (.int .u64 (w64 s 1))).setCell ⟨g, 2, none⟩ (.int .u64 (w64 s 2))).setCell ⟨g, 3, none⟩ (.int .u64 (w64 s 3))).ownsRow base e size v n xs :=
  ownsRow_setCell_below (ownsRow_setCell_below (ownsRow_setCell_below (ownsRow_setCell_below h (a := ⟨g, 0, none⟩) hg _) (a := ⟨g, 1, none⟩) hg _) (a := ⟨g, 2, none⟩) hg _) (a := ⟨g, 3, none⟩) hg _

end Go.Proofs.YtcpgbakdfogilaaDoor
