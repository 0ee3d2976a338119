/- What a walk carries of the world: some blocks whole, and that all below a number is as it was. -/
import Derived.WalkKit
import Derived.Laws.Tables
import Derived.Laws.CopyOwn
import Derived.Lib.Hide
import Derived.WalkSmall
namespace Go.Proofs.YtcpgbakdfogilaaDoor
open Go.RowKit

theorem bcell {W w1 : World} (hb : Below W.heap.size W w1) : (∀ b o, b < W.heap.size → w1.cell? ⟨b, o, none⟩ = W.cell? ⟨b, o, none⟩) ∧ (∀ b o, b < W.heap.size → w1.frozen? ⟨b, o, none⟩ = W.frozen? ⟨b, o, none⟩) :=
  ⟨fun b o h => hb.cell (p := ⟨b, o, none⟩) h, fun b o h => hb.frozen (p := ⟨b, o, none⟩) h⟩
theorem ret_int {k : IntKind} {a b : Int} (h : a = b) : Ending.returned (.int k a) = .returned (.int k b) := by rw [h]
theorem ret_bool {a b : Bool} (h : a = b) : Ending.returned (.bool a) = .returned (.bool b) := by rw [h]

/-- The blocks of L hold what L says; below n all is as it was in w. -/
structure Inv (n : Nat) (w : World) (L : List (Nat × Obj)) (W : World) : Prop where
  below : Below n w W
  size : n ≤ W.heap.size
  blk : ∀ p ∈ L, W.heap[p.1]? = some p.2
theorem lt_of_heap {w : World} {b : Nat} {o : Obj} (h : w.heap[b]? = some o) : b < w.heap.size := by
  rw [Array.getElem?_eq_some_iff] at h; exact h.1
theorem Inv.start (w : World) : Inv w.heap.size w [] w := ⟨Below.refl _ _, Nat.le_refl _, fun _ h => by cases h⟩
theorem Inv.call {n : Nat} {w W W1 : World} {L : List (Nat × Obj)} (h : Inv n w L W) (hb : Below W.heap.size W W1) : Inv n w L W1 :=
  ⟨h.below.trans (hb.mono h.size), Nat.le_trans h.size hb.size, fun p hp => (hb.block _ (lt_of_heap (h.blk p hp))).trans (h.blk p hp)⟩
theorem Inv.drew {n : Nat} {w W : World} {L : List (Nat × Obj)} (h : Inv n w L W) : Inv n w L W.drew := ⟨h.below.drew, h.size, h.blk⟩
theorem Inv.drewN {n : Nat} {w W : World} {L : List (Nat × Obj)} (h : Inv n w L W) (m : Nat) : Inv n w L (W.drewN m) := ⟨below_drewN h.below _, h.size, h.blk⟩
theorem Inv.alloc {n : Nat} {w W : World} {L : List (Nat × Obj)} (h : Inv n w L W) (o : Obj) : Inv n w ((W.heap.size, o) :: L) (W.alloc o) :=
  ⟨h.below.alloc h.size o, by rw [World.size_alloc]; exact Nat.le_succ_of_le h.size, fun p hp => by
    rcases List.mem_cons.1 hp with rfl | hp
    · exact heap_alloc_new W o
    · exact (Below.heap_alloc W o _ (lt_of_heap (h.blk p hp))).trans (h.blk p hp)⟩
theorem Inv.sub {n : Nat} {w W : World} {L L' : List (Nat × Obj)} (h : Inv n w L W) (hL : ∀ p ∈ L', p ∈ L) : Inv n w L' W := ⟨h.below, h.size, fun p hp => h.blk p (hL p hp)⟩
/-- One block is turned: the first of the list. -/
theorem Inv.turn {n : Nat} {w W W1 : World} {L : List (Nat × Obj)} {g : Nat} {o o' : Obj} (h : Inv n w ((g, o) :: L) W) (hg : n ≤ g) (hn : ∀ p ∈ L, p.1 ≠ g) (h1 : W1.heap[g]? = some o') (h2 : ∀ k, k ≠ g → W1.heap[k]? = W.heap[k]?)
    (h3 : W1.heap.size = W.heap.size) (h4 : Below n w W → Below n w W1) : Inv n w ((g, o') :: L) W1 :=
  ⟨h4 h.below, by rw [h3]; exact h.size, fun p hp => by
    rcases List.mem_cons.1 hp with rfl | hp
    · exact h1
    · rw [h2 _ (hn p hp)]; exact h.blk p (List.mem_cons_of_mem _ hp)⟩
theorem Inv.at {n : Nat} {w W : World} {L : List (Nat × Obj)} {g : Nat} {o : Obj} (h : Inv n w L W) (hp : (g, o) ∈ L) : W.heap[g]? = some o := h.blk _ hp
theorem Inv.cell {n : Nat} {w W : World} {L : List (Nat × Obj)} {g j : Nat} {cs : Array Value} {t : TypeId} {fr : Nat × Nat} {v : Value} (h : Inv n w L W) (hp : (g, .cells cs t fr) ∈ L) (hv : cs[j]? = some v) : W.cell? ⟨g, j, none⟩ = some v :=
  (cell_of_row _ _ _ _ _ _ (h.at hp)).trans hv
theorem Inv.free {n : Nat} {w W : World} {L : List (Nat × Obj)} {g j : Nat} {cs : Array Value} {t : TypeId} (h : Inv n w L W) (hp : (g, .cells cs t (0, 0)) ∈ L) : W.frozen? ⟨g, j, none⟩ = false := frozen_of_row _ _ _ _ _ (h.at hp)
end Go.Proofs.YtcpgbakdfogilaaDoor
