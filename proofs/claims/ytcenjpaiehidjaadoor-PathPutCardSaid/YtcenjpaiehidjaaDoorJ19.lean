/- The walk of bonsailaw18.PathTells. -/
import Derived.Test.YtcenjpaiehidjaaDoorJ18
import Derived.Test.YtcenjpaiehidjaaDoorJ17
import Derived.Deep.RegionHeldLaw
import Derived.Deep.CutRange
set_option linter.unusedSimpArgs false
set_option linter.unusedVariables false
namespace Go.Proofs.YtcenjpaiehidjaaDoor
open Go.RowKit
set_option maxRecDepth 100000

theorem few_small {ns : List Nd} (h1 : ns.length < 1500) (h2 : FewN ns) : Small ns := ⟨by omega, fun nd h => by have := h2 nd h; omega⟩
theorem lens1 {q : Option Addr} {n c : Nat} (pl : List Int) (hn : pl.length = n) (W : World) : LensAt (W.alloc (.cells #[.slice q n c] 25)) (some ⟨W.heap.size, 0, none⟩) [pl] := fun _ => ⟨W.heap.size, 0, rfl, fun j x hj => by
  match j, hj with
  | 0, hj =>
    obtain rfl : pl = x := by simpa using hj
    subst hn
    exact ⟨q, c, by rw [cell_of_row _ _ _ _ _ _ (heap_alloc_new W _)]; rfl⟩
  | j + 1, hj => simp at hj⟩

theorem cells4 {S : Nat → Prop} {w W : World} {L : List (Nat × Obj)} {R : List OwnR} {g1 g2 n1 n2 cap1 cap2 : Nat} {p1 p2 : Option Addr} {r1 r2 : Int} (h : RInv S w L R W) (h1 : (g1, arO p1 n1 cap1 r1) ∈ L) (h2 : (g2, arO p2 n2 cap2 r2) ∈ L) :
    W.cell? ⟨g1, 0, none⟩ = some (.slice p1 n1 cap1) ∧ W.cell? ⟨g1, 1, none⟩ = some (.int .i64 r1) ∧ W.cell? ⟨g2, 0, none⟩ = some (.slice p2 n2 cap2) ∧ W.cell? ⟨g2, 1, none⟩ = some (.int .i64 r2) :=
  ⟨(box_cells h h1).1, (box_cells h h1).2, (box_cells h h2).1, (box_cells h h2).2⟩
theorem cell_alloc1 {W : World} {o : Obj} {b j : Nat} {v : Value} (h : W.cell? ⟨b, j, none⟩ = some v) : (W.alloc o).cell? ⟨b, j, none⟩ = some v := cell_alloc_keep h
abbrev nilO : Obj := arO none 0 0 0
/-- Blocks held whole, no two the same. -/
structure DInv (w : World) (L : List (Nat × Obj)) (W : World) : Prop where
  inv : RInv noS w L [] W
  nodup : (L.map Prod.fst).Nodup
  low : ∀ x ∈ L, w.heap.size ≤ x.1
theorem DInv.alloc {w W : World} {L : List (Nat × Obj)} (h : DInv w L W) (o : Obj) : DInv w ((W.heap.size, o) :: L) (W.alloc o) := ⟨h.inv.alloc o, by
  rw [List.map_cons, List.nodup_cons]
  refine ⟨fun hm => ?_, h.nodup⟩
  obtain ⟨x, hx, e⟩ := List.mem_map.1 hm
  have := lt_of_heap (h.inv.blk x hx)
  simp only at e
  omega, fun x hx => by
  rcases List.mem_cons.1 hx with rfl | hx
  · exact h.inv.size
  · exact h.low x hx⟩
theorem DInv.call {w W W' : World} {L : List (Nat × Obj)} (h : DInv w L W) (hb : Below W.heap.size W W') : DInv w L W' := ⟨h.inv.call hb, h.nodup, h.low⟩
theorem DInv.drew {w W : World} {L : List (Nat × Obj)} (h : DInv w L W) : DInv w L W.drew := ⟨h.inv.drew, h.nodup, h.low⟩
/-- What the stores of two boxes want. -/
structure Facts (V : World) (g1 g2 : Nat) (x y : Value) : Prop where
  c0 : V.cell? ⟨g1, 0, none⟩ = some (.slice none 0 0)
  c1 : V.cell? ⟨g1, 1, none⟩ = some (.int .i64 0)
  f0 : V.frozen? ⟨g1, 0, none⟩ = false
  f1 : V.frozen? ⟨g1, 1, none⟩ = false
  d0 : ((V.setCell ⟨g1, 0, none⟩ x).setCell ⟨g1, 1, none⟩ y).cell? ⟨g2, 0, none⟩ = some (.slice none 0 0)
  d1 : ((V.setCell ⟨g1, 0, none⟩ x).setCell ⟨g1, 1, none⟩ y).cell? ⟨g2, 1, none⟩ = some (.int .i64 0)
  e0 : ((V.setCell ⟨g1, 0, none⟩ x).setCell ⟨g1, 1, none⟩ y).frozen? ⟨g2, 0, none⟩ = false
  e1 : ((V.setCell ⟨g1, 0, none⟩ x).setCell ⟨g1, 1, none⟩ y).frozen? ⟨g2, 1, none⟩ = false
theorem facts_of {w V : World} {L : List (Nat × Obj)} {g1 g2 : Nat} (h : RInv noS w L [] V) (h1 : (g1, nilO) ∈ L) (h2 : (g2, nilO) ∈ L) (hne : g2 ≠ g1) (x y : Value) : Facts V g1 g2 x y := by
  have hk : ((V.setCell ⟨g1, 0, none⟩ x).setCell ⟨g1, 1, none⟩ y).heap[g2]? = some nilO := (heap_setCell_other _ _ _ _ hne).trans ((heap_setCell_other _ _ _ _ hne).trans (h.at h2))
  exact ⟨(box_cells h h1).1, (box_cells h h1).2, h.free h1, h.free h1, by rw [cell_of_row _ _ _ _ _ _ hk]; rfl, by rw [cell_of_row _ _ _ _ _ _ hk]; rfl, frozen_of_row _ _ _ _ _ hk, frozen_of_row _ _ _ _ _ hk⟩
theorem facts2 {w V : World} {L : List (Nat × Obj)} {g1 g2 : Nat} (h : DInv w ((g2, nilO) :: (g1, nilO) :: L) V) (x y : Value) : Facts V g1 g2 x y ∧ Facts V g2 g1 x y := by
  have hne : g2 ≠ g1 := by
    have := h.nodup
    simp only [List.map_cons, List.nodup_cons, List.mem_cons, not_or] at this
    exact this.1.1
  exact ⟨facts_of h.inv (by simp) (by simp) hne x y, facts_of h.inv (by simp) (by simp) (Ne.symm hne) x y⟩

theorem NodesAt.olay {n : Nat} {W : World} {p : Option Addr} {ns : List Nd} (h : NodesAt W (Own n W) p ns) (o : Obj) : NodesAt (W.alloc o) (Own n (W.alloc o)) p ns := h.own ((Below.refl _ _).alloc (Nat.le_refl _) o) (Nat.le_refl _)
/-- The two new boxes hold their trees. -/
structure FinR (w wx : World) (g7 g8 : Nat) (p7 : Option Addr) (ns : List Nd) (c7 : Nat) (root : Int) (p8 : Option Addr) (us : List Nd) (c8 : Nat) (ru : Int) (Z : List (Nat × Obj)) : Prop where
  inv : RInv noS w ((g8, arO p8 us.length c8 ru) :: (g7, arO p7 ns.length c7 root) :: Z) [] wx
  n7 : NodesAt wx (Own w.heap.size wx) p7 ns
  n8 : NodesAt wx (Own w.heap.size wx) p8 us
theorem own_set {n g j : Nat} {V : World} {p : Option Addr} {ns : List Nd} {v : Value} {cur : Array Value} (h : NodesAt V (Own n V) p ns) (hg : V.heap[g]? = some (.cells cur 24 (0, 0))) : NodesAt (V.setCell ⟨g, j, none⟩ v) (Own n (V.setCell ⟨g, j, none⟩ v)) p ns :=
  h.other (grown_setCell V g j v) fun g' cur' t e hh => by
    injection e with e
    subst e
    rw [hg] at hh
    injection hh with hh
    injection hh with _ hh
    subst hh
    exact ⟨by decide, by decide⟩
theorem put_head {w V : World} {L : List (Nat × Obj)} {g n c : Nat} {p : Option Addr} {r : Int} (h : RInv noS w ((g, nilO) :: L) [] V) (hw : w.heap.size ≤ g) (hn : ∀ x ∈ L, x.1 ≠ g) : RInv noS w ((g, arO p n c r) :: L) [] ((V.setCell ⟨g, 0, none⟩ (.slice p n c)).setCell ⟨g, 1, none⟩ (.int .i64 r)) := by
  have h1 := h.setCell (i := 0) (.slice p n c) (.inl hw) hn
  exact h1.setCell (i := 1) (.int .i64 r) (.inl hw) hn
theorem own_put {n g k c : Nat} {V : World} {p q : Option Addr} {r : Int} {ns : List Nd} (h : NodesAt V (Own n V) p ns) (hg : V.heap[g]? = some nilO) : NodesAt ((V.setCell ⟨g, 0, none⟩ (.slice q k c)).setCell ⟨g, 1, none⟩ (.int .i64 r)) (Own n ((V.setCell ⟨g, 0, none⟩ (.slice q k c)).setCell ⟨g, 1, none⟩ (.int .i64 r))) p ns :=
  own_set (own_set h hg) (heap_setCell_same _ _ _ _ _ _ hg)
section
variable {w V : World} {g7 g8 gA gB c7 c8 : Nat} {p7 p8 : Option Addr} {ns us : List Nd} {root ru : Int} {Z : List (Nat × Obj)}
theorem d_ne (h : DInv w ((gB, nilO) :: (gA, nilO) :: Z) V) : (gB ≠ gA ∧ ∀ x ∈ Z, x.1 ≠ gB) ∧ ∀ x ∈ Z, x.1 ≠ gA := by
  have h1 := h.nodup
  rw [List.map_cons, List.map_cons, List.nodup_cons, List.nodup_cons] at h1
  obtain ⟨h2, h3, _⟩ := h1
  refine ⟨⟨fun e => h2 (by rw [e]; exact List.mem_cons_self), fun x hx e => h2 (List.mem_cons_of_mem _ (List.mem_map.2 ⟨x, hx, e⟩))⟩, fun x hx e => h3 (List.mem_map.2 ⟨x, hx, e⟩)⟩
theorem fin_ab {x : Obj} (h : RInv noS w ((g7, nilO) :: (g8, nilO) :: Z) [] V) (h7 : w.heap.size ≤ g7) (h8 : w.heap.size ≤ g8) (hne : g8 ≠ g7) (z7 : ∀ x ∈ Z, x.1 ≠ g7) (z8 : ∀ x ∈ Z, x.1 ≠ g8) (n7 : NodesAt V (Own w.heap.size V) p7 ns) (n8 : NodesAt V (Own w.heap.size V) p8 us) :
    FinR w ((((V.setCell ⟨g7, 0, none⟩ (.slice p7 ns.length c7)).setCell ⟨g7, 1, none⟩ (.int .i64 root)).setCell ⟨g8, 0, none⟩ (.slice p8 us.length c8)).setCell ⟨g8, 1, none⟩ (.int .i64 ru)) g7 g8 p7 ns c7 root p8 us c8 ru Z := by
  have k1 := put_head (p := p7) (n := ns.length) (c := c7) (r := root) h h7 (by
    intro x hx
    rcases List.mem_cons.1 hx with rfl | hx
    · exact hne
    · exact z7 x hx)
  have k2 : RInv noS w ((g8, nilO) :: (g7, arO p7 ns.length c7 root) :: Z) [] _ := k1.subL (by
    intro x hx
    simp only [List.mem_cons] at hx ⊢
    rcases hx with hx | hx | hx
    · exact .inr (.inl hx)
    · exact .inl hx
    · exact .inr (.inr hx))
  have k3 := put_head (p := p8) (n := us.length) (c := c8) (r := ru) k2 h8 (by
    intro x hx
    rcases List.mem_cons.1 hx with rfl | hx
    · exact Ne.symm hne
    · exact z8 x hx)
  exact ⟨k3, own_put (own_put n7 (h.at List.mem_cons_self)) (k2.at List.mem_cons_self), own_put (own_put n8 (h.at List.mem_cons_self)) (k2.at List.mem_cons_self)⟩
theorem swap2 {a b : Nat × Obj} (h : RInv noS w (a :: b :: Z) [] V) : RInv noS w (b :: a :: Z) [] V := h.subL (by
  intro x hx
  simp only [List.mem_cons] at hx ⊢
  rcases hx with hx | hx | hx
  · exact .inr (.inl hx)
  · exact .inl hx
  · exact .inr (.inr hx))
theorem finA (h : DInv w ((gB, nilO) :: (gA, nilO) :: Z) V) (n7 : NodesAt V (Own w.heap.size V) p7 ns) (n8 : NodesAt V (Own w.heap.size V) p8 us) :
    FinR w ((((V.setCell ⟨gA, 0, none⟩ (.slice p7 ns.length c7)).setCell ⟨gA, 1, none⟩ (.int .i64 root)).setCell ⟨gB, 0, none⟩ (.slice p8 us.length c8)).setCell ⟨gB, 1, none⟩ (.int .i64 ru)) gA gB p7 ns c7 root p8 us c8 ru Z := by
  obtain ⟨⟨h1, h2⟩, h3⟩ := d_ne h
  exact fin_ab (x := nilO) (swap2 h.inv) (h.low (gA, nilO) (by simp)) (h.low (gB, nilO) (by simp)) h1 h3 h2 n7 n8
theorem finB (h : DInv w ((gB, nilO) :: (gA, nilO) :: Z) V) (n7 : NodesAt V (Own w.heap.size V) p7 ns) (n8 : NodesAt V (Own w.heap.size V) p8 us) :
    FinR w ((((V.setCell ⟨gB, 0, none⟩ (.slice p7 ns.length c7)).setCell ⟨gB, 1, none⟩ (.int .i64 root)).setCell ⟨gA, 0, none⟩ (.slice p8 us.length c8)).setCell ⟨gA, 1, none⟩ (.int .i64 ru)) gB gA p7 ns c7 root p8 us c8 ru Z := by
  obtain ⟨⟨h1, h2⟩, h3⟩ := d_ne h
  exact fin_ab (x := nilO) h.inv (h.low (gB, nilO) (by simp)) (h.low (gA, nilO) (by simp)) (Ne.symm h1) h2 h3 n7 n8
theorem fin5 (h : DInv w ((gA, nilO) :: Z) V) (n7 : NodesAt V (Own w.heap.size V) p7 ns) (n8 : NodesAt V (Own w.heap.size V) p8 us) :
    FinR w (((V.alloc (arO p7 ns.length c7 root)).setCell ⟨gA, 0, none⟩ (.slice p8 us.length c8)).setCell ⟨gA, 1, none⟩ (.int .i64 ru)) V.heap.size gA p7 ns c7 root p8 us c8 ru Z := by
  have h1 := h.nodup
  rw [List.map_cons, List.nodup_cons] at h1
  have hlt := lt_of_heap (h.inv.at List.mem_cons_self)
  have k := swap2 (h.inv.alloc (arO p7 ns.length c7 root))
  have k3 := put_head (p := p8) (n := us.length) (c := c8) (r := ru) k (h.low (gA, nilO) List.mem_cons_self) (by
    intro x hx
    rcases List.mem_cons.1 hx with rfl | hx
    · simp only [ne_eq]; omega
    · exact fun e => h1.1 (List.mem_map.2 ⟨x, hx, e⟩))
  exact ⟨k3, own_put (n7.olay _) (k.at List.mem_cons_self), own_put (n8.olay _) (k.at List.mem_cons_self)⟩
theorem fin1 (h : DInv w Z V) (n7 : NodesAt V (Own w.heap.size V) p7 ns) (n8 : NodesAt V (Own w.heap.size V) p8 us) :
    FinR w ((V.alloc (arO p7 ns.length c7 root)).alloc (arO p8 us.length c8 ru)) V.heap.size (V.heap.size + 1) p7 ns c7 root p8 us c8 ru Z := by
  have k := (h.inv.alloc (arO p7 ns.length c7 root)).alloc (arO p8 us.length c8 ru)
  rw [World.size_alloc] at k
  exact ⟨k, (n7.olay _).olay _, (n8.olay _).olay _⟩
theorem fin2 (h : DInv w Z V) (n7 : NodesAt V (Own w.heap.size V) p7 ns) (n8 : NodesAt V (Own w.heap.size V) p8 us) :
    FinR w ((V.alloc (arO p8 us.length c8 ru)).alloc (arO p7 ns.length c7 root)) (V.heap.size + 1) V.heap.size p7 ns c7 root p8 us c8 ru Z := by
  have k := (h.inv.alloc (arO p8 us.length c8 ru)).alloc (arO p7 ns.length c7 root)
  rw [World.size_alloc] at k
  exact ⟨swap2 k, (n7.olay _).olay _, (n8.olay _).olay _⟩
end

/-! ### The contracts at a named length -/
section
variable {ns us : List Nd} {root ru : Int} {pl : List Int} {A B : Option Xp} {T : Ar} {b : Bool} {n : Nat}
theorem getsQ_of {m : Nat} {w' : World} {e : Ending} {A : Option Xp} (h : GetsA m w' e A) (hT : arOf A = T) (hb : A.isSome = b) : GetsQ m w' e T b := by
  subst hT hb
  obtain ⟨p, cap, rfl, hp⟩ := h
  exact ⟨p, cap, rfl, hp⟩
theorem at1Q (h : Twin ns root us ru pl A B) (hT : arOf A = T) (hb : A.isSome = b) (hn : pl.length = n) (w : World) (F G : Nat → TypeId → Prop) (p : Option Addr) (cap : Nat) (q : Option Addr) (c : Nat) (hN : NodesAt w F p ns) (hQ : IntsAt w G q pl) (ht : Tabs w) :
    Calls Tryd.prog 9 #[arV p ns.length cap root, .slice q n c] w fun e w' => GetsQ w.heap.size w' e T b ∧ Below w.heap.size w w' := by
  subst hn
  exact (h.at1 w F G p cap q c hN hQ ht).mono fun e w' k => ⟨getsQ_of k.1 hT hb, k.2⟩
theorem at2Q (h : Twin ns root us ru pl A B) (hT : arOf A = T) (hb : A.isSome = b) (hn : pl.length = n) (w : World) (F G : Nat → TypeId → Prop) (p : Option Addr) (cap : Nat) (q : Option Addr) (c : Nat) (hN : NodesAt w F p ns) (hQ : IntsAt w G q pl) :
    Calls Tryd.prog 10 #[arV p ns.length cap root, .slice q n c] w fun e w' => GetsQ w.heap.size w' e T b ∧ Below w.heap.size w w' := by
  subst hn
  exact (h.at2 w F G p cap q c hN hQ).mono fun e w' k => ⟨getsQ_of k.1 hT hb, k.2⟩
theorem put1Q (h : Twin ns root us ru pl A B) (hT : arOf B = T) (hb : B.isSome = b) (hn : pl.length = n) (w : World) (F G K : Nat → TypeId → Prop) (p : Option Addr) (cap : Nat) (q : Option Addr) (c : Nat) (pu : Option Addr) (cu : Nat) (hN : NodesAt w F p ns) (hQ : IntsAt w G q pl) (hU : NodesAt w K pu us) (ht : Tabs w) :
    Calls Tryd.prog 11 #[arV p ns.length cap root, .slice q n c, arV pu us.length cu ru] w fun e w' => GetsQ w.heap.size w' e T b ∧ Below w.heap.size w w' := by
  subst hn
  exact (h.put1 w F G K p cap q c pu cu hN hQ hU ht).mono fun e w' k => ⟨getsQ_of k.1 hT hb, k.2⟩
theorem put2Q (h : Twin ns root us ru pl A B) (hT : arOf B = T) (hb : B.isSome = b) (hn : pl.length = n) {c : Nat} (hc : n ≤ c) (w : World) (F G K : Nat → TypeId → Prop) (p : Option Addr) (cap : Nat) (q : Option Addr) (pu : Option Addr) (cu : Nat) (hN : NodesAt w F p ns) (hQ : IntsAt w G q pl) (hU : NodesAt w K pu us) :
    Calls Tryd.prog 12 #[arV p ns.length cap root, .slice q n c, arV pu us.length cu ru] w fun e w' => GetsQ w.heap.size w' e T b ∧ Below w.heap.size w w' := by
  subst hn
  exact (h.put2 w F G K p cap q c pu cu hN hQ hU hc).mono fun e w' k => ⟨getsQ_of k.1 hT hb, k.2⟩
end
/-! ### The rounds -/
/-- What holds at each round's head. -/
structure Stage (w wx : World) (g7 g8 : Nat) (p7 : Option Addr) (ns : List Nd) (c7 : Nat) (root : Int) (p8 : Option Addr) (us : List Nd) (c8 : Nat) (ru : Int) (q1 : Option Addr) (pl : List Int) (Z : List (Nat × Obj)) : Prop where
  inv : RInv noS w ((g8, arO p8 us.length c8 ru) :: (g7, arO p7 ns.length c7 root) :: Z) [] wx
  n7 : NodesAt wx (fun _ _ => True) p7 ns
  n8 : NodesAt wx (fun _ _ => True) p8 us
  q1 : IntsAt wx (fun _ _ => True) q1 pl
section
variable {w wo W W1 W2 W3 W6 W7 W8 : World} {g7 g8 c7 c8 c1 : Nat} {p7 p8 q1 : Option Addr} {ns us : List Nd} {root ru : Int} {pl : List Int} {Z : List (Nat × Obj)} {o1 o2 o3 : Obj}
theorem Stage.next (h : Stage w wo g7 g8 p7 ns c7 root p8 us c8 ru q1 pl Z) {L : List (Nat × Obj)} {R : List OwnR} (k : RInv noS wo L R W) : Stage w W g7 g8 p7 ns c7 root p8 us c8 ru q1 pl Z :=
  ⟨h.inv.call k.below, h.n7.below k.below, h.n8.below k.below, h.q1.below k.below⟩
theorem stage0 {n : Nat} (h : FinR w wo g7 g8 p7 ns c7 root p8 us c8 ru Z) {x : OwnR} {L : List (Nat × Obj)} {xs : List Value} (hI : RInv noS w L [⟨3, 1, .slice q1 n c1, n, intC pl⟩] W) (hg : (wo.alloc (.cells #[] 3)).grownBy W (Value.slice (some ⟨wo.heap.size, 0, none⟩) 0 0).ownBlock) (hb : (Value.slice q1 n c1).ownBlock = (Value.slice (some ⟨wo.heap.size, 0, none⟩) 0 0).ownBlock ∨ ∀ g, (Value.slice q1 n c1).ownBlock = some g → (wo.alloc (.cells #[] 3)).heap.size ≤ g) (hn : pl.length = n) : Stage w W g7 g8 p7 ns c7 root p8 us c8 ru q1 pl Z := by
  subst hn
  have hW : Below wo.heap.size wo W := ((Below.refl _ _).alloc (Nat.le_refl _) (.cells #[] 3)).grown hg (by simp) (fun k hk => by injection hk with hk; simp only at hk; omega)
  exact ⟨h.inv.call hW, (h.n7.below hW).mono fun _ _ _ => trivial, (h.n8.below hW).mono fun _ _ _ => trivial, (row_ints (s := 0) hI.own1 (fun g hg => Nat.zero_le _)).mono fun _ _ _ => trivial⟩
/-- The boxes lie below the round's first world. -/
structure BoxLt (wo : World) (L : List (Nat × Obj)) : Prop where
  lt : ∀ x ∈ L, x.1 < wo.heap.size
theorem stage_lt (h : Stage w wo g7 g8 p7 ns c7 root p8 us c8 ru q1 pl Z) : BoxLt wo ((g8, arO p8 us.length c8 ru) :: (g7, arO p7 ns.length c7 root) :: Z) := ⟨fun x hx => lt_of_heap (h.inv.blk x hx)⟩
theorem RInv.off' {T : Nat → Prop} {L : List (Nat × Obj)} (h : RInv noS wo L [] W) (k : Off T W W1) (hT : ∀ g, T g → wo.heap.size ≤ g ∧ ∀ x ∈ L, x.1 ≠ g) : RInv noS wo L [] W1 :=
  ⟨h.off.trans k fun g hg ht => absurd (hT g ht).1 (by omega), fun x hx => (k.block _ (lt_of_heap (h.blk x hx)) fun ht => (hT _ ht).2 x hx rfl).trans (h.blk x hx), fun r hr => by simp at hr, fun r hr => by simp at hr, fun r hr => by simp at hr, List.Pairwise.nil⟩
theorem spoil_in1 {p : Option Addr} {nt : List Nd} {L : List (Nat × Obj)} {R : List OwnR} {n : Nat} (h : NodesAt W1 (Own n W1) p nt) (k : RInv noS W1 L R W) : NodesAt W (fun b t => (n ≤ b ∧ b < W1.heap.size) ∧ Own n W b t) p nt :=
  h.turn fun b t ho hlt => ⟨k.below.block b hlt, ⟨ho.1, hlt⟩, ho.below k.below hlt⟩
theorem spoil_in2 {p : Option Addr} {nt : List Nd} {L : List (Nat × Obj)} {R : List OwnR} (hb1 : Below wo.heap.size wo W1) (hb2 : Below (W1.alloc o1).heap.size (W1.alloc o1) W2) (h : NodesAt W3 (Own (W2.alloc o2).heap.size W3) p nt) (k : RInv noS W3 L R W) (ho : Off (fun b => wo.heap.size ≤ b ∧ b < W1.heap.size) W W7) :
    NodesAt W7 (fun b t => ((W2.alloc o2).heap.size ≤ b ∧ b < W3.heap.size) ∧ Own (W2.alloc o2).heap.size W7 b t) p nt := by
  have s2 := hb2.size
  simp only [World.size_alloc] at s2
  refine h.turn fun b t how hlt => ?_
  have h1 : (W2.alloc o2).heap.size ≤ b := how.1
  simp only [World.size_alloc] at h1
  have hk := k.below.block b hlt
  have hlt2 : b < W.heap.size := Nat.lt_of_lt_of_le hlt k.size
  have hk7 := ho.block b hlt2 (fun hs => by have := hs.2; omega)
  obtain ⟨h0, cur, hc⟩ := how
  exact ⟨hk7.trans hk, ⟨h0, hlt⟩, h0, cur, hk7.trans (hk.trans hc)⟩
theorem round_off1 {L : List (Nat × Obj)} {e : Obj} {f d c : Nat × Obj} (hD : BoxLt wo L) (h : RInv noS wo (f :: (W3.heap.size, e) :: d :: c :: L) [] W) (hb1 : Below wo.heap.size wo W1) (hb2 : Below (W1.alloc o1).heap.size (W1.alloc o1) W2) (hb3 : Below (W2.alloc o2).heap.size (W2.alloc o2) W3) (ho : Off (fun b => wo.heap.size ≤ b ∧ b < W1.heap.size) W W7) : RInv noS wo ((W3.heap.size, e) :: L) [] W7 := by
  have s2 := hb2.size
  have s3 := hb3.size
  simp only [World.size_alloc] at s2 s3
  refine RInv.off' (h.subL (L' := (W3.heap.size, e) :: L) (by
    intro x hx
    simp only [List.mem_cons] at hx ⊢
    rcases hx with hx | hx
    · exact .inr (.inl hx)
    · exact .inr (.inr (.inr (.inr hx))))) ho fun g hg => ⟨hg.1, fun x hx e => ?_⟩
  rcases List.mem_cons.1 hx with rfl | hx
  · simp only at e; omega
  · have := hD.lt x hx; omega
theorem round_off2 {L : List (Nat × Obj)} {e : Obj} (hD : BoxLt wo L) (h : RInv noS wo ((W3.heap.size, e) :: L) [] W7) (hb1 : Below wo.heap.size wo W1) (hb2 : Below (W1.alloc o1).heap.size (W1.alloc o1) W2) (ho : Off (fun b => (W2.alloc o2).heap.size ≤ b ∧ b < W3.heap.size) W7 W8) : RInv noS wo L [] W8 := by
  have s1 := hb1.size
  have s2 := hb2.size
  simp only [World.size_alloc] at s2
  refine RInv.off' (h.subL (L' := L) (fun x hx => List.mem_cons_of_mem _ hx)) ho fun g hg => ?_
  obtain ⟨h1, _⟩ := hg
  simp only [World.size_alloc] at h1
  exact ⟨by omega, fun x hx e => by have := hD.lt x hx; omega⟩
end

set_option maxHeartbeats 16000000 in
theorem tells_any (ns : List Nd) (root : Int) (us : List Nd) (ru : Int) (pl : List Int) (p : Option Addr) (cap : Nat) (pu : Option Addr) (cu : Nat) (q : Option Addr) (c : Nat) (hpc : pl.length ≤ c) (w : World) (F G K : Nat → TypeId → Prop) (hN : NodesAt w F p ns) (hU : NodesAt w G pu us) (hQ : IntsAt w K q pl) (hTb : Tabs w) :
    Calls Tryd.prog 3 #[arV p ns.length cap root, arV pu us.length cu ru, .slice q pl.length c] w fun e w' => e = .returned (.bool true) ∧ Below w.heap.size w w' := by
  obtain ⟨n, hn⟩ : ∃ n, pl.length = n := ⟨_, rfl⟩
  rw [hn] at hpc ⊢
  have Hn := Lib.hid hn
  have HN := Lib.hid hN
  have HU := Lib.hid hU
  have HQ := Lib.hid hQ
  have HT := Lib.hid hTb
  have hI := ((RInv.start noS w).alloc (arO p ns.length cap root)).alloc (arO pu us.length cu ru)
  rw [World.size_alloc] at hI
  have HL : Hid (∀ W g, W.heap.size = g → Below w.heap.size w W → Calls Tryd.prog 6 #[.agg #[.slice none 0 0], .slice (some ⟨g, 0, none⟩) 2 2, .slice (some ⟨g + 1, 0, none⟩) 1 1] ((W.alloc (two2 p cap ⟨ns, root⟩ pu cu ⟨us, ru⟩)).alloc (.cells #[.slice q n c] 25)) fun e w' => (∃ b, e = .returned (.bool b) ∧ (b = false → FewT [⟨ns, root⟩, ⟨us, ru⟩] ∧ FewP [pl])) ∧ Below ((W.alloc (two2 p cap ⟨ns, root⟩ pu cu ⟨us, ru⟩)).alloc (.cells #[.slice q n c] 25)).heap.size ((W.alloc (two2 p cap ⟨ns, root⟩ pu cu ⟨us, ru⟩)).alloc (.cells #[.slice q n c] 25)) w') := Lib.hid fun W g hg hb => by
    subst hg
    have h1 := trees2 (c1 := cap) (c2 := cu) (T1 := ⟨ns, root⟩) (T2 := ⟨us, ru⟩) (hN.below hb) (hU.below hb)
    have h2 := h1.below ((Below.refl _ _).alloc (Nat.le_refl _) (.cells #[.slice q n c] 25))
    have h3 := lens1 (q := q) (c := c) pl hn (W.alloc (two2 p cap ⟨ns, root⟩ pu cu ⟨us, ru⟩))
    rw [World.size_alloc] at h3
    exact long_none [⟨ns, root⟩, ⟨us, ru⟩] (by simp) [pl] (by simp) _ 2 _ 1 _ _ h2 h3
  clear hN hU hQ hTb hn
  have hb0 := hI.below
  go_enter Tryd.func3, Tryd.ntmps3
  go_wp2_with (first
    | (go_at_call 6; refine (HL.out _ (w.heap.size + 1 + 1) (by simp) hb0).mono ?_; rintro e W1 ⟨⟨b, rfl, hfew⟩, hb1⟩; have hI1 := (((hI.alloc (two2 p cap ⟨ns, root⟩ pu cu ⟨us, ru⟩)).alloc (.cells #[.slice q n c] 25)).call hb1).subL (L' := [(w.heap.size + 1, arO pu us.length cu ru), (w.heap.size, arO p ns.length cap root)]) (fun x hx => List.mem_cons_of_mem _ (List.mem_cons_of_mem _ hx)); have HF := Lib.hid hfew; clear hfew))
  · go_wp2_with (first | (go_at_call 7; refine (works_any _ (HT.out.keep hI1.below)).mono ?_; rintro e W2 ⟨rfl, hb2⟩; have hI2 := hI1.call hb2))
    exact bodyPost_ret (v := .bool true) (by simp [results, Tryd.results3, go_sem]) rfl ⟨rfl, hI2.below⟩
  · obtain rfl : b = false := by first | assumption | exact Bool.eq_false_of_not_eq_true (by assumption)
    obtain ⟨hfT, hfP⟩ := HF.out rfl
    have hs1 := hfT ⟨ns, root⟩ (by simp)
    have hs2 := hfT ⟨us, ru⟩ (by simp)
    have hs3 := hfP pl (by simp)
    have HS1 := Lib.hid (few_small hs1.1 hs1.2)
    have HS2 := Lib.hid (few_small hs2.1 hs2.2)
    obtain ⟨A, B, hTw⟩ := twin_any ns root us ru pl HS1.out HS2.out (by omega) (by simp only at hs1 hs2; omega)
    have HTw := Lib.hid hTw
    have hpl3 : n < 1500 := by have := Hn.out; omega
    clear hfT hfP hs1 hs2 hs3 hTw HF
    have CO1 : Hid (∀ W, Below w.heap.size w W → Calls Tryd.prog 8 #[arV p ns.length cap root] W fun e w' => (∃ p7 c7, e = .returned (arV p7 ns.length c7 root) ∧ NodesAt w' (Own w.heap.size w') p7 ns) ∧ Below W.heap.size W w') := Lib.hid fun W hb => (own_any ns root HS1.out p cap W F (HN.out.below hb)).mono fun e w' ⟨⟨v, h1, p7, c7, h2, h3⟩, h4⟩ => ⟨⟨p7, c7, by rw [h1, h2], h3.mono fun _ _ ho => ho.mono hb.size⟩, h4⟩
    have CO2 : Hid (∀ W, Below w.heap.size w W → Calls Tryd.prog 8 #[arV pu us.length cu ru] W fun e w' => (∃ p7 c7, e = .returned (arV p7 us.length c7 ru) ∧ NodesAt w' (Own w.heap.size w') p7 us) ∧ Below W.heap.size W w') := Lib.hid fun W hb => (own_any us ru HS2.out pu cu W G (HU.out.below hb)).mono fun e w' ⟨⟨v, h1, p7, c7, h2, h3⟩, h4⟩ => ⟨⟨p7, c7, by rw [h1, h2], h3.mono fun _ _ ho => ho.mono hb.size⟩, h4⟩
    obtain ⟨a0, a1⟩ := box_cells hI1 (List.mem_cons_of_mem _ List.mem_cons_self)
    obtain ⟨b0, b1⟩ := box_cells hI1 List.mem_cons_self
    clear HL hb0 hb1 hI
    go_cut [7, 8] from 28 to 31 (fun a b wx => ∃ g7 g8 p7 c7 p8 c8, a = .pointer (some ⟨g7, 0, none⟩) ∧ b = .pointer (some ⟨g8, 0, none⟩) ∧ Hid (FinR w wx g7 g8 p7 ns c7 root p8 us c8 ru [(w.heap.size + 1, arO pu us.length cu ru), (w.heap.size, arO p ns.length cap root)]))
    case first =>
      have hI1 : DInv w [(w.heap.size + 1, arO pu us.length cu ru), (w.heap.size, arO p ns.length cap root)] W1.drew := ⟨hI1.drew, by simp, by simp⟩
      go_region_held_law (fun w' => w'.cell? ⟨w.heap.size, 0, none⟩ = some (.slice p ns.length cap) ∧ w'.cell? ⟨w.heap.size, 1, none⟩ = some (.int .i64 root) ∧ w'.cell? ⟨w.heap.size + 1, 0, none⟩ = some (.slice pu us.length cu) ∧ w'.cell? ⟨w.heap.size + 1, 1, none⟩ = some (.int .i64 ru))
        (first | exact cells4 hI1.inv (by simp) (by simp) | exact cells4 (hI1.alloc _).inv (by simp) (by simp) | exact cells4 ((hI1.alloc _).alloc _).inv (by simp) (by simp) | (have c4 := cells4 hI1.inv (g1 := w.heap.size) (g2 := w.heap.size + 1) (p1 := p) (p2 := pu) (n1 := ns.length) (n2 := us.length) (cap1 := cap) (cap2 := cu) (r1 := root) (r2 := ru) (by simp) (by simp); have hl4 : w.heap.size + 1 < _ := block_lt_of_cell c4.2.2.2; have hnd := hI1.nodup; simp only [World.size_alloc, World.drew, List.map_cons, List.map_nil, List.nodup_cons, List.mem_cons, List.not_mem_nil, or_false, not_or, List.nodup_nil, and_true, not_false_eq_true] at hnd; refine ⟨?_, ?_, ?_, ?_⟩ <;> (repeat (first | with_reducible exact c4.1 | with_reducible exact c4.2.1 | with_reducible exact c4.2.2.1 | with_reducible exact c4.2.2.2 | with_reducible refine two_set ?_ (by omega) | with_reducible refine cell_alloc1 ?_)); done))
        (first
          | (go_at_call 8; have _k := hb2; (first | refine (CO2.out _ hI1.inv.below).mono ?_ | refine (CO2.out _ (hI1.alloc nilO).inv.below).mono ?_ | refine (CO2.out _ ((hI1.alloc nilO).alloc nilO).inv.below).mono ?_); rintro e W3 ⟨⟨p8, c8, rfl, h8⟩, hb3⟩; (first | replace hI1 := hI1.call hb3 | replace hI1 := (hI1.alloc nilO).call hb3 | replace hI1 := ((hI1.alloc nilO).alloc nilO).call hb3); (first | replace h7 := h7.own hb3 (Nat.le_refl _) | replace h7 := (h7.olay nilO).own hb3 (Nat.le_refl _) | replace h7 := ((h7.olay nilO).olay nilO).own hb3 (Nat.le_refl _)); (first | have hFF := facts2 hI1 (.slice p7 ns.length c7) (.int .i64 root) | have hFF := facts2 (hI1.alloc nilO) (.slice p7 ns.length c7) (.int .i64 root) | have hFF := facts2 ((hI1.alloc nilO).alloc nilO) (.slice p7 ns.length c7) (.int .i64 root)); obtain ⟨⟨q0, q1, q2, q3, q4, q5, q6, q7⟩, ⟨o0, o1, o2, o3, o4, o5, o6, o7⟩⟩ := hFF; obtain ⟨z0, z1⟩ := box_cells (hI1.alloc (arO p7 ns.length c7 root)).inv (List.mem_cons_of_mem _ List.mem_cons_self); have z2 := (hI1.alloc (arO p7 ns.length c7 root)).inv.free (j := 0) (List.mem_cons_of_mem _ List.mem_cons_self); have z3 := (hI1.alloc (arO p7 ns.length c7 root)).inv.free (j := 1) (List.mem_cons_of_mem _ List.mem_cons_self); (try simp only [World.size_alloc, World.drew] at z0 z1 z2 z3); (try simp only [World.size_alloc, World.drew] at q0 q1 q2 q3 q4 q5 q6 q7 o0 o1 o2 o3 o4 o5 o6 o7))
          | (go_at_call 8; (first | refine (CO1.out _ hI1.inv.below).mono ?_ | refine (CO1.out _ (hI1.alloc nilO).inv.below).mono ?_ | refine (CO1.out _ ((hI1.alloc nilO).alloc nilO).inv.below).mono ?_); rintro e W2 ⟨⟨p7, c7, rfl, h7⟩, hb2⟩; (first | replace hI1 := hI1.call hb2 | replace hI1 := (hI1.alloc nilO).call hb2 | replace hI1 := ((hI1.alloc nilO).alloc nilO).call hb2)))
      all_goals
        (try simp only [World.size_alloc, World.drew] at hI1)
        go_wp2
        go_meet
        refine ⟨_, _, p7, c7, p8, c8, rfl, rfl, Lib.hid ?_⟩
        first
          | with_reducible exact fin1 hI1 h7 h8
          | with_reducible exact fin2 hI1 h7 h8
          | with_reducible exact fin5 hI1 h7 h8
          | with_reducible exact finA hI1 h7 h8
          | with_reducible exact finB hI1 h7 h8
          | with_reducible exact finA (hI1.alloc nilO) (h7.olay nilO) (h8.olay nilO)
    case rest =>
      clear hI1 a0 a1 b0 b1 CO1 CO2
      obtain ⟨g7, g8, p7, c7, p8, c8, rfl, rfl, HFin⟩ := hcut
      have hIr := HFin.out.inv.lay 3 1 #[] 0 0 rfl (by omega) (by unfold maxLen; omega)
      have HIr := Lib.hid hIr
      have hQc := HQ.out.below HFin.out.inv.below
      have HQc := Lib.hid (hQc.below ((Below.refl _ _).alloc (Nat.le_refl _) (.cells #[] 3)))
      clear hIr hQc
      obtain ⟨TA, hTA⟩ : ∃ T, arOf A = T := ⟨_, rfl⟩
      obtain ⟨bA, hbA⟩ : ∃ b, A.isSome = b := ⟨_, rfl⟩
      obtain ⟨TB, hTB⟩ : ∃ T, arOf B = T := ⟨_, rfl⟩
      obtain ⟨bB, hbB⟩ : ∃ b, B.isSome = b := ⟨_, rfl⟩
      have CA1 := Lib.hid (at1Q HTw.out hTA hbA Hn.out)
      have CA2 := Lib.hid (at2Q HTw.out hTA hbA Hn.out)
      have CP1 := Lib.hid (put1Q HTw.out hTB hbB Hn.out)
      have CP2 := Lib.hid (put2Q HTw.out hTB hbB Hn.out hpc)
      have SA : Hid (Small TA.nodes) := Lib.hid (hTA ▸ HTw.out.smallA)
      have SB : Hid (Small TB.nodes) := Lib.hid (hTB ▸ HTw.out.smallB)
      clear hTA hbA hTB hbB HTw
      go_wp2_with (first | (at_builtin; refine app_rowB intT rfl (.tmp 32) (.tmp 33) rfl q n c (intC pl) rfl rfl (by simp only [intC, List.length_map, Nat.mul_one]; exact Hn.out) (by intro hne; have hsr := src_ints HQc.out; rw [Hn.out] at hsr; exact hsr hne) (intC_one _) HIr.out (by unfold maxLen; omega) (by omega) ?_; intro v1 W2 hI2 hg2 hb2; rw [Nat.zero_add, show ((#[] : Array Value).toList.take (0 * 1)) ++ intC pl = intC pl from rfl] at hI2; obtain ⟨q1, c1, rfl, _, _⟩ := row_slice hI2.own1))
      have HS0 := Lib.hid (stage0 (x := ⟨3, 1, .slice none 0 0, 0, []⟩) (xs := []) HFin.out hI2 hg2 hb2 Hn.out)
      clear HFin HIr HQc hg2 hb2 hI2
      go_loopw [10] (fun iv wr => ∃ k : Nat, k ≤ 2 ∧ iv = .int .i64 k ∧ Hid (Stage w wr g7 g8 p7 ns c7 root p8 us c8 ru q1 pl [(w.heap.size + 1, arO pu us.length cu ru), (w.heap.size, arO p ns.length cap root)])) (fun iv _ => 2 - (intOf iv).toNat)
      case atStart => exact ⟨0, by omega, rfl, HS0⟩
      case round =>
        clear HS0
        obtain ⟨wo, rfl⟩ : ∃ wo : World, wo = wr := ⟨_, rfl⟩
        obtain ⟨k, hk, rfl, HS⟩ := hrel
        have hN0 := Lib.hid (HN.out.below HS.out.inv.below)
        have hU0 := Lib.hid (HU.out.below HS.out.inv.below)
        have hQ0 := Lib.hid (HQ.out.below HS.out.inv.below)
        have hT0 := Lib.hid (HT.out.keep HS.out.inv.below)
        have h7 := Lib.hid HS.out.n7
        have h8 := Lib.hid HS.out.n8
        have hq := Lib.hid HS.out.q1
        by_cases hlt : k < 2
        · have hI := HS.out.inv.restart noS
          have HD := Lib.hid (stage_lt HS.out)
          obtain ⟨t0, t1⟩ := box_cells hI (List.mem_cons_of_mem _ List.mem_cons_self)
          obtain ⟨s0, s1⟩ := box_cells hI List.mem_cons_self
          go_wp2_with (first
            | (go_at_call 14; refine (spoil_any (fun b => (W2.alloc (arO pd TA.nodes.length cd TA.root)).heap.size ≤ b ∧ b < W3.heap.size) TB.nodes SB.out pe ce TB.root _ (fun b hb => Nat.lt_of_lt_of_le hb.2 (Nat.le_trans hE6.size ho7.size)) (W2.alloc (arO pd TA.nodes.length cd TA.root)).heap.size he7).mono ?_; rintro e W8 ⟨rfl, ho8⟩; have hI8 : RInv noS wo [(g8, arO p8 us.length c8 ru), (g7, arO p7 ns.length c7 root), (w.heap.size + 1, arO pu us.length cu ru), (w.heap.size, arO p ns.length cap root)] [] W8 := round_off2 HD.out hI7 hb1 hb2 ho8)
            | (go_at_call 14; have hE7 := spoil_in1 hx hJ6; refine (spoil_any (fun b => wo.heap.size ≤ b ∧ b < W1.heap.size) TA.nodes SA.out px cx TA.root _ (fun b hb => Nat.lt_of_lt_of_le hb.2 hJ6.size) wo.heap.size hE7).mono ?_; rintro e W7 ⟨rfl, ho7⟩; have hI7 : RInv noS wo [(W3.heap.size, arO pe TB.nodes.length ce TB.root), (g8, arO p8 us.length c8 ru), (g7, arO p7 ns.length c7 root), (w.heap.size + 1, arO pu us.length cu ru), (w.heap.size, arO p ns.length cap root)] [] W7 := round_off1 HD.out hI6 hb1 hb2 hb3 ho7; have he7 := spoil_in2 hb1 hb2 he hE6 ho7; clear t0 t1; obtain ⟨t0, t1⟩ := box_cells hI7 List.mem_cons_self)
            | (go_at_call 13; have _k := hb5; refine (exactO TB SB.out pe ce pf cf _ _ _ (hK5 (pe, TB) (List.mem_cons_of_mem _ List.mem_cons_self)) (hK5 (pf, TB) List.mem_cons_self)).mono ?_; rintro e W6 ⟨rfl, hb6⟩; have hI6 := hI5.call hb6; have hJ6 := hJ5.call hb6; have hE6 := hE5.call hb6; clear t0 t1 s0 s1; obtain ⟨t0, t1⟩ := box_cells hI6 (List.mem_cons_of_mem _ (List.mem_cons_of_mem _ (List.mem_cons_of_mem _ List.mem_cons_self))))
            | (go_at_call 13; refine (exactO TA SA.out px cx pd cd _ _ _ (hK4 (px, TA) (List.mem_cons_of_mem _ (List.mem_cons_of_mem _ (List.mem_cons_of_mem _ List.mem_cons_self)))) (hK4 (pd, TA) (List.mem_cons_of_mem _ (List.mem_cons_of_mem _ List.mem_cons_self)))).mono ?_; rintro e W5 ⟨rfl, hb5⟩; have hI5 := hI4.call hb5; have hK5 := hK4.call hb5; have hJ5 := hJ4.call hb5; have hE5 := hE4.call hb5; clear t0 t1 s0 s1; obtain ⟨t0, t1⟩ := box_cells hI5 (List.mem_cons_of_mem _ List.mem_cons_self); obtain ⟨s0, s1⟩ := box_cells hI5 List.mem_cons_self)
            | (go_at_call 12; refine (CP2.out _ _ _ _ p cap q pu cu (hN0.out.below hI3.below) (hQ0.out.below hI3.below) (hU0.out.below hI3.below)).mono ?_; rintro e W4 ⟨⟨pf, cf, rfl, hf⟩, hb4⟩; have hI4 := (hI3.call hb4).alloc (arO pf TB.nodes.length cf TB.root); have hK4 := (Keeps.cons hf (hK3.call hb4)).lay (arO pf TB.nodes.length cf TB.root); have hJ4 := (hJ3.call hb4).alloc (arO pf TB.nodes.length cf TB.root); have hE4 := (hE3.call hb4).alloc (arO pf TB.nodes.length cf TB.root); clear t0 t1 s0 s1; obtain ⟨t0, t1⟩ := box_cells hI4 (List.mem_cons_of_mem _ (List.mem_cons_of_mem _ (List.mem_cons_of_mem _ List.mem_cons_self))); obtain ⟨s0, s1⟩ := box_cells hI4 (List.mem_cons_of_mem _ (List.mem_cons_of_mem _ List.mem_cons_self)))
            | (go_at_call 11; refine (CP1.out _ _ _ _ p7 c7 q1 c1 p8 c8 (h7.out.below hI2.below) (hq.out.below hI2.below) (h8.out.below hI2.below) (hT0.out.keep hI2.below)).mono ?_; rintro e W3 ⟨⟨pe, ce, rfl, he⟩, hb3⟩; have hI3 := (hI2.call hb3).alloc (arO pe TB.nodes.length ce TB.root); have hK3 := (Keeps.cons he (hK2.call hb3)).lay (arO pe TB.nodes.length ce TB.root); have hJ3 := (hJ2.call hb3).alloc (arO pe TB.nodes.length ce TB.root); have hE3 := (RInv.start noS W3).alloc (arO pe TB.nodes.length ce TB.root); clear t0 t1 s0 s1; obtain ⟨t0, t1⟩ := box_cells hI3 (List.mem_cons_of_mem _ (List.mem_cons_of_mem _ (List.mem_cons_of_mem _ (List.mem_cons_of_mem _ (List.mem_cons_of_mem _ (List.mem_cons_of_mem _ List.mem_cons_self)))))); obtain ⟨s0, s1⟩ := box_cells hI3 (List.mem_cons_of_mem _ (List.mem_cons_of_mem _ (List.mem_cons_of_mem _ (List.mem_cons_of_mem _ (List.mem_cons_of_mem _ List.mem_cons_self))))))
            | (go_at_call 10; refine (CA2.out _ _ _ p cap q c (hN0.out.below hI1.below) (hQ0.out.below hI1.below)).mono ?_; rintro e W2 ⟨⟨pd, cd, rfl, hd⟩, hb2⟩; have hI2 := (hI1.call hb2).alloc (arO pd TA.nodes.length cd TA.root); have hK2 := (Keeps.cons hd (hK1.call hb2)).lay (arO pd TA.nodes.length cd TA.root); have hJ2 := (hJ1.call hb2).alloc (arO pd TA.nodes.length cd TA.root); clear t0 t1 s0 s1; obtain ⟨t0, t1⟩ := box_cells hI2 (List.mem_cons_of_mem _ (List.mem_cons_of_mem _ (List.mem_cons_of_mem _ List.mem_cons_self))); obtain ⟨s0, s1⟩ := box_cells hI2 (List.mem_cons_of_mem _ (List.mem_cons_of_mem _ List.mem_cons_self)))
            | (go_at_call 9; refine (CA1.out _ _ _ p7 c7 q1 c1 h7.out hq.out hT0.out).mono ?_; rintro e W1 ⟨⟨px, cx, rfl, hx⟩, hb1⟩; have hI1 := (hI.call hb1).alloc (arO px TA.nodes.length cx TA.root); have hK1 := (Keeps.cons hx (Keeps.nil _)).lay (arO px TA.nodes.length cx TA.root); have hJ1 := (RInv.start noS W1).alloc (arO px TA.nodes.length cx TA.root); clear t0 t1 s0 s1; obtain ⟨t0, t1⟩ := box_cells hI1 (List.mem_cons_of_mem _ (List.mem_cons_of_mem _ (List.mem_cons_of_mem _ (List.mem_cons_of_mem _ List.mem_cons_self)))); obtain ⟨s0, s1⟩ := box_cells hI1 (List.mem_cons_of_mem _ (List.mem_cons_of_mem _ (List.mem_cons_of_mem _ List.mem_cons_self)))))
          go_roundw
          case rel => exact ⟨k + 1, by omega, by go_num, Lib.hid (HS.out.next hI8)⟩
          case measure => simp [intOf]; omega
        · obtain rfl : k = 2 := by omega
          have HE := HS
          clear hN0 hU0 hQ0 hT0 h7 h8 hq HS
          go_wp2
          go_loopw [19] (fun iv wr => ∃ j : Nat, j ≤ n ∧ iv = .int .i64 j ∧ Hid (Stage w wr g7 g8 p7 ns c7 root p8 us c8 ru q1 pl [(w.heap.size + 1, arO pu us.length cu ru), (w.heap.size, arO p ns.length cap root)])) (fun iv _ => n - (intOf iv).toNat)
          case atStart => exact ⟨0, by omega, rfl, HE⟩
          case round =>
            clear HE
            obtain ⟨wm, rfl⟩ : ∃ wm : World, wm = wr := ⟨_, rfl⟩
            obtain ⟨j, hj, rfl, HS⟩ := hrel
            by_cases hlt : j < n
            · obtain ⟨z, hz⟩ : ∃ z, pl[j]? = some z := ⟨_, List.getElem?_eq_getElem (by rw [Hn.out]; exact hlt)⟩
              have hne : pl ≠ [] := by intro h; rw [h] at hz; simp at hz
              obtain ⟨b1, o1, rfl, _, hc1⟩ := HS.out.q1 hne
              obtain ⟨b2, o2, rfl, _, hc2⟩ := HQ.out hne
              have k1 := hc1 j z hz
              have k2 := (HS.out.inv.below.cell (p := ⟨b2, o2 + j, none⟩) (block_lt_of_cell (hc2 j z hz))).trans (hc2 j z hz)
              clear hc1 hc2 hz hne
              go_wp2
              go_quiet (fail)
              go_wp2
              go_roundw
              case rel => exact ⟨j + 1, by omega, by go_num, Lib.hid (HS.out.next ((RInv.start noS wm).drewN _))⟩
              case measure => simp [intOf]; omega
            · have hI := HS.out.inv
              have h7 := Lib.hid HS.out.n7
              have h8 := Lib.hid HS.out.n8
              obtain ⟨t0, t1⟩ := box_cells hI (List.mem_cons_of_mem _ List.mem_cons_self)
              obtain ⟨s0, s1⟩ := box_cells hI (List.mem_cons_of_mem _ (List.mem_cons_of_mem _ (List.mem_cons_of_mem _ List.mem_cons_self)))
              go_wp2_with (first
                | (go_at_call 7; refine (works_any _ (HT.out.keep hI2.below)).mono ?_; rintro e W3 ⟨rfl, hb3⟩; have hI3 := hI2.call hb3)
                | (go_at_call 13; have _k := hb1; refine (rexact_same us ru HS2.out p8 c8 pu cu _ _ _ (h8.out.below hb1) (HU.out.below hI1.below)).mono ?_; rintro e W2 ⟨rfl, hb2⟩; have hI2 := hI1.call hb2)
                | (go_at_call 13; refine (rexact_same ns root HS1.out p7 c7 p cap _ _ _ h7.out (HN.out.below hI.below)).mono ?_; rintro e W1 ⟨rfl, hb1⟩; have hI1 := hI.call hb1; clear t0 t1 s0 s1; obtain ⟨t0, t1⟩ := box_cells hI1 List.mem_cons_self; obtain ⟨s0, s1⟩ := box_cells hI1 (List.mem_cons_of_mem _ (List.mem_cons_of_mem _ List.mem_cons_self))))
              exact bodyPost_ret (v := .bool true) (by simp [results, Tryd.results3, go_sem]) rfl ⟨rfl, hI3.below⟩
end Go.Proofs.YtcenjpaiehidjaaDoor
