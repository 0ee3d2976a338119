/- Contract of slices.Contains at []bool. -/
import Derived.Test.YtcenjpaiehidjaaDoorJ2
import Derived.Test.YtcenjpaiehidjaaDoorJ3
import Derived.Deep.OwnRows
import Derived.Test.YtcenjpaiehidjaaDoorJ1
import Derived.Maps.AppendAt
import Derived.Laws.OwnMore
import Derived.Deep.MidRow
import Derived.Maps.OwnOps
import Derived.Maps.Views
import Derived.WalkArith
set_option linter.unusedSimpArgs false
set_option linter.unusedVariables false
namespace Go.Proofs.YtcenjpaiehidjaaDoor
open Go.RowKit
set_option maxRecDepth 100000

abbrev boolC (bs : List Bool) : List Value := bs.map Value.bool
theorem bool_cell {w : World} {B : Nat} {bs : List Bool} {t : TypeId} {fr : Nat × Nat} (h : w.heap[B]? = some (.cells (boolC bs).toArray t fr)) (j : Nat) (hj : j < bs.length) : w.cell? ⟨B, j, none⟩ = some (.bool bs[j]) := by
  rw [cell_of_row _ _ _ _ _ _ h]
  simp [hj]

set_option maxHeartbeats 2000000 in
/-- slices.Index at []bool, false sought. -/
theorem indexB_any (B : Nat) (bs : List Bool) (t : TypeId) (fr : Nat × Nat) (cap : Nat) (hl : bs.length ≤ 1000000) (w : World) (h : w.heap[B]? = some (.cells (boolC bs).toArray t fr)) :
    Calls Tryd.prog 57 #[.slice (some ⟨B, 0, none⟩) bs.length cap, .bool false] w fun e w' => (∃ r : Int, e = .returned (.int .i64 r) ∧ (0 ≤ r ↔ false ∈ bs)) ∧ w' = w := by
  have hc := Lib.hid (bool_cell h)
  clear h
  go_enter Tryd.func57, Tryd.ntmps57
  go_wp2
  go_loop [8] (fun i => ∃ k : Nat, k ≤ bs.length ∧ i = .int .i64 k ∧ Hid (∀ j, (hj : j < bs.length) → j < k → bs[j] = true)) (fun i => bs.length - (intOf i).toNat)
  case atStart => exact ⟨0, by omega, rfl, Lib.hid (fun j _ h => absurd h (by omega))⟩
  case round =>
    obtain ⟨k, hk, rfl, hA⟩ := hrel
    by_cases hlt : k < bs.length
    · have hck := hc.out k hlt
      cases hb : bs[k]
      · rw [hb] at hck
        have H := Lib.hid hb
        clear hb
        go_wp2
        go_ret
        exact ⟨⟨_, rfl, by simp; rw [← H.out]; exact List.getElem_mem _⟩, rfl⟩
      · rw [hb] at hck
        have H := Lib.hid hb
        clear hb
        go_wp2
        go_round
        case rel => exact ⟨k + 1, by omega, by go_num, Lib.hid (fun j hj hjk => by
          by_cases hjk2 : j < k
          · exact hA.out j hj hjk2
          · obtain rfl : j = k := by omega
            exact H.out)⟩
        case measure => simp [intOf]; omega
    · go_wp2
      go_ret
      refine ⟨⟨_, rfl, ?_⟩, rfl⟩
      constructor
      · intro h; omega
      · intro h
        obtain ⟨j, hj, e⟩ := List.getElem_of_mem h
        rw [hA.out j hj (by omega)] at e
        cases e
set_option maxHeartbeats 2000000 in
/-- slices.Contains at []bool, false sought. -/
theorem containsB_any (B : Nat) (bs : List Bool) (t : TypeId) (fr : Nat × Nat) (cap : Nat) (hl : bs.length ≤ 1000000) (w : World) (h : w.heap[B]? = some (.cells (boolC bs).toArray t fr)) :
    Calls Tryd.prog 35 #[.slice (some ⟨B, 0, none⟩) bs.length cap, .bool false] w fun e w' => e = .returned (.bool (decide (false ∈ bs))) ∧ w' = w := by
  have hI := Lib.hid (indexB_any B bs t fr cap hl w h)
  clear h
  go_enter Tryd.func35, Tryd.ntmps35
  go_wp2_with (first | (go_at_call 57; refine hI.out.mono ?_; rintro e w1 ⟨⟨r, rfl, hr⟩, rfl⟩; replace hr := Lib.hid hr))
  go_ret
  exact ⟨ret_bool (by rw [Bool.eq_iff_iff]; simpa using hr.out), rfl⟩
end Go.Proofs.YtcenjpaiehidjaaDoor

/- Arenas in memory: where their nodes and their kids' numbers lie. -/
namespace Go.Proofs.YtcenjpaiehidjaaDoor
open Go.RowKit
set_option maxRecDepth 100000

/-- The integers that a slice of ints at p holds; F: in which blocks, by their elements' type. -/
def IntsAt (W : World) (F : Nat → TypeId → Prop) (p : Option Addr) (l : List Int) : Prop :=
  l ≠ [] → ∃ b o, p = some ⟨b, o, none⟩ ∧ F b 3 ∧ ∀ (j : Nat) k, l[j]? = some k → W.cell? ⟨b, o + j, none⟩ = some (.int .i64 k)
/-- The nodes that a slice of nodes at p holds. -/
def NodesAt (W : World) (F : Nat → TypeId → Prop) (p : Option Addr) (ns : List Nd) : Prop :=
  ns ≠ [] → ∃ b o, p = some ⟨b, o, none⟩ ∧ F b 56 ∧ ∀ (j : Nat) nd, ns[j]? = some nd → ∃ q cap, HdOk nd.hd ∧ W.rangeAt b (o + j * 9) (ndC nd.hd q nd.kids.length cap) ∧ IntsAt W F q nd.kids
/-- A block from n on that may be written. -/
def Own (n : Nat) (W : World) (b : Nat) (t : TypeId) : Prop := n ≤ b ∧ ∃ cur, W.heap[b]? = some (.cells cur t (0, 0))
/-- Lists that are no longer than a statement goes over. -/
structure Small (ns : List Nd) : Prop where
  len : ns.length ≤ 100000
  kids : ∀ nd ∈ ns, nd.kids.length ≤ 100000
abbrev arV (p : Option Addr) (n cap : Nat) (root : Int) : Value := .agg #[.slice p n cap, .int .i64 root]
abbrev arO (p : Option Addr) (n cap : Nat) (root : Int) : Obj := .cells #[.slice p n cap, .int .i64 root] 24

theorem rangeAt_keep {W W' : World} {b o : Nat} {cs : List Value} (h : W.rangeAt b o cs) (hb : W'.heap[b]? = W.heap[b]?) : W'.rangeAt b o cs := fun j v hj => by
  rw [World.cell?_of_block (a := ⟨b, o + j, none⟩) hb]; exact h j v hj
theorem IntsAt.turn {W W' : World} {F F' : Nat → TypeId → Prop} {p : Option Addr} {l : List Int} (h : IntsAt W F p l) (hF : ∀ b t, F b t → b < W.heap.size → W'.heap[b]? = W.heap[b]? ∧ F' b t) : IntsAt W' F' p l := fun hl => by
  obtain ⟨b, o, e, hb, hc⟩ := h hl
  have hlt : b < W.heap.size := by
    cases l with
    | nil => exact absurd rfl hl
    | cons x l => exact block_lt_of_cell (hc 0 x rfl)
  refine ⟨b, o, e, (hF b _ hb hlt).2, fun j k hj => ?_⟩
  rw [World.cell?_of_block (a := ⟨b, o + j, none⟩) (hF b _ hb hlt).1]; exact hc j k hj
theorem NodesAt.turn {W W' : World} {F F' : Nat → TypeId → Prop} {p : Option Addr} {ns : List Nd} (h : NodesAt W F p ns) (hF : ∀ b t, F b t → b < W.heap.size → W'.heap[b]? = W.heap[b]? ∧ F' b t) : NodesAt W' F' p ns := fun hl => by
  obtain ⟨b, o, e, hb, hc⟩ := h hl
  have hlt : b < W.heap.size := by
    cases ns with
    | nil => exact absurd rfl hl
    | cons x l =>
      obtain ⟨q, cap, _, h2, _⟩ := hc 0 x rfl
      exact block_lt_of_cell (h2 0 _ rfl)
  refine ⟨b, o, e, (hF b _ hb hlt).2, fun j nd hj => ?_⟩
  obtain ⟨q, cap, h1, h2, h3⟩ := hc j nd hj
  exact ⟨q, cap, h1, rangeAt_keep h2 (hF b _ hb hlt).1, h3.turn hF⟩
theorem IntsAt.keep {W W' : World} {F : Nat → TypeId → Prop} {p : Option Addr} {l : List Int} (h : IntsAt W F p l) (hF : ∀ b t, F b t → b < W.heap.size → W'.heap[b]? = W.heap[b]?) : IntsAt W' F p l := h.turn fun b t hb hlt => ⟨hF b t hb hlt, hb⟩
theorem NodesAt.keep {W W' : World} {F : Nat → TypeId → Prop} {p : Option Addr} {ns : List Nd} (h : NodesAt W F p ns) (hF : ∀ b t, F b t → b < W.heap.size → W'.heap[b]? = W.heap[b]?) : NodesAt W' F p ns := h.turn fun b t hb hlt => ⟨hF b t hb hlt, hb⟩
theorem NodesAt.below {W W' : World} {F : Nat → TypeId → Prop} {p : Option Addr} {ns : List Nd} (h : NodesAt W F p ns) (hb : Below W.heap.size W W') : NodesAt W' F p ns := h.keep fun b _ _ hlt => hb.block b hlt
theorem IntsAt.below {W W' : World} {F : Nat → TypeId → Prop} {p : Option Addr} {l : List Int} (h : IntsAt W F p l) (hb : Below W.heap.size W W') : IntsAt W' F p l := h.keep fun b _ _ hlt => hb.block b hlt
theorem IntsAt.mono {W : World} {F G : Nat → TypeId → Prop} {p : Option Addr} {l : List Int} (h : IntsAt W F p l) (hF : ∀ b t, F b t → G b t) : IntsAt W G p l := h.turn fun b t hb _ => ⟨rfl, hF b t hb⟩
theorem NodesAt.mono {W : World} {F G : Nat → TypeId → Prop} {p : Option Addr} {ns : List Nd} (h : NodesAt W F p ns) (hF : ∀ b t, F b t → G b t) : NodesAt W G p ns := h.turn fun b t hb _ => ⟨rfl, hF b t hb⟩
theorem Own.below {n m : Nat} {W W' : World} {b : Nat} {t : TypeId} (h : Own n W b t) (hb : Below m W W') (hlt : b < m) : Own n W' b t := by
  obtain ⟨h1, cur, h2⟩ := h
  exact ⟨h1, cur, (hb.block b hlt).trans h2⟩
theorem Own.lt {n : Nat} {W : World} {b : Nat} {t : TypeId} (h : Own n W b t) : b < W.heap.size := by obtain ⟨_, cur, h2⟩ := h; exact lt_of_heap h2
theorem Own.mono {n m : Nat} {W : World} {b : Nat} {t : TypeId} (h : Own n W b t) (hm : m ≤ n) : Own m W b t := ⟨Nat.le_trans hm h.1, h.2⟩
/-- What lies in blocks of the call's own stays so where those are kept. -/
theorem NodesAt.own {n m : Nat} {W W' : World} {p : Option Addr} {ns : List Nd} (h : NodesAt W (Own n W) p ns) (hb : Below W.heap.size W W') (hm : m ≤ n) : NodesAt W' (Own m W') p ns :=
  h.turn fun b _ ho hlt => ⟨hb.block b hlt, (ho.below hb hlt).mono hm⟩
theorem IntsAt.own {n m : Nat} {W W' : World} {p : Option Addr} {l : List Int} (h : IntsAt W (Own n W) p l) (hb : Below W.heap.size W W') (hm : m ≤ n) : IntsAt W' (Own m W') p l :=
  h.turn fun b _ ho hlt => ⟨hb.block b hlt, (ho.below hb hlt).mono hm⟩
/-- A row of another type is written: what lies in blocks of the call's own is kept. -/
theorem own_grown {n g : Nat} {W W' : World} {t t' : TypeId} {b : Nat} {cur : Array Value} (hg : W.grownBy W' (some g)) (hh : W.heap[g]? = some (.cells cur t' (0, 0))) (ht : t ≠ t') (ho : Own n W b t) : W'.heap[b]? = W.heap[b]? ∧ Own n W' b t := by
  obtain ⟨h1, c, h2⟩ := ho
  have hne : b ≠ g := fun e => by subst e; rw [h2] at hh; injection hh with hh; injection hh with _ hh; exact ht hh
  have hk := hg.block b (lt_of_heap h2) (fun e => hne (by injection e))
  exact ⟨hk, h1, c, hk.trans h2⟩
/-- A node is read out of an arena. -/
theorem load_node {ops : Array Oper} {rest : List Oper} {o : Oper} {a : Act} {w : World} {Q : Exit → Act → World → Prop} (hgd : Region.wanted o (yielded ops a.tmps) = true) (x : Operand) (ho : o.op = .load 56 x)
    (b off : Nat) (hx : a.eval x = .pointer (some ⟨b, off, none⟩)) (h : Hd) (q : Option Addr) (n cap : Nat) (hc : w.rangeAt b off (ndC h q n cap)) (hk : wpList Tryd.prog ops Q rest (a.put o.dst (ndV h q n cap)) w) : wpList Tryd.prog ops Q (o :: rest) a w := by
  obtain ⟨d, hd, hr⟩ := tyNode
  rw [wpList, if_pos hgd]
  exact .inl (wp_load_mid _ x ho b off hx _ d hc hd hr szNode hk)
/-- A node is read out of a block of its own. -/
theorem load_own {ops : Array Oper} {rest : List Oper} {o : Oper} {a : Act} {w : World} {Q : Exit → Act → World → Prop} (hgd : Region.wanted o (yielded ops a.tmps) = true) (x : Operand) (ho : o.op = .load 56 x)
    (b : Nat) (hx : a.eval x = .pointer (some ⟨b, 0, none⟩)) (h : Hd) (q : Option Addr) (n cap : Nat) (hc : w.heap[b]? = some (ndO h q n cap)) (hk : wpList Tryd.prog ops Q rest (a.put o.dst (ndV h q n cap)) w) : wpList Tryd.prog ops Q (o :: rest) a w :=
  load_node hgd x ho b 0 hx h q n cap (fun j v hj => by rw [Nat.zero_add, cell_of_row _ _ _ _ _ _ hc]; simpa using hj) hk
theorem Inv.setCell {n g i : Nat} {w W : World} {L : List (Nat × Obj)} {cs : Array Value} {t : TypeId} (v : Value) (h : Inv n w ((g, .cells cs t (0, 0)) :: L) W) (hg : n ≤ g) (hn : ∀ p ∈ L, p.1 ≠ g) : Inv n w ((g, .cells (cs.setIfInBounds i v) t (0, 0)) :: L) (W.setCell ⟨g, i, none⟩ v) :=
  h.turn hg hn (heap_setCell_same _ _ _ _ _ _ (h.at (List.mem_cons_self ..))) (fun k hk => heap_setCell_other _ _ _ _ hk) (by simp [World.setCell]) (fun hb => hb.setCell hg _)

/-- A value of one cell is stored into a block that the walk holds whole. -/
theorem inv_store {P : Program} {ops : Array Oper} {rest : List Oper} {o : Oper} {a : Act} {n : Nat} {w W : World} {L : List (Nat × Obj)} {Q : Exit → Act → World → Prop} (hgd : Region.wanted o (yielded ops a.tmps) = true) (ty : TypeId) (x y : Operand) (ho : o.op = .store ty x y)
    (g i : Nat) (cs : Array Value) (t : TypeId) (v : Value) (hx : a.eval x = .pointer (some ⟨g, i, none⟩)) (hy : a.eval y = v) (h1 : v.oneCell' = true) (hi : (P.info? ty).map (·.size) = some 1) (hlt : i < cs.size)
    (hI : Inv n w ((g, .cells cs t (0, 0)) :: L) W) (hg : n ≤ g) (hn : ∀ p ∈ L, p.1 ≠ g)
    (hk : ∀ W', Inv n w ((g, .cells (cs.setIfInBounds i v) t (0, 0)) :: L) W' → W' = W.setCell ⟨g, i, none⟩ v → wpList P ops Q rest (a.put o.dst undef) W') : wpList P ops Q (o :: rest) a W := by
  rw [wpList, if_pos hgd]
  refine .inl ?_
  have hb := hI.at (List.mem_cons_self ..)
  have hcell : W.cell? ⟨g, i, none⟩ = some cs[i] := by rw [cell_of_row _ _ _ _ _ _ hb]; simp [hlt]
  have hfro : W.frozen? ⟨g, i, none⟩ = false := frozen_of_row _ _ _ _ _ hb
  have hc : v.cells = #[v] := by cases v <;> first | rfl | cases h1
  have hst : (storeVar ty ⟨g, i, none⟩ v).run P W = .ok () (W.setCell ⟨g, i, none⟩ v) := by
    have hs := run_store P W ⟨g, i, none⟩ v .plain h1
    rw [hcell] at hs
    simp only [hfro, Bool.false_eq_true, if_false] at hs
    cases hq : P.info? ty with
    | none => simp [hq] at hi
    | some ti =>
      have hsz : ti.size = 1 := by simpa [hq] using hi
      have hadd : (⟨g, i, none⟩ : Addr).add 0 = ⟨g, i, none⟩ := by rw [Addr.add_mid]; rfl
      simp [storeVar, sizeOf, typeInfo, hq, hc, hsz, storeCells, Sem.run_bind, hadd, hs]
  unfold Oper.wp execOp
  simp only [ho, hx, hy, Instr.storeAt, Instr.sureAddr, Sem.run_bind, Sem.run_pure, Result.andThen_ok, hst]
  exact hk _ (hI.setCell v hg hn) rfl

/-- A whole value is stored into a block that the walk holds whole. -/
theorem inv_row {P : Program} {ops : Array Oper} {rest : List Oper} {o : Oper} {a : Act} {n : Nat} {w W : World} {L : List (Nat × Obj)} {Q : Exit → Act → World → Prop} (hgd : Region.wanted o (yielded ops a.tmps) = true) (ty : TypeId) (x y : Operand) (ho : o.op = .store ty x y)
    (g : Nat) (old cells : Array Value) (t : TypeId) (hx : a.eval x = .pointer (some ⟨g, 0, none⟩)) (hy : a.eval y = .agg cells) (h1 : cells.all (·.oneCell') = true) (hi : (P.info? ty).map (·.size) = some cells.size) (hold : old.size = cells.size)
    (hI : Inv n w ((g, .cells old t (0, 0)) :: L) W) (hg : n ≤ g) (hn : ∀ p ∈ L, p.1 ≠ g)
    (hk : ∀ W', Inv n w ((g, .cells cells t (0, 0)) :: L) W' → wpList P ops Q rest (a.put o.dst undef) W') : wpList P ops Q (o :: rest) a W := by
  rw [wpList, if_pos hgd]
  have hb := hI.at (List.mem_cons_self ..)
  exact .inl (wp_store_row _ x y ho g _ hx hy t old hb hi hold h1 (hk _ (hI.turn hg hn (setRow_heap _ g _ _ _ _ hb) (fun k hk => setRow_other _ g k _ hk) (by simp) (fun hb => below_setRow hb hg _))))
theorem KidsT.keep {w w' : World} (h : KidsT w) (hb : Below w.heap.size w w') : KidsT w' := fun j hj => by
  have h0 : 0 < w.heap.size := block_lt_of_cell (h 0 (by decide))
  rw [hb.cell (p := ⟨0, j, none⟩) h0]; exact h j hj

/-! ### Which nodes were had -/
def hadB (n : Nat) (S : List Int) : List Bool := (List.range n).map fun (j : Nat) => decide ((j : Int) ∈ S)
theorem hadB_len (n : Nat) (S : List Int) : (hadB n S).length = n := by simp [hadB]
theorem hadB_get (n : Nat) (S : List Int) (j : Nat) (h : j < (hadB n S).length) : (hadB n S)[j] = decide ((j : Int) ∈ S) := by simp [hadB]
theorem hadB_none (n : Nat) : hadB n [] = List.replicate n false := by
  apply List.ext_getElem
  · simp [hadB]
  · intro j h1 h2; simp [hadB]
theorem hadB_set {n : Nat} {S : List Int} {k : Int} (h0 : 0 ≤ k) : (boolC (hadB n S)).toArray.setIfInBounds k.toNat (.bool true) = (boolC (hadB n (k :: S))).toArray := by
  apply Array.toList_inj.1
  rw [Array.toList_setIfInBounds]
  show (boolC (hadB n S)).set k.toNat (.bool true) = boolC (hadB n (k :: S))
  apply List.ext_getElem
  · simp [hadB]
  · intro j h1 h2
    rw [List.getElem_set]
    simp only [hadB, boolC, List.getElem_map, List.getElem_range, List.mem_cons]
    split
    · next h => subst h; simp [Int.toNat_of_nonneg h0]
    · next h =>
      have : ¬ ((j : Int) = k) := by omega
      simp [this]
end Go.Proofs.YtcenjpaiehidjaaDoor

/- Contract of tree.Right. -/
namespace Go.Proofs.YtcenjpaiehidjaaDoor
open Go.RowKit
set_option maxRecDepth 100000

/-- The first i nodes are as they should be. -/
structure Till (ns : List Nd) (root : Int) (i : Nat) : Prop where
  fits : ∀ (j : Nat) nd, j < i → ns[j]? = some nd → fitsB nd.hd nd.kids.length = true ∧ ∀ k ∈ nd.kids, 0 ≤ k ∧ k < j
  once : (root :: kidsAll (ns.take i)).Nodup
theorem till_zero (ns : List Nd) (root : Int) : Till ns root 0 := ⟨fun _ _ h => absurd h (by omega), by simp [kidsAll]⟩
theorem kidsAll_step {ns : List Nd} {i : Nat} {nd : Nd} (h : ns[i]? = some nd) : kidsAll (ns.take (i + 1)) = kidsAll (ns.take i) ++ nd.kids := by
  obtain ⟨hi, e⟩ := List.getElem?_eq_some_iff.1 h
  rw [List.take_succ_eq_append_getElem hi, kidsAll_app, e]
  simp [kidsAll]
theorem kidsAll_take_sub (ns : List Nd) (i : Nat) : List.Sublist (kidsAll (ns.take i)) (kidsAll ns) := by
  conv => rhs; rw [← List.take_append_drop i ns]
  rw [kidsAll_app]
  exact List.sublist_append_left ..
/-- Where an arena is right, root and kids are none twice. -/
theorem RightP.nodup {ns : List Nd} {root : Int} (h : RightP ⟨ns, root⟩) : (root :: kidsAll ns).Nodup := by
  refine List.nodup_cons.2 ⟨fun hm => ?_, h.down'.once⟩
  obtain ⟨i, hi⟩ := mem_kidsAll.1 hm
  have h1 := kidsAt_lt h.down' hi
  have h2 := h.root
  have h3 : i < ns.length := by
    unfold kidsAt at hi
    rw [Int.toNat_natCast] at hi
    cases e : ns[i]? with
    | none => rw [e] at hi; simp at hi
    | some nd => exact (List.getElem?_eq_some_iff.1 e).1
  simp only at h2
  rw [Int.toNat_natCast] at h1
  omega
theorem count_nodup {l : List Int} (h : l.Nodup) (a : Int) : l.count a ≤ 1 := by
  induction l with
  | nil => simp
  | cons b l ih =>
    obtain ⟨h1, h2⟩ := List.nodup_cons.1 h
    rw [List.count_cons]
    have := ih h2
    by_cases e : b = a
    · subst e
      have : l.count b = 0 := List.count_eq_zero.2 h1
      simp [this]
    · have e' : (b == a) = false := by simp [e]
      rw [e']; simpa using this
theorem till_all {ns : List Nd} {root : Int} (hr : root = (ns.length : Int) - 1) (hp : 0 < ns.length) (h : Till ns root ns.length) (ha : ∀ j : Nat, j < ns.length → (j : Int) ∈ root :: kidsAll ns) : RightP ⟨ns, root⟩ := by
  have ho := h.once
  rw [List.take_length] at ho
  have hn := (List.nodup_cons.1 ho).2
  refine ⟨hp, hr, fun i nd e => (h.fits i nd (List.getElem?_eq_some_iff.1 e).1 e).1, fun i nd e => (h.fits i nd (List.getElem?_eq_some_iff.1 e).1 e).2, fun j => ?_, fun j hj => ?_⟩
  · exact count_nodup hn j
  · rcases List.mem_cons.1 (ha j (by simp only at hj; omega)) with e | hm
    · simp only at hj; omega
    · exact List.count_pos_iff.2 hm

theorem tyBools : Tryd.prog.underlying 67 = some (.slice 4) := by kernel_rfl
theorem infoBool : (Tryd.prog.info? 4).map (fun i => (i.zero, i.size, i.bytes)) = some (some (.bool false), 1, 1) := by kernel_rfl

theorem made_bools (n : Nat) (h : n ≤ 100000) (w : World) : (Instr.makeSlice 67 (.int .i64 (n : Int)) (.int .i64 (n : Int))).run Tryd.prog w = .ok (.slice (some ⟨w.heap.size, 0, none⟩) n n) (w.alloc (.cells (boolC (hadB n [])).toArray 4)) := by
  rw [run_make_row' (P := Tryd.prog) 67 4 (.bool false) 1 tyBools infoBool rfl .i64 .i64 n (by omega) (by omega) w]
  congr 3
  rw [hadB_none]
  apply Array.ext
  · simp [madeCells]
  · intro j h1 h2; simp [madeCells, Nat.mod_one]
theorem szBool : (Tryd.prog.info? 4).map (·.size) = some 1 := by kernel_rfl
theorem hadB_congr {n : Nat} {S S' : List Int} (h : ∀ j, j ∈ S ↔ j ∈ S') : hadB n S = hadB n S' := by unfold hadB; congr 1; funext j; simp [h]
/-- Root and kids that were met: all of the first k nodes', the first m of the next one's. -/
def seen (ns : List Nd) (k : Nat) (nd : Nd) (m : Nat) : List Int := (((ns.length : Int) - 1) :: kidsAll (ns.take k)) ++ nd.kids.take m
theorem seen_zero (ns : List Nd) (k : Nat) (nd : Nd) : seen ns k nd 0 = ((ns.length : Int) - 1) :: kidsAll (ns.take k) := by simp [seen]
structure Part (ns : List Nd) (k : Nat) (nd : Nd) (m : Nat) : Prop where
  down : ∀ c ∈ nd.kids.take m, 0 ≤ c ∧ c < k
  once : (seen ns k nd m).Nodup
theorem part_zero {ns : List Nd} {k : Nat} {nd : Nd} (h : Till ns ((ns.length : Int) - 1) k) : Part ns k nd 0 := ⟨by simp, by rw [seen_zero]; exact h.once⟩
theorem seen_succ {ns : List Nd} {k : Nat} {nd : Nd} {m : Nat} {c : Int} (h : nd.kids[m]? = some c) : seen ns k nd (m + 1) = seen ns k nd m ++ [c] := by
  obtain ⟨hm, e⟩ := List.getElem?_eq_some_iff.1 h
  unfold seen
  rw [List.take_succ_eq_append_getElem hm, e, List.append_assoc]
theorem seen_set {ns : List Nd} {k : Nat} {nd : Nd} {m : Nat} {cn : Nat} (h : nd.kids[m]? = some (cn : Int)) (_ : 0 ≤ cn) : (Obj.cells ((boolC (hadB ns.length (seen ns k nd m))).toArray.setIfInBounds cn (.bool true)) 4) = .cells (boolC (hadB ns.length (seen ns k nd (m + 1)))).toArray 4 := by
  have h1 := hadB_set (n := ns.length) (S := seen ns k nd m) (k := (cn : Int)) (by omega)
  rw [Int.toNat_natCast] at h1
  rw [h1, seen_succ h, hadB_congr (S' := seen ns k nd m ++ [(cn : Int)]) (fun j => by simp [or_comm])]
theorem part_step {ns : List Nd} {k : Nat} {nd : Nd} {m : Nat} {c : Int} (h : Part ns k nd m) (hc : nd.kids[m]? = some c) (hk : 0 ≤ c ∧ c < k) (hn : ¬ c ∈ seen ns k nd m) : Part ns k nd (m + 1) := by
  obtain ⟨hm, e⟩ := List.getElem?_eq_some_iff.1 hc
  refine ⟨fun a ha => ?_, ?_⟩
  · rw [List.take_succ_eq_append_getElem hm, e] at ha
    rcases List.mem_append.1 ha with ha | ha
    · exact h.down a ha
    · simp at ha; subst ha; exact hk
  · rw [seen_succ hc, List.nodup_append]
    refine ⟨h.once, by simp, fun a ha b hb => ?_⟩
    simp at hb; subst hb
    intro e2; subst e2; exact hn ha
theorem seen_all {ns : List Nd} {k : Nat} {nd : Nd} (h : ns[k]? = some nd) : seen ns k nd nd.kids.length = ((ns.length : Int) - 1) :: kidsAll (ns.take (k + 1)) := by
  unfold seen
  rw [List.take_length, kidsAll_step h, List.cons_append]
theorem till_step {ns : List Nd} {k : Nat} {nd : Nd} (h : Till ns ((ns.length : Int) - 1) k) (hnd : ns[k]? = some nd) (hf : fitsB nd.hd nd.kids.length = true) (hp : Part ns k nd nd.kids.length) : Till ns ((ns.length : Int) - 1) (k + 1) := by
  refine ⟨fun j nd' hj e => ?_, ?_⟩
  · by_cases hjk : j < k
    · exact h.fits j nd' hjk e
    · obtain rfl : j = k := by omega
      rw [hnd] at e; injection e with e; subst e
      exact ⟨hf, fun c hc => hp.down c (by rw [List.take_length]; exact hc)⟩
  · rw [← seen_all hnd]; exact hp.once
theorem seen_not {ns : List Nd} {k : Nat} {nd : Nd} {m : Nat} {c : Int} (h : RightP ⟨ns, (ns.length : Int) - 1⟩) (hnd : ns[k]? = some nd) (hc : nd.kids[m]? = some c) : ¬ c ∈ seen ns k nd m := by
  intro hm
  have h1 := h.nodup
  have h2 : List.Sublist (seen ns k nd (m + 1)) (((ns.length : Int) - 1) :: kidsAll ns) := by
    have h3 : List.Sublist (seen ns k nd (m + 1)) (seen ns k nd nd.kids.length) := by
      unfold seen
      rw [List.take_length]
      exact List.Sublist.append_left (List.take_sublist _ _) _
    refine h3.trans ?_
    rw [seen_all hnd]
    exact List.Sublist.cons_cons _ (kidsAll_take_sub ns (k + 1))
  have h4 := h2.nodup h1
  rw [seen_succ hc, List.nodup_append] at h4
  exact h4.2.2 c hm c (by simp) rfl
theorem contains_n (n : Nat) (S : List Int) (B : Nat) (hl : n ≤ 100000) (w : World) (h : w.heap[B]? = some (.cells (boolC (hadB n S)).toArray 4)) :
    Calls Tryd.prog 35 #[.slice (some ⟨B, 0, none⟩) n n, .bool false] w fun e w' => e = .returned (.bool (decide (false ∈ hadB n S))) ∧ w' = w := by
  have h1 := containsB_any B (hadB n S) 4 (0, 0) n (by rw [hadB_len]; omega) w h
  rw [hadB_len] at h1
  exact h1
/-- It returns just whether p. -/
def Tells (e : Ending) (p : Prop) : Prop := ∃ b, e = .returned (.bool b) ∧ (b = true ↔ p)
theorem tells_no {p : Prop} (h : ¬ p) : Tells (.returned (.bool false)) p := ⟨false, rfl, by simp [h]⟩
theorem tells_iff {b : Bool} {p : Prop} (h : b = true ↔ p) : Tells (.returned (.bool b)) p := ⟨b, rfl, h⟩
abbrev hadO (n : Nat) (S : List Int) : Obj := .cells (boolC (hadB n S)).toArray 4
set_option maxHeartbeats 8000000 in
/-- tree.Right, on an arena whose root is its last node. -/
theorem right_yes (ns : List Nd) (p : Option Addr) (cap : Nat) (hS : Small ns) (hpos : 0 < ns.length) (w : World) (F : Nat → TypeId → Prop) (hN : NodesAt w F p ns) (hT : KidsT w) :
    Calls Tryd.prog 15 #[arV p ns.length cap ((ns.length : Int) - 1)] w fun e w' => Tells e (RightP ⟨ns, (ns.length : Int) - 1⟩) ∧ Below w.heap.size w w' := by
  have hl := hS.len
  have hmk := made_bools ns.length hl
  have hwr : IntKind.i64.wrap ((ns.length : Int) - 1) = (ns.length : Int) - 1 := IntWalk.i64_in _ (by omega)
  have hI0 := ((Inv.start w).alloc (arO p ns.length cap ((ns.length : Int) - 1))).alloc (.cells (boolC (hadB ns.length [])).toArray 4)
  rw [World.size_alloc] at hI0
  have HI0 := Lib.hid hI0
  clear hI0
  have HN := Lib.hid hN
  have HT := Lib.hid hT
  have HS := Lib.hid hS
  clear hN hT hS
  have hneg : ¬ ((ns.length : Int) - 1 < 0) := by omega
  go_enter Tryd.func15, Tryd.ntmps15
  go_wp2_with (first | (refine inv_store rfl _ _ _ rfl (w.heap.size + 1) (ns.length - 1) (boolC (hadB ns.length [])).toArray 4 (.bool true) rfl rfl rfl szBool (by simp [hadB_len]; omega) HI0.out (by omega) (by simp) ?_; intro W' hI hW; clear hW; have c0 := hI.cell (g := w.heap.size) (j := 0) (v := .slice p ns.length cap) (.tail _ (.head _)) rfl))
  clear c0
  have hI1 : Inv w.heap.size w [(w.heap.size + 1, hadO ns.length [(ns.length : Int) - 1]), (w.heap.size, arO p ns.length cap ((ns.length : Int) - 1))] W' := by
    have h1 := hadB_set (n := ns.length) (S := []) (k := (ns.length : Int) - 1) (by omega)
    rw [show ((ns.length : Int) - 1).toNat = ns.length - 1 by omega] at h1
    rw [h1] at hI
    exact hI
  clear hI hmk
  go_loopw [31] (fun i wr => ∃ k : Nat, k ≤ ns.length ∧ i = .int .i64 k ∧ Inv w.heap.size w [(w.heap.size + 1, hadO ns.length (((ns.length : Int) - 1) :: kidsAll (ns.take k))), (w.heap.size, arO p ns.length cap ((ns.length : Int) - 1))] wr ∧ Hid (Till ns ((ns.length : Int) - 1) k)) (fun i _ => ns.length - (intOf i).toNat)
  case atStart => exact ⟨0, by omega, rfl, hI1, Lib.hid (till_zero _ _)⟩
  case round =>
    clear hI1
    obtain ⟨k, hk, rfl, hI, hTl⟩ := hrel
    by_cases hlt : k < ns.length
    · obtain ⟨b, o, rfl, _, hc⟩ := HN.out (by intro h; rw [h] at hlt; exact absurd hlt (by simp))
      obtain ⟨nd, hnd⟩ : ∃ nd, ns[k]? = some nd := ⟨_, List.getElem?_eq_getElem hlt⟩
      obtain ⟨q, cap', hd, hr, hki⟩ := hc k nd hnd
      have hkl := HS.out.kids nd (List.mem_of_getElem? hnd)
      have Hr := Lib.hid (rangeAt_keep hr (hI.below.block b (block_lt_of_cell (hr 0 _ rfl))))
      have Hki := Lib.hid hki
      have Hnd := Lib.hid hnd
      have Hd := Lib.hid hd
      clear hc hr hki hnd hd
      cases hf : fitsB nd.hd nd.kids.length
      · have Hf := Lib.hid hf
        clear hf
        go_wp2_with (first | (refine load_node rfl _ rfl b (o + k * 9) rfl nd.hd q nd.kids.length cap' Hr.out ?_) | (go_at_call 34; with_reducible refine (fits_any nd.hd Hd.out q _ cap' nd.kids.length _ (HT.out.keep (hI.alloc _).below)).mono ?_; rw [Hf.out]; rintro e W3 ⟨rfl, hb⟩; have hI3 := (hI.alloc _).call hb; clear hb; have c8 := hI3.cell (j := 8) (v := .slice q nd.kids.length cap') List.mem_cons_self rfl))
        go_ret
        refine ⟨tells_no fun h => ?_, hI3.below⟩
        · have := h.fits _ _ Hnd.out; rw [Hf.out] at this; cases this
      · have Hf := Lib.hid hf
        clear hf
        go_wp2_with (first | (refine load_node rfl _ rfl b (o + k * 9) rfl nd.hd q nd.kids.length cap' Hr.out ?_) | (go_at_call 34; with_reducible refine (fits_any nd.hd Hd.out q _ cap' nd.kids.length _ (HT.out.keep (hI.alloc _).below)).mono ?_; rw [Hf.out]; rintro e W3 ⟨rfl, hb⟩; have hI3 := (hI.alloc _).call hb; clear hb; have c8 := hI3.cell (j := 8) (v := .slice q nd.kids.length cap') List.mem_cons_self rfl))
        have hI4 : Inv w.heap.size w [(w.heap.size + 1, hadO ns.length (seen ns k nd 0)), (w.heap.size, arO (some ⟨b, o, none⟩) ns.length cap ((ns.length : Int) - 1))] W3 := by
          have h1 := hI3.sub (L' := [(w.heap.size + 1, hadO ns.length (((ns.length : Int) - 1) :: kidsAll (ns.take k))), (w.heap.size, arO (some ⟨b, o, none⟩) ns.length cap ((ns.length : Int) - 1))]) (fun x hx => List.mem_cons_of_mem _ hx)
          rw [seen_zero]; exact h1
        have hP0 := Lib.hid (part_zero (nd := nd) hTl.out)
        clear c8 hI3 hI
        go_loopw [45] (fun i wr2 => ∃ m : Nat, m ≤ nd.kids.length ∧ i = .int .i64 m ∧ Inv w.heap.size w [(w.heap.size + 1, hadO ns.length (seen ns k nd m)), (w.heap.size, arO (some ⟨b, o, none⟩) ns.length cap ((ns.length : Int) - 1))] wr2 ∧ Hid (Part ns k nd m)) (fun i _ => nd.kids.length - (intOf i).toNat)
        case atStart => exact ⟨0, by omega, rfl, hI4, hP0⟩
        case round =>
          clear hI4 hP0
          obtain ⟨m, hm, rfl, hJ, hP⟩ := hrel
          by_cases hmt : m < nd.kids.length
          · obtain ⟨bq, oq, rfl, _, hkc⟩ := Hki.out (by intro h; rw [h] at hmt; exact absurd hmt (by simp))
            obtain ⟨c, hc⟩ : ∃ c, nd.kids[m]? = some c := ⟨_, List.getElem?_eq_getElem hmt⟩
            have hck := (hJ.below.cell (p := ⟨bq, oq + m, none⟩) (block_lt_of_cell (hkc m c hc))).trans (hkc m c hc)
            have Hc := Lib.hid hc
            clear hkc hc
            by_cases h0 : c < 0
            · go_wp2
              go_ret
              refine ⟨tells_no fun h => ?_, hJ.below⟩
              have := h.down _ _ Hnd.out c (List.mem_of_getElem? Hc.out); omega
            · by_cases h1 : (k : Int) ≤ c
              · go_wp2
                go_ret
                refine ⟨tells_no fun h => ?_, hJ.below⟩
                have := h.down _ _ Hnd.out c (List.mem_of_getElem? Hc.out); omega
              · obtain ⟨cn, rfl⟩ := Int.eq_ofNat_of_zero_le (show 0 ≤ c by omega)
                have hcl : cn < ns.length := by omega
                have hcb := bool_cell (hJ.at List.mem_cons_self) cn (by rw [hadB_len]; exact hcl)
                rw [hadB_get] at hcb
                by_cases h2 : (cn : Int) ∈ seen ns k nd m
                · rw [decide_eq_true h2] at hcb
                  have H2 := Lib.hid h2
                  clear h2
                  go_wp2
                  go_ret
                  refine ⟨tells_no fun h => ?_, hJ.below⟩
                  exact absurd H2.out (seen_not h Hnd.out Hc.out)
                · rw [decide_eq_false h2] at hcb
                  have H2 := Lib.hid h2
                  clear h2
                  go_wp2_with (first | (refine inv_store rfl _ _ _ rfl (w.heap.size + 1) cn (boolC (hadB ns.length (seen ns k nd m))).toArray 4 (.bool true) rfl rfl rfl szBool (by simp [hadB_len]; omega) hJ (by omega) (by simp) ?_; intro W5 hK hW; clear hW))
                  go_roundw
                  case rel => exact ⟨m + 1, by omega, by go_num, by rw [seen_set Hc.out (by omega)] at hK; exact hK, Lib.hid (part_step hP.out Hc.out (by omega) H2.out)⟩
                  case measure => simp [intOf]; omega
          · obtain rfl : m = nd.kids.length := by omega
            go_wp2
            go_roundw
            case rel => exact ⟨k + 1, by omega, by go_num, by rw [← seen_all Hnd.out]; exact hJ, Lib.hid (till_step hTl.out Hnd.out Hf.out hP.out)⟩
            case measure => simp [intOf]; omega
    · obtain rfl : k = ns.length := by omega
      go_wp2_with (first | (go_at_call 35; refine (contains_n ns.length _ _ (by omega) _ (hI.at List.mem_cons_self)).mono ?_; rintro e w1 ⟨rfl, rfl⟩))
      go_ret
      refine ⟨tells_iff ?_, hI.below⟩
      have ht := hTl.out
      simp only [Bool.not_eq_true', decide_eq_false_iff_not]
      constructor
      · intro h
        refine till_all rfl hpos ht fun j hj => ?_
        refine Classical.byContradiction fun hn => h ?_
        unfold hadB
        exact List.mem_map.2 ⟨j, List.mem_range.2 hj, decide_eq_false hn⟩
      · intro h hm
        unfold hadB at hm
        obtain ⟨j, hj, e⟩ := List.mem_map.1 hm
        have hj := List.mem_range.1 hj
        have hn := of_decide_eq_false e
        by_cases hl : j + 1 < ns.length
        · exact hn (List.mem_cons_of_mem _ (List.count_pos_iff.1 (h.all j hl)))
        · exact hn (by rw [show (j : Int) = (ns.length : Int) - 1 by omega]; exact List.mem_cons_self)

set_option maxHeartbeats 2000000 in
theorem right_no (ns : List Nd) (root : Int) (p : Option Addr) (cap : Nat) (hl : ns.length ≤ 100000) (h : ¬ (root = (ns.length : Int) - 1 ∧ 0 < ns.length)) (w : World) :
    Calls Tryd.prog 15 #[arV p ns.length cap root] w fun e w' => Tells e (RightP ⟨ns, root⟩) ∧ Below w.heap.size w w' := by
  have hwr : IntKind.i64.wrap ((ns.length : Int) - 1) = (ns.length : Int) - 1 := IntWalk.i64_in _ (by omega)
  have hno : ¬ RightP ⟨ns, root⟩ := fun hr => h ⟨hr.root, hr.some⟩
  have Hno := Lib.hid hno
  clear hno
  by_cases h1 : root = (ns.length : Int) - 1
  · have h2 : (ns.length : Int) - 1 < 0 := by omega
    subst h1
    clear h
    go_enter Tryd.func15, Tryd.ntmps15
    go_wp2
    go_ret
    exact ⟨tells_no Hno.out, (Below.refl _ _).alloc (Nat.le_refl _) _⟩
  · clear h
    go_enter Tryd.func15, Tryd.ntmps15
    go_wp2
    go_ret
    exact ⟨tells_no Hno.out, (Below.refl _ _).alloc (Nat.le_refl _) _⟩
/-- tree.Right. -/
theorem right_any (ns : List Nd) (root : Int) (p : Option Addr) (cap : Nat) (hS : Small ns) (w : World) (F : Nat → TypeId → Prop) (hN : NodesAt w F p ns) (hT : KidsT w) :
    Calls Tryd.prog 15 #[arV p ns.length cap root] w fun e w' => Tells e (RightP ⟨ns, root⟩) ∧ Below w.heap.size w w' := by
  by_cases h : root = (ns.length : Int) - 1 ∧ 0 < ns.length
  · obtain ⟨rfl, hp⟩ := h
    exact right_yes ns p cap hS hp w F hN hT
  · exact right_no ns root p cap hS.len h w
end Go.Proofs.YtcenjpaiehidjaaDoor

/- What a walk carries of the world: blocks that it holds whole, and rows that it appends to, no two in one block; which blocks of the first world may have been written. -/
namespace Go.Proofs.YtcenjpaiehidjaaDoor
open Go.RowKit

/-- W is w with more blocks; of those of w none was written but such as S allows. -/
structure Off (S : Nat → Prop) (w W : World) : Prop where
  os : W.os = w.os
  tape : W.tape = w.tape
  output : W.output = w.output
  size : w.heap.size ≤ W.heap.size
  block : ∀ b, b < w.heap.size → ¬ S b → W.heap[b]? = w.heap[b]?
/-- No block may be written. -/
def noS : Nat → Prop := fun _ => False
/-- The block of a slice alone may be written. -/
def rowS (v : Value) : Nat → Prop := fun b => v.ownBlock = some b
theorem Off.refl (S : Nat → Prop) (w : World) : Off S w w := ⟨rfl, rfl, rfl, Nat.le_refl _, fun _ _ _ => rfl⟩
theorem Off.trans {S T : Nat → Prop} {a b c : World} (h : Off S a b) (k : Off T b c) (hT : ∀ g, g < a.heap.size → T g → S g) : Off S a c :=
  ⟨k.os.trans h.os, k.tape.trans h.tape, k.output.trans h.output, Nat.le_trans h.size k.size, fun g hg hS => (k.block g (Nat.lt_of_lt_of_le hg h.size) fun ht => hS (hT g hg ht)).trans (h.block g hg hS)⟩
theorem Off.ofBelow {w W : World} (h : Below w.heap.size w W) (S : Nat → Prop) : Off S w W := ⟨h.os, h.tape, h.output, h.size, fun b hb _ => h.block b hb⟩
theorem Off.below {w W : World} (h : Off noS w W) : Below w.heap.size w W := ⟨h.os, h.tape, h.output, h.size, fun b hb => h.block b hb id⟩
theorem Off.ofGrown {w W : World} {v : Value} (h : w.grownBy W v.ownBlock) : Off (rowS v) w W := ⟨h.os, h.tape, h.output, h.size, fun b hb hS => h.block b hb fun e => hS e.symm⟩
theorem Off.grown {w W : World} {v : Value} (h : Off (rowS v) w W) : w.grownBy W v.ownBlock := ⟨h.os, h.tape, h.output, h.size, fun b hb hS => h.block b hb fun e => hS e.symm⟩
theorem Off.ofSome {w W : World} {g : Nat} (h : w.grownBy W (some g)) : Off (fun b => b = g) w W := ⟨h.os, h.tape, h.output, h.size, fun b hb hS => h.block b hb fun e => hS (by injection e)⟩
theorem Off.mono {S T : Nat → Prop} {w W : World} (h : Off S w W) (hT : ∀ g, S g → T g) : Off T w W := ⟨h.os, h.tape, h.output, h.size, fun b hb hS => h.block b hb fun e => hS (hT b e)⟩
theorem Off.call {S : Nat → Prop} {a b c : World} (h : Off S a b) (k : Below b.heap.size b c) : Off S a c := h.trans (Off.ofBelow k noS) fun _ _ h => h.elim
theorem Off.drew {S : Nat → Prop} {w W : World} (h : Off S w W) : Off S w W.drew := ⟨h.os, h.tape, h.output, h.size, h.block⟩

/-- A slice that is appended to: v holds k elements of type e, the cells xs. -/
structure OwnR where
  e : TypeId
  size : Nat
  v : Value
  k : Nat
  xs : List Value
structure RInv (S : Nat → Prop) (w : World) (L : List (Nat × Obj)) (R : List OwnR) (W : World) : Prop where
  off : Off S w W
  blk : ∀ p ∈ L, W.heap[p.1]? = some p.2
  own : ∀ r ∈ R, W.ownsRow 0 r.e r.size r.v r.k r.xs
  new : ∀ r ∈ R, ∀ g, r.v.ownBlock = some g → w.heap.size ≤ g ∨ S g
  apartL : ∀ r ∈ R, ∀ p ∈ L, r.v.ownBlock ≠ some p.1
  apart : R.Pairwise fun r s => ∀ g, r.v.ownBlock = some g → s.v.ownBlock ≠ some g
variable {S : Nat → Prop} {w W W1 : World} {L : List (Nat × Obj)} {R : List OwnR} {r : OwnR}
theorem RInv.start (S : Nat → Prop) (w : World) : RInv S w [] [] w := ⟨Off.refl S w, fun _ h => by simp at h, fun _ h => by simp at h, fun _ h => by simp at h, fun _ h => by simp at h, List.Pairwise.nil⟩
theorem RInv.at (h : RInv S w L R W) {g : Nat} {o : Obj} (hp : (g, o) ∈ L) : W.heap[g]? = some o := h.blk _ hp
theorem RInv.size (h : RInv S w L R W) : w.heap.size ≤ W.heap.size := h.off.size
theorem RInv.below (h : RInv noS w L R W) : Below w.heap.size w W := h.off.below
theorem RInv.inv (h : RInv noS w L R W) : Inv w.heap.size w L W := ⟨h.below, h.size, h.blk⟩
theorem RInv.ofInv (h : Inv w.heap.size w L W) : RInv noS w L [] W := ⟨Off.ofBelow h.below noS, h.blk, fun _ h => by simp at h, fun _ h => by simp at h, fun _ h => by simp at h, List.Pairwise.nil⟩
theorem RInv.cell (h : RInv S w L R W) {g j : Nat} {cs : Array Value} {t : TypeId} {fr : Nat × Nat} {v : Value} (hp : (g, .cells cs t fr) ∈ L) (hv : cs[j]? = some v) : W.cell? ⟨g, j, none⟩ = some v := (cell_of_row _ _ _ _ _ _ (h.at hp)).trans hv
theorem RInv.free (h : RInv S w L R W) {g j : Nat} {cs : Array Value} {t : TypeId} (hp : (g, .cells cs t (0, 0)) ∈ L) : W.frozen? ⟨g, j, none⟩ = false := frozen_of_row _ _ _ _ _ (h.at hp)
theorem RInv.subL {L' : List (Nat × Obj)} (h : RInv S w L R W) (hL : ∀ p ∈ L', p ∈ L) : RInv S w L' R W := ⟨h.off, fun p hp => h.blk p (hL p hp), h.own, h.new, fun r hr p hp => h.apartL r hr p (hL p hp), h.apart⟩
theorem RInv.subR {R' : List OwnR} (h : RInv S w L R W) (hR : R'.Sublist R) : RInv S w L R' W := ⟨h.off, h.blk, fun r hr => h.own r (hR.subset hr), fun r hr => h.new r (hR.subset hr), fun r hr => h.apartL r (hR.subset hr), h.apart.sublist hR⟩
theorem RInv.restart (h : RInv S w L R W) (T : Nat → Prop) : RInv T W L [] W := ⟨Off.refl _ _, h.blk, fun _ h => by simp at h, fun _ h => by simp at h, fun _ h => by simp at h, List.Pairwise.nil⟩
theorem RInv.swap {a b : OwnR} (h : RInv S w L (a :: b :: R) W) : RInv S w L (b :: a :: R) W := by
  have hp := h.apart
  rw [List.pairwise_cons, List.pairwise_cons] at hp
  obtain ⟨h1, h2, h3⟩ := hp
  have hm : ∀ r, r ∈ b :: a :: R → r ∈ a :: b :: R := by
    intro r hr
    simp only [List.mem_cons] at hr ⊢
    rcases hr with hr | hr | hr
    · exact .inr (.inl hr)
    · exact .inl hr
    · exact .inr (.inr hr)
  refine ⟨h.off, h.blk, fun r hr => h.own r (hm r hr), fun r hr => h.new r (hm r hr), fun r hr => h.apartL r (hm r hr), ?_⟩
  rw [List.pairwise_cons, List.pairwise_cons]
  refine ⟨fun x hx g hb ha => ?_, fun x hx => h1 x (List.mem_cons_of_mem _ hx), h3⟩
  rcases List.mem_cons.1 hx with rfl | hx
  · exact h1 b List.mem_cons_self g ha hb
  · exact h2 x hx g hb ha
theorem RInv.call (h : RInv S w L R W) (hb : Below W.heap.size W W1) : RInv S w L R W1 := ⟨h.off.call hb, fun p hp => (hb.block _ (lt_of_heap (h.blk p hp))).trans (h.blk p hp), fun r hr => ownsRow_below (h.own r hr) hb, h.new, h.apartL, h.apart⟩
theorem RInv.drew (h : RInv S w L R W) : RInv S w L R W.drew := ⟨h.off.drew, h.blk, h.own, h.new, h.apartL, h.apart⟩
theorem RInv.drewN (h : RInv S w L R W) (m : Nat) : RInv S w L R (W.drewN m) := h.call (below_drewN (Below.refl _ _) m)
theorem own_lt (h : RInv S w L R W) (hr : r ∈ R) {g : Nat} (hg : r.v.ownBlock = some g) : g < W.heap.size := ((h.own r hr).lt g hg).2
theorem RInv.alloc (h : RInv S w L R W) (o : Obj) : RInv S w ((W.heap.size, o) :: L) R (W.alloc o) :=
  ⟨h.off.call ((Below.refl _ _).alloc (Nat.le_refl _) o), fun p hp => by
    rcases List.mem_cons.1 hp with rfl | hp
    · exact heap_alloc_new W o
    · exact (Below.heap_alloc W o _ (lt_of_heap (h.blk p hp))).trans (h.blk p hp), fun r hr => (h.own r hr).alloc o, h.new, fun r hr p hp => by
    rcases List.mem_cons.1 hp with rfl | hp
    · intro e
      have := own_lt h hr e
      omega
    · exact h.apartL r hr p hp, h.apart⟩
theorem RInv.nil (h : RInv S w L R W) (e : TypeId) (size : Nat) : RInv S w L (⟨e, size, .slice none 0 0, 0, []⟩ :: R) W :=
  ⟨h.off, h.blk, fun r hr => by
    rcases List.mem_cons.1 hr with rfl | hr
    · exact World.ownsRow_nil _ _ _ _
    · exact h.own r hr, fun r hr => by
    rcases List.mem_cons.1 hr with rfl | hr
    · intro g e; cases e
    · exact h.new r hr, fun r hr => by
    rcases List.mem_cons.1 hr with rfl | hr
    · intro p _ e; cases e
    · exact h.apartL r hr, List.Pairwise.cons (fun s _ g e => by cases e) h.apart⟩
theorem row_base {base : Nat} {e : TypeId} {size : Nat} {v : Value} {k : Nat} {xs : List Value} (h : W.ownsRow base e size v k xs) {b : Nat} (hb : ∀ g, v.ownBlock = some g → b ≤ g) : W.ownsRow b e size v k xs := by
  refine ⟨h.1, h.2.imp id ?_⟩
  rintro ⟨g, cap, cur, rfl, _, r⟩
  exact ⟨g, cap, cur, rfl, hb g rfl, r⟩
/-- A row that came in. -/
theorem RInv.take {base : Nat} {e : TypeId} {size : Nat} {v : Value} {k : Nat} {xs : List Value} (h : w.ownsRow base e size v k xs) : RInv (rowS v) w [] [⟨e, size, v, k, xs⟩] w :=
  ⟨Off.refl _ w, fun _ h => by simp at h, fun r hr => by
    obtain rfl := List.mem_singleton.1 hr
    exact row_base h fun _ _ => Nat.zero_le _, fun r hr g hg => by
    obtain rfl := List.mem_singleton.1 hr
    exact .inr hg, fun _ _ _ h => by simp at h, List.pairwise_singleton ..⟩
/-- A block that was just laid is a row of the call's own. -/
theorem RInv.lay (h : RInv S w L R W) (e : TypeId) (size : Nat) (cs : Array Value) (k cap : Nat) (hs : cs.size = cap * size) (hk : k ≤ cap) (hm : cap ≤ maxLen) :
    RInv S w L (⟨e, size, .slice (some ⟨W.heap.size, 0, none⟩) k cap, k, cs.toList.take (k * size)⟩ :: R) (W.alloc (.cells cs e)) := by
  have h1 := h.alloc (.cells cs e)
  refine ⟨h1.off, fun p hp => h1.blk p (List.mem_cons_of_mem _ hp), fun r hr => ?_, fun r hr => ?_, fun r hr p hp => ?_, List.Pairwise.cons (fun s hs' g e1 e2 => ?_) h.apart⟩
  · rcases List.mem_cons.1 hr with rfl | hr
    · refine ⟨?_, .inr ⟨W.heap.size, cap, cs, rfl, Nat.zero_le _, heap_alloc_new W _, hk, hm, hs, rfl⟩⟩
      have h3 : k * size ≤ cap * size := Nat.mul_le_mul_right _ hk
      simp only [List.length_take, Array.length_toList, hs]
      omega
    · exact h1.own r hr
  · rcases List.mem_cons.1 hr with rfl | hr
    · intro g e1
      have h2 : W.heap.size = g := by injection e1
      have := h.size
      exact .inl (by omega)
    · exact h.new r hr
  · rcases List.mem_cons.1 hr with rfl | hr
    · intro e1
      have h2 : W.heap.size = p.1 := by injection e1
      have := lt_of_heap (h.blk p hp)
      omega
    · exact h.apartL r hr p hp
  · have h2 : W.heap.size = g := by injection e1
    have := own_lt h hs' e2
    omega
/-- A row that a call has made is one of the call's own. -/
theorem RInv.got (h : RInv S w L R W) (hb : Below W.heap.size W W1) {e : TypeId} {size : Nat} {v : Value} {k : Nat} {xs : List Value} (ho : W1.ownsRow W.heap.size e size v k xs) : RInv S w L (⟨e, size, v, k, xs⟩ :: R) W1 := by
  have h1 := h.call hb
  refine ⟨h1.off, h1.blk, fun r hr => ?_, fun r hr => ?_, fun r hr p hp => ?_, List.Pairwise.cons (fun s hs' g e1 e2 => ?_) h.apart⟩
  · rcases List.mem_cons.1 hr with rfl | hr
    · exact row_base ho fun _ _ => Nat.zero_le _
    · exact h1.own r hr
  · rcases List.mem_cons.1 hr with rfl | hr
    · intro g e1
      have := (ho.lt g e1).1
      have := h.size
      exact .inl (by omega)
    · exact h.new r hr
  · rcases List.mem_cons.1 hr with rfl | hr
    · intro e1
      have := (ho.lt _ e1).1
      have := lt_of_heap (h.blk p hp)
      omega
    · exact h.apartL r hr p hp
  · have h2 := (ho.lt g e1).1
    have := own_lt h hs' e2
    omega
/-- What a law, or a contract, leaves that writes the first row. -/
theorem RInv.grow {r' : OwnR} (h : RInv S w L (r :: R) W) (hg : W.grownBy W1 r.v.ownBlock) {base : Nat} (ho : W1.ownsRow base r'.e r'.size r'.v r'.k r'.xs) (hb : r'.v.ownBlock = r.v.ownBlock ∨ ∀ g, r'.v.ownBlock = some g → W.heap.size ≤ g) : RInv S w L (r' :: R) W1 := by
  have hap := List.pairwise_cons.1 h.apart
  have hother : ∀ s ∈ R, s.v.ownBlock = none ∨ s.v.ownBlock ≠ r.v.ownBlock := by
    intro s hs
    cases e : s.v.ownBlock with
    | none => exact .inl rfl
    | some g =>
      refine .inr fun e2 => ?_
      exact hap.1 s hs g (by rw [← e2]) e
  have hblk : ∀ g, r'.v.ownBlock = some g → r.v.ownBlock = some g ∨ W.heap.size ≤ g := by
    intro g hg'
    rcases hb with hb | hb
    · exact .inl (hb ▸ hg')
    · exact .inr (hb g hg')
  refine ⟨h.off.trans (Off.ofGrown hg) fun g hlt hs => ?_, fun p hp => ?_, fun s hs => ?_, fun s hs g e => ?_, fun s hs p hp => ?_, List.Pairwise.cons (fun s hs g e1 e2 => ?_) hap.2⟩
  · rcases h.new r List.mem_cons_self g hs with e | e
    · omega
    · exact e
  · rw [hg.block p.1 (lt_of_heap (h.blk p hp)) (fun e => h.apartL r List.mem_cons_self p hp e.symm)]
    exact h.blk p hp
  · rcases List.mem_cons.1 hs with rfl | hs
    · exact row_base ho fun _ _ => Nat.zero_le _
    · exact (h.own s (List.mem_cons_of_mem _ hs)).kept hg (hother s hs)
  · rcases List.mem_cons.1 hs with rfl | hs
    · rcases hblk g e with e | e
      · exact h.new r List.mem_cons_self g e
      · have := h.size; exact .inl (by omega)
    · exact h.new s (List.mem_cons_of_mem _ hs) g e
  · rcases List.mem_cons.1 hs with rfl | hs
    · intro e
      rcases hblk _ e with e | e
      · exact h.apartL r List.mem_cons_self p hp e
      · have := lt_of_heap (h.blk p hp); omega
    · exact h.apartL s (List.mem_cons_of_mem _ hs) p hp
  · rcases hblk g e1 with e | e
    · exact hap.1 s hs g e e2
    · have := own_lt h (List.mem_cons_of_mem _ hs) e2; omega
/-- The first row is cut down: the same block. -/
theorem RInv.cut {e : TypeId} {size g k k' cap : Nat} {xs : List Value} (h : RInv S w L (⟨e, size, .slice (some ⟨g, 0, none⟩) k cap, k, xs⟩ :: R) W) (hk : k' ≤ k) :
    RInv S w L (⟨e, size, .slice (some ⟨g, 0, none⟩) k' cap, k', xs.take (k' * size)⟩ :: R) W := by
  have hap := List.pairwise_cons.1 h.apart
  refine ⟨h.off, h.blk, fun s hs => ?_, fun s hs g' e' => ?_, fun s hs p hp => ?_, List.Pairwise.cons (fun s hs g' e1 => hap.1 s hs g' e1) hap.2⟩
  · rcases List.mem_cons.1 hs with rfl | hs
    · have ho := h.own _ List.mem_cons_self
      rcases ho.2 with ⟨h', _⟩ | ⟨g', cap', cur, h', hb, hh, hnc, hcm, hcs, htake⟩
      · simp at h'
      · simp only [Value.slice.injEq, Option.some.injEq, Addr.mk.injEq, and_true, true_and] at h'
        obtain ⟨rfl, rfl⟩ := h'
        have h3 : k' * size ≤ k * size := Nat.mul_le_mul_right _ hk
        refine ⟨?_, .inr ⟨g, cap, cur, rfl, hb, hh, (show k' ≤ cap from Nat.le_trans hk hnc), hcm, hcs, ?_⟩⟩
        · have := ho.1
          simp only at this ⊢
          rw [List.length_take, this]
          omega
        · simp only at htake ⊢
          rw [← htake, List.take_take, Nat.min_eq_left h3]
    · exact h.own s (List.mem_cons_of_mem _ hs)
  · rcases List.mem_cons.1 hs with rfl | hs
    · exact h.new _ List.mem_cons_self g' e'
    · exact h.new s (List.mem_cons_of_mem _ hs) g' e'
  · rcases List.mem_cons.1 hs with rfl | hs
    · exact h.apartL _ List.mem_cons_self p hp
    · exact h.apartL s (List.mem_cons_of_mem _ hs) p hp
theorem RInv.own1 {e : TypeId} {size k : Nat} {v : Value} {xs : List Value} (h : RInv S w L (⟨e, size, v, k, xs⟩ :: R) W) : W.ownsRow 0 e size v k xs := h.own _ List.mem_cons_self
theorem RInv.own2 {e : TypeId} {size k : Nat} {v : Value} {xs : List Value} (h : RInv S w L (r :: ⟨e, size, v, k, xs⟩ :: R) W) : W.ownsRow 0 e size v k xs := h.own _ (List.mem_cons_of_mem _ List.mem_cons_self)
theorem RInv.own3 {r2 : OwnR} {e : TypeId} {size k : Nat} {v : Value} {xs : List Value} (h : RInv S w L (r :: r2 :: ⟨e, size, v, k, xs⟩ :: R) W) : W.ownsRow 0 e size v k xs := h.own _ (List.mem_cons_of_mem _ (List.mem_cons_of_mem _ List.mem_cons_self))
/-- What is handed back: it lies in blocks of the call's own. -/
theorem RInv.fresh {e : TypeId} {size k : Nat} {v : Value} {xs : List Value} (h : RInv noS w L (⟨e, size, v, k, xs⟩ :: R) W) : W.ownsRow w.heap.size e size v k xs := row_base h.own1 fun g hg => (h.new _ List.mem_cons_self g hg).elim id False.elim
theorem row_block {v v' : Value} {m : Nat} (h : ∀ g, v'.ownBlock = some g → m ≤ g ∨ rowS v g) : v'.ownBlock = v.ownBlock ∨ ∀ g, v'.ownBlock = some g → m ≤ g := by
  cases e : v'.ownBlock with
  | none => exact .inr fun g hg => by cases hg
  | some g =>
    rcases h g e with h1 | h1
    · exact .inr fun g' hg => by injection hg with hg; omega
    · exact .inl h1.symm
/-- A slice's length: for a loop's measure. -/
def lenOfV : Value → Nat | .slice _ n _ => n | _ => 0
theorem row_len {base : Nat} {e : TypeId} {size : Nat} {v : Value} {k : Nat} {xs : List Value} (h : W.ownsRow base e size v k xs) : lenOfV v = k := by
  rcases h.2 with ⟨rfl, rfl⟩ | ⟨g, cap, cur, rfl, _⟩ <;> rfl
/-- A row that is not empty lies at the head of a block. -/
theorem row_form {base : Nat} {e : TypeId} {size : Nat} {v : Value} {k : Nat} {xs : List Value} (h : W.ownsRow base e size v k xs) (hk : 0 < k) :
    ∃ g cap cur, v = .slice (some ⟨g, 0, none⟩) k cap ∧ base ≤ g ∧ W.heap[g]? = some (.cells cur e (0, 0)) ∧ k ≤ cap ∧ cap ≤ maxLen ∧ cur.toList.take (k * size) = xs := by
  rcases h.2 with ⟨_, h0⟩ | ⟨g, cap, cur, rfl, hb, hh, hnc, hcm, _, ht⟩
  · omega
  · exact ⟨g, cap, cur, rfl, hb, hh, hnc, hcm, ht⟩
/-- Any row is some slice. -/
theorem row_slice {base : Nat} {e : TypeId} {size : Nat} {v : Value} {k : Nat} {xs : List Value} (h : W.ownsRow base e size v k xs) : ∃ q cap, v = .slice q k cap ∧ k ≤ cap ∧ cap ≤ maxLen := by
  rcases h.2 with ⟨rfl, rfl⟩ | ⟨g, cap, cur, rfl, hb, hh, hnc, hcm, _, ht⟩
  · exact ⟨none, 0, rfl, Nat.le_refl _, by unfold maxLen; omega⟩
  · exact ⟨some ⟨g, 0, none⟩, cap, rfl, hnc, hcm⟩
theorem row_cell {base : Nat} {e : TypeId} {size g k : Nat} {v : Value} {xs : List Value} (h : W.ownsRow base e size v k xs) (hv : v.ownBlock = some g) {j : Nat} {u : Value} (hu : xs[j]? = some u) : W.cell? ⟨g, j, none⟩ = some u := by
  have := h.cells hv j u hu
  rwa [addr_add] at this

/-- append, of whatever slice, onto a row of the call's own. -/
theorem run_app {P : Program} (W : World) (base : Nat) (t ty e : TypeId) (z : Value) (size bytes : Nat) (hT : ElemT P t e z size bytes) (v : Value) (k : Nat) (xs : List Value) (hown : W.ownsRow base e size v k xs)
    (q : Option Addr) (m c : Nat) (news : List Value) (hl : news.length = m * size) (hq : m ≠ 0 → ∃ ad, q = some ad ∧ ∀ j u, news[j]? = some u → W.cell? (ad.add j) = some u) (h1 : ∀ u ∈ news, u.oneCell' = true)
    (h63 : k + m ≤ maxLen) (hbytes : (k + m) * bytes ≤ 140737488355328) (hbase : base ≤ W.heap.size) :
    ∃ v' W', (Builtin.append_ #[t, t] ty #[v, .slice q m c]).run P W = .ok v' W' ∧ W'.ownsRow base e size v' (k + m) (xs ++ news) ∧ W.grownBy W' v.ownBlock ∧ (v'.ownBlock = v.ownBlock ∨ ∀ g, v'.ownBlock = some g → W.heap.size ≤ g) := by
  obtain ⟨i, hi, hz, hsz, hb⟩ := info_parts hT.info
  cases q with
  | some ad =>
    obtain ⟨v', W', hr, h2, h3, _, h5⟩ := run_append_own_at (P := P) W base t ty e i z size bytes hT.slice hi hz hsz hb hT.cells hT.pos v k xs hown ad m c news hl (fun j u hj => by
      by_cases hm : m = 0
      · subst hm
        have : news = [] := List.eq_nil_of_length_eq_zero (by simpa using hl)
        subst this; simp at hj
      · obtain ⟨ad', e', hc⟩ := hq hm
        injection e' with e'; subst e'
        exact hc j u hj) h1 h63 hbytes hbase
    exact ⟨v', W', hr, h2, h3, h5.imp id fun h g hg => by rw [h] at hg; injection hg with hg; omega⟩
  | none =>
    have hm : m = 0 := Classical.byContradiction fun h => by obtain ⟨ad, e', _⟩ := hq h; cases e'
    subst hm
    have : news = [] := List.eq_nil_of_length_eq_zero (by simpa using hl)
    subst this
    refine ⟨v, W, ?_, by simpa using hown, ⟨rfl, rfl, rfl, Nat.le_refl _, fun _ _ _ => rfl⟩, .inl rfl⟩
    rcases hown.2 with ⟨rfl, rfl⟩ | ⟨g, cap, cur, rfl, _, _, hnc, _⟩
    · simp [Builtin.append_, run_underlying hT.slice, sizeOf, typeInfo, hi, Builtin.lenOf, Builtin.firstCells]
    · simp [Builtin.append_, run_underlying hT.slice, sizeOf, typeInfo, hi, Builtin.lenOf, Builtin.firstCells, hnc, storeCells]
/-- 'out = append(out, xs...)' onto the first row; where the new slice lies. -/
theorem app_rowB {P : Program} {t e : TypeId} {z : Value} {size bytes : Nat} {v : Value} {k : Nat} {xs : List Value} {ops : Array Oper} {rest : List Oper} {o : Oper} {a : Act} {Q : Exit → Act → World → Prop} (hT : ElemT P t e z size bytes) (hgd : o.guard = none) (s x : Operand)
    (ho : o.op = .call { callee := .builtin .append, args := #[s, x], argTypes := #[t, t] }) (q : Option Addr) (m c : Nat) (news : List Value) (hs : a.eval s = v) (hx : a.eval x = .slice q m c) (hl : news.length = m * size)
    (hq : m ≠ 0 → ∃ ad, q = some ad ∧ ∀ j u, news[j]? = some u → W.cell? (ad.add j) = some u) (h1 : ∀ u ∈ news, u.oneCell' = true)
    (h : RInv S w L (⟨e, size, v, k, xs⟩ :: R) W) (h63 : k + m ≤ maxLen) (hby : (k + m) * bytes ≤ 140737488355328)
    (hk : ∀ v' W', RInv S w L (⟨e, size, v', k + m, xs ++ news⟩ :: R) W' → W.grownBy W' v.ownBlock → (v'.ownBlock = v.ownBlock ∨ ∀ g, v'.ownBlock = some g → W.heap.size ≤ g) → wpList P ops Q rest (a.put o.dst v') W') : wpList P ops Q (o :: rest) a W := by
  refine wpList_plain hgd fun K hK => ?_
  obtain ⟨v', W', hr, h2, h3, h5⟩ := run_app (P := P) W 0 t o.type e z size bytes hT v k xs (h.own _ List.mem_cons_self) q m c news hl hq h1 h63 hby (Nat.zero_le _)
  unfold Oper.wp execOp
  simp only [ho, resolve, invoke, builtin, Sem.run_bind, Sem.run_pure, Result.andThen_ok, List.map_toArray, List.map_cons, List.map_nil, hs, hx, hr]
  exact hK _ _ (hk v' W' (h.grow (r' := ⟨e, size, v', k + m, xs ++ news⟩) h3 h2 h5) h3 h5)
/-- 'out = append(out, xs...)' onto the first row. -/
theorem app_row {P : Program} {t e : TypeId} {z : Value} {size bytes : Nat} {v : Value} {k : Nat} {xs : List Value} {ops : Array Oper} {rest : List Oper} {o : Oper} {a : Act} {Q : Exit → Act → World → Prop} (hT : ElemT P t e z size bytes) (hgd : o.guard = none) (s x : Operand)
    (ho : o.op = .call { callee := .builtin .append, args := #[s, x], argTypes := #[t, t] }) (q : Option Addr) (m c : Nat) (news : List Value) (hs : a.eval s = v) (hx : a.eval x = .slice q m c) (hl : news.length = m * size)
    (hq : m ≠ 0 → ∃ ad, q = some ad ∧ ∀ j u, news[j]? = some u → W.cell? (ad.add j) = some u) (h1 : ∀ u ∈ news, u.oneCell' = true)
    (h : RInv S w L (⟨e, size, v, k, xs⟩ :: R) W) (h63 : k + m ≤ maxLen) (hby : (k + m) * bytes ≤ 140737488355328)
    (hk : ∀ v' W', RInv S w L (⟨e, size, v', k + m, xs ++ news⟩ :: R) W' → W.grownBy W' v.ownBlock → wpList P ops Q rest (a.put o.dst v') W') : wpList P ops Q (o :: rest) a W :=
  app_rowB hT hgd s x ho q m c news hs hx hl hq h1 h h63 hby fun v' W' h2 h3 _ => hk v' W' h2 h3
/-- 'out = append(out, x)' onto the first row: x lies in a new block of its own; where the new slice lies. -/
theorem app_newB {P : Program} {t e : TypeId} {z : Value} {size bytes : Nat} {v : Value} {k : Nat} {xs : List Value} {ops : Array Oper} {rest : List Oper} {o : Oper} {a : Act} {Q : Exit → Act → World → Prop} (hT : ElemT P t e z size bytes) (hgd : o.guard = none) (s x : Operand)
    (ho : o.op = .call { callee := .builtin .append, args := #[s, x], argTypes := #[t, t] }) (news : Array Value) (hs : a.eval s = v) (hx : a.eval x = .slice (some ⟨W.heap.size, 0, none⟩) 1 1) (hl : news.size = size) (h1 : news.all (·.oneCell') = true)
    (h : RInv S w L (⟨e, size, v, k, xs⟩ :: R) W) (h63 : k + 1 ≤ maxLen) (hby : (k + 1) * bytes ≤ 140737488355328)
    (hk : ∀ v' W', RInv S w L (⟨e, size, v', k + 1, xs ++ news.toList⟩ :: R) W' → W.grownBy W' v.ownBlock → (v'.ownBlock = v.ownBlock ∨ ∀ g, v'.ownBlock = some g → W.heap.size ≤ g) → wpList P ops Q rest (a.put o.dst v') W') : wpList P ops Q (o :: rest) a (W.alloc (.cells news e)) := by
  have hnew : (W.alloc (.cells news e)).heap[W.heap.size]? = some (.cells news e) := heap_alloc_new W _
  refine app_rowB hT hgd s x ho (some ⟨W.heap.size, 0, none⟩) 1 1 news.toList hs hx (by simp [hl]) (fun _ => ⟨_, rfl, fun j u hj => ?_⟩) (fun u hu => (Array.all_eq_true_iff_forall_mem.1 h1) u (by simpa using hu)) (h.alloc (.cells news e)) h63 hby fun v' W' hR hg hb => hk v' W' (hR.subL fun p hp => List.mem_cons_of_mem _ hp) ?_ (hb.imp id fun h g hg => by have := h g hg; rw [World.size_alloc] at this; omega)
  · rw [addr_add, cell_of_row _ _ _ _ _ _ hnew]
    simpa using hj
  · refine ⟨hg.os, hg.tape, hg.output, Nat.le_trans (by simp) hg.size, fun b hb hne => ?_⟩
    rw [hg.block b (by simp; omega) hne]
    exact Below.heap_alloc W _ b hb
/-- 'out = append(out, x)' onto the first row: x lies in a new block of its own. -/
theorem app_new {P : Program} {t e : TypeId} {z : Value} {size bytes : Nat} {v : Value} {k : Nat} {xs : List Value} {ops : Array Oper} {rest : List Oper} {o : Oper} {a : Act} {Q : Exit → Act → World → Prop} (hT : ElemT P t e z size bytes) (hgd : o.guard = none) (s x : Operand)
    (ho : o.op = .call { callee := .builtin .append, args := #[s, x], argTypes := #[t, t] }) (news : Array Value) (hs : a.eval s = v) (hx : a.eval x = .slice (some ⟨W.heap.size, 0, none⟩) 1 1) (hl : news.size = size) (h1 : news.all (·.oneCell') = true)
    (h : RInv S w L (⟨e, size, v, k, xs⟩ :: R) W) (h63 : k + 1 ≤ maxLen) (hby : (k + 1) * bytes ≤ 140737488355328)
    (hk : ∀ v' W', RInv S w L (⟨e, size, v', k + 1, xs ++ news.toList⟩ :: R) W' → W.grownBy W' v.ownBlock → wpList P ops Q rest (a.put o.dst v') W') : wpList P ops Q (o :: rest) a (W.alloc (.cells news e)) :=
  app_newB hT hgd s x ho news hs hx hl h1 h h63 hby fun v' W' h2 h3 _ => hk v' W' h2 h3
/-- The same as one step of a region that draws its order. -/
theorem step_app {P : Program} {t e : TypeId} {z : Value} {size bytes : Nat} {v : Value} {k : Nat} {xs : List Value} {ops : Array Oper} {o : Oper} {a : Act} {K : Act → World → Prop} {Q : Exit → Act → World → Prop} {E : Prop} (hT : ElemT P t e z size bytes) (hgd : o.guard = none) (s x : Operand)
    (ho : o.op = .call { callee := .builtin .append, args := #[s, x], argTypes := #[t, t] }) (q : Option Addr) (m c : Nat) (news : List Value) (hs : a.eval s = v) (hx : a.eval x = .slice q m c) (hl : news.length = m * size)
    (hq : m ≠ 0 → ∃ ad, q = some ad ∧ ∀ j u, news[j]? = some u → W.cell? (ad.add j) = some u) (h1 : ∀ u ∈ news, u.oneCell' = true)
    (h : RInv S w L (⟨e, size, v, k, xs⟩ :: R) W) (h63 : k + m ≤ maxLen) (hby : (k + m) * bytes ≤ 140737488355328)
    (hk : ∀ v' W', RInv S w L (⟨e, size, v', k + m, xs ++ news⟩ :: R) W' → W.grownBy W' v.ownBlock → (v'.ownBlock = v.ownBlock ∨ ∀ g, v'.ownBlock = some g → W.heap.size ≤ g) → K (a.put o.dst v') W') :
    if Region.wanted o (yielded ops a.tmps) = true then Oper.wp P o a W K Q else E := by
  have hw : Region.wanted o (yielded ops a.tmps) = true := by simp [Region.wanted, hgd]
  rw [if_pos hw]
  obtain ⟨v', W', hr, h2, h3, h5⟩ := run_app (P := P) W 0 t o.type e z size bytes hT v k xs (h.own _ List.mem_cons_self) q m c news hl hq h1 h63 hby (Nat.zero_le _)
  unfold Oper.wp execOp
  simp only [ho, resolve, invoke, builtin, Sem.run_bind, Sem.run_pure, Result.andThen_ok, List.map_toArray, List.map_cons, List.map_nil, hs, hx, hr]
  exact hk v' W' (h.grow (r' := ⟨e, size, v', k + m, xs ++ news⟩) h3 h2 h5) h3 h5
/-- A block that is held whole is written, by whatever law. -/
theorem RInv.turn {b : Nat} {o o' : Obj} (h : RInv S w ((b, o) :: L) R W) {W' : World} (hg : W.grownBy W' (some b)) (ho : W'.heap[b]? = some o') (hb : w.heap.size ≤ b ∨ S b) (hn : ∀ p ∈ L, p.1 ≠ b) : RInv S w ((b, o') :: L) R W' := by
  have ha : ∀ r ∈ R, r.v.ownBlock ≠ some b := fun r hr => h.apartL r hr _ List.mem_cons_self
  refine ⟨h.off.trans (Off.ofSome hg) fun g hlt e => ?_, fun p hp => ?_, fun r hr => (h.own r hr).kept hg (.inr (ha r hr)), h.new, fun r hr p hp => ?_, h.apart⟩
  · subst e
    rcases hb with hb | hb
    · omega
    · exact hb
  · rcases List.mem_cons.1 hp with rfl | hp
    · exact ho
    · rw [hg.block p.1 (lt_of_heap (h.blk p (List.mem_cons_of_mem _ hp))) (fun e => hn p hp (by injection e))]
      exact h.blk p (List.mem_cons_of_mem _ hp)
  · rcases List.mem_cons.1 hp with rfl | hp
    · exact ha r hr
    · exact h.apartL r hr p (List.mem_cons_of_mem _ hp)
theorem grown_setCell (W : World) (g i : Nat) (v : Value) : W.grownBy (W.setCell ⟨g, i, none⟩ v) (some g) := ⟨rfl, rfl, rfl, by simp [World.setCell], fun k _ hk => heap_setCell_other _ _ _ _ fun e => hk (by rw [e])⟩
/-- A store into a block that is held whole. -/
theorem RInv.setCell {g i : Nat} {cs : Array Value} {t : TypeId} (v : Value) (h : RInv S w ((g, .cells cs t (0, 0)) :: L) R W) (hg : w.heap.size ≤ g ∨ S g) (hn : ∀ p ∈ L, p.1 ≠ g) : RInv S w ((g, .cells (cs.setIfInBounds i v) t (0, 0)) :: L) R (W.setCell ⟨g, i, none⟩ v) :=
  h.turn (grown_setCell _ _ _ _) (heap_setCell_same _ _ _ _ _ _ (h.at List.mem_cons_self)) hg hn
/-- A value of one cell is stored into a block that the walk holds whole. -/
theorem rinv_store {P : Program} {ops : Array Oper} {rest : List Oper} {o : Oper} {a : Act} {Q : Exit → Act → World → Prop} (hgd : Region.wanted o (yielded ops a.tmps) = true) (ty : TypeId) (x y : Operand) (ho : o.op = .store ty x y)
    (g i : Nat) (cs : Array Value) (t : TypeId) (v : Value) (hx : a.eval x = .pointer (some ⟨g, i, none⟩)) (hy : a.eval y = v) (h1 : v.oneCell' = true) (hi : (P.info? ty).map (·.size) = some 1) (hlt : i < cs.size)
    (hI : RInv S w ((g, .cells cs t (0, 0)) :: L) R W) (hg : w.heap.size ≤ g ∨ S g) (hn : ∀ p ∈ L, p.1 ≠ g)
    (hk : ∀ W', RInv S w ((g, .cells (cs.setIfInBounds i v) t (0, 0)) :: L) R W' → W' = W.setCell ⟨g, i, none⟩ v → wpList P ops Q rest (a.put o.dst undef) W') : wpList P ops Q (o :: rest) a W := by
  rw [wpList, if_pos hgd]
  refine .inl ?_
  have hb := hI.at (g := g) List.mem_cons_self
  have hcell : W.cell? ⟨g, i, none⟩ = some cs[i] := by rw [cell_of_row _ _ _ _ _ _ hb]; simp [hlt]
  have hfro : W.frozen? ⟨g, i, none⟩ = false := frozen_of_row _ _ _ _ _ hb
  have hc : v.cells = #[v] := by cases v <;> first | rfl | cases h1
  have hst : (storeVar ty ⟨g, i, none⟩ v).run P W = .ok () (W.setCell ⟨g, i, none⟩ v) := by
    have hs := run_store P W ⟨g, i, none⟩ v .plain h1
    rw [hcell] at hs
    simp only [hfro, Bool.false_eq_true, if_false] at hs
    cases hq : P.info? ty with
    | none => simp [hq] at hi
    | some ti =>
      have hsz : ti.size = 1 := by simpa [hq] using hi
      have hadd : (⟨g, i, none⟩ : Addr).add 0 = ⟨g, i, none⟩ := by rw [Addr.add_mid]; rfl
      simp [storeVar, sizeOf, typeInfo, hq, hc, hsz, storeCells, Sem.run_bind, hadd, hs]
  unfold Oper.wp execOp
  simp only [ho, hx, hy, Instr.storeAt, Instr.sureAddr, Sem.run_bind, Sem.run_pure, Result.andThen_ok, hst]
  exact hk _ (hI.setCell v hg hn) rfl
theorem grown_setRow (W : World) (g : Nat) (cs : Array Value) : W.grownBy (W.setRow g cs) (some g) := ⟨rfl, rfl, rfl, by simp, fun k _ hk => setRow_other _ g k _ fun e => hk (by rw [e])⟩
/-- A whole value is stored into a block that the walk holds whole. -/
theorem rinv_row {P : Program} {ops : Array Oper} {rest : List Oper} {o : Oper} {a : Act} {Q : Exit → Act → World → Prop} (hgd : Region.wanted o (yielded ops a.tmps) = true) (ty : TypeId) (x y : Operand) (ho : o.op = .store ty x y)
    (g : Nat) (old cells : Array Value) (t : TypeId) (hx : a.eval x = .pointer (some ⟨g, 0, none⟩)) (hy : a.eval y = .agg cells) (h1 : cells.all (·.oneCell') = true) (hi : (P.info? ty).map (·.size) = some cells.size) (hold : old.size = cells.size)
    (hI : RInv S w ((g, .cells old t (0, 0)) :: L) R W) (hg : w.heap.size ≤ g ∨ S g) (hn : ∀ p ∈ L, p.1 ≠ g)
    (hk : ∀ W', RInv S w ((g, .cells cells t (0, 0)) :: L) R W' → W.grownBy W' (some g) → wpList P ops Q rest (a.put o.dst undef) W') : wpList P ops Q (o :: rest) a W := by
  rw [wpList, if_pos hgd]
  have hb := hI.at (g := g) List.mem_cons_self
  exact .inl (wp_store_row _ x y ho g _ hx hy t old hb hi hold h1 (hk _ (hI.turn (grown_setRow _ _ _) (setRow_heap _ g _ _ _ _ hb) hg hn) (grown_setRow _ _ _)))
end Go.Proofs.YtcenjpaiehidjaaDoor

/- A map from ints to ints that the call itself has made, as a block that the walk holds whole. -/
namespace Go.Proofs.YtcenjpaiehidjaaDoor
open Go.RowKit
open Go.Maps

/-- o is a map of at most n entries that tells f. -/
def MapI (P : Program) (k e : TypeId) (n : Nat) (f : Int → Int) (o : Obj) : Prop :=
  ∃ D : DataW Unit, (∀ (W : World) (b : Nat), W.heap[b]? = some o → W.ownsMap P k (plainElem P e) b n D) ∧ IsMap D ∧ ∀ j : Int, D.atKey (.int .i64 j) (.lit (.int .i64 0)) = .lit (.int .i64 (f j))
/-- A map's type. -/
structure MapT (P : Program) (t k e : TypeId) : Prop where
  map : P.underlying t = some (.map k e)
  key : P.underlying k = some (.int .i64)
  elem : P.underlying e = some (.int .i64)
  zero : ∀ w : World, (zeroValue e).run P w = .ok (.int .i64 0) w
variable {P : Program} {t k e : TypeId} {m n : Nat} {S : Nat → Prop} {w W : World} {f : Int → Int} {o : Obj} {L : List (Nat × Obj)} {R : List OwnR} {b : Nat}
theorem MapI.made (P : Program) (k e : TypeId) : MapI P k e 0 (fun _ => 0) (.map #[] 0) :=
  ⟨.map [], fun W b hb => ⟨#[], 0, hb, ⟨by simp, Go.MapKept.stamped_empty 0, by simp⟩, Nat.le_refl _, rfl⟩, ⟨[], rfl⟩, fun _ => rfl⟩
theorem MapI.lookup (hT : MapT P t k e) (h : MapI P k e m f o) (hb : W.heap[b]? = some o) {j : Int} (hj : -9223372036854775808 ≤ j ∧ j ≤ 9223372036854775807) :
    (Instr.lookup t (.map (some b)) (.int .i64 j) false).run P W = .ok (.int .i64 (f j)) W := by
  obtain ⟨D, h1, _, h3⟩ := h
  obtain ⟨c, hr, hat, _⟩ := (h1 W b hb).lookup_int (int_keyed hT.key) hT.map hT.elem (hT.zero W) (keyOf_int_mk hT.key (WalkArith.wf_i64 hj))
  rw [h3 j] at hat
  injection hat with hat
  injection hat with _ hat
  rw [hr, ← hat]
theorem MapI.update (hT : MapT P t k e) (h : MapI P k e m f o) (hb : W.heap[b]? = some o) (hm : m < maxLen) {j v : Int} (hj : -9223372036854775808 ≤ j ∧ j ≤ 9223372036854775807) (hv : -9223372036854775808 ≤ v ∧ v ≤ 9223372036854775807) :
    ∃ o' W', (Instr.mapUpdate t (.map (some b)) (.int .i64 j) (.int .i64 v)).run P W = .ok () W' ∧ MapI P k e (m + 1) (fun i => if i = j then v else f i) o' ∧ W'.heap[b]? = some o' ∧ W.grownBy W' (some b) := by
  obtain ⟨D, h1, h2, h3⟩ := h
  obtain ⟨W', hr, ho, hg⟩ := (h1 W b hb).update (int_keyed hT.key) hT.map hm (keyOf_int_mk hT.key (WalkArith.wf_i64 hj)) (plainElem_int hT.elem (WalkArith.wf_i64 hv))
  obtain ⟨es, clock, hb', F, hs, hD⟩ := ho
  refine ⟨_, W', hr, ⟨D.put (.int .i64 j) (.lit (.int .i64 v)), fun W2 b2 hb2 => ⟨es, clock, hb2, F, hs, hD⟩, ⟨_, hD⟩, fun i => ?_⟩, hb', hg⟩
  by_cases hi : i = j
  · subst hi
    rw [atKey_put_same h2 (show WideAt.IsKeyLit (.int .i64 i) from trivial)]
    simp
  · rw [atKey_put_other (by intro e; injection e with _ e; exact hi e), h3 i]
    simp [hi]
/-- 'm[j] = v'. -/
theorem map_put {ops : Array Oper} {rest : List Oper} {c : Oper} {a : Act} {Q : Exit → Act → World → Prop} (hT : MapT P t k e) (hgd : c.guard = none) (mo x v : Operand) (hop : c.op = Op.mapUpdate t mo x v) (j u : Int)
    (h1 : a.eval mo = .map (some b)) (h2 : a.eval x = .int .i64 j) (h3 : a.eval v = .int .i64 u) (hI : RInv S w ((b, o) :: L) R W) (hM : MapI P k e m f o) (hm : m < maxLen)
    (hj : -9223372036854775808 ≤ j ∧ j ≤ 9223372036854775807) (hu : -9223372036854775808 ≤ u ∧ u ≤ 9223372036854775807) (hb : w.heap.size ≤ b ∨ S b) (hn : ∀ p ∈ L, p.1 ≠ b)
    (hk : ∀ o' W', RInv S w ((b, o') :: L) R W' → MapI P k e (m + 1) (fun i => if i = j then u else f i) o' → W.grownBy W' (some b) → wpList P ops Q rest (a.put c.dst undef) W') : wpList P ops Q (c :: rest) a W := by
  refine wpList_plain hgd fun K hK => ?_
  obtain ⟨o', W', hr, hM', hb', hg⟩ := hM.update hT (hI.at List.mem_cons_self) hm hj hu
  unfold Oper.wp
  simp only [execOp, hop, h1, h2, h3, Sem.run_bind, Sem.run_pure, hr, Result.andThen_ok]
  exact hK _ _ (hk o' W' (hI.turn hg hb' hb hn) hM' hg)
/-- 'make(map[int]int, n)'. -/
theorem run_made (hT : MapT P t k e) (x : Int) : (Instr.makeMap t (some (.int .i64 x))).run P W = .ok (.map (some W.heap.size)) (W.alloc (.map #[] 0)) := by
  simp only [Instr.makeMap, Sem.run_bind, run_underlying hT.map, Result.andThen_ok]
  rfl
end Go.Proofs.YtcenjpaiehidjaaDoor
