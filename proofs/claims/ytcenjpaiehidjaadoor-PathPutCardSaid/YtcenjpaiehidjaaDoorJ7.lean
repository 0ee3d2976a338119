/- slices.Reverse on a row of ints of the call's own. -/
import Derived.Test.YtcenjpaiehidjaaDoorJ6
import Derived.Test.YtcenjpaiehidjaaDoorShelf
import Derived.Test.YtcenjpaiehidjaaDoorJ5
import Derived.Deep.OwnRows
set_option linter.unusedSimpArgs false
set_option linter.unusedVariables false
namespace Go.Proofs.YtcenjpaiehidjaaDoor
open Go.RowKit
set_option maxRecDepth 100000

theorem putCells_rev (l m : List Int) (cur : Array Value) (h : cur.toList.take l.length = intC l) (hc : l.length ≤ cur.size) (hm : m.length = l.length) : (Sort.putCells (Value.int .i64) 0 m.toArray cur).toList.take l.length = intC m := by
  apply List.ext_getElem?
  intro j
  rw [List.getElem?_take]
  by_cases hj : j < l.length
  · rw [if_pos hj]
    have h1 : j < cur.size := by omega
    simp only [Array.getElem?_toList, Sort.putCells, Array.getElem?_mapIdx, Array.getElem?_eq_getElem h1, Option.map_some]
    rw [if_pos ⟨by omega, by simp; omega⟩]
    simp [List.getElem?_eq_getElem (show j < m.length by omega), getElem!_pos m.toArray j (by simpa [hm] using hj)]
  · rw [if_neg hj]
    simp [List.getElem?_eq_none (show m.length ≤ j by omega)]
theorem own_putRow {W : World} {base g cap : Nat} {l m : List Int} (n : Nat) (h : W.ownsRow base 3 1 (.slice (some ⟨g, 0, none⟩) l.length cap) l.length (intC l)) (hm : m.length = l.length) :
    (Sort.putRow (Value.int .i64) (Sort.ahead W n) g 0 m.toArray).ownsRow base 3 1 (.slice (some ⟨g, 0, none⟩) l.length cap) l.length (intC m) ∧ W.grownBy (Sort.putRow (Value.int .i64) (Sort.ahead W n) g 0 m.toArray) (some g) := by
  rcases h.2 with ⟨h', _⟩ | ⟨g', cap', cur, h', hb, hh, hnc, hcm, hcs, htake⟩
  · simp at h'
  · simp only [Value.slice.injEq, Option.some.injEq, Addr.mk.injEq, and_true, true_and] at h'
    obtain ⟨rfl, rfl⟩ := h'
    refine ⟨⟨by simp [hm], .inr ⟨g, cap, Sort.putCells (Value.int .i64) 0 m.toArray cur, rfl, hb, ?_, hnc, hcm, by simp [Sort.putCells, hcs], ?_⟩⟩, ⟨rfl, rfl, rfl, by simp [Sort.putRow, Sort.mapBlock, Sort.ahead], fun k hk hne => ?_⟩⟩
    · simp [Sort.putRow, Sort.mapBlock, Sort.ahead, Array.getElem?_modify, hh, Sort.onCells]
    · rw [Nat.mul_one] at htake ⊢
      exact putCells_rev l m cur htake (by rw [hcs]; omega) hm
    · have hne' : ¬ g = k := fun e => hne (by rw [e])
      simp [Sort.putRow, Sort.mapBlock, Sort.ahead, Array.getElem?_modify, hne']
/-- slices.Reverse. -/
theorem rev_any (v : Value) (base : Nat) (l : List Int) (hl : l.length ≤ 1000000) (W : World) (h : W.ownsRow base 3 1 v l.length (intC l)) :
    Calls Tryd.prog 60 #[v] W fun e W' => e = .returned (.tuple #[]) ∧ W'.ownsRow base 3 1 v l.length (intC l.reverse) ∧ W.grownBy W' v.ownBlock := by
  by_cases h0 : l.length = 0
  · have : l = [] := List.eq_nil_of_length_eq_zero h0
    subst this
    obtain ⟨q, cap, rfl, _⟩ := row_slice h
    refine (Tryd.slices_Reverse_int_empty q cap W).mono ?_
    rintro e W' ⟨rfl, rfl⟩
    exact ⟨rfl, by simpa using h, ⟨rfl, rfl, rfl, Nat.le_refl _, fun _ _ _ => rfl⟩⟩
  · obtain ⟨g, cap, cur, rfl, hb, hh, _⟩ := row_form h (by omega)
    refine (Tryd.slices_Reverse_int g 0 cap l W (fun j hj => ⟨?_, frozen_of_row _ _ _ _ _ hh⟩) (by omega)).mono ?_
    · have hj' : j < l.length := by simpa using hj
      rw [Nat.zero_add]
      have := row_cell h rfl (intC_get (List.getElem?_eq_getElem hj'))
      rw [this]
      simp [getElem!_pos l.toArray j hj]
    · rintro e W' ⟨rfl, n, rfl⟩
      obtain ⟨h1, h2⟩ := own_putRow n h (m := l.reverse) (by simp)
      exact ⟨rfl, h1, h2⟩
end Go.Proofs.YtcenjpaiehidjaaDoor

/- Contract of tree.put: what stands at a node, behind other nodes, clean. -/
namespace Go.Proofs.YtcenjpaiehidjaaDoor
open Go.RowKit
set_option maxRecDepth 100000

theorem nodeT : ElemT Tryd.prog 22 56 (ndV ⟨0, 0, [], 0, 0⟩ none 0 0) 9 96 := ⟨by kernel_rfl, by kernel_rfl, rfl, by decide⟩
theorem placeT : MapT Tryd.prog 90 3 3 := ⟨by kernel_rfl, by kernel_rfl, by kernel_rfl, fun w => by kernel_rfl⟩
/-- The cells of nodes, one behind the other; F: in which blocks their kids' numbers lie. -/
structure NodesIn (W : World) (F : Nat → TypeId → Prop) (xs : List Value) (ns : List Nd) : Prop where
  len : xs.length = ns.length * 9
  get : ∀ (j : Nat) nd, ns[j]? = some nd → ∃ q cap, HdOk nd.hd ∧ (∀ i v, (ndC nd.hd q nd.kids.length cap)[i]? = some v → xs[j * 9 + i]? = some v) ∧ IntsAt W F q nd.kids
theorem NodesIn.nil (W : World) (F : Nat → TypeId → Prop) : NodesIn W F [] [] := ⟨rfl, fun j nd h => by simp at h⟩
theorem NodesIn.turn {W W' : World} {F F' : Nat → TypeId → Prop} {xs : List Value} {ns : List Nd} (h : NodesIn W F xs ns) (hF : ∀ b, F b 3 → b < W.heap.size → W'.heap[b]? = W.heap[b]? ∧ F' b 3) : NodesIn W' F' xs ns :=
  ⟨h.len, fun j nd hj => by
    obtain ⟨q, cap, h1, h2, h3⟩ := h.get j nd hj
    refine ⟨q, cap, h1, h2, fun hl => ?_⟩
    obtain ⟨b, o, e, hb, hc⟩ := h3 hl
    have hlt : b < W.heap.size := by
      cases hk : nd.kids with
      | nil => exact absurd hk hl
      | cons x l => exact block_lt_of_cell (hc 0 x (by rw [hk]; rfl))
    obtain ⟨hk, hf⟩ := hF b hb hlt
    refine ⟨b, o, e, hf, fun j k hj => ?_⟩
    rw [World.cell?_of_block (a := ⟨b, o + j, none⟩) hk]
    exact hc j k hj⟩
theorem NodesIn.push {W : World} {F : Nat → TypeId → Prop} {xs : List Value} {ns : List Nd} (h : NodesIn W F xs ns) {nd : Nd} (hd : HdOk nd.hd) (q : Option Addr) (cap : Nat) (hq : IntsAt W F q nd.kids) : NodesIn W F (xs ++ ndC nd.hd q nd.kids.length cap) (ns ++ [nd]) := by
  refine ⟨by rw [List.length_append, h.len, List.length_append]; simp; omega, fun j nd' hj => ?_⟩
  rcases Nat.lt_trichotomy j ns.length with hlt | he | hgt
  · rw [List.getElem?_append_left hlt] at hj
    obtain ⟨q', cap', h1, h2, h3⟩ := h.get j nd' hj
    refine ⟨q', cap', h1, fun i v hv => ?_, h3⟩
    have hi : i < 9 := by
      have := (List.getElem?_eq_some_iff.1 hv).1
      simpa using this
    rw [List.getElem?_append_left (by rw [h.len]; omega)]
    exact h2 i v hv
  · subst he
    rw [List.getElem?_append_right (Nat.le_refl _), Nat.sub_self] at hj
    injection hj with hj
    subst hj
    refine ⟨q, cap, hd, fun i v hv => ?_, hq⟩
    rw [List.getElem?_append_right (by rw [h.len]; omega), h.len, Nat.add_sub_cancel_left]
    exact hv
  · rw [List.getElem?_eq_none (by simp; omega)] at hj
    cases hj
/-- What is handed back of a row of nodes. -/
theorem NodesIn.at {W : World} {n : Nat} {v : Value} {xs : List Value} {ns : List Nd} (h : NodesIn W (Own n W) xs ns) (ho : W.ownsRow n 56 9 v ns.length xs) : ∃ p cap, v = .slice p ns.length cap ∧ NodesAt W (Own n W) p ns := by
  by_cases h0 : ns.length = 0
  · obtain ⟨q, cap, rfl, _⟩ := row_slice ho
    exact ⟨q, cap, rfl, fun hne => absurd (List.eq_nil_of_length_eq_zero h0) hne⟩
  · obtain ⟨g, cap, cur, rfl, hb, hh, _⟩ := row_form ho (by omega)
    refine ⟨_, cap, rfl, fun _ => ⟨g, 0, rfl, ⟨hb, cur, hh⟩, fun j nd hj => ?_⟩⟩
    obtain ⟨q, cap', h1, h2, h3⟩ := h.get j nd hj
    refine ⟨q, cap', h1, fun i u hu => ?_, h3⟩
    rw [Nat.zero_add]
    exact row_cell ho rfl (h2 i u hu)
/-- copy, of as many ints as there is room, into a block that the walk holds whole. -/
theorem copy_ints {S : Nat → Prop} {w W : World} {L : List (Nat × Obj)} {R : List OwnR} {ops : Array Oper} {rest : List Oper} {o : Oper} {a : Act} {Q : Exit → Act → World → Prop} {F : Nat → TypeId → Prop} (hgd : o.guard = none) (d s : Operand)
    (ho : o.op = .call { callee := .builtin .copy, args := #[d, s], argTypes := #[25, 25] }) (g c c' : Nat) (q : Option Addr) (l : List Int) (cs : Array Value) (hd : a.eval d = .slice (some ⟨g, 0, none⟩) l.length c) (hs : a.eval s = .slice q l.length c')
    (hcs : cs.size = l.length) (hq : IntsAt W F q l) (h : RInv S w ((g, .cells cs 3 (0, 0)) :: L) R W) (hg : w.heap.size ≤ g ∨ S g) (hn : ∀ p ∈ L, p.1 ≠ g)
    (hk : ∀ W', RInv S w ((g, .cells (intC l).toArray 3 (0, 0)) :: L) R W' → W.grownBy W' (some g) → wpList Tryd.prog ops Q rest (a.put o.dst (goInt l.length)) W') : wpList Tryd.prog ops Q (o :: rest) a W := by
  have hu := intT.slice
  have hsz : (Tryd.prog.info? 3).map (·.size) = some 1 := by kernel_rfl
  by_cases h0 : l.length = 0
  · have hnil : l = [] := List.eq_nil_of_length_eq_zero h0
    subst hnil
    have hcs0 : cs = #[] := Array.eq_empty_of_size_eq_zero hcs
    subst hcs0
    exact wpList_copy_nothing hgd d s _ _ ho 3 hu hsz _ _ _ _ _ _ hd hs rfl (hk W h ⟨rfl, rfl, rfl, Nat.le_refl _, fun _ _ _ => rfl⟩)
  · obtain ⟨ad, rfl, hc⟩ := src_ints hq h0
    have hb := h.at (g := g) List.mem_cons_self
    refine wpList_copy_own hgd d s _ _ ho 3 hu hsz g 0 l.length c ad l.length c' hd hs cs 3 hb (intC l) (by simp) hc (by simp [hcs]) (intC_one l) ?_
    have e1 : (cs.toList.take 0 ++ (intC l ++ cs.toList.drop (0 + (intC l).length))).toArray = (intC l).toArray := by
      rw [List.take_zero, List.nil_append, Nat.zero_add, List.drop_of_length_le (by simp [hcs]), List.append_nil]
    rw [e1, show (intC l).length = l.length by simp]
    exact hk _ (h.turn (grown_setRow _ _ _) (setRow_heap W g _ _ _ _ hb) hg hn) (grown_setRow _ _ _)
/-! ### What was put after so many rounds -/
def putTo (ns : List Nd) (os : List Nd) (l : List Int) (k : Nat) : PutS := putAll ns ⟨fun _ => 0, os⟩ (l.take k)
theorem putTo_zero (ns os : List Nd) (l : List Int) : putTo ns os l 0 = ⟨fun _ => 0, os⟩ := rfl
theorem putTo_succ {ns os : List Nd} {l : List Int} {k : Nat} {c : Int} (h : l[k]? = some c) : putTo ns os l (k + 1) = putStep ns (putTo ns os l k) c := by
  obtain ⟨hk, e⟩ := List.getElem?_eq_some_iff.1 h
  unfold putTo
  rw [List.take_succ_eq_append_getElem hk, e, putAll_app, putAll_one]
theorem putTo_len (ns os : List Nd) (l : List Int) : ∀ k, k ≤ l.length → (putTo ns os l k).out.length = os.length + k
  | 0, _ => rfl
  | k + 1, h => by
    rw [putTo_succ (List.getElem?_eq_getElem (show k < l.length by omega))]
    simp only [putStep, List.length_append, List.length_singleton]
    rw [putTo_len ns os l k (by omega)]
    omega
theorem putTo_all {ns os : List Nd} (hd : Down ns) {x : Xp} {i : Int} (h : sits ns x i) : (putTo ns os (post ns x i) x.size).out = os ++ lay x os.length := by
  unfold putTo
  rw [List.take_of_length_le (by rw [post_len x h]; exact Nat.le_refl _)]
  exact putAll_lay hd h _
theorem putTo_node {ns os : List Nd} {l : List Int} {k j : Nat} {nd : Nd} (h : l[k]? = some (j : Int)) (hnd : ns[j]? = some nd) (hk : k < l.length) :
    (putTo ns os l (k + 1)).out = (putTo ns os l k).out ++ [⟨nd.hd, nd.kids.map (putTo ns os l k).place⟩] ∧ (putTo ns os l (k + 1)).place = (fun i => if i = (j : Int) then ((os.length + k : Nat) : Int) else (putTo ns os l k).place i) := by
  rw [putTo_succ h]
  refine ⟨?_, ?_⟩
  · simp only [putStep]
    rw [kidsAt_some hnd]
    simp [hdAt, hnd]
  · funext i
    simp only [putStep]
    rw [putTo_len ns os l k (by omega)]
abbrev ownC (f : Int → Int) (l : List Int) (m : Nat) : List Int := (l.take m).map f ++ l.drop m
theorem ownC_zero (f : Int → Int) (l : List Int) : ownC f l 0 = l := rfl
theorem ownC_all (f : Int → Int) (l : List Int) : ownC f l l.length = l.map f := by simp [ownC]
theorem ownC_get {f : Int → Int} {l : List Int} {m : Nat} {c : Int} (h : l[m]? = some c) : (ownC f l m)[m]? = some c := by
  obtain ⟨hm, e⟩ := List.getElem?_eq_some_iff.1 h
  rw [List.getElem?_append_right (by simp; omega), List.length_map, List.length_take, Nat.min_eq_left (by omega), Nat.sub_self, List.getElem?_drop]
  exact h
theorem ownC_len (f : Int → Int) (l : List Int) (m : Nat) (h : m ≤ l.length) : (ownC f l m).length = l.length := by simp; omega
theorem ownC_set {f : Int → Int} {l : List Int} {m : Nat} {c : Int} (h : l[m]? = some c) : (intC (ownC f l m)).toArray.setIfInBounds m (.int .i64 (f c)) = (intC (ownC f l (m + 1))).toArray := by
  obtain ⟨hm, e⟩ := List.getElem?_eq_some_iff.1 h
  apply Array.toList_inj.1
  rw [Array.toList_setIfInBounds]
  show (intC (ownC f l m)).set m _ = intC (ownC f l (m + 1))
  apply List.ext_getElem?
  intro j
  rw [List.getElem?_set]
  by_cases hj : m = j
  · subst hj
    rw [if_pos rfl]
    have h1 : m < (intC (ownC f l m)).length := by simp; omega
    rw [if_pos h1]
    have : (ownC f l (m + 1))[m]? = some (f c) := by
      rw [List.getElem?_append_left (by simp; omega)]
      simp [List.getElem?_take, h]
    exact (intC_get this).symm
  · rw [if_neg hj]
    have : (ownC f l m)[j]? = (ownC f l (m + 1))[j]? := by
      by_cases hlt : j < m
      · rw [List.getElem?_append_left (by simp; omega), List.getElem?_append_left (by simp; omega)]
        simp [List.getElem?_take, hlt, show j < m + 1 by omega]
      · rw [List.getElem?_append_right (by simp; omega), List.getElem?_append_right (by simp; omega)]
        simp only [List.length_map, List.length_take, List.getElem?_drop]
        congr 1
        omega
    show (List.map _ (ownC f l m))[j]? = (List.map _ (ownC f l (m + 1)))[j]?
    rw [List.getElem?_map, List.getElem?_map, this]
theorem made_ints (n : Nat) (h : n ≤ 100000) (w : World) : (Instr.makeSlice 25 (.int .i64 (n : Int)) (.int .i64 (n : Int))).run Tryd.prog w = .ok (.slice (some ⟨w.heap.size, 0, none⟩) n n) (w.alloc (.cells (Array.replicate n (.int .i64 0)) 3)) := by
  rw [run_make_row' (P := Tryd.prog) 25 3 (.int .i64 0) 8 intT.slice intT.info rfl .i64 .i64 n (by omega) (by omega) w]
  congr 3
  apply Array.ext
  · simp [madeCells]
  · intro j h1 h2; simp [madeCells, Nat.mod_one]
theorem ndO_set (h : Hd) (q q' : Option Addr) (n c n' c' : Nat) : Obj.cells ((ndC h q n c).toArray.setIfInBounds 8 (.slice q' n' c')) 56 (0, 0) = ndO h q' n' c' := rfl
theorem szInt : (Tryd.prog.info? 3).map (·.size) = some 1 := by kernel_rfl
theorem szInts : (Tryd.prog.info? 25).map (·.size) = some 1 := by kernel_rfl
/-- The kids' numbers of a node that was put, in a block of the call's own. -/
theorem ints_own {W : World} {n g : Nat} {l : List Int} (h : W.heap[g]? = some (.cells (intC l).toArray 3 (0, 0))) (hg : n ≤ g) (q : Option Addr) (hq : l ≠ [] → q = some ⟨g, 0, none⟩) : IntsAt W (Own n W) q l := fun hl => by
  refine ⟨g, 0, hq hl, ⟨hg, _, h⟩, fun j k hj => ?_⟩
  rw [Nat.zero_add, cell_of_row _ _ _ _ _ _ h]
  simp [hj]
theorem MapI.not_cells {P : Program} {k e : TypeId} {m : Nat} {f : Int → Int} {o : Obj} {W : World} {b : Nat} (h : MapI P k e m f o) (hb : W.heap[b]? = some o) (cur : Array Value) (t : TypeId) (fr : Nat × Nat) : W.heap[b]? ≠ some (.cells cur t fr) := by
  obtain ⟨D, h1, _⟩ := h
  obtain ⟨es, clock, h2, _⟩ := h1 W b hb
  rw [h2]
  intro e
  injection e with e
  cases e
/-- A row of nodes holds no ints. -/
theorem row_other {W : World} {base : Nat} {v : Value} {k : Nat} {xs : List Value} {size : Nat} {e : TypeId} (h : W.ownsRow base e size v k xs) (he : e ≠ 3) : ∀ g cur, v.ownBlock = some g → W.heap[g]? ≠ some (.cells cur 3 (0, 0)) := by
  intro g cur hg
  rcases h.2 with ⟨rfl, _⟩ | ⟨g', cap, cur', rfl, _, hh, _⟩
  · cases hg
  · injection hg with hg
    simp only at hg
    subst hg
    rw [hh]
    intro h2
    injection h2 with h2
    injection h2 with _ h2
    exact he h2
/-- Blocks that were there, and such as were made since. -/
def Since (F : Nat → TypeId → Prop) (s : Nat) (W : World) (b : Nat) (t : TypeId) : Prop := F b t ∨ Own s W b t
theorem NodesIn.since {W W' : World} {F : Nat → TypeId → Prop} {s : Nat} {xs : List Value} {ns : List Nd} (h : NodesIn W (Since F s W) xs ns) (hk : ∀ b, Since F s W b 3 → b < W.heap.size → W'.heap[b]? = W.heap[b]?) : NodesIn W' (Since F s W') xs ns :=
  h.turn fun b hb hlt => by
    have hk' := hk b hb hlt
    refine ⟨hk', ?_⟩
    rcases hb with hb | ⟨h1, cur, h2⟩
    · exact .inl hb
    · exact .inr ⟨h1, cur, hk'.trans h2⟩
/-- What one round does to the nodes that were put. -/
theorem put_nodes {wo W6 W7 W8 : World} {F : Nat → TypeId → Prop} {s pb k m : Nat} {f : Int → Int} {mo : Obj} {xs : List Value} {out : List Nd} {v vo : Value} (hF : ∀ b, F b 3 → b < s ∧ ¬ rowS v b) (h : NodesIn wo (Since F s wo) xs out) (hb : Below wo.heap.size wo W6) (h7 : W6.grownBy W7 (some pb)) (hpb : s ≤ pb)
    (hM : MapI Tryd.prog 3 3 m f mo) (hm : W6.heap[pb]? = some mo) (ho : W7.ownsRow 0 56 9 vo k xs) (hvo : ∀ g, vo.ownBlock = some g → s ≤ g ∨ rowS v g) (h8 : W7.grownBy W8 vo.ownBlock) {nd : Nd} (hd : HdOk nd.hd) (q : Option Addr) (cap : Nat)
    (hq : IntsAt W7 (Own s W7) q nd.kids) : NodesIn W8 (Since F s W8) (xs ++ ndC nd.hd q nd.kids.length cap) (out ++ [nd]) := by
  have h1 : NodesIn W6 (Since F s W6) xs out := h.since fun b _ hlt => hb.block b hlt
  have h2 : NodesIn W7 (Since F s W7) xs out := h1.since fun b hs hlt => h7.block b hlt fun e => by
    injection e with e
    subst e
    rcases hs with hs | ⟨_, cur, h2⟩
    · have := (hF b hs).1; omega
    · exact hM.not_cells hm _ _ _ h2
  refine (h2.push hd q cap (hq.mono fun b t ho => .inr ho)).since fun b hs hlt => h8.block b hlt fun e => ?_
  rcases hs with hs | ⟨_, cur, h2⟩
  · obtain ⟨ha, hb⟩ := hF b hs
    rcases hvo b e.symm with h | h
    · omega
    · exact hb h
  · exact row_other ho (by decide) b cur e.symm h2
end Go.Proofs.YtcenjpaiehidjaaDoor

/- Contract of tree.put: the walk. -/
namespace Go.Proofs.YtcenjpaiehidjaaDoor
open Go.RowKit
set_option maxRecDepth 100000

abbrev putR (vo vr : Value) (k : Nat) (xs : List Value) (l : List Int) : List OwnR := [⟨56, 9, vo, k, xs⟩, ⟨3, 1, vr, l.length, intC l⟩]
set_option maxHeartbeats 8000000 in
/-- tree.put. -/
theorem put_any (ns os : List Nd) (x : Xp) (i : Int) (p : Option Addr) (cap : Nat) (root : Int) (hS : Small ns) (hz : x.size ≤ 100000) (hx : sits ns x i) (hd : Down ns) (w : World) (F : Nat → TypeId → Prop) (hN : NodesAt w F p ns)
    (v : Value) (xs : List Value) (n : Nat) (ho : w.ownsRow n 56 9 v os.length xs) (hos : os.length ≤ 100000) (G : Nat → TypeId → Prop) (hxs : NodesIn w G xs os) (hG : ∀ b, G b 3 → b < w.heap.size ∧ ¬ rowS v b) (hn : n ≤ w.heap.size) (hF : ∀ b t, F b t → ¬ rowS v b) :
    Calls Tryd.prog 38 #[v, arV p ns.length cap root, .int .i64 i] w fun e w' => ∃ v' xs', e = .returned v' ∧ w'.ownsRow n 56 9 v' (os ++ lay x os.length).length xs' ∧ NodesIn w' (Since G w.heap.size w') xs' (os ++ lay x os.length) ∧ w.grownBy w' v.ownBlock ∧
      (v'.ownBlock = v.ownBlock ∨ ∀ g, v'.ownBlock = some g → w.heap.size ≤ g) := by
  have hl := hS.len
  have hmm := fun (W : World) (k : Int) => run_made (W := W) placeT k
  have hI0 := (RInv.take ho).alloc (arO p ns.length cap root)
  have HI0 := Lib.hid hI0
  have HN := Lib.hid hN
  have HS := Lib.hid hS
  have Hx := Lib.hid hx
  have Hd := Lib.hid hd
  have Hxs := Lib.hid hxs
  have HG := Lib.hid hG
  have Ho := Lib.hid ho
  have hpl := post_len x hx
  clear hN hS hx hI0 hd ho hxs hG
  have hc0 := HI0.out.cell (g := w.heap.size) (j := 0) (v := .slice p ns.length cap) List.mem_cons_self rfl
  have hc1 := HI0.out.cell (g := w.heap.size) (j := 1) (v := .int .i64 root) List.mem_cons_self rfl
  obtain ⟨l, hpl2⟩ : ∃ l, l = post ns x i := ⟨_, rfl⟩
  have hll : l.length = x.size := by rw [hpl2]; exact hpl
  have hl0 : 0 < l.length := by have := x.size_pos; omega
  have hlz : l.length ≤ 100000 := by omega
  have Hl := Lib.hid hpl2
  have Hll := Lib.hid hll
  clear hpl hpl2 hll hz
  go_enter Tryd.func38, Tryd.ntmps38
  go_wp2_with (first | (go_at_call 59; refine (walk_any ns x i p cap root HS.out (by rw [← Hll.out]; exact hlz) Hx.out _ F (HN.out.keep fun b _ hf hlt => HI0.out.off.block b hlt (hF b _ hf))).mono ?_; rintro e W1 ⟨v1, rfl, ho1, hb1⟩; rw [← Hl.out, ← Hll.out] at ho1; obtain ⟨g1, c1, _, rfl, _⟩ := row_form ho1 hl0; have hI1 := HI0.out.got hb1 ho1; clear ho1 hb1 hc0 hc1) | (go_at_call 60; refine (rev_any _ 0 l.reverse (by simpa using by omega) _ (by simpa using hI1.own1)).mono ?_; rintro e W2 ⟨rfl, ho2, hg2⟩; rw [List.reverse_reverse, List.length_reverse] at ho2; have hI2 := hI1.grow (r' := ⟨_, _, _, _, _⟩) hg2 ho2 (.inl rfl); clear hI1 ho2 hg2; have hI3 := hI2.alloc (.map #[] 0)))
  have hlt2 : w.heap.size < W2.heap.size := lt_of_heap (hI2.at (g := w.heap.size) List.mem_cons_self)
  have HI4 := Lib.hid hI3.swap
  have HX4 : Hid (NodesIn (W2.alloc (.map #[] 0)) (Since G w.heap.size (W2.alloc (.map #[] 0))) xs (putTo ns os l 0).out) := Lib.hid (Hxs.out.turn fun b hb hlt => ⟨hI3.off.block b hlt (HG.out b hb).2, .inl hb⟩)
  clear hI2 hI3
  go_loopw [0, 24] (fun vo iv wr => ∃ (k : Nat) (xs' : List Value) (mo : Obj), k ≤ l.length ∧ iv = .int .i64 k ∧ RInv (rowS v) w [(W2.heap.size, mo), (w.heap.size, arO p ns.length cap root)] (putR vo (.slice (some ⟨g1, 0, none⟩) l.length c1) (os.length + k) xs' l) wr ∧
      Hid (MapI Tryd.prog 3 3 k (putTo ns os l k).place mo) ∧ Hid (NodesIn wr (Since G w.heap.size wr) xs' (putTo ns os l k).out)) (fun _ iv _ => l.length - (intOf iv).toNat)
  case atStart => exact ⟨0, xs, _, by omega, rfl, HI4.out, Lib.hid (MapI.made _ _ _), HX4⟩
  case round =>
    clear HI4 HX4
    obtain ⟨k, xs', mo, hk, rfl, hI, hM, hX⟩ := hrel
    obtain ⟨wo, rfl⟩ : ∃ wo : World, wo = wr := ⟨_, rfl⟩
    obtain ⟨qo, co, rfl, _, _⟩ := row_slice hI.own1
    by_cases hlt : k < l.length
    · obtain ⟨c, hc⟩ : ∃ c, l[k]? = some c := ⟨_, List.getElem?_eq_getElem hlt⟩
      have hmem : c ∈ post ns x i := by rw [← Hl.out]; exact List.mem_of_getElem? hc
      obtain ⟨_, _, y, hy⟩ := post_le Hd.out x Hx.out hmem
      obtain ⟨j, nd, rfl, hj, hnd, hkk, hhd, hsk⟩ := walk_idx hy
      obtain ⟨b, off, hp, hFb, hcc⟩ := HN.out (by intro h; rw [h] at hj; exact absurd hj (by simp))
      subst hp
      obtain ⟨q, cap', hdok, hr, hki⟩ := hcc j nd hnd
      have hkl := HS.out.kids nd (List.mem_of_getElem? hnd)
      have hck := row_cell hI.own2 rfl (intC_get hc)
      have hblt : b < w.heap.size := block_lt_of_cell (hr 0 _ rfl)
      have Hr := Lib.hid (rangeAt_keep hr (hI.off.block b hblt (hF b _ hFb)))
      have c0 := hI.cell (g := w.heap.size) (j := 0) (v := .slice (some ⟨b, off, none⟩) ns.length cap) (List.mem_cons_of_mem _ List.mem_cons_self) rfl
      have Hki := Lib.hid (hki.keep fun b' _ hf hlt' => hI.off.block b' hlt' (hF b' _ hf))
      have Hnd := Lib.hid hnd
      have Hc := Lib.hid hc
      have Hdok := Lib.hid hdok
      have hmk := made_ints nd.kids.length hkl
      have hIa := (hI.alloc (ndO nd.hd q nd.kids.length cap')).alloc (.cells (Array.replicate nd.kids.length (.int .i64 0)) 3)
      rw [World.size_alloc] at hIa
      have HIa := Lib.hid hIa
      have hw2 : W2.heap.size < wo.heap.size := lt_of_heap (hI.at (g := W2.heap.size) List.mem_cons_self)
      clear hcc hr hki hnd hc hdok hkk hhd hsk hy hmem hIa
      go_wp2_with (first | (refine load_node rfl _ rfl b (off + j * 9) rfl nd.hd q nd.kids.length cap' Hr.out ?_) | (refine copy_ints rfl (.tmp 37) (.tmp 39) rfl (wo.heap.size + 1) _ _ q nd.kids _ rfl rfl (by simp) (Hki.out.below ((((Below.refl _ _).alloc (Nat.le_refl _) _).alloc (by simp) _))) HIa.out (.inl (by omega)) (by simp; omega) ?_; intro W4 hIb hgc))
      have hbc : Hid (Below wo.heap.size wo W4) := Lib.hid ((((Below.refl _ _).alloc (Nat.le_refl _) _).alloc (by simp) _).grown hgc (by simp; omega) (fun k hk => by injection hk with hk; omega))
      clear hgc HIa hmk c0 hck
      go_loopw [43] (fun iv w2 => ∃ m : Nat, m ≤ nd.kids.length ∧ iv = .int .i64 m ∧ RInv (rowS v) w [(wo.heap.size + 1, .cells (intC (ownC (putTo ns os l k).place nd.kids m)).toArray 3), (wo.heap.size, ndO nd.hd q nd.kids.length cap'), (W2.heap.size, mo), (w.heap.size, arO (some ⟨b, off, none⟩) ns.length cap root)]
          (putR (.slice qo (os.length + k) co) (.slice (some ⟨g1, 0, none⟩) l.length c1) (os.length + k) xs' l) w2 ∧ Hid (Below wo.heap.size wo w2)) (fun iv _ => nd.kids.length - (intOf iv).toNat)
      case atStart => exact ⟨0, by omega, rfl, hIb, hbc⟩
      case round =>
        clear hIb hbc
        obtain ⟨m, hm, rfl, hJ, hb2⟩ := hrel
        by_cases hmt : m < nd.kids.length
        · obtain ⟨c, hc⟩ : ∃ c, nd.kids[m]? = some c := ⟨_, List.getElem?_eq_getElem hmt⟩
          have hcr := kidsAt_lt Hd.out (i := (j : Int)) (k := c) (by rw [kidsAt_some Hnd.out]; exact List.mem_of_getElem? hc)
          have hlk := hM.out.lookup placeT (hJ.at (g := W2.heap.size) (o := mo) (List.mem_cons_of_mem _ (List.mem_cons_of_mem _ List.mem_cons_self))) (j := c) (by omega)
          have hcm := hJ.cell (g := wo.heap.size + 1) (j := m) (v := .int .i64 c) List.mem_cons_self (intA_get (ownC_get hc))
          have Hc2 := Lib.hid hc
          clear hc hcr
          go_wp2_with (first | (refine rinv_store rfl _ _ _ rfl (wo.heap.size + 1) m (intC (ownC (putTo ns os l k).place nd.kids m)).toArray 3 (.int .i64 ((putTo ns os l k).place c)) rfl rfl rfl szInt (by simp; omega) hJ (.inl (by omega)) (by simp; omega) ?_; rintro W5 hK rfl; rw [ownC_set Hc2.out] at hK))
          go_roundw
          case rel => exact ⟨m + 1, by omega, by go_num, hK, Lib.hid (hb2.out.setCell (by simp) _)⟩
          case measure => simp [intOf]; omega
        · obtain rfl : m = nd.kids.length := by omega
          have hown : RInv (rowS v) w [(wo.heap.size, ndO nd.hd q nd.kids.length cap'), (wo.heap.size + 1, .cells (intC (nd.kids.map (putTo ns os l k).place)).toArray 3), (W2.heap.size, mo), (w.heap.size, arO (some ⟨b, off, none⟩) ns.length cap root)]
              (putR (.slice qo (os.length + k) co) (.slice (some ⟨g1, 0, none⟩) l.length c1) (os.length + k) xs' l) wr := hJ.subL (by rw [ownC_all]; exact (fun p hp => by simp only [List.mem_cons, List.not_mem_nil, or_false] at hp ⊢; rcases hp with h | h | h | h <;> subst h <;> simp))
          clear hJ
          by_cases hnil : nd.kids.length = 0
          · go_wp2_with (first | (refine rinv_store rfl _ _ _ rfl wo.heap.size 8 (ndC nd.hd q nd.kids.length cap').toArray 56 (.slice none 0 0) rfl rfl rfl szInts (by simp) hown (.inl (by omega)) (by simp; omega) ?_; intro W5 hK hW; rw [ndO_set] at hK; have hb3 : Hid (Below wo.heap.size wo W5) := Lib.hid (by rw [hW]; exact hb2.out.setCell (Nat.le_refl _) _); clear hW) | (refine map_put placeT rfl (.tmp 62) (.tmp 63) (.tmp 65) rfl (j : Int) ((os.length : Int) + k) rfl rfl rfl (hK.subL (L' := [(W2.heap.size, mo), (wo.heap.size, ndO nd.hd none 0 0), (wo.heap.size + 1, .cells (intC (nd.kids.map (putTo ns os l k).place)).toArray 3), (w.heap.size, arO (some ⟨b, off, none⟩) ns.length cap root)]) (fun p hp => by simp only [List.mem_cons, List.not_mem_nil, or_false] at hp ⊢; rcases hp with h | h | h | h <;> subst h <;> simp)) hM.out (by unfold maxLen; omega) (by omega) (by omega) (.inl (by omega)) (by simp; omega) ?_; intro mo' W7 hQ hM' h7; replace hM' := Lib.hid hM') | (refine load_own rfl _ rfl wo.heap.size rfl nd.hd none 0 0 (hQ.at (by simp)) ?_) | (at_builtin; refine app_new nodeT rfl (.tmp 66) (.tmp 68) rfl (ndC nd.hd none 0 0).toArray rfl rfl rfl (by simp [Value.oneCell']) hQ (by unfold maxLen; omega) (by omega) ?_; intro v' W8 hE h8))
            go_roundw
            case rel =>
              have hpn := putTo_node (os := os) Hc.out Hnd.out hlt
              refine ⟨k + 1, xs' ++ ndC nd.hd none 0 0, mo', by omega, by go_num, hE.subL (fun p hp => by simp only [List.mem_cons, List.not_mem_nil, or_false] at hp ⊢; rcases hp with h | h <;> subst h <;> simp), Lib.hid (by rw [hpn.2, Int.natCast_add]; exact hM'.out), Lib.hid (by
                have h1 := put_nodes (nd := ⟨nd.hd, nd.kids.map (putTo ns os l k).place⟩) HG.out hX.out hb3.out h7 (by omega) hM.out (hK.at (g := W2.heap.size) (o := mo) (by simp)) hQ.own1 (fun g hg => hQ.new _ List.mem_cons_self g hg) h8 Hdok.out none 0 (ints_own (hQ.at (g := wo.heap.size + 1) (by simp)) (by omega) _ (fun h => absurd (List.length_eq_zero_iff.1 (by rw [List.length_map]; exact hnil)) h))
                rw [hpn.1]
                simp only [List.length_map, hnil] at h1
                exact h1)⟩
            case measure => simp [intOf]; omega
          · go_wp2_with (first | (refine rinv_store rfl _ _ _ rfl wo.heap.size 8 (ndC nd.hd q nd.kids.length cap').toArray 56 (.slice none 0 0) rfl rfl rfl szInts (by simp) hown (.inl (by omega)) (by simp; omega) ?_; intro W5 hK hW; rw [ndO_set] at hK; have hb3 : Hid (Below wo.heap.size wo W5) := Lib.hid (by rw [hW]; exact hb2.out.setCell (Nat.le_refl _) _); clear hW) | (refine rinv_store rfl _ _ _ rfl wo.heap.size 8 (ndC nd.hd none 0 0).toArray 56 (.slice (some ⟨wo.heap.size + 1, 0, none⟩) nd.kids.length nd.kids.length) rfl rfl rfl szInts (by simp) hK (.inl (by omega)) (by simp; omega) ?_; intro W6 hP hW; rw [ndO_set] at hP; have hbP : Hid (Below wo.heap.size wo W6) := Lib.hid (by rw [hW]; exact hb3.out.setCell (Nat.le_refl _) _); clear hW hK hb3) | (refine map_put placeT rfl (.tmp 62) (.tmp 63) (.tmp 65) rfl (j : Int) ((os.length : Int) + k) rfl rfl rfl (hP.subL (L' := [(W2.heap.size, mo), (wo.heap.size, ndO nd.hd (some ⟨wo.heap.size + 1, 0, none⟩) nd.kids.length nd.kids.length), (wo.heap.size + 1, .cells (intC (nd.kids.map (putTo ns os l k).place)).toArray 3), (w.heap.size, arO (some ⟨b, off, none⟩) ns.length cap root)]) (fun p hp => by simp only [List.mem_cons, List.not_mem_nil, or_false] at hp ⊢; rcases hp with h | h | h | h <;> subst h <;> simp)) hM.out (by unfold maxLen; omega) (by omega) (by omega) (.inl (by omega)) (by simp; omega) ?_; intro mo' W7 hQ hM' h7; replace hM' := Lib.hid hM') | (refine load_own rfl _ rfl wo.heap.size rfl nd.hd (some ⟨wo.heap.size + 1, 0, none⟩) nd.kids.length nd.kids.length (hQ.at (by simp)) ?_) | (at_builtin; refine app_new nodeT rfl (.tmp 66) (.tmp 68) rfl (ndC nd.hd (some ⟨wo.heap.size + 1, 0, none⟩) nd.kids.length nd.kids.length).toArray rfl rfl rfl (by simp [Value.oneCell']) hQ (by unfold maxLen; omega) (by omega) ?_; intro v' W8 hE h8))
            go_roundw
            case rel =>
              have hpn := putTo_node (os := os) Hc.out Hnd.out hlt
              refine ⟨k + 1, xs' ++ ndC nd.hd (some ⟨wo.heap.size + 1, 0, none⟩) nd.kids.length nd.kids.length, mo', by omega, by go_num, hE.subL (fun p hp => by simp only [List.mem_cons, List.not_mem_nil, or_false] at hp ⊢; rcases hp with h | h <;> subst h <;> simp), Lib.hid (by rw [hpn.2, Int.natCast_add]; exact hM'.out), Lib.hid (by
                have h1 := put_nodes (nd := ⟨nd.hd, nd.kids.map (putTo ns os l k).place⟩) HG.out hX.out hbP.out h7 (by omega) hM.out (hP.at (g := W2.heap.size) (o := mo) (by simp)) hQ.own1 (fun g hg => hQ.new _ List.mem_cons_self g hg) h8 Hdok.out (some ⟨wo.heap.size + 1, 0, none⟩) nd.kids.length (ints_own (hQ.at (g := wo.heap.size + 1) (by simp)) (by omega) _ (fun _ => rfl))
                rw [hpn.1]
                simp only [List.length_map] at h1
                exact h1)⟩
            case measure => simp [intOf]; omega
    · obtain rfl : k = l.length := by omega
      go_wp2
      go_ret
      have hlen : (os ++ lay x os.length).length = os.length + l.length := by rw [List.length_append, lay_len, Hll.out]
      refine ⟨_, xs', rfl, by rw [hlen]; exact row_base hI.own1 (fun g hg => (hI.new _ List.mem_cons_self g hg).elim (fun h => by omega) (fun h => (Ho.out.lt g h).1)), ?_, hI.off.grown, row_block fun g hg => hI.new _ List.mem_cons_self g hg⟩
      have h1 := putTo_all (os := os) Hd.out Hx.out
      rw [← Hl.out, ← Hll.out] at h1
      rw [← h1]
      exact hX.out
end Go.Proofs.YtcenjpaiehidjaaDoor

/- Contracts of tree.Sub, tree.Root, tree.leaf and the leaves. -/
namespace Go.Proofs.YtcenjpaiehidjaaDoor
open Go.RowKit
set_option maxRecDepth 100000

/-- A value that reads as an arena. -/
def TreeAt (W : World) (F : Nat → TypeId → Prop) (v : Value) (T : Ar) : Prop := ∃ p cap, v = arV p T.nodes.length cap T.root ∧ NodesAt W F p T.nodes
theorem TreeAt.mk {W : World} {F : Nat → TypeId → Prop} {p : Option Addr} {cap : Nat} {T : Ar} (h : NodesAt W F p T.nodes) : TreeAt W F (arV p T.nodes.length cap T.root) T := ⟨p, cap, rfl, h⟩
theorem TreeAt.turn {W W' : World} {F F' : Nat → TypeId → Prop} {v : Value} {T : Ar} (h : TreeAt W F v T) (hF : ∀ b t, F b t → b < W.heap.size → W'.heap[b]? = W.heap[b]? ∧ F' b t) : TreeAt W' F' v T := by
  obtain ⟨p, cap, e, h⟩ := h; exact ⟨p, cap, e, h.turn hF⟩
theorem TreeAt.keep {W W' : World} {F : Nat → TypeId → Prop} {v : Value} {T : Ar} (h : TreeAt W F v T) (hF : ∀ b t, F b t → b < W.heap.size → W'.heap[b]? = W.heap[b]?) : TreeAt W' F v T := h.turn fun b t hb hlt => ⟨hF b t hb hlt, hb⟩
theorem TreeAt.below {W W' : World} {F : Nat → TypeId → Prop} {v : Value} {T : Ar} (h : TreeAt W F v T) (hb : Below W.heap.size W W') : TreeAt W' F v T := h.keep fun b _ _ hlt => hb.block b hlt
theorem TreeAt.mono {W : World} {F G : Nat → TypeId → Prop} {v : Value} {T : Ar} (h : TreeAt W F v T) (hF : ∀ b t, F b t → G b t) : TreeAt W G v T := h.turn fun b t hb _ => ⟨rfl, hF b t hb⟩
theorem TreeAt.own {n m : Nat} {W W' : World} {v : Value} {T : Ar} (h : TreeAt W (Own n W) v T) (hb : Below W.heap.size W W') (hm : m ≤ n) : TreeAt W' (Own m W') v T :=
  h.turn fun b _ ho hlt => ⟨hb.block b hlt, (ho.below hb hlt).mono hm⟩
theorem box_cells {S : Nat → Prop} {w W : World} {L : List (Nat × Obj)} {R : List OwnR} {g n cap : Nat} {p : Option Addr} {root : Int} (h : RInv S w L R W) (hp : (g, arO p n cap root) ∈ L) : W.cell? ⟨g, 0, none⟩ = some (.slice p n cap) ∧ W.cell? ⟨g, 1, none⟩ = some (.int .i64 root) := ⟨h.cell hp rfl, h.cell hp rfl⟩
/-- What lies in blocks of the call's own stays where a block below them is written. -/
theorem own_low {W W' : World} {n m g : Nat} (hg : W.grownBy W' (some g)) (hlt : g < n) (hm : m ≤ n) : ∀ b t, Own n W b t → b < W.heap.size → W'.heap[b]? = W.heap[b]? ∧ Own m W' b t := by
  intro b t ho hb
  have hk := hg.block b hb (fun e => by injection e with e; have := ho.1; omega)
  obtain ⟨h1, cur, h2⟩ := ho
  exact ⟨hk, by omega, cur, hk.trans h2⟩
theorem tree_of {W : World} {F : Nat → TypeId → Prop} {q : Option Addr} {x : Xp} {c : Nat} (h : NodesAt W F q (lay x 0)) : TreeAt W F (arV q x.size c ((x.size : Int) - 1)) (clean x) := ⟨q, c, by simp [clean, lay_len], h⟩
theorem szTree : (Tryd.prog.info? 24).map (·.size) = some 2 := by kernel_rfl
/-- What comes of a call that may say no: a tree, clean, in blocks of its own, and yes; or nothing, and no. -/
def GetsT (n : Nat) (w' : World) (e : Ending) : Option Xp → Prop
  | some x => ∃ v, e = .returned (.tuple #[v, .bool true]) ∧ TreeAt w' (Own n w') v (clean x)
  | none => e = .returned (.tuple #[arV none 0 0 0, .bool false])
/-- A tree of its own, clean. -/
def GivesT (n : Nat) (w' : World) (e : Ending) (x : Xp) : Prop := ∃ v, e = .returned v ∧ TreeAt w' (Own n w') v (clean x)

theorem right_true (ns : List Nd) (root : Int) (p : Option Addr) (cap : Nat) (hS : Small ns) (w : World) (F : Nat → TypeId → Prop) (hN : NodesAt w F p ns) (hT : KidsT w) (hR : RightP ⟨ns, root⟩) :
    Calls Tryd.prog 15 #[arV p ns.length cap root] w fun e w' => e = .returned (.bool true) ∧ Below w.heap.size w w' :=
  (right_any ns root p cap hS w F hN hT).mono fun _ _ ⟨⟨b, h1, h2⟩, hb⟩ => ⟨by rw [h1, h2.2 hR], hb⟩
theorem right_false (ns : List Nd) (root : Int) (p : Option Addr) (cap : Nat) (hS : Small ns) (w : World) (F : Nat → TypeId → Prop) (hN : NodesAt w F p ns) (hT : KidsT w) (hR : ¬ RightP ⟨ns, root⟩) :
    Calls Tryd.prog 15 #[arV p ns.length cap root] w fun e w' => e = .returned (.bool false) ∧ Below w.heap.size w w' :=
  (right_any ns root p cap hS w F hN hT).mono fun _ _ ⟨⟨b, h1, h2⟩, hb⟩ => ⟨by cases b; exact h1; exact absurd (h2.1 rfl) hR, hb⟩
/-- tree.put, onto nothing. -/
theorem put_none (ns : List Nd) (x : Xp) (i : Int) (p : Option Addr) (cap : Nat) (root : Int) (hS : Small ns) (hz : x.size ≤ 100000) (hx : sits ns x i) (hd : Down ns) (w : World) (F : Nat → TypeId → Prop) (hN : NodesAt w F p ns) :
    Calls Tryd.prog 38 #[.slice none 0 0, arV p ns.length cap root, .int .i64 i] w fun e w' => ∃ q c, e = .returned (.slice q x.size c) ∧ NodesAt w' (Own w.heap.size w') q (lay x 0) ∧ Below w.heap.size w w' := by
  refine (put_any ns [] x i p cap root hS hz hx hd w F hN (.slice none 0 0) [] w.heap.size (World.ownsRow_nil _ _ _ _) (by simp) (fun _ _ => False) (NodesIn.nil _ _) (fun _ h => h.elim) (Nat.le_refl _) (fun b t _ h => by cases h)).mono ?_
  rintro e w' ⟨v', xs', rfl, ho, hn, hg, _⟩
  rw [List.nil_append] at ho hn
  obtain ⟨q, c, rfl, hq⟩ := (hn.turn (F' := Own w.heap.size w') fun b hb _ => ⟨rfl, hb.elim False.elim id⟩).at ho
  rw [List.length_nil, lay_len] at *
  exact ⟨q, c, rfl, hq, ⟨hg.os, hg.tape, hg.output, hg.size, fun b hb => hg.block b hb (by intro h; cases h)⟩⟩
set_option maxHeartbeats 2000000 in
/-- tree.Sub, of a tree that is right, at a node that there is. -/
theorem sub_yes (ns : List Nd) (y : Xp) (i root : Int) (p : Option Addr) (cap : Nat) (hS : Small ns) (hR : RightP ⟨ns, root⟩) (hy : sits ns y i) (hz : y.size ≤ 100000) (w : World) (F : Nat → TypeId → Prop) (hN : NodesAt w F p ns) (hT : KidsT w) :
    Calls Tryd.prog 26 #[arV p ns.length cap root, .int .i64 i] w fun e w' => GetsT w.heap.size w' e (some y) ∧ Below w.heap.size w w' := by
  have hl := hS.len
  have h0 := sits_nonneg hy
  have h1 : i < ns.length := by have := sits_lt hy; omega
  have hlt : ¬ i < 0 := by omega
  have hge : ¬ (ns.length : Int) ≤ i := by omega
  have hyp := y.size_pos
  have HN := Lib.hid hN
  have HS := Lib.hid hS
  have HR := Lib.hid hR
  have HT := Lib.hid hT
  have Hy := Lib.hid hy

  have hI := ((RInv.start noS w).alloc (arO p ns.length cap root)).alloc (arO none 0 0 0)
  rw [World.size_alloc] at hI
  clear hN hS hR hT hy
  go_enter Tryd.func26, Tryd.ntmps26
  go_wp2_with (first | (go_at_call 15; refine (right_true ns root p cap HS.out _ F (HN.out.below hI.below) (HT.out.keep hI.below) HR.out).mono ?_; rintro e W1 ⟨rfl, hb1⟩; have hI1 := hI.call hb1; clear hb1; obtain ⟨c0, c1⟩ := box_cells hI1 (List.mem_cons_of_mem _ List.mem_cons_self)) | (go_at_call 38; refine (put_none ns y i p cap root HS.out hz Hy.out HR.out.down' _ F (HN.out.below hI1.below)).mono ?_; rintro e W2 ⟨q, c, rfl, hq, hb2⟩; have hI2 := hI1.call hb2; clear c0 c1) | (refine rinv_row rfl _ _ _ rfl (w.heap.size + 1) #[.slice none 0 0, .int .i64 0] #[.slice q y.size c, .int .i64 ((y.size : Int) - 1)] 24 rfl rfl (by simp [Value.oneCell']) szTree rfl hI2 (.inl (by omega)) (by simp) ?_; intro W3 hI3 hg3; have hI4 := box_cells hI3 List.mem_cons_self; obtain ⟨c0, c1⟩ := hI4))
  have hlt2 : w.heap.size + 1 < W1.heap.size := lt_of_heap (hI1.at (g := w.heap.size + 1) List.mem_cons_self)
  refine bodyPost_ret (v := .tuple #[arV q y.size c ((y.size : Int) - 1), .bool true]) (by simp [results, Tryd.results26, go_sem, c0, c1]) rfl ⟨⟨_, rfl, tree_of (hq.turn (own_low hg3 hlt2 (by omega)))⟩, hI3.below⟩
set_option maxHeartbeats 2000000 in
/-- tree.Sub, where it says no. -/
theorem sub_no (ns : List Nd) (i root : Int) (p : Option Addr) (cap : Nat) (hS : Small ns) (hR : ¬ (RightP ⟨ns, root⟩ ∧ 0 ≤ i ∧ i < ns.length)) (w : World) (F : Nat → TypeId → Prop) (hN : NodesAt w F p ns) (hT : KidsT w) :
    Calls Tryd.prog 26 #[arV p ns.length cap root, .int .i64 i] w fun e w' => GetsT w.heap.size w' e none ∧ Below w.heap.size w w' := by
  have hl := hS.len
  have HN := Lib.hid hN
  have HS := Lib.hid hS
  have HT := Lib.hid hT
  have hI := ((RInv.start noS w).alloc (arO p ns.length cap root)).alloc (arO none 0 0 0)
  rw [World.size_alloc] at hI
  clear hN hS hT
  by_cases h : RightP ⟨ns, root⟩
  · have HR := Lib.hid h
    have hor : i < 0 ∨ (ns.length : Int) ≤ i := by
      by_cases h1 : i < 0
      · exact .inl h1
      · exact .inr (by by_cases h2 : (ns.length : Int) ≤ i; exact h2; exact absurd ⟨h, by omega, by omega⟩ hR)
    clear hR h
    rcases hor with hlt | hge
    · go_enter Tryd.func26, Tryd.ntmps26
      go_wp2_with (first | (go_at_call 15; refine (right_true ns root p cap HS.out _ F (HN.out.below hI.below) (HT.out.keep hI.below) HR.out).mono ?_; rintro e W1 ⟨rfl, hb1⟩; have hI1 := hI.call hb1; clear hb1; obtain ⟨c0, c1⟩ := box_cells hI1 (List.mem_cons_of_mem _ List.mem_cons_self)) | (refine rinv_row rfl _ _ _ rfl (w.heap.size + 1) #[.slice none 0 0, .int .i64 0] #[.slice none 0 0, .int .i64 0] 24 rfl rfl (by simp [Value.oneCell']) szTree rfl hI1 (.inl (by omega)) (by simp) ?_; intro W3 hI3 hg3; clear c0 c1; have hI4 := box_cells hI3 List.mem_cons_self; obtain ⟨c0, c1⟩ := hI4))
      exact bodyPost_ret (v := .tuple #[arV none 0 0 0, .bool false]) (by simp [results, Tryd.results26, go_sem, c0, c1]) rfl ⟨rfl, hI3.below⟩
    · go_enter Tryd.func26, Tryd.ntmps26
      go_wp2_with (first | (go_at_call 15; refine (right_true ns root p cap HS.out _ F (HN.out.below hI.below) (HT.out.keep hI.below) HR.out).mono ?_; rintro e W1 ⟨rfl, hb1⟩; have hI1 := hI.call hb1; clear hb1; obtain ⟨c0, c1⟩ := box_cells hI1 (List.mem_cons_of_mem _ List.mem_cons_self)) | (refine rinv_row rfl _ _ _ rfl (w.heap.size + 1) #[.slice none 0 0, .int .i64 0] #[.slice none 0 0, .int .i64 0] 24 rfl rfl (by simp [Value.oneCell']) szTree rfl hI1 (.inl (by omega)) (by simp) ?_; intro W3 hI3 hg3; clear c0 c1; have hI4 := box_cells hI3 List.mem_cons_self; obtain ⟨c0, c1⟩ := hI4))
      exact bodyPost_ret (v := .tuple #[arV none 0 0 0, .bool false]) (by simp [results, Tryd.results26, go_sem, c0, c1]) rfl ⟨rfl, hI3.below⟩
  · have HR := Lib.hid h
    clear hR h
    go_enter Tryd.func26, Tryd.ntmps26
    go_wp2_with (first | (go_at_call 15; refine (right_false ns root p cap HS.out _ F (HN.out.below hI.below) (HT.out.keep hI.below) HR.out).mono ?_; rintro e W1 ⟨rfl, hb1⟩; have hI1 := hI.call hb1; clear hb1; obtain ⟨c0, c1⟩ := box_cells hI1 (List.mem_cons_of_mem _ List.mem_cons_self)) | (refine rinv_row rfl _ _ _ rfl (w.heap.size + 1) #[.slice none 0 0, .int .i64 0] #[.slice none 0 0, .int .i64 0] 24 rfl rfl (by simp [Value.oneCell']) szTree rfl hI1 (.inl (by omega)) (by simp) ?_; intro W3 hI3 hg3; clear c0 c1; have hI4 := box_cells hI3 List.mem_cons_self; obtain ⟨c0, c1⟩ := hI4))
    exact bodyPost_ret (v := .tuple #[arV none 0 0 0, .bool false]) (by simp [results, Tryd.results26, go_sem, c0, c1]) rfl ⟨rfl, hI3.below⟩
end Go.Proofs.YtcenjpaiehidjaaDoor
