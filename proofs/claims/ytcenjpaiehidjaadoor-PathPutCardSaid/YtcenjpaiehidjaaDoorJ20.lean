/- What the cards of this seat share: the two tables, trees and rows of ints as arguments. -/
import Derived.Test.YtcenjpaiehidjaaDoorCards
import Derived.Test.YtcenjpaiehidjaaDoorTie
import Derived.Test.YtcenjpaiehidjaaDoorJ10
import Derived.WalkKit
import Derived.ProofKit
import Derived.OpenShut
import Derived.ChangeMaps5
import Derived.Carry
import Derived.Deep.Slices
import Derived.Deep.DeepHandedRow
import Derived.Laws.IdiomArrays
import Derived.LaidMore
set_option linter.unusedSimpArgs false
set_option linter.unusedVariables false
namespace Go.Proofs.YtcenjpaiehidjaaDoor
open Go.ChangeShapes Go.WideShapes Go.ChangeAt Go.RowKit Go.Deep
set_option maxRecDepth 100000

theorem clU8 : Tryd.prog.cellsOf 5 = 1 := by kernel_rfl
theorem clU64 : Tryd.prog.cellsOf 52 = 1 := by kernel_rfl
theorem clSet : Tryd.prog.cellsOf 54 = 4 := by kernel_rfl
theorem clStr : Tryd.prog.cellsOf 9 = 1 := by kernel_rfl
theorem clInt : Tryd.prog.cellsOf 3 = 1 := by kernel_rfl
theorem clInts : Tryd.prog.cellsOf 25 = 1 := by kernel_rfl
theorem clNodes : Tryd.prog.cellsOf 22 = 1 := by kernel_rfl
theorem clNode : Tryd.prog.cellsOf 56 = 9 := by kernel_rfl
theorem clTree : Tryd.prog.cellsOf 24 = 2 := by kernel_rfl
theorem tyU8' : Tryd.prog.underlying 5 = some (.int .u8) := by kernel_rfl
theorem tyU64' : Tryd.prog.underlying 52 = some (.int .u64) := by kernel_rfl
theorem tyI64' : Tryd.prog.underlying 3 = some (.int .i64) := by kernel_rfl
theorem tyStr' : Tryd.prog.underlying 9 = some .string := by kernel_rfl
theorem tyInts' : Tryd.prog.underlying 25 = some (.slice 3) := by kernel_rfl
theorem of_words {a b c d : Int} (a0 : 0 ≤ a ∧ a ≤ 18446744073709551615) (b0 : 0 ≤ b ∧ b ≤ 18446744073709551615) (c0 : 0 ≤ c ∧ c ≤ 18446744073709551615) (d0 : 0 ≤ d ∧ d ≤ 18446744073709551615) :
    ∃ s, s < 2 ^ 256 ∧ w64 s 0 = a ∧ w64 s 1 = b ∧ w64 s 2 = c ∧ w64 s 3 = d := by
  refine ⟨a.toNat + 2 ^ 64 * (b.toNat + 2 ^ 64 * (c.toNat + 2 ^ 64 * d.toNat)), by omega, ?_⟩
  unfold w64
  refine ⟨?_, ?_, ?_, ?_⟩ <;> simp only [Nat.mul_zero, Nat.pow_zero, Nat.div_one, Nat.mul_one, show (64 * 2 : Nat) = 128 from rfl, show (64 * 3 : Nat) = 192 from rfl] <;> omega
theorem list9 {α : Type} (l : List α) (h : l.length = 9) : ∃ a b c d e f g i j, l = [a, b, c, d, e, f, g, i, j] := by
  match l, h with
  | [a, b, c, d, e, f, g, i, j], _ => exact ⟨a, b, c, d, e, f, g, i, j, rfl⟩
theorem list6 {α : Type} (l : List α) (h : l.length = 6) : ∃ a b c d e f, l = [a, b, c, d, e, f] := by
  match l, h with
  | [a, b, c, d, e, f], _ => exact ⟨a, b, c, d, e, f, rfl⟩
theorem list2 {α : Type} (l : List α) (h : l.length = 2) : ∃ a b, l = [a, b] := by
  match l, h with
  | [a, b], _ => exact ⟨a, b, rfl⟩

section
variable {H : Type} {enc : TypeId × Value → H} {W : World} {base : Nat} {sp : Nat → Bool} {held : Bool}
theorem cell_spot {W : World} {a : Addr} {v : Value} (h : W.cell? a = some v) : a = ⟨a.block, a.off, none⟩ := by
  cases a with
  | mk b o s =>
    cases s with
    | none => rfl
    | some k =>
      unfold World.cell? at h
      split at h <;> simp at h
theorem add_plain (b o j : Nat) : (⟨b, o, none⟩ : Addr).add j = ⟨b, o + j, none⟩ := by
  unfold Addr.add
  split
  · next h => subst h; rfl
  · rfl
/-- A row of ints that comes in. -/
theorem open_row {n : Nat} {cs : List Value} {x : DataW H × List MemPlace} (h : DataW.trod enc Tryd.prog W base sp held n 25 cs = some x) :
    ∃ q l cap, cs = [.slice q (l : List Int).length cap] ∧ l.length ≤ cap ∧ IntsAt W (fun _ _ => True) q l := by
  rcases open_ints tyInts' tyI64' clInt h with ⟨rfl, _⟩ | ⟨a, len, cap, zs, rfl, _, hl, _, hz, _, hc, _⟩
  · exact ⟨none, [], 0, rfl, Nat.le_refl _, fun h => absurd rfl h⟩
  · have hle : len ≤ zs.length := by rw [hz]; split <;> omega
    have hlen : (zs.take len).length = len := by rw [List.length_take]; omega
    refine ⟨some a, zs.take len, cap, by rw [hlen], by omega, fun hne => ?_⟩
    have h0 : 0 < zs.length := by
      have : 0 < (zs.take len).length := List.length_pos_iff.2 hne
      omega
    have ha := hc 0 h0
    rw [show a.add 0 = a from rfl] at ha
    have e := cell_spot ha
    refine ⟨a.block, a.off, by rw [← e], trivial, fun j k hj => ?_⟩
    have hj1 : j < (zs.take len).length := (List.getElem?_eq_some_iff.1 hj).1
    have hj2 := hc j (by omega)
    rw [e, add_plain] at hj2
    rw [hj2]
    rw [List.getElem?_take_of_lt (by omega)] at hj
    simp [List.getD, hj]
/-- A node that comes in. -/
theorem open_node {n : Nat} {cs : List Value} {x : DataW H × List MemPlace} (hl : cs.length = 9) (h : DataW.trod enc Tryd.prog W base sp held n 56 cs = some x) :
    ∃ (nd : Nd) (q : Option Addr) (cap : Nat), HdOk nd.hd ∧ cs = ndC nd.hd q nd.kids.length cap ∧ IntsAt W (fun _ _ => True) q nd.kids := by
  obtain ⟨xs, m, _, _, _, hlen, hf⟩ := DataW.trod_struct Tryd.underlying56 h
  obtain ⟨a0, a1, a2, a3, a4, a5, a6, a7, a8, rfl⟩ := list9 cs hl
  obtain ⟨x0, x1, x2, x3, x4, x5, rfl⟩ := list6 xs hlen
  have h0 : DataW.trod enc Tryd.prog W base sp held m 5 [a0] = some x0 := by
    have := hf 0 _ rfl
    simpa [clU8] using this
  have h1 : DataW.trod enc Tryd.prog W base sp held m 54 [a1, a2, a3, a4] = some x1 := by
    have := hf 1 _ rfl
    simpa [clSet] using this
  have h2 : DataW.trod enc Tryd.prog W base sp held m 9 [a5] = some x2 := by
    have := hf 2 _ rfl
    simpa [clStr] using this
  have h3 : DataW.trod enc Tryd.prog W base sp held m 3 [a6] = some x3 := by
    have := hf 3 _ rfl
    simpa [clInt] using this
  have h4 : DataW.trod enc Tryd.prog W base sp held m 3 [a7] = some x4 := by
    have := hf 4 _ rfl
    simpa [clInt] using this
  have h5 : DataW.trod enc Tryd.prog W base sp held m 25 [a8] = some x5 := by
    have := hf 5 _ rfl
    simpa [clInts] using this
  obtain ⟨k, e0, _, w0⟩ := DataW.trod_int tyU8' h0
  obtain ⟨y0, y1, y2, y3, m2, _, g0, g1, g2, g3⟩ := trod_array4 tySet clU64 h1
  obtain ⟨s0, e10, _, v0⟩ := DataW.trod_int tyU64' g0
  obtain ⟨s1, e11, _, v1⟩ := DataW.trod_int tyU64' g1
  obtain ⟨s2, e12, _, v2⟩ := DataW.trod_int tyU64' g2
  obtain ⟨s3, e13, _, v3⟩ := DataW.trod_int tyU64' g3
  obtain ⟨t, e2, _, _⟩ := DataW.trod_string tyStr' h2
  obtain ⟨lo, e3, _, _⟩ := DataW.trod_int tyI64' h3
  obtain ⟨hi, e4, _, _⟩ := DataW.trod_int tyI64' h4
  obtain ⟨q, l, cap, e5, _, hq⟩ := open_row h5
  obtain ⟨s, hs, rfl, rfl, rfl, rfl⟩ := of_words (bounds_u64 v0) (bounds_u64 v1) (bounds_u64 v2) (bounds_u64 v3)
  have hk : 0 ≤ k ∧ k < 256 := by
    simp [Lit.wf, IntKind.min, IntKind.max, IntKind.signed, IntKind.bits] at w0
    omega
  simp only [List.cons.injEq, and_true] at e0 e10 e11 e12 e13 e2 e3 e4 e5
  subst e0 e10 e11 e12 e13 e2 e3 e4 e5
  refine ⟨⟨⟨k, s, t.data.toList, lo, hi⟩, l⟩, q, cap, ⟨hk, hs⟩, ?_, hq⟩
  simp [ndC, strOf]
/-- A tree that comes in. -/
theorem open_tree {r : Reach} {b0 : Nat} {v : Value} {d : DataW H} {ps : List MemPlace} (hval : Value.okWide Tryd.prog W r b0 24 v) (hd : DataW.Trod enc Tryd.prog W base sp held 24 v d ps) :
    ∃ p ns cap root, v = arV p (ns : List Nd).length cap root ∧ NodesAt W (fun _ _ => True) p ns := by
  obtain ⟨cs, rfl, hsz⟩ := okWide_struct Tryd.underlying24 hval
  rw [clTree] at hsz
  obtain ⟨fuel, hf⟩ := hd
  obtain ⟨l⟩ := cs
  obtain ⟨a, b, rfl⟩ := list2 l hsz
  obtain ⟨y0, y1, n, _, _, h0, h1⟩ := trod_struct2 Tryd.underlying24 hf
  simp [clNodes, clInt, Value.cells] at h0 h1
  obtain ⟨root, e1, _, _⟩ := DataW.trod_int tyI64' h1
  simp only [List.cons.injEq, and_true] at e1
  subst e1
  rcases open_slice Tryd.underlying22 h0 with ⟨e, _⟩ | ⟨ad, len, cap, m, n2, D, Pl, e, _, hle, _, hm, _, hx⟩
  · simp only [List.cons.injEq, and_true] at e
    subst e
    exact ⟨none, [], 0, root, rfl, fun h => absurd rfl h⟩
  · simp only [List.cons.injEq, and_true] at e
    subst e
    have hlm : len ≤ m := by rw [hm]; split <;> omega
    haveI : Inhabited (Nd × Option Addr × Nat) := ⟨(⟨⟨0, 0, [], 0, 0⟩, []⟩, none, 0)⟩
    obtain ⟨nd, hnd⟩ := choose_lt (α := Nd × Option Addr × Nat) (n := len) (p := fun i z => HdOk z.1.hd ∧ W.cells? base (ad.add (i * Tryd.prog.cellsOf 56)) (Tryd.prog.cellsOf 56) = some (ndC z.1.hd z.2.1 z.1.kids.length z.2.2) ∧ IntsAt W (fun _ _ => True) z.2.1 z.1.kids) (fun i hi => by
      obtain ⟨cs', hc, ht⟩ := hx i (by omega)
      obtain ⟨_, hcl, _⟩ := World.cells?_some hc
      obtain ⟨z, q, c, h1, rfl, h2⟩ := open_node (by rw [hcl, clNode]) ht
      exact ⟨(z, q, c), h1, hc, h2⟩)
    have hlen : ((List.range len).map fun i => (nd i).1).length = len := by simp
    refine ⟨some ad, (List.range len).map fun i => (nd i).1, cap, root, by rw [hlen], fun hne => ?_⟩
    have hpos : 0 < len := by
      have : 0 < ((List.range len).map fun i => (nd i).1).length := List.length_pos_iff.2 hne
      omega
    have cells : ∀ i, i < len → ∀ j w, (ndC (nd i).1.hd (nd i).2.1 (nd i).1.kids.length (nd i).2.2)[j]? = some w → W.cell? (ad.add (i * 9 + j)) = some w := by
      intro i hi j w hj
      have hc := (hnd i hi).2.1
      rw [clNode] at hc
      obtain ⟨_, hcl, hat⟩ := World.cells?_some hc
      have hj9 : j < 9 := by
        have := (List.getElem?_eq_some_iff.1 hj).1
        simpa using this
      rw [← Go.Deep.add_add, hat j hj9, hj]
    have e0 : W.cell? ad = some (.int .u8 (nd 0).1.hd.kind) := by
      have := cells 0 hpos 0 _ rfl
      rwa [show ad.add (0 * 9 + 0) = ad from rfl] at this
    have e := cell_spot e0
    refine ⟨ad.block, ad.off, by rw [← e], trivial, fun j z hj => ?_⟩
    have hjl : j < len := by
      have := (List.getElem?_eq_some_iff.1 hj).1
      rwa [hlen] at this
    obtain rfl : (nd j).1 = z := by
      rw [List.getElem?_map, List.getElem?_range hjl] at hj
      simpa using hj
    refine ⟨(nd j).2.1, (nd j).2.2, (hnd j hjl).1, fun k w hk => ?_, (hnd j hjl).2.2⟩
    have := cells j hjl k w hk
    rw [e, add_plain] at this
    rw [show ad.off + j * 9 + k = ad.off + (j * 9 + k) by omega]
    exact this
end
end Go.Proofs.YtcenjpaiehidjaaDoor

/- What the row's list gives the walks: the two tables. A law that writes below none of the old blocks. -/
namespace Go.Proofs.YtcenjpaiehidjaaDoor
open Go.ChangeShapes Go.WideShapes Go.ChangeAt Go.RowKit Go.Deep
set_option maxRecDepth 100000

theorem own : ownKnob Tryd.prog.godebug = none := by kernel_rfl
theorem gKids : Tryd.prog.globalNamed "bonsai/tree.kids" = some 0 := by kernel_rfl
theorem gTog : Tryd.prog.globalNamed "bonsai/expr.together" = some 1 := by kernel_rfl
theorem tKids : (Tryd.prog.globals[0]?).map (·.type) = some 82 := by kernel_rfl
theorem tTog : (Tryd.prog.globals[1]?).map (·.type) = some 87 := by kernel_rfl
theorem tyKids : Tryd.prog.underlying 82 = some (.array 10 81) := by kernel_rfl
theorem tyTog : Tryd.prog.underlying 87 = some (.array 10 64) := by kernel_rfl
theorem clMany : Tryd.prog.cellsOf 81 = 2 := by kernel_rfl
theorem clKids : Tryd.prog.cellsOf 82 = 20 := by kernel_rfl
theorem clTog : Tryd.prog.cellsOf 87 = 10 := by kernel_rfl
theorem clFn : Tryd.prog.cellsOf 64 = 1 := by kernel_rfl
abbrev laidL : List (String × DataW Unit) := [("bonsai/tree.kids", Rows.laid_bonsai_tree_kids), ("bonsai/expr.together", Rows.laid_bonsai_expr_together)]
section
variable {H : Type} {enc : TypeId × Value → H} {W : World} {base : Nat} {sp : Nat → Bool} {held : Bool}
theorem many_cells {n : Nat} {cs : List Value} {a b : Int} {p : List MemPlace} (hl : cs.length = 2) (h : DataW.trod enc Tryd.prog W base sp held n 81 cs = some (.agg [.lit (.int .i64 a), .lit (.int .i64 b)], p)) : cs = [.int .i64 a, .int .i64 b] := by
  obtain ⟨x, y, rfl⟩ := list2 cs hl
  obtain ⟨y0, y1, m, hx, _, h0, h1⟩ := trod_struct2 Tryd.underlying81 h
  simp [clInt] at h0 h1
  obtain ⟨k, e0, rfl, _⟩ := DataW.trod_int tyI64' h0
  obtain ⟨l, e1, rfl, _⟩ := DataW.trod_int tyI64' h1
  simp at hx e0 e1
  obtain ⟨⟨h2, h3⟩, _⟩ := hx
  subst e0 e1 h2 h3
  rfl
end
/-- The table of how many kids a node has. -/
theorem kids_of {W : World} (h : laidMetH Tryd.prog laidL W) : KidsT W := by
  obtain ⟨⟨ps, ⟨g, t, cs, fuel, p, q, hg, ht, hv, hd, _, _⟩, _⟩, _⟩ : laidMet Tryd.prog [("bonsai/tree.kids", Rows.laid_bonsai_tree_kids)] W ∧ handlesMet Tryd.prog [("bonsai/expr.together", Rows.laid_bonsai_expr_together)] W := h
  obtain rfl := Option.some.inj (gKids.symm.trans hg)
  obtain rfl := Option.some.inj (tKids.symm.trans ht)
  obtain ⟨xs, m, _, hx, hcl, hxl, hi⟩ := DataW.trod_array tyKids hd
  rw [clKids] at hcl
  have hx1 : Rows.laid_bonsai_tree_kids = DataW.agg (xs.map (·.1)) := congrArg Prod.fst hx
  have row : ∀ (i : Nat) (a b : Int), i < 10 → (xs.map (·.1))[i]? = some (.agg [.lit (.int .i64 a), .lit (.int .i64 b)]) → cs.toList[i * 2]? = some (.int .i64 a) ∧ cs.toList[i * 2 + 1]? = some (.int .i64 b) := by
    intro i a b hi10 hxi
    have h1 := hi i hi10
    rw [clMany] at h1
    rw [List.getElem?_map] at hxi
    cases hxs : xs[i]? with
    | none => rw [hxs] at hxi; simp at hxi
    | some y =>
      rw [hxs] at hxi h1
      obtain ⟨y1, y2⟩ := y
      simp only [Option.map_some, Option.some.injEq] at hxi
      subst hxi
      have h2 := many_cells (by rw [List.length_take, List.length_drop]; omega) h1
      have g0 := congrArg (·[0]?) h2
      have g1 := congrArg (·[1]?) h2
      simp only [List.getElem?_take, List.getElem?_drop] at g0 g1
      exact ⟨by simpa using g0, by simpa using g1⟩
  have hds : xs.map (·.1) = [.agg [.lit (.int .i64 0), .lit (.int .i64 0)], .agg [.lit (.int .i64 0), .lit (.int .i64 0)], .agg [.lit (.int .i64 0), .lit (.int .i64 0)], .agg [.lit (.int .i64 0), .lit (.int .i64 0)], .agg [.lit (.int .i64 2), .lit (.int .i64 (-1))], .agg [.lit (.int .i64 2), .lit (.int .i64 (-1))], .agg [.lit (.int .i64 1), .lit (.int .i64 1)], .agg [.lit (.int .i64 1), .lit (.int .i64 1)], .agg [.lit (.int .i64 1), .lit (.int .i64 1)], .agg [.lit (.int .i64 1), .lit (.int .i64 1)]] := by
    have := hx1
    unfold Rows.laid_bonsai_tree_kids at this
    injection this with this
    exact this.symm
  have cell : ∀ (j : Nat) (z : Int), cs.toList[j]? = some (.int .i64 z) → W.cell? ⟨0, j, none⟩ = some (.int .i64 z) := fun j z hz => by
    have := World.var?_cell gKids hv j
    rw [this]
    simpa using hz
  intro j hj
  have r0 := row 0 _ _ (by decide) (by rw [hds]; rfl)
  have r1 := row 1 _ _ (by decide) (by rw [hds]; rfl)
  have r2 := row 2 _ _ (by decide) (by rw [hds]; rfl)
  have r3 := row 3 _ _ (by decide) (by rw [hds]; rfl)
  have r4 := row 4 _ _ (by decide) (by rw [hds]; rfl)
  have r5 := row 5 _ _ (by decide) (by rw [hds]; rfl)
  have r6 := row 6 _ _ (by decide) (by rw [hds]; rfl)
  have r7 := row 7 _ _ (by decide) (by rw [hds]; rfl)
  have r8 := row 8 _ _ (by decide) (by rw [hds]; rfl)
  have r9 := row 9 _ _ (by decide) (by rw [hds]; rfl)
  match j, hj with
  | 0, _ => exact cell _ _ r0.1
  | 1, _ => exact cell _ _ r0.2
  | 2, _ => exact cell _ _ r1.1
  | 3, _ => exact cell _ _ r1.2
  | 4, _ => exact cell _ _ r2.1
  | 5, _ => exact cell _ _ r2.2
  | 6, _ => exact cell _ _ r3.1
  | 7, _ => exact cell _ _ r3.2
  | 8, _ => exact cell _ _ r4.1
  | 9, _ => exact cell _ _ r4.2
  | 10, _ => exact cell _ _ r5.1
  | 11, _ => exact cell _ _ r5.2
  | 12, _ => exact cell _ _ r6.1
  | 13, _ => exact cell _ _ r6.2
  | 14, _ => exact cell _ _ r7.1
  | 15, _ => exact cell _ _ r7.2
  | 16, _ => exact cell _ _ r8.1
  | 17, _ => exact cell _ _ r8.2
  | 18, _ => exact cell _ _ r9.1
  | 19, _ => exact cell _ _ r9.2
  | j + 20, hj => omega
/-- The table of functions that put parts together. -/
abbrev nmOf : List UInt8 := [98, 111, 110, 115, 97, 105, 47, 116, 114, 101, 101, 46, 79, 102]
abbrev nmT (k : UInt8) : List UInt8 := [98, 111, 110, 115, 97, 105, 47, 101, 120, 112, 114, 46, 116, 111, 103, 101, 116, 104, 101, 114, 36, k]
theorem tog_cells {W : World} (h : laidMetH Tryd.prog laidL W) : ∀ j, j < 10 → W.cell? ⟨1, j, none⟩ = some (fv (togTab.getD j 0)) := by
  obtain ⟨g, t, cs, fuel, p, hg, ht, hv, hd⟩ := h.funcs (n := "bonsai/expr.together") (List.mem_cons_of_mem _ List.mem_cons_self)
  obtain rfl := Option.some.inj (gTog.symm.trans hg)
  obtain rfl := Option.some.inj (tTog.symm.trans ht)
  have hd' : DataW.trod (funcToken Tryd.prog) Tryd.prog W 0 (fun _ => true) true fuel 87 cs.toList = some (.agg [.held nmOf, .held nmOf, .held nmOf, .held nmOf, .held (nmT 49), .held (nmT 50), .held nmOf, .held nmOf, .held nmOf, .held nmOf], p) := hd
  obtain ⟨xs, m, _, hx, hcl, hxl, hi⟩ := DataW.trod_array tyTog hd'
  rw [clTog] at hcl
  have hds : xs.map (·.1) = [.held nmOf, .held nmOf, .held nmOf, .held nmOf, .held (nmT 49), .held (nmT 50), .held nmOf, .held nmOf, .held nmOf, .held nmOf] := by
    have := congrArg Prod.fst hx
    simp only [DataW.agg.injEq] at this
    exact this.symm
  have row : ∀ (i : Nat) (b : UInt8) (r : List UInt8) (f0 : FuncId), i < 10 → (xs.map (·.1))[i]? = some (.held (b :: r)) → ((List.range Tryd.prog.funcs.size).filter fun f => (Tryd.prog.funcs[f]?).any (·.name.toUTF8.data.toList == b :: r)) = [f0] → W.cell? ⟨1, i, none⟩ = some (.func (.func f0) #[] #[]) := by
    intro i b r f0 hi10 hxi hone
    have h1 := hi i hi10
    rw [clFn] at h1
    rw [List.getElem?_map] at hxi
    cases hxs : xs[i]? with
    | none => rw [hxs] at hxi; simp at hxi
    | some y =>
      rw [hxs] at hxi h1
      obtain ⟨y1, y2⟩ := y
      simp only [Option.map_some, Option.some.injEq] at hxi
      subst hxi
      obtain ⟨v, hv1⟩ : ∃ v, cs.toList[i]? = some v := ⟨_, List.getElem?_eq_getElem (by omega)⟩
      have e1 : (cs.toList.drop (i * 1)).take 1 = [v] := by
        rw [Nat.mul_one]
        have hlt : i < cs.toList.length := by omega
        rw [List.drop_eq_getElem_cons hlt]
        have e2 : cs.toList[i] = v := by
          have := List.getElem?_eq_getElem hlt
          rw [hv1] at this
          exact (Option.some.inj this).symm
        rw [e2]
        rfl
      rw [e1] at h1
      have e3 := func_of_trod Tryd.underlying64 hone h1
      subst e3
      have := World.var?_cell gTog hv i
      rw [this]
      simpa using hv1
  have kOf : ((List.range Tryd.prog.funcs.size).filter fun f => (Tryd.prog.funcs[f]?).any (·.name.toUTF8.data.toList == nmOf)) = [90] := by kernel_rfl
  have k1 : ((List.range Tryd.prog.funcs.size).filter fun f => (Tryd.prog.funcs[f]?).any (·.name.toUTF8.data.toList == nmT 49)) = [91] := by kernel_rfl
  have k2 : ((List.range Tryd.prog.funcs.size).filter fun f => (Tryd.prog.funcs[f]?).any (·.name.toUTF8.data.toList == nmT 50)) = [93] := by kernel_rfl
  intro j hj
  match j, hj with
  | 0, _ => exact row 0 _ _ _ (by decide) (by rw [hds]; rfl) kOf
  | 1, _ => exact row 1 _ _ _ (by decide) (by rw [hds]; rfl) kOf
  | 2, _ => exact row 2 _ _ _ (by decide) (by rw [hds]; rfl) kOf
  | 3, _ => exact row 3 _ _ _ (by decide) (by rw [hds]; rfl) kOf
  | 4, _ => exact row 4 _ _ _ (by decide) (by rw [hds]; rfl) k1
  | 5, _ => exact row 5 _ _ _ (by decide) (by rw [hds]; rfl) k2
  | 6, _ => exact row 6 _ _ _ (by decide) (by rw [hds]; rfl) kOf
  | 7, _ => exact row 7 _ _ _ (by decide) (by rw [hds]; rfl) kOf
  | 8, _ => exact row 8 _ _ _ (by decide) (by rw [hds]; rfl) kOf
  | 9, _ => exact row 9 _ _ _ (by decide) (by rw [hds]; rfl) kOf
  | j + 10, hj => omega
theorem tabs_of {W : World} (h : laidMetH Tryd.prog laidL W) : Tabs W := ⟨kids_of h, tog_cells h⟩

/-- A law that writes below none of the old blocks; its arguments read as they did. -/
theorem post_places {H : Type} {enc : TypeId × Value → H} {P : Program} {f : Func} {s : ChangeSpec} {apart fresh handsOn : Bool} {W W' : World} {args : Array Value} {v : Value} {ds gs : List (DataW H)} {before : List MemPlace}
    (hW : DataW.Whole enc P f.params.toList s.vars apart W args.toList ds gs before)
    (hres : ∀ (b : Nat) (sp : Nat → Bool) (hd : Bool), DataW.TrodAll enc P W' b sp hd f.resultTypes.toList (v.resultList f.resultTypes.size) (s.fn H (ds ++ gs)).results [])
    (hargs : DataW.TrodAll enc P W' 0 (fun b => decide (b < W.heap.size)) true f.params.toList args.toList (s.fn H (ds ++ gs)).args before)
    (hvars : ∀ sp : Nat → Bool, DataW.TrodVars enc P W' sp s.vars (s.fn H (ds ++ gs)).vars []) (hb : Below W.heap.size W W') :
    s.post enc P f apart fresh handsOn false W args v W' := by
  refine ⟨ds, gs, before, [], before, [], hW, hres _ _ _, hargs, hvars _, World.keptBut_mono (fun p hp => ⟨hp, .inr (.inl hp)⟩) (hb.frame (· ∈ before)), fun h => ?_⟩
  cases h
theorem tyBool' : Tryd.prog.underlying 4 = some .bool := by kernel_rfl
theorem laidOut : laidOutB Tryd.prog = true := by kernel_rfl
end Go.Proofs.YtcenjpaiehidjaaDoor
