/- Contracts of tree.Root, and of the leaves. -/
import Derived.Test.YtcenjpaiehidjaaDoorJ7
set_option linter.unusedSimpArgs false
set_option linter.unusedVariables false
namespace Go.Proofs.YtcenjpaiehidjaaDoor
open Go.RowKit
set_option maxRecDepth 100000

abbrev zeroHd : Hd := ⟨0, 0, [], 0, 0⟩
theorem nd_cells {S : Nat → Prop} {w W : World} {L : List (Nat × Obj)} {R : List OwnR} {g : Nat} {h : Hd} {q : Option Addr} {n cap : Nat} (hI : RInv S w L R W) (hp : (g, ndO h q n cap) ∈ L) :
    W.cell? ⟨g, 0, none⟩ = some (.int .u8 h.kind) ∧ W.cell? ⟨g, 1, none⟩ = some (.int .u64 (w64 h.set 0)) ∧ W.cell? ⟨g, 2, none⟩ = some (.int .u64 (w64 h.set 1)) ∧ W.cell? ⟨g, 3, none⟩ = some (.int .u64 (w64 h.set 2)) ∧ W.cell? ⟨g, 4, none⟩ = some (.int .u64 (w64 h.set 3)) ∧
    W.cell? ⟨g, 5, none⟩ = some (.string (strOf h.text)) ∧ W.cell? ⟨g, 6, none⟩ = some (.int .i64 h.lo) ∧ W.cell? ⟨g, 7, none⟩ = some (.int .i64 h.hi) ∧ W.cell? ⟨g, 8, none⟩ = some (.slice q n cap) :=
  ⟨hI.cell hp rfl, hI.cell hp rfl, hI.cell hp rfl, hI.cell hp rfl, hI.cell hp rfl, hI.cell hp rfl, hI.cell hp rfl, hI.cell hp rfl, hI.cell hp rfl⟩
set_option maxHeartbeats 2000000 in
/-- tree.Root, of a tree that is right. -/
theorem root_yes (ns : List Nd) (x : Xp) (root : Int) (p : Option Addr) (cap : Nat) (hS : Small ns) (hR : RightP ⟨ns, root⟩) (hx : sits ns x root) (w : World) (F : Nat → TypeId → Prop) (hN : NodesAt w F p ns) (hT : KidsT w) :
    Calls Tryd.prog 31 #[arV p ns.length cap root] w fun e w' => e = .returned (ndV x.hd none 0 0) ∧ Below w.heap.size w w' := by
  have hl := hS.len
  obtain ⟨j, nd, rfl, hj, hnd, _, hhd, _⟩ := walk_idx hx
  have HN := Lib.hid hN
  have HS := Lib.hid hS
  have HR := Lib.hid hR
  have HT := Lib.hid hT
  have Hhd := Lib.hid hhd
  have hI := ((RInv.start noS w).alloc (arO p ns.length cap (j : Int))).alloc (ndO zeroHd none 0 0)
  rw [World.size_alloc] at hI
  obtain ⟨b, off, rfl, _, hcc⟩ := hN (by intro h; rw [h] at hj; exact absurd hj (by simp))
  obtain ⟨q, cap', hdok, hr, hki⟩ := hcc j nd hnd
  have Hr := Lib.hid hr
  have Hlt := Lib.hid (block_lt_of_cell (hr 0 _ rfl))
  clear hN hS hR hT hx hhd hcc hr hki hnd hdok
  go_enter Tryd.func31, Tryd.ntmps31
  go_wp2_with (first | (go_at_call 15; refine (right_true ns (j : Int) _ cap HS.out _ F (HN.out.below hI.below) (HT.out.keep hI.below) HR.out).mono ?_; rintro e W1 ⟨rfl, hb1⟩; have hI1 := hI.call hb1; clear hb1; obtain ⟨c0, c1⟩ := box_cells hI1 (List.mem_cons_of_mem _ List.mem_cons_self)) | (refine load_node rfl _ rfl b (off + j * 9) rfl nd.hd q nd.kids.length cap' (rangeAt_keep Hr.out (hI1.below.block b Hlt.out)) ?_) | (refine rinv_row rfl _ _ _ rfl (w.heap.size + 1) (ndC zeroHd none 0 0).toArray (ndC nd.hd none 0 0).toArray 56 rfl rfl (by simp [Value.oneCell']) szNode rfl ((hI1.alloc (ndO nd.hd none 0 0)).subL (L' := [(w.heap.size + 1, ndO zeroHd none 0 0)]) (by simp)) (.inl (by omega)) (by simp) ?_; intro W3 hI3 hg3; obtain ⟨d0, d1, d2, d3, d4, d5, d6, d7, d8⟩ := nd_cells hI3 List.mem_cons_self))
  refine bodyPost_ret (v := ndV nd.hd none 0 0) (by simp [results, Tryd.results31, go_sem, d0, d1, d2, d3, d4, d5, d6, d7, d8]) rfl ⟨by rw [Hhd.out], hI3.below⟩
set_option maxHeartbeats 2000000 in
/-- tree.Root, of one that is not. -/
theorem root_no (ns : List Nd) (root : Int) (p : Option Addr) (cap : Nat) (hS : Small ns) (hR : ¬ RightP ⟨ns, root⟩) (w : World) (F : Nat → TypeId → Prop) (hN : NodesAt w F p ns) (hT : KidsT w) :
    Calls Tryd.prog 31 #[arV p ns.length cap root] w fun e w' => e = .returned (ndV zeroHd none 0 0) ∧ Below w.heap.size w w' := by
  have HN := Lib.hid hN
  have HS := Lib.hid hS
  have HR := Lib.hid hR
  have HT := Lib.hid hT
  have hI := ((RInv.start noS w).alloc (arO p ns.length cap root)).alloc (ndO zeroHd none 0 0)
  rw [World.size_alloc] at hI
  clear hN hS hR hT
  go_enter Tryd.func31, Tryd.ntmps31
  go_wp2_with (first | (go_at_call 15; refine (right_false ns root _ cap HS.out _ F (HN.out.below hI.below) (HT.out.keep hI.below) HR.out).mono ?_; rintro e W1 ⟨rfl, hb1⟩; have hI1 := hI.call hb1; clear hb1) | (refine rinv_row rfl _ _ _ rfl (w.heap.size + 1) (ndC zeroHd none 0 0).toArray (ndC zeroHd none 0 0).toArray 56 rfl rfl (by simp [Value.oneCell']) szNode rfl hI1 (.inl (by omega)) (by simp) ?_; intro W3 hI3 hg3; obtain ⟨d0, d1, d2, d3, d4, d5, d6, d7, d8⟩ := nd_cells hI3 List.mem_cons_self))
  exact bodyPost_ret (v := ndV zeroHd none 0 0) (by simp [results, Tryd.results31, go_sem, d0, d1, d2, d3, d4, d5, d6, d7, d8]) rfl ⟨rfl, hI3.below⟩
/-- A leaf, clean. -/
theorem clean_leaf (h : Hd) : clean (.node h []) = ⟨[⟨h, []⟩], 0⟩ := by
  unfold clean
  rw [lay_node, layL_nil, Xp.size_node, sizeL_nil]
  rfl
theorem leaf_at {W : World} {n g : Nat} {h : Hd} {c : Nat} (hd : HdOk h) (hb : W.heap[g]? = some (ndO h none 0 0)) (hn : n ≤ g) : TreeAt W (Own n W) (arV (some ⟨g, 0, none⟩) 1 c 0) (clean (.node h [])) := by
  rw [clean_leaf]
  refine ⟨some ⟨g, 0, none⟩, c, rfl, fun _ => ⟨g, 0, rfl, ⟨hn, _, hb⟩, fun j nd hj => ?_⟩⟩
  match j, hj with
  | 0, hj =>
    simp at hj
    subst hj
    refine ⟨none, 0, hd, fun i v hv => ?_, fun hne => absurd rfl hne⟩
    rw [show (0 + 0 * 9 + i) = i by omega, cell_of_row _ _ _ _ _ _ hb, List.getElem?_toArray]
    exact hv
set_option maxHeartbeats 2000000 in
/-- tree.leaf. -/
theorem leaf_any (h : Hd) (hd : HdOk h) (w : World) :
    Calls Tryd.prog 44 #[ndV h none 0 0] w fun e w' => GivesT w.heap.size w' e (.node h []) ∧ Below w.heap.size w w' := by
  have Hd := Lib.hid hd
  have hI := (((RInv.start noS w).alloc (ndO h none 0 0)).alloc (arO none 0 0 0)).alloc (ndO h none 0 0)
  rw [World.size_alloc, World.size_alloc] at hI
  clear hd
  go_enter Tryd.func44, Tryd.ntmps44
  go_wp2_with (first | (refine rinv_row rfl _ _ _ rfl (w.heap.size + 1) #[.slice none 0 0, .int .i64 0] #[.slice (some ⟨w.heap.size + 2, 0, none⟩) 1 1, .int .i64 0] 24 rfl rfl (by simp [Value.oneCell']) szTree rfl (hI.subL (L' := [(w.heap.size + 1, arO none 0 0 0), (w.heap.size + 2, ndO h none 0 0)]) (by simp)) (.inl (by omega)) (by simp) ?_; intro W3 hI3 hg3; obtain ⟨c0, c1⟩ := box_cells hI3 List.mem_cons_self))
  exact bodyPost_ret (v := arV (some ⟨w.heap.size + 2, 0, none⟩) 1 1 0) (by simp [results, Tryd.results44, go_sem, c0, c1]) rfl ⟨⟨_, rfl, leaf_at Hd.out (hI3.at (g := w.heap.size + 2) (by simp)) (by omega)⟩, hI3.below⟩
theorem HdOk.mk' {k : Int} {s : Nat} {l : List UInt8} {a b : Int} (h1 : 0 ≤ k ∧ k < 256) (h2 : s < 2 ^ 256) : HdOk ⟨k, s, l, a, b⟩ := ⟨h1, h2⟩
/-- A node whose set is none, as a value. -/
abbrev ndZ (k : Int) (l : List UInt8) (a b : Int) (q : Option Addr) (n c : Nat) : Value := .agg #[.int .u8 k, .int .u64 0, .int .u64 0, .int .u64 0, .int .u64 0, .string (strOf l), .int .i64 a, .int .i64 b, .slice q n c]
theorem ndZ_eq (k : Int) (l : List UInt8) (a b : Int) (q : Option Addr) (n c : Nat) : ndV ⟨k, 0, l, a, b⟩ q n c = ndZ k l a b q n c := by
  simp only [ndV, ndC, w64_zero]
theorem leaf_zero (k : Int) (l : List UInt8) (a b : Int) (hk : 0 ≤ k ∧ k < 256) (w : World) :
    Calls Tryd.prog 44 #[ndZ k l a b none 0 0] w fun e w' => GivesT w.heap.size w' e (.node ⟨k, 0, l, a, b⟩ []) ∧ Below w.heap.size w w' := by
  rw [← ndZ_eq]
  exact leaf_any _ (HdOk.mk' hk (by decide)) w
set_option maxHeartbeats 2000000 in
/-- tree.Empty. -/
theorem emptyT_any (w : World) :
    Calls Tryd.prog 22 #[] w fun e w' => GivesT w.heap.size w' e (.node ⟨0, 0, [], 0, 0⟩ []) ∧ Below w.heap.size w w' := by
  have hI := (RInv.start noS w).alloc (arO none 0 0 0)
  go_enter Tryd.func22, Tryd.ntmps22
  go_wp2_with (first | (go_at_call 44; refine (leaf_any ⟨0, 0, [], 0, 0⟩ (HdOk.mk' (by decide) (by decide)) _).mono ?_; rintro e W1 ⟨⟨v, rfl, p, cap, rfl, hp⟩, hb1⟩; have hI1 := hI.call hb1; clear hb1) | (refine rinv_row rfl _ _ _ rfl w.heap.size #[.slice none 0 0, .int .i64 0] #[.slice p (clean (.node ⟨0, 0, [], 0, 0⟩ [])).nodes.length cap, .int .i64 (clean (.node ⟨0, 0, [], 0, 0⟩ [])).root] 24 rfl rfl (by simp [Value.oneCell']) szTree rfl hI1 (.inl (by omega)) (by simp) ?_; intro W3 hI3 hg3; obtain ⟨c0, c1⟩ := box_cells hI3 List.mem_cons_self))
  exact bodyPost_ret (v := arV p (clean (.node ⟨0, 0, [], 0, 0⟩ [])).nodes.length cap (clean (.node ⟨0, 0, [], 0, 0⟩ [])).root) (by simp [results, Tryd.results22, go_sem, c0, c1]) rfl ⟨⟨_, rfl, p, cap, rfl, hp.turn (own_low hg3 (by simp only [World.size_alloc]; omega) (by simp only [World.size_alloc]; omega))⟩, hI3.below⟩
set_option maxHeartbeats 2000000 in
/-- tree.Text. -/
theorem textT_any (l : List UInt8) (w : World) :
    Calls Tryd.prog 43 #[.string (strOf l)] w fun e w' => GivesT w.heap.size w' e (.node ⟨2, 0, l, 0, 0⟩ []) ∧ Below w.heap.size w w' := by
  have hI := (RInv.start noS w).alloc (arO none 0 0 0)
  go_enter Tryd.func43, Tryd.ntmps43
  go_wp2_with (first | (go_at_call 44; refine (leaf_zero 2 l 0 0 (by decide) _).mono ?_; rintro e W1 ⟨⟨v, rfl, p, cap, rfl, hp⟩, hb1⟩; have hI1 := hI.call hb1; clear hb1) | (refine rinv_row rfl _ _ _ rfl w.heap.size #[.slice none 0 0, .int .i64 0] #[.slice p (clean (.node ⟨2, 0, l, 0, 0⟩ [])).nodes.length cap, .int .i64 (clean (.node ⟨2, 0, l, 0, 0⟩ [])).root] 24 rfl rfl (by simp [Value.oneCell']) szTree rfl hI1 (.inl (by omega)) (by simp) ?_; intro W3 hI3 hg3; obtain ⟨c0, c1⟩ := box_cells hI3 List.mem_cons_self))
  exact bodyPost_ret (v := arV p (clean (.node ⟨2, 0, l, 0, 0⟩ [])).nodes.length cap (clean (.node ⟨2, 0, l, 0, 0⟩ [])).root) (by simp [results, Tryd.results43, go_sem, c0, c1]) rfl ⟨⟨_, rfl, p, cap, rfl, hp.turn (own_low hg3 (by simp only [World.size_alloc]; omega) (by simp only [World.size_alloc]; omega))⟩, hI3.below⟩
set_option maxHeartbeats 2000000 in
/-- tree.Rule. -/
theorem ruleT_any (l : List UInt8) (w : World) :
    Calls Tryd.prog 24 #[.string (strOf l)] w fun e w' => GivesT w.heap.size w' e (.node ⟨3, 0, l, 0, 0⟩ []) ∧ Below w.heap.size w w' := by
  have hI := (RInv.start noS w).alloc (arO none 0 0 0)
  go_enter Tryd.func24, Tryd.ntmps24
  go_wp2_with (first | (go_at_call 44; refine (leaf_zero 3 l 0 0 (by decide) _).mono ?_; rintro e W1 ⟨⟨v, rfl, p, cap, rfl, hp⟩, hb1⟩; have hI1 := hI.call hb1; clear hb1) | (refine rinv_row rfl _ _ _ rfl w.heap.size #[.slice none 0 0, .int .i64 0] #[.slice p (clean (.node ⟨3, 0, l, 0, 0⟩ [])).nodes.length cap, .int .i64 (clean (.node ⟨3, 0, l, 0, 0⟩ [])).root] 24 rfl rfl (by simp [Value.oneCell']) szTree rfl hI1 (.inl (by omega)) (by simp) ?_; intro W3 hI3 hg3; obtain ⟨c0, c1⟩ := box_cells hI3 List.mem_cons_self))
  exact bodyPost_ret (v := arV p (clean (.node ⟨3, 0, l, 0, 0⟩ [])).nodes.length cap (clean (.node ⟨3, 0, l, 0, 0⟩ [])).root) (by simp [results, Tryd.results24, go_sem, c0, c1]) rfl ⟨⟨_, rfl, p, cap, rfl, hp.turn (own_low hg3 (by simp only [World.size_alloc]; omega) (by simp only [World.size_alloc]; omega))⟩, hI3.below⟩
set_option maxHeartbeats 2000000 in
/-- tree.Set. -/
theorem setT_any (s : Nat) (hs : s < 2 ^ 256) (w : World) :
    Calls Tryd.prog 94 #[setV s] w fun e w' => GivesT w.heap.size w' e (.node ⟨1, s, [], 0, 0⟩ []) ∧ Below w.heap.size w w' := by
  have Hs := Lib.hid hs
  clear hs
  have hI := ((RInv.start noS w).alloc (.cells #[.int .u64 (w64 s 0), .int .u64 (w64 s 1), .int .u64 (w64 s 2), .int .u64 (w64 s 3)] 54)).alloc (arO none 0 0 0)
  rw [World.size_alloc] at hI
  go_enter Tryd.func94, Tryd.ntmps94
  go_wp2_with (first | (go_at_call 44; refine (leaf_any ⟨1, s, [], 0, 0⟩ (HdOk.mk' (by decide) Hs.out) _).mono ?_; rintro e W1 ⟨⟨v, rfl, p, cap, rfl, hp⟩, hb1⟩; have hI1 := hI.call hb1; clear hb1) | (refine rinv_row rfl _ _ _ rfl (w.heap.size + 1) #[.slice none 0 0, .int .i64 0] #[.slice p (clean (.node ⟨1, s, [], 0, 0⟩ [])).nodes.length cap, .int .i64 (clean (.node ⟨1, s, [], 0, 0⟩ [])).root] 24 rfl rfl (by simp [Value.oneCell']) szTree rfl hI1 (.inl (by omega)) (by simp) ?_; intro W3 hI3 hg3; obtain ⟨c0, c1⟩ := box_cells hI3 List.mem_cons_self))
  exact bodyPost_ret (v := arV p (clean (.node ⟨1, s, [], 0, 0⟩ [])).nodes.length cap (clean (.node ⟨1, s, [], 0, 0⟩ [])).root) (by simp [results, Tryd.results94, go_sem, c0, c1]) rfl ⟨⟨_, rfl, p, cap, rfl, hp.turn (own_low hg3 (by simp only [World.size_alloc]; omega) (by simp only [World.size_alloc]; omega))⟩, hI3.below⟩
end Go.Proofs.YtcenjpaiehidjaaDoor

/- Lists of trees in memory. -/
namespace Go.Proofs.YtcenjpaiehidjaaDoor
open Go.RowKit
set_option maxRecDepth 100000

theorem treeT : ElemT Tryd.prog 30 24 (arV none 0 0 0) 2 32 := ⟨by kernel_rfl, by kernel_rfl, rfl, by decide⟩
/-- The trees that a slice of trees at p holds. -/
def TreesAt (W : World) (F : Nat → TypeId → Prop) (p : Option Addr) (ts : List Ar) : Prop :=
  ts ≠ [] → ∃ b o, p = some ⟨b, o, none⟩ ∧ F b 24 ∧ ∀ (j : Nat) T, ts[j]? = some T → ∃ q cap, W.cell? ⟨b, o + j * 2, none⟩ = some (.slice q T.nodes.length cap) ∧ W.cell? ⟨b, o + j * 2 + 1, none⟩ = some (.int .i64 T.root) ∧ NodesAt W F q T.nodes
/-- The cells of trees, one behind the other. -/
structure TreesIn (W : World) (F : Nat → TypeId → Prop) (xs : List Value) (ts : List Ar) : Prop where
  len : xs.length = ts.length * 2
  get : ∀ (j : Nat) T, ts[j]? = some T → ∃ q cap, xs[j * 2]? = some (.slice q T.nodes.length cap) ∧ xs[j * 2 + 1]? = some (.int .i64 T.root) ∧ NodesAt W F q T.nodes
section
variable {W W' : World} {F F' : Nat → TypeId → Prop} {n m : Nat} {xs : List Value} {ts : List Ar} {p : Option Addr}
theorem NodesAt.types {q : Option Addr} {ns : List Nd} (h : NodesAt W F q ns) : NodesAt W (fun b t => F b t ∧ (t = 56 ∨ t = 3)) q ns := fun hne => by
  obtain ⟨b, o, e, hb, hc⟩ := h hne
  refine ⟨b, o, e, ⟨hb, .inl rfl⟩, fun j nd hj => ?_⟩
  obtain ⟨q, cap, h1, h2, h3⟩ := hc j nd hj
  refine ⟨q, cap, h1, h2, fun hl => ?_⟩
  obtain ⟨b, o, e, hb, hc⟩ := h3 hl
  exact ⟨b, o, e, ⟨hb, .inr rfl⟩, hc⟩
/-- A row of another type is written. -/
theorem NodesAt.other {q : Option Addr} {ns : List Nd} (h : NodesAt W (Own n W) q ns) {row : Option Nat} (hg : W.grownBy W' row) (hr : ∀ g cur t, row = some g → W.heap[g]? = some (.cells cur t (0, 0)) → t ≠ 56 ∧ t ≠ 3) : NodesAt W' (Own n W') q ns :=
  h.types.turn fun b t ⟨⟨h1, cur, h2⟩, ht⟩ hlt => by
    have hk := hg.block b hlt (fun e => by
      obtain ⟨ha, hb⟩ := hr b cur t e.symm h2
      rcases ht with ht | ht
      · exact ha ht
      · exact hb ht)
    exact ⟨hk, h1, cur, hk.trans h2⟩
theorem row_type {base : Nat} {e : TypeId} {size : Nat} {v : Value} {k : Nat} (h : W.ownsRow base e size v k xs) : ∀ g cur t, v.ownBlock = some g → W.heap[g]? = some (.cells cur t (0, 0)) → t = e := by
  intro g cur t hg hh
  rcases h.2 with ⟨rfl, _⟩ | ⟨g', cap, cur', rfl, _, hh', _⟩
  · cases hg
  · injection hg with hg
    simp only at hg
    subst hg
    rw [hh'] at hh
    injection hh with hh
    injection hh with _ hh
    exact hh.symm
theorem TreesIn.nil (W : World) (F : Nat → TypeId → Prop) : TreesIn W F [] [] := ⟨rfl, fun j T h => by simp at h⟩
theorem TreesIn.turn (h : TreesIn W F xs ts) (hF : ∀ b t, F b t → b < W.heap.size → W'.heap[b]? = W.heap[b]? ∧ F' b t) : TreesIn W' F' xs ts :=
  ⟨h.len, fun j T hj => by
    obtain ⟨q, cap, h1, h2, h3⟩ := h.get j T hj
    exact ⟨q, cap, h1, h2, h3.turn hF⟩⟩
theorem TreesIn.own (h : TreesIn W (Own n W) xs ts) (hb : Below W.heap.size W W') (hm : m ≤ n) : TreesIn W' (Own m W') xs ts := h.turn fun b _ ho hlt => ⟨hb.block b hlt, (ho.below hb hlt).mono hm⟩
theorem TreesIn.other (h : TreesIn W (Own n W) xs ts) {row : Option Nat} (hg : W.grownBy W' row) (hr : ∀ g cur t, row = some g → W.heap[g]? = some (.cells cur t (0, 0)) → t ≠ 56 ∧ t ≠ 3) : TreesIn W' (Own n W') xs ts :=
  ⟨h.len, fun j T hj => by
    obtain ⟨q, cap, h1, h2, h3⟩ := h.get j T hj
    exact ⟨q, cap, h1, h2, h3.other hg hr⟩⟩
theorem TreesIn.push (h : TreesIn W F xs ts) {q : Option Addr} {cap : Nat} {T : Ar} (hq : NodesAt W F q T.nodes) : TreesIn W F (xs ++ [.slice q T.nodes.length cap, .int .i64 T.root]) (ts ++ [T]) := by
  refine ⟨by rw [List.length_append, h.len, List.length_append]; simp; omega, fun j T' hj => ?_⟩
  rcases Nat.lt_trichotomy j ts.length with hlt | he | hgt
  · rw [List.getElem?_append_left hlt] at hj
    obtain ⟨q', cap', h1, h2, h3⟩ := h.get j T' hj
    exact ⟨q', cap', by rw [List.getElem?_append_left (by rw [h.len]; omega)]; exact h1, by rw [List.getElem?_append_left (by rw [h.len]; omega)]; exact h2, h3⟩
  · subst he
    rw [List.getElem?_append_right (Nat.le_refl _), Nat.sub_self] at hj
    injection hj with hj
    subst hj
    refine ⟨q, cap, ?_, ?_, hq⟩
    · rw [List.getElem?_append_right (by rw [h.len]; omega), h.len, Nat.sub_self]; rfl
    · rw [List.getElem?_append_right (by rw [h.len]; omega), h.len, Nat.add_sub_cancel_left]; rfl
  · rw [List.getElem?_eq_none (by simp; omega)] at hj
    cases hj
theorem TreesIn.app (h : TreesIn W F xs ts) {ys : List Value} {us : List Ar} (h2 : TreesIn W F ys us) : TreesIn W F (xs ++ ys) (ts ++ us) := by
  refine ⟨by rw [List.length_append, h.len, h2.len, List.length_append]; omega, fun j T' hj => ?_⟩
  by_cases hlt : j < ts.length
  · rw [List.getElem?_append_left hlt] at hj
    obtain ⟨q', cap', h1, h2, h3⟩ := h.get j T' hj
    exact ⟨q', cap', by rw [List.getElem?_append_left (by rw [h.len]; omega)]; exact h1, by rw [List.getElem?_append_left (by rw [h.len]; omega)]; exact h2, h3⟩
  · rw [List.getElem?_append_right (by omega)] at hj
    obtain ⟨q', cap', h1, h3, h4⟩ := h2.get _ T' hj
    refine ⟨q', cap', ?_, ?_, h4⟩
    · rw [List.getElem?_append_right (by rw [h.len]; omega), h.len, ← h1]; congr 1; omega
    · rw [List.getElem?_append_right (by rw [h.len]; omega), h.len, ← h3]; congr 1; omega
/-- A row of trees as a slice of trees. -/
theorem TreesIn.at {base : Nat} {v : Value} (h : TreesIn W (Own n W) xs ts) (ho : W.ownsRow base 24 2 v ts.length xs) (hn : ∀ g, v.ownBlock = some g → n ≤ g) : ∃ p cap, v = .slice p ts.length cap ∧ TreesAt W (Own n W) p ts := by
  by_cases h0 : ts.length = 0
  · obtain ⟨q, cap, rfl, _⟩ := row_slice ho
    exact ⟨q, cap, rfl, fun hne => absurd (List.eq_nil_of_length_eq_zero h0) hne⟩
  · obtain ⟨g, cap, cur, rfl, hb, hh, _⟩ := row_form ho (by omega)
    refine ⟨_, cap, rfl, fun _ => ⟨g, 0, rfl, ⟨hn g rfl, cur, hh⟩, fun j T hj => ?_⟩⟩
    obtain ⟨q, cap', h1, h2, h3⟩ := h.get j T hj
    refine ⟨q, cap', ?_, ?_, h3⟩
    · rw [Nat.zero_add]; exact row_cell ho rfl h1
    · rw [Nat.zero_add]; exact row_cell ho rfl h2
theorem TreesAt.turn (h : TreesAt W F p ts) (hF : ∀ b t, F b t → b < W.heap.size → W'.heap[b]? = W.heap[b]? ∧ F' b t) : TreesAt W' F' p ts := fun hne => by
  obtain ⟨b, o, e, hb, hc⟩ := h hne
  have hlt : b < W.heap.size := by
    cases ts with
    | nil => exact absurd rfl hne
    | cons x l =>
      obtain ⟨q, cap, h1, _⟩ := hc 0 x rfl
      exact block_lt_of_cell h1
  have hk := hF b _ hb hlt
  refine ⟨b, o, e, hk.2, fun j T hj => ?_⟩
  obtain ⟨q, cap, h1, h2, h3⟩ := hc j T hj
  exact ⟨q, cap, (World.cell?_of_block (a := ⟨b, o + j * 2, none⟩) hk.1).trans h1, (World.cell?_of_block (a := ⟨b, o + j * 2 + 1, none⟩) hk.1).trans h2, h3.turn hF⟩
theorem TreesAt.keep (h : TreesAt W F p ts) (hF : ∀ b t, F b t → b < W.heap.size → W'.heap[b]? = W.heap[b]?) : TreesAt W' F p ts := h.turn fun b t hb hlt => ⟨hF b t hb hlt, hb⟩
theorem TreesAt.below (h : TreesAt W F p ts) (hb : Below W.heap.size W W') : TreesAt W' F p ts := h.keep fun b _ _ hlt => hb.block b hlt
theorem TreesAt.mono (h : TreesAt W F p ts) (hF : ∀ b t, F b t → F' b t) : TreesAt W F' p ts := h.turn fun b t hb _ => ⟨rfl, hF b t hb⟩
theorem TreesAt.own (h : TreesAt W (Own n W) p ts) (hb : Below W.heap.size W W') (hm : m ≤ n) : TreesAt W' (Own m W') p ts := h.turn fun b _ ho hlt => ⟨hb.block b hlt, (ho.below hb hlt).mono hm⟩
end
theorem TreesIn.put {W W' : World} {n m : Nat} {xs : List Value} {ts : List Ar} {v : Value} {k : Nat} {q : Option Addr} {c : Nat} {y : Xp} (h : TreesIn W (Own n W) xs ts) (ho : W.ownsRow 0 24 2 v k xs) (hq : NodesAt W (Own m W) q (lay y 0)) (hm : n ≤ m) (hg : W.grownBy W' v.ownBlock) :
    TreesIn W' (Own n W') (xs ++ [.slice q y.size c, .int .i64 ((y.size : Int) - 1)]) (ts ++ [clean y]) := by
  have h1 := h.push (T := clean y) (cap := c) (hq.mono fun b t ho => ho.mono hm)
  rw [show (clean y).nodes.length = y.size from lay_len y 0] at h1
  exact h1.other hg fun g cur t e hh => by
    have := row_type ho g cur t e hh
    subst this
    exact ⟨by decide, by decide⟩
/-- Lists of trees that are no longer than a statement goes over. -/
structure SmallT (ts : List Ar) : Prop where
  len : ts.length ≤ 100000
  each : ∀ T ∈ ts, Small T.nodes
end Go.Proofs.YtcenjpaiehidjaaDoor

/- Contract of tree.Kids. -/
namespace Go.Proofs.YtcenjpaiehidjaaDoor
open Go.RowKit
set_option maxRecDepth 100000

theorem take_map_succ {ks : List Xp} {k : Nat} {y : Xp} (h : ks[k]? = some y) : (ks.take (k + 1)).map clean = (ks.take k).map clean ++ [clean y] := by
  obtain ⟨hk, e⟩ := List.getElem?_eq_some_iff.1 h
  rw [List.take_succ_eq_append_getElem hk, e, List.map_append]; rfl
theorem clean_nodes (y : Xp) : (clean y).nodes = lay y 0 := rfl
theorem clean_len (y : Xp) : (clean y).nodes.length = y.size := lay_len y 0
theorem treesC_len (ks : List Xp) (k : Nat) (h : k ≤ ks.length) : ((ks.take k).map clean).length = k := by simp; omega
set_option maxHeartbeats 4000000 in
/-- tree.Kids, of a tree that is right. -/
theorem kids_yes (ns : List Nd) (x : Xp) (root : Int) (p : Option Addr) (cap : Nat) (hS : Small ns) (hR : RightP ⟨ns, root⟩) (hx : sits ns x root) (hz : x.size ≤ 100000) (w : World) (F : Nat → TypeId → Prop) (hN : NodesAt w F p ns) (hT : KidsT w) :
    Calls Tryd.prog 29 #[arV p ns.length cap root] w fun e w' => ∃ v xs, e = .returned v ∧ w'.ownsRow w.heap.size 24 2 v x.kids.length xs ∧ TreesIn w' (Own w.heap.size w') xs (x.kids.map clean) ∧ Below w.heap.size w w' := by
  have hl := hS.len
  obtain ⟨j, nd, rfl, hj, hnd, _, hhd, hsk⟩ := walk_idx hx
  have hkl := hS.kids nd (List.mem_of_getElem? hnd)
  have hkz := kids_size x
  have HN := Lib.hid hN
  have HS := Lib.hid hS
  have HR := Lib.hid hR
  have HT := Lib.hid hT
  have Hsk := Lib.hid hsk
  have hkk := sitsL_len hsk
  have Hkk := Lib.hid hkk
  have hI := (RInv.start noS w).alloc (arO p ns.length cap (j : Int))
  obtain ⟨b, off, rfl, _, hcc⟩ := hN (by intro h; rw [h] at hj; exact absurd hj (by simp))
  obtain ⟨q, cap', hdok, hr, hki⟩ := hcc j nd hnd
  have Hr := Lib.hid hr
  have Hki := Lib.hid hki
  have Hlt := Lib.hid (block_lt_of_cell (hr 0 _ rfl))
  have Hkz : Hid (sizeL x.kids ≤ 100000) := Lib.hid (by omega)
  clear hN hS hR hT hx hhd hcc hr hki hnd hdok hsk hkk hkz
  go_enter Tryd.func29, Tryd.ntmps29
  go_wp2_with (first | (go_at_call 15; refine (right_true ns (j : Int) _ cap HS.out _ F (HN.out.below hI.below) (HT.out.keep hI.below) HR.out).mono ?_; rintro e W1 ⟨rfl, hb1⟩; have hI1 := hI.call hb1; clear hb1; obtain ⟨c0, c1⟩ := box_cells hI1 List.mem_cons_self; have c8 : W1.cell? ⟨b, off + j * 9 + 8, none⟩ = some (.slice q nd.kids.length cap') := (hI1.below.cell (p := ⟨b, off + j * 9 + 8, none⟩) Hlt.out).trans (Hr.out 8 _ rfl)))
  clear hI c0 c1 c8
  have HI1 := Lib.hid (hI1.nil 24 2)
  clear hI1
  go_loopw [3, 18] (fun vo iv wr => ∃ (k : Nat) (xs : List Value), k ≤ nd.kids.length ∧ iv = .int .i64 k ∧ RInv noS w [(w.heap.size, arO (some ⟨b, off, none⟩) ns.length cap (j : Int))] [⟨24, 2, vo, k, xs⟩] wr ∧ Hid (TreesIn wr (Own w.heap.size wr) xs ((x.kids.take k).map clean))) (fun _ iv _ => nd.kids.length - (intOf iv).toNat)
  case atStart => exact ⟨0, [], by omega, rfl, HI1.out, Lib.hid (by rw [List.take_zero]; exact TreesIn.nil _ _)⟩
  case round =>
    clear HI1
    obtain ⟨k, xs, hk, rfl, hI, hX⟩ := hrel
    by_cases hlt : k < nd.kids.length
    · obtain ⟨y, hy⟩ : ∃ y, x.kids[k]? = some y := ⟨_, List.getElem?_eq_getElem (by rw [← Hkk.out]; exact hlt)⟩
      obtain ⟨c, hc, hsy⟩ := sitsL_get Hsk.out hy
      obtain ⟨bq, oq, rfl, _, hkc⟩ := Hki.out (by intro h; rw [h] at hlt; exact absurd hlt (by simp))
      have hck := (hI.below.cell (p := ⟨bq, oq + k, none⟩) (block_lt_of_cell (hkc k c hc))).trans (hkc k c hc)
      obtain ⟨c0, c1⟩ := box_cells hI List.mem_cons_self
      have hys : y.size ≤ 100000 := Nat.le_trans (size_le_of_mem (List.mem_of_getElem? hy)) Hkz.out
      have hyp := y.size_pos
      have Hsy := Lib.hid hsy
      have Hy := Lib.hid hy
      clear hsy hkc hc hy
      go_wp2_with (first | (go_at_call 38; refine (put_none ns y c _ cap (j : Int) HS.out hys Hsy.out HR.out.down' _ F (HN.out.below hI.below)).mono ?_; rintro e W2 ⟨q2, cc, rfl, hq, hb2⟩; have hI2 := hI.call hb2; clear c0 c1 hck) | (at_builtin; refine app_new treeT rfl (.tmp 25) (.tmp 31) rfl _ rfl rfl rfl (by simp [Value.oneCell']) hI2 (by unfold maxLen; omega) (by omega) ?_; intro v' W3 hE hg))
      go_roundw
      case rel => exact ⟨k + 1, _, by omega, by go_num, hE, Lib.hid (by rw [take_map_succ Hy.out]; exact (hX.out.own hb2 (Nat.le_refl _)).put hI2.own1 hq hI.size hg)⟩
      case measure => simp [intOf]; omega
    · obtain rfl : k = nd.kids.length := by omega
      go_wp2
      go_ret
      refine ⟨_, xs, rfl, by rw [← Hkk.out]; exact hI.fresh, ?_, hI.below⟩
      have := hX.out
      rw [Hkk.out, List.take_length] at this
      exact this
set_option maxHeartbeats 2000000 in
/-- tree.Kids, of one that is not right. -/
theorem kids_no (ns : List Nd) (root : Int) (p : Option Addr) (cap : Nat) (hS : Small ns) (hR : ¬ RightP ⟨ns, root⟩) (w : World) (F : Nat → TypeId → Prop) (hN : NodesAt w F p ns) (hT : KidsT w) :
    Calls Tryd.prog 29 #[arV p ns.length cap root] w fun e w' => e = .returned (.slice none 0 0) ∧ Below w.heap.size w w' := by
  have hI := (RInv.start noS w).alloc (arO p ns.length cap root)
  have HN := Lib.hid hN
  have HR := Lib.hid hR
  have HS := Lib.hid hS
  have HT := Lib.hid hT
  clear hN hR hS hT
  go_enter Tryd.func29, Tryd.ntmps29
  go_wp2_with (first | (go_at_call 15; refine (right_false ns root _ cap HS.out _ F (HN.out.below hI.below) (HT.out.keep hI.below) HR.out).mono ?_; rintro e W1 ⟨rfl, hb1⟩; have hI1 := hI.call hb1; clear hb1))
  go_ret
  exact ⟨rfl, hI1.below⟩
end Go.Proofs.YtcenjpaiehidjaaDoor
