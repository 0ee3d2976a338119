/- Contracts of bonsairef04.Clean, Leaf, Root and Kids. -/
import Derived.Test.YtcenjpaiehidjaaDoorJ13
import Derived.Test.YtcenjpaiehidjaaDoorJ10
import Derived.Test.YtcenjpaiehidjaaDoorJ12
import Derived.Test.YtcenjpaiehidjaaDoorJ9
set_option linter.unusedSimpArgs false
set_option linter.unusedVariables false
namespace Go.Proofs.YtcenjpaiehidjaaDoor
open Go.RowKit
set_option maxRecDepth 100000

set_option maxHeartbeats 2000000 in
/-- bonsairef04.Clean, of a tree that is right. -/
theorem rclean_any (ns : List Nd) (x : Xp) (root : Int) (p : Option Addr) (cap : Nat) (hS : Small ns) (hR : RightP ⟨ns, root⟩) (hx : sits ns x root) (hz : x.size ≤ 100000) (w : World) (F : Nat → TypeId → Prop) (hN : NodesAt w F p ns) :
    Calls Tryd.prog 62 #[arV p ns.length cap root] w fun e w' => GivesT w.heap.size w' e x ∧ Below w.heap.size w w' := by
  have HN := Lib.hid hN
  have HS := Lib.hid hS
  have HR := Lib.hid hR
  have Hx := Lib.hid hx
  have Hz := Lib.hid hz
  have hI := ((RInv.start noS w).alloc (arO p ns.length cap root)).alloc (arO none 0 0 0)
  rw [World.size_alloc] at hI
  clear hN hS hR hx hz
  go_enter Tryd.func62, Tryd.ntmps62
  go_wp2_with (first | (go_at_call 28; refine (rsub_yes ns x root root _ cap HS.out HR.out Hx.out Hz.out _ F (HN.out.below hI.below)).mono ?_; rintro e W1 ⟨⟨v, rfl, p1, q1, rfl, hp1⟩, hb1⟩; have hI1 := hI.call hb1; clear hb1) | (refine rinv_row rfl _ _ _ rfl (w.heap.size + 1) #[.slice none 0 0, .int .i64 0] #[.slice p1 (clean x).nodes.length q1, .int .i64 (clean x).root] 24 rfl rfl (by simp [Value.oneCell']) szTree rfl ((hI1.alloc (arO p1 (clean x).nodes.length q1 (clean x).root)).subL (L' := [(w.heap.size + 1, arO none 0 0 0)]) (by simp)) (.inl (by omega)) (by simp) ?_; intro W3 hI3 hg3; obtain ⟨c0, c1⟩ := box_cells hI3 List.mem_cons_self))
  have hlt2 : w.heap.size + 1 < W1.heap.size := lt_of_heap (hI1.at (g := w.heap.size + 1) List.mem_cons_self)
  have hq2 : NodesAt (W1.alloc (arO p1 (clean x).nodes.length q1 (clean x).root)) (Own (w.heap.size + 2) (W1.alloc (arO p1 (clean x).nodes.length q1 (clean x).root))) p1 (clean x).nodes := by
    have := hp1.turn (F' := Own (w.heap.size + 2) W1) fun b t hb _ => ⟨rfl, by have := hb.1; simp only [World.size_alloc] at this; omega, hb.2⟩
    exact this.turn fun b t ho hlt => ⟨((Below.refl _ _).alloc (Nat.le_refl _) _).block b hlt, ho.below ((Below.refl _ _).alloc (Nat.le_refl _) _) hlt⟩
  refine bodyPost_ret (v := arV p1 (clean x).nodes.length q1 (clean x).root) (by simp [results, Tryd.results62, go_sem, c0, c1]) rfl ⟨⟨_, rfl, p1, q1, rfl, hq2.turn (own_low hg3 (by omega) (by omega))⟩, hI3.below⟩
set_option maxHeartbeats 2000000 in
/-- bonsairef04.Leaf. -/
theorem rleaf_any (h : Hd) (hd : HdOk h) (w : World) :
    Calls Tryd.prog 65 #[ndV h none 0 0] w fun e w' => GivesT w.heap.size w' e (.node h []) ∧ Below w.heap.size w w' := by
  have Hd := Lib.hid hd
  have hI := (((RInv.start noS w).alloc (ndO h none 0 0)).alloc (arO none 0 0 0)).alloc (ndO h none 0 0)
  rw [World.size_alloc, World.size_alloc] at hI
  clear hd
  go_enter Tryd.func65, Tryd.ntmps65
  go_wp2_with (first | (refine rinv_row rfl _ _ _ rfl (w.heap.size + 1) #[.slice none 0 0, .int .i64 0] #[.slice (some ⟨w.heap.size + 2, 0, none⟩) 1 1, .int .i64 0] 24 rfl rfl (by simp [Value.oneCell']) szTree rfl (hI.subL (L' := [(w.heap.size + 1, arO none 0 0 0), (w.heap.size + 2, ndO h none 0 0)]) (by simp)) (.inl (by omega)) (by simp) ?_; intro W3 hI3 hg3; obtain ⟨c0, c1⟩ := box_cells hI3 List.mem_cons_self))
  exact bodyPost_ret (v := arV (some ⟨w.heap.size + 2, 0, none⟩) 1 1 0) (by simp [results, Tryd.results65, go_sem, c0, c1]) rfl ⟨⟨_, rfl, leaf_at Hd.out (hI3.at (g := w.heap.size + 2) (by simp)) (by omega)⟩, hI3.below⟩
set_option maxHeartbeats 2000000 in
/-- bonsairef04.Root, of a tree that is right. -/
theorem rroot_yes (ns : List Nd) (x : Xp) (root : Int) (p : Option Addr) (cap : Nat) (hS : Small ns) (hR : RightP ⟨ns, root⟩) (hx : sits ns x root) (w : World) (F : Nat → TypeId → Prop) (hN : NodesAt w F p ns) :
    Calls Tryd.prog 55 #[arV p ns.length cap root] w fun e w' => e = .returned (ndV x.hd none 0 0) ∧ Below w.heap.size w w' := by
  have hl := hS.len
  obtain ⟨j, nd, rfl, hj, hnd, _, hhd, _⟩ := walk_idx hx
  have HN := Lib.hid hN
  have HS := Lib.hid hS
  have HR := Lib.hid hR
  have Hhd := Lib.hid hhd
  have hI := ((RInv.start noS w).alloc (arO p ns.length cap (j : Int))).alloc (ndO zeroHd none 0 0)
  rw [World.size_alloc] at hI
  obtain ⟨b, off, rfl, _, hcc⟩ := hN (by intro h; rw [h] at hj; exact absurd hj (by simp))
  obtain ⟨q, cap', hdok, hr, hki⟩ := hcc j nd hnd
  have Hr := Lib.hid hr
  have Hlt := Lib.hid (block_lt_of_cell (hr 0 _ rfl))
  clear hN hS hR hx hhd hcc hr hki hnd hdok
  go_enter Tryd.func55, Tryd.ntmps55
  go_wp2_with (first | (go_at_call 27; refine (rright_true ns (j : Int) _ cap HS.out _ F (HN.out.below hI.below) HR.out).mono ?_; rintro e W1 ⟨rfl, hb1⟩; have hI1 := hI.call hb1; clear hb1; obtain ⟨c0, c1⟩ := box_cells hI1 (List.mem_cons_of_mem _ List.mem_cons_self)) | (refine load_node rfl _ rfl b (off + j * 9) rfl nd.hd q nd.kids.length cap' (rangeAt_keep Hr.out (hI1.below.block b Hlt.out)) ?_) | (refine rinv_row rfl _ _ _ rfl (w.heap.size + 1) (ndC zeroHd none 0 0).toArray (ndC nd.hd none 0 0).toArray 56 rfl rfl (by simp [Value.oneCell']) szNode rfl ((hI1.alloc (ndO nd.hd none 0 0)).subL (L' := [(w.heap.size + 1, ndO zeroHd none 0 0)]) (by simp)) (.inl (by omega)) (by simp) ?_; intro W3 hI3 hg3; obtain ⟨d0, d1, d2, d3, d4, d5, d6, d7, d8⟩ := nd_cells hI3 List.mem_cons_self))
  refine bodyPost_ret (v := ndV nd.hd none 0 0) (by simp [results, Tryd.results55, go_sem, d0, d1, d2, d3, d4, d5, d6, d7, d8]) rfl ⟨by rw [Hhd.out], hI3.below⟩
set_option maxHeartbeats 2000000 in
/-- bonsairef04.Root, of one that is not. -/
theorem rroot_no (ns : List Nd) (root : Int) (p : Option Addr) (cap : Nat) (hS : Small ns) (hR : ¬ RightP ⟨ns, root⟩) (w : World) (F : Nat → TypeId → Prop) (hN : NodesAt w F p ns) :
    Calls Tryd.prog 55 #[arV p ns.length cap root] w fun e w' => e = .returned (ndV zeroHd none 0 0) ∧ Below w.heap.size w w' := by
  have HN := Lib.hid hN
  have HS := Lib.hid hS
  have HR := Lib.hid hR
  have hI := ((RInv.start noS w).alloc (arO p ns.length cap root)).alloc (ndO zeroHd none 0 0)
  rw [World.size_alloc] at hI
  clear hN hS hR
  go_enter Tryd.func55, Tryd.ntmps55
  go_wp2_with (first | (go_at_call 27; refine (rright_false ns root _ cap HS.out _ F (HN.out.below hI.below) HR.out).mono ?_; rintro e W1 ⟨rfl, hb1⟩; have hI1 := hI.call hb1; clear hb1) | (refine rinv_row rfl _ _ _ rfl (w.heap.size + 1) (ndC zeroHd none 0 0).toArray (ndC zeroHd none 0 0).toArray 56 rfl rfl (by simp [Value.oneCell']) szNode rfl hI1 (.inl (by omega)) (by simp) ?_; intro W3 hI3 hg3; obtain ⟨d0, d1, d2, d3, d4, d5, d6, d7, d8⟩ := nd_cells hI3 List.mem_cons_self))
  exact bodyPost_ret (v := ndV zeroHd none 0 0) (by simp [results, Tryd.results55, go_sem, d0, d1, d2, d3, d4, d5, d6, d7, d8]) rfl ⟨rfl, hI3.below⟩
theorem heap_size_set (W : World) (a : Addr) (v : Value) : (W.setCell a v).heap.size = W.heap.size := by simp [World.setCell]
theorem TreesIn.put2 {W W' : World} {n m : Nat} {xs : List Value} {ts : List Ar} {v : Value} {k : Nat} {q : Option Addr} {c : Nat} {T : Ar} (h : TreesIn W (Own n W) xs ts) (ho : W.ownsRow 0 24 2 v k xs) (hq : NodesAt W (Own m W) q T.nodes) (hm : n ≤ m) (hg : W.grownBy W' v.ownBlock) :
    TreesIn W' (Own n W') (xs ++ [.slice q T.nodes.length c, .int .i64 T.root]) (ts ++ [T]) := by
  have h1 := h.push (T := T) (cap := c) (hq.mono fun b t ho => ho.mono hm)
  exact h1.other hg fun g cur t e hh => by
    have := row_type ho g cur t e hh
    subst this
    exact ⟨by decide, by decide⟩
set_option maxHeartbeats 4000000 in
/-- bonsairef04.Kids, of a tree that is right. -/
theorem rkids_yes (ns : List Nd) (x : Xp) (root : Int) (p : Option Addr) (cap : Nat) (hS : Small ns) (hR : RightP ⟨ns, root⟩) (hx : sits ns x root) (hz : x.size ≤ 100000) (w : World) (F : Nat → TypeId → Prop) (hN : NodesAt w F p ns) :
    Calls Tryd.prog 53 #[arV p ns.length cap root] w fun e w' => ∃ v xs, e = .returned v ∧ w'.ownsRow w.heap.size 24 2 v x.kids.length xs ∧ TreesIn w' (Own w.heap.size w') xs (x.kids.map clean) ∧ Below w.heap.size w w' := by
  have hl := hS.len
  obtain ⟨j, nd, rfl, hj, hnd, _, hhd, hsk⟩ := walk_idx hx
  have hkl := hS.kids nd (List.mem_of_getElem? hnd)
  have hkz := kids_size x
  have HN := Lib.hid hN
  have HS := Lib.hid hS
  have HR := Lib.hid hR
  have Hsk := Lib.hid hsk
  have hkk := sitsL_len hsk
  have Hkk := Lib.hid hkk
  have hI := (RInv.start noS w).alloc (arO p ns.length cap (j : Int))
  obtain ⟨b, off, rfl, _, hcc⟩ := hN (by intro h; rw [h] at hj; exact absurd hj (by simp))
  obtain ⟨q, cap', hdok, hr, hki⟩ := hcc j nd hnd
  have Hr := Lib.hid hr
  have Hki := Lib.hid hki
  have Hlt := Lib.hid (block_lt_of_cell (hr 0 _ rfl))
  have Hkz : Hid (sizeL x.kids ≤ 100000) := Lib.hid (by omega)
  clear hN hS hR hx hhd hcc hr hki hnd hdok hsk hkk hkz
  go_enter Tryd.func53, Tryd.ntmps53
  go_wp2_with (first | (go_at_call 27; refine (rright_true ns (j : Int) _ cap HS.out _ F (HN.out.below hI.below) HR.out).mono ?_; rintro e W1 ⟨rfl, hb1⟩; have hI1 := hI.call hb1; clear hb1; obtain ⟨c0, c1⟩ := box_cells hI1 List.mem_cons_self; have c8 : W1.cell? ⟨b, off + j * 9 + 8, none⟩ = some (.slice q nd.kids.length cap') := (hI1.below.cell (p := ⟨b, off + j * 9 + 8, none⟩) Hlt.out).trans (Hr.out 8 _ rfl)))
  clear hI c0 c1 c8
  have HI1 := Lib.hid (hI1.nil 24 2)
  clear hI1
  go_loopw [3, 5] (fun vo iv wr => ∃ (k : Nat) (xs : List Value), k ≤ nd.kids.length ∧ iv = .int .i64 k ∧ RInv noS w [(w.heap.size, arO (some ⟨b, off, none⟩) ns.length cap (j : Int))] [⟨24, 2, vo, k, xs⟩] wr ∧ Hid (TreesIn wr (Own w.heap.size wr) xs ((x.kids.take k).map clean))) (fun _ iv _ => nd.kids.length - (intOf iv).toNat)
  case atStart => exact ⟨0, [], by omega, rfl, HI1.out, Lib.hid (by rw [List.take_zero]; exact TreesIn.nil _ _)⟩
  case round =>
    clear HI1
    obtain ⟨k, xs, hk, rfl, hI, hX⟩ := hrel
    by_cases hlt : k < nd.kids.length
    · obtain ⟨y, hy⟩ : ∃ y, x.kids[k]? = some y := ⟨_, List.getElem?_eq_getElem (by rw [← Hkk.out]; exact hlt)⟩
      obtain ⟨c, hc, hsy⟩ := sitsL_get Hsk.out hy
      obtain ⟨bq, oq, rfl, _, hkc⟩ := Hki.out (by intro h; rw [h] at hlt; exact absurd hlt (by simp))
      have hck := (hI.below.cell (p := ⟨bq, oq + k, none⟩) (block_lt_of_cell (hkc k c hc))).trans (hkc k c hc)
      obtain ⟨c0, c1⟩ := box_cells hI List.mem_cons_self
      have hys : y.size ≤ 100000 := Nat.le_trans (size_le_of_mem (List.mem_of_getElem? hy)) Hkz.out
      have hyp := y.size_pos
      have Hsy := Lib.hid hsy
      have Hy := Lib.hid hy
      clear hsy hkc hc hy
      have HI := Lib.hid hI
      have hbq : bq < wr.heap.size := block_lt_of_cell hck
      have hwz : w.heap.size < wr.heap.size := block_lt_of_cell c0
      obtain ⟨wo, rfl⟩ : ∃ wo : World, wo = wr := ⟨_, rfl⟩
      clear hI
      go_wp2_with (first | fail)
      go_region_held_law (fun w' => w'.cell? ⟨w.heap.size, 0, none⟩ = some (.slice (some ⟨b, off, none⟩) ns.length cap) ∧ w'.cell? ⟨w.heap.size, 1, none⟩ = some (.int .i64 (j : Int)) ∧ w'.cell? ⟨bq, oq + k, none⟩ = some (.int .i64 c))
        (first | exact ⟨c0, c1, hck⟩ | exact ⟨d0, d1, dk⟩ | exact ⟨cell_alloc_keep c0, cell_alloc_keep c1, cell_alloc_keep hck⟩ | exact ⟨cell_alloc_keep d0, cell_alloc_keep d1, cell_alloc_keep dk⟩ | exact ⟨two_set d0 (by omega), two_set d1 (by omega), two_set dk (by omega)⟩)
        (first | (go_at_call 28; refine (rsub_yes ns y c (j : Int) _ cap HS.out HR.out Hsy.out hys _ F (HN.out.below HI.out.drew.below)).mono ?_; rintro e W2 ⟨⟨v, rfl, q2, cc, rfl, hq⟩, hb2⟩; have hI2 := HI.out.drew.call hb2; obtain ⟨d0, d1⟩ := box_cells hI2 List.mem_cons_self; have dk := (hb2.cell (p := ⟨bq, oq + k, none⟩) (block_lt_of_cell hck)).trans hck) | (go_at_call 28; refine (rsub_yes ns y c (j : Int) _ cap HS.out HR.out Hsy.out hys _ F (HN.out.below (HI.out.alloc (arO none 0 0 0)).drew.below)).mono ?_; rintro e W2 ⟨⟨v, rfl, q2, cc, rfl, hq⟩, hb2⟩; have hI2 := (HI.out.alloc (arO none 0 0 0)).drew.call hb2; obtain ⟨d0, d1⟩ := box_cells hI2 (List.mem_cons_of_mem _ List.mem_cons_self); have dk := (hb2.cell (p := ⟨bq, oq + k, none⟩) (block_lt_of_cell (cell_alloc_keep hck))).trans (cell_alloc_keep hck); obtain ⟨r0, r1⟩ := box_cells hI2 List.mem_cons_self; have f0 := hI2.free (g := wo.heap.size) (j := 0) List.mem_cons_self; have f1 := hI2.free (g := wo.heap.size) (j := 1) List.mem_cons_self))
      · have h3 := hI2.alloc (arO q2 (clean y).nodes.length cc (clean y).root)
        have hbV := (((HI.out.restart noS).drew.call hb2).alloc (arO q2 (clean y).nodes.length cc (clean y).root)).below
        have hq3 := hq.turn (W' := W2.alloc (arO q2 (clean y).nodes.length cc (clean y).root)) (F' := Own wo.heap.size (W2.alloc (arO q2 (clean y).nodes.length cc (clean y).root))) fun b t ho hlt => ⟨((Below.refl _ _).alloc (Nat.le_refl _) _).block b hlt, ho.below ((Below.refl _ _).alloc (Nat.le_refl _) _) hlt⟩
        clear hq d0 d1 dk c0 c1 hck hI2
        obtain ⟨s0, s1⟩ := box_cells h3 List.mem_cons_self
        go_wp2_with (first | (at_builtin; refine app_newB treeT rfl (.tmp 33) (.tmp 35) rfl #[.slice q2 (clean y).nodes.length cc, .int .i64 (clean y).root] rfl (by simp only [World.size_alloc, heap_size_set]; rfl) rfl (by simp [Value.oneCell']) (h3.subL (L' := [(w.heap.size, arO (some ⟨b, off, none⟩) ns.length cap (j : Int))]) (by simp)) (by unfold maxLen; omega) (by omega) ?_; intro v' W3 hE hg hbb; clear hbb))
        go_roundw
        case rel => exact ⟨k + 1, _, by omega, by go_num, hE, Lib.hid (by rw [take_map_succ Hy.out]; exact (hX.out.own hbV (Nat.le_refl _)).put2 h3.own1 hq3 (by first | exact Nat.le_of_lt hwz | (show w.heap.size ≤ (wo.alloc (arO none 0 0 0)).heap.size; rw [World.size_alloc]; omega)) hg)⟩
        case measure => simp [intOf]; omega
      · obtain ⟨h3, hq3⟩ := put_tree (p := q2) (k := (clean y).nodes.length) (c := cc) (r := (clean y).root) hI2 (.inl (by omega)) (by intro x hx; simp only [List.mem_cons, List.not_mem_nil, or_false] at hx; subst hx; simp only; omega) hq
        have hbV := (put_tree (p := q2) (k := (clean y).nodes.length) (c := cc) (r := (clean y).root) (((HI.out.restart noS).alloc (arO none 0 0 0)).drew.call hb2) (.inl (Nat.le_refl _)) (by intro x hx; simp only [List.mem_cons, List.not_mem_nil, or_false] at hx; subst hx; simp only; omega) hq).1.below
        clear hq d0 d1 dk c0 c1 hck hI2 r0 r1 f0 f1
        obtain ⟨s0, s1⟩ := box_cells h3 List.mem_cons_self
        go_wp2_with (first | (at_builtin; refine app_newB treeT rfl (.tmp 33) (.tmp 35) rfl #[.slice q2 (clean y).nodes.length cc, .int .i64 (clean y).root] rfl (by simp only [World.size_alloc, heap_size_set]; rfl) rfl (by simp [Value.oneCell']) (h3.subL (L' := [(w.heap.size, arO (some ⟨b, off, none⟩) ns.length cap (j : Int))]) (by simp)) (by unfold maxLen; omega) (by omega) ?_; intro v' W3 hE hg hbb; clear hbb))
        go_roundw
        case rel => exact ⟨k + 1, _, by omega, by go_num, hE, Lib.hid (by rw [take_map_succ Hy.out]; exact (hX.out.own hbV (Nat.le_refl _)).put2 h3.own1 hq3 (by first | exact Nat.le_of_lt hwz | (show w.heap.size ≤ (wo.alloc (arO none 0 0 0)).heap.size; rw [World.size_alloc]; omega)) hg)⟩
        case measure => simp [intOf]; omega
    · obtain rfl : k = nd.kids.length := by omega
      go_wp2
      go_ret
      refine ⟨_, xs, rfl, by rw [← Hkk.out]; exact hI.fresh, ?_, hI.below⟩
      have := hX.out
      rw [Hkk.out, List.take_length] at this
      exact this
set_option maxHeartbeats 2000000 in
/-- bonsairef04.Kids, of one that is not right. -/
theorem rkids_no (ns : List Nd) (root : Int) (p : Option Addr) (cap : Nat) (hS : Small ns) (hR : ¬ RightP ⟨ns, root⟩) (w : World) (F : Nat → TypeId → Prop) (hN : NodesAt w F p ns) :
    Calls Tryd.prog 53 #[arV p ns.length cap root] w fun e w' => e = .returned (.slice none 0 0) ∧ Below w.heap.size w w' := by
  have hI := (RInv.start noS w).alloc (arO p ns.length cap root)
  have HN := Lib.hid hN
  have HR := Lib.hid hR
  have HS := Lib.hid hS
  clear hN hR hS
  go_enter Tryd.func53, Tryd.ntmps53
  go_wp2_with (first | (go_at_call 27; refine (rright_false ns root _ cap HS.out _ F (HN.out.below hI.below) HR.out).mono ?_; rintro e W1 ⟨rfl, hb1⟩; have hI1 := hI.call hb1; clear hb1))
  go_ret
  exact ⟨rfl, hI1.below⟩
end Go.Proofs.YtcenjpaiehidjaaDoor

/- What bonsairef04.Of does to the memory of its own. -/
namespace Go.Proofs.YtcenjpaiehidjaaDoor
open Go.RowKit
set_option maxRecDepth 100000

/-- A node whose kids lie further on. -/
def shiftN (o : Nat) (nd : Nd) : Nd := ⟨nd.hd, nd.kids.map fun a => (o : Int) + a⟩
theorem roots_shift (o : Nat) (ks : List Xp) : ∀ off, rootsL ks (o + off) = (rootsL ks off).map fun a => (o : Int) + a := by
  induction ks with
  | nil => intro off; rfl
  | cons k ks ih => intro off; rw [rootsL_cons, rootsL_cons, List.map_cons, Nat.add_assoc, ih]; congr 1; omega
theorem layL_shift_of (o : Nat) (ks : List Xp) (h : ∀ k ∈ ks, ∀ off, lay k (o + off) = (lay k off).map (shiftN o)) : ∀ off, layL ks (o + off) = (layL ks off).map (shiftN o) := by
  induction ks with
  | nil => intro off; rw [layL_nil, layL_nil]; rfl
  | cons k ks ih => intro off; rw [layL_cons, layL_cons, List.map_append, h k List.mem_cons_self, Nat.add_assoc, ih (fun a ha => h a (List.mem_cons_of_mem _ ha))]
theorem lay_shift (o : Nat) (x : Xp) : ∀ off, lay x (o + off) = (lay x off).map (shiftN o) := by
  induction x using Xp.ind with
  | h hh ks ih => intro off; rw [lay_node, lay_node, List.map_append, layL_shift_of o ks ih, roots_shift]; rfl
theorem lay_from (o : Nat) (x : Xp) : lay x o = (lay x 0).map (shiftN o) := lay_shift o x 0
theorem roots_in (ks : List Xp) : ∀ (off : Nat) (a : Int), a ∈ rootsL ks off → (off : Int) ≤ a ∧ a < off + sizeL ks := by
  induction ks with
  | nil => intro off a h; cases h
  | cons k ks ih =>
    intro off a h
    have hp := k.size_pos
    rw [rootsL_cons] at h
    rw [sizeL_cons]
    rcases List.mem_cons.1 h with rfl | h
    · omega
    · have := ih _ a h; omega
theorem lay_in (x : Xp) : ∀ (off : Nat) (nd : Nd), nd ∈ lay x off → ∀ a ∈ nd.kids, (off : Int) ≤ a ∧ a < off + x.size := by
  induction x using Xp.ind with
  | h hh ks ih =>
    intro off nd h a ha
    rw [lay_node] at h
    rw [Xp.size_node]
    rcases List.mem_append.1 h with h | h
    · have : ∀ (ls : List Xp), (∀ k ∈ ls, k ∈ ks) → ∀ off', nd ∈ layL ls off' → (off' : Int) ≤ a ∧ a < off' + sizeL ls := by
        intro ls
        induction ls with
        | nil => intro _ off' h; rw [layL_nil] at h; cases h
        | cons k ls ih2 =>
          intro hls off' h
          rw [layL_cons] at h
          rw [sizeL_cons]
          rcases List.mem_append.1 h with h | h
          · have := ih k (hls k List.mem_cons_self) off' nd h a ha; omega
          · have := ih2 (fun k hk => hls k (List.mem_cons_of_mem _ hk)) _ h; omega
      have := this ks (fun _ h => h) off h
      omega
    · simp at h
      subst h
      have := roots_in ks off a ha
      omega
/-- One node more of those that were laid. -/
theorem lay_more {ks : List Xp} {k m : Nat} {y : Xp} {nd : Nd} (hnd : (lay y 0)[m]? = some nd) : layL (ks.take k) 0 ++ (lay y (sizeL (ks.take k))).take (m + 1) = (layL (ks.take k) 0 ++ (lay y (sizeL (ks.take k))).take m) ++ [shiftN (sizeL (ks.take k)) nd] := by
  rw [List.append_assoc]
  congr 1
  rw [lay_from, List.take_add_one, List.getElem?_map, hnd]
  rfl
variable {S T : Nat → Prop} {w W W1 W7 W8 : World} {L L0 : List (Nat × Obj)} {R R0 : List OwnR} {s k : Nat} {v vo : Value} {xs ys : List Value} {ns : List Nd}
theorem RInv.overS (h0 : RInv S w L0 R0 W) (h : RInv T W L R W1) (hT : ∀ g, T g → w.heap.size ≤ g ∨ S g) : RInv S w L R W1 :=
  ⟨h0.off.trans h.off fun g hg ht => (hT g ht).elim (fun h => absurd h (by omega)) id, h.blk, h.own, fun r hr g hg => (h.new r hr g hg).elim (fun k => .inl (Nat.le_trans h0.size k)) (hT g), h.apartL, h.apart⟩
theorem RInv.toldS (h : RInv S w L R W) {p : Nat} (hp : w.heap.size ≤ p ∨ S p) : ∀ g, Told p R g → w.heap.size ≤ g ∨ S g := fun g hg => by
  rcases hg with rfl | ⟨r, hr, hg⟩
  · exact hp
  · exact h.new r hr g hg
theorem ofr_nodes (hX : NodesIn W (Ex v s W) xs ns) (h7 : ∀ b, Own s W b 3 → v.ownBlock ≠ some b → W7.heap[b]? = W.heap[b]?) (ho : W7.ownsRow 0 56 9 vo k ys) (h8 : W7.grownBy W8 vo.ownBlock) {nd : Nd} (hd : HdOk nd.hd) (q : Option Addr) (cap : Nat)
    (hq : IntsAt W7 (Ex v s W7) q nd.kids) : NodesIn W8 (Ex v s W8) (xs ++ ndC nd.hd q nd.kids.length cap) (ns ++ [nd]) :=
  ex_keep ((ex_keep hX h7 (fun _ _ h => h)).push hd q cap hq) (fun b ho' _ => h8.block b ho'.lt (fun e => row_other ho (by decide) b _ e.symm ho'.2.choose_spec)) (fun _ _ h => h)
/-- What a frame inside may write is none of the nodes' kids. -/
theorem told_ofr {p b m n : Nat} {zs : List Value} {o : Array Value} (ho : W.ownsRow 0 56 9 vo k ys) (hp : W.heap[p]? = some (.cells o 56 (0, 0))) (hb : Own s W b 3) (hv : v.ownBlock ≠ some b) : ¬ Told p [⟨56, 9, vo, n, ys⟩, ⟨3, 1, v, m, zs⟩] b := by
  obtain ⟨hb, cur, h2⟩ := hb
  rintro (rfl | ⟨r, hr, e⟩)
  · rw [hp] at h2
    injection h2 with h2
    injection h2 with _ h2
    exact absurd h2 (by decide)
  · simp only [List.mem_cons, List.not_mem_nil, or_false] at hr
    rcases hr with rfl | rfl
    · exact row_other ho (by decide) b cur e h2
    · exact hv e
theorem row_kids2 {l ck : Nat} {zs : List Int} {qk : Option Addr} (hP : RInv T w L (⟨3, 1, .slice qk l ck, l, intC zs⟩ :: R) W) (hR : ∃ r ∈ R, r.v = v) (hs : ∀ g, (Value.slice qk l ck).ownBlock = some g → s ≤ g) : IntsAt W (Ex v s W) qk zs := by
  have h1 := row_ints (s := s) hP.own1 hs
  intro hne
  obtain ⟨b, o, e, ho, hc⟩ := h1 hne
  refine ⟨b, o, e, ⟨ho, fun e2 => ?_⟩, hc⟩
  obtain ⟨r, hr, rfl⟩ := hR
  have hown := hP.own1.2
  rcases hown with ⟨h1, _⟩ | ⟨g', cap, cur', h1, _⟩
  · injection h1 with h1 _ _
    rw [h1] at e
    cases e
  · have h2 : (Value.slice qk l ck).ownBlock = some b := by
      rw [h1]
      injection h1 with h1 _ _
      rw [h1] at e
      injection e with e
      injection e with e
      rw [← e]; rfl
    exact (List.pairwise_cons.1 hP.apart).1 r hr b h2 e2
end Go.Proofs.YtcenjpaiehidjaaDoor

/- Contract of bonsairef04.Of. -/
namespace Go.Proofs.YtcenjpaiehidjaaDoor
open Go.RowKit
set_option maxRecDepth 100000

abbrev ofR2 (q : Option Addr) (k c : Nat) (vo : Value) (n : Nat) (ks : List Xp) (xs : List Value) : List OwnR := [⟨56, 9, vo, n, xs⟩, ⟨3, 1, .slice q k c, k, intC (rootsL (ks.take k) 0)⟩]
set_option maxHeartbeats 8000000 in
/-- bonsairef04.Of, of a node that fits, and kids that are right. -/
theorem rof_yes (nh : Hd) (hd : HdOk nh) (qk : Option Addr) (nk ck : Nat) (ks : List Xp) (ts : List Ar) (p : Option Addr) (cap : Nat) (hS : SmallT ts) (hR : ReadL ts ks) (hf : fitsB nh ts.length = true) (hz : sizeL ks ≤ 99999) (w : World) (F : Nat → TypeId → Prop) (hN : TreesAt w F p ts) :
    Calls Tryd.prog 45 #[ndV nh qk nk ck, .slice p ts.length cap] w fun e w' => GetsT w.heap.size w' e (some (.node nh ks)) ∧ Below w.heap.size w w' := by
  have hl := hS.len
  have HN : Hid (TreesAt w (fun b _ => b < w.heap.size) p ts) := Lib.hid (hN.turn fun b t _ hlt => ⟨rfl, hlt⟩)
  have HS := Lib.hid hS
  have HR := Lib.hid hR
  have Hd := Lib.hid hd
  have Hf := Lib.hid hf
  have Hlen := Lib.hid hR.len
  have hI := ((RInv.start noS w).alloc (ndO nh qk nk ck)).alloc (arO none 0 0 0)
  rw [World.size_alloc] at hI
  clear hN hS hR hd hf
  go_enter Tryd.func45, Tryd.ntmps45
  go_wp2_with (first | (refine load_own rfl _ rfl w.heap.size rfl nh qk nk ck (hI.at (List.mem_cons_of_mem _ List.mem_cons_self)) ?_) | (go_at_call 46; with_reducible refine (rfits_any nh Hd.out qk nk ck ts.length _).mono ?_; rw [Hf.out]; rintro e W1 ⟨rfl, hb1⟩; have hI2 := (hI.call hb1).subL (L' := [(w.heap.size, ndO nh qk nk ck), (w.heap.size + 1, arO none 0 0 0)]) (by simp); clear hb1) | (refine rinv_store rfl _ _ _ rfl w.heap.size 8 (ndC nh qk nk ck).toArray 56 (.slice none 0 0) rfl rfl rfl szInts (by simp) hI2 (.inl (by omega)) (by simp) ?_; intro W3 hI3 hW; clear hW; rw [ndO_set] at hI3))
  have HI4 := Lib.hid ((hI3.nil 3 1).nil 56 9)
  clear hI hI2 hI3
  go_loopw [6, 7] (fun vo iv wr => ∃ (k : Nat) (xs : List Value) (q : Option Addr) (c : Nat), k ≤ ts.length ∧ iv = .int .i64 k ∧ RInv noS w [(w.heap.size, ndO nh q k c), (w.heap.size + 1, arO none 0 0 0)] (ofR2 q k c vo (sizeL (ks.take k)) ks xs) wr ∧ Hid (NodesIn wr (Ex (.slice q k c) w.heap.size wr) xs (layL (ks.take k) 0))) (fun _ iv _ => ts.length - (intOf iv).toNat)
  case atStart => exact ⟨0, [], none, 0, by omega, rfl, HI4.out, Lib.hid (NodesIn.nil _ _)⟩
  case round =>
    clear HI4
    obtain ⟨wo, rfl⟩ : ∃ wo : World, wo = wr := ⟨_, rfl⟩
    obtain ⟨k, xs, q', c', hk, rfl, hI, hX⟩ := hrel
    by_cases hlt : k < ts.length
    · obtain ⟨qo, co, rfl, _, _⟩ := row_slice hI.own1
      obtain ⟨T, hTk⟩ : ∃ T, ts[k]? = some T := ⟨_, List.getElem?_eq_getElem hlt⟩
      obtain ⟨y, hy, hRT, hsT⟩ := HR.out.get k T hTk
      obtain ⟨b, o, rfl, hbw, hc⟩ := HN.out (by intro h; rw [h] at hlt; exact absurd hlt (by simp))
      obtain ⟨q, c, h1, h2, h3⟩ := hc k T hTk
      have c0 := (hI.below.cell (p := ⟨b, o + k * 2, none⟩) hbw).trans h1
      have c1 := (hI.below.cell (p := ⟨b, o + k * 2 + 1, none⟩) hbw).trans h2
      have H3 := Lib.hid h3
      have Hsm := Lib.hid (HS.out.each T (List.mem_of_getElem? hTk))
      have Hy := Lib.hid hy
      have HRT := Lib.hid hRT
      have HsT := Lib.hid hsT
      have hm2 := sizeL_take ks (k + 1)
      have hm1 := sizeL_take ks k
      have hm3 := size_snoc hy
      have hyz : y.size ≤ 100000 := by have := size_le_of_mem (List.mem_of_getElem? hy); omega
      have hyp := y.size_pos
      have HI := Lib.hid hI
      have Hc0 := Lib.hid c0
      have Hc1 := Lib.hid c1
      have Hbw := Lib.hid hbw
      clear hc h1 h2 h3 hy hRT hsT hTk hI
      go_wp2_with (first | (go_at_call 27; refine (rright_true T.nodes T.root q c Hsm.out _ (fun b _ => b < w.heap.size) (H3.out.below HI.out.below) HRT.out).mono ?_; rintro e W5 ⟨rfl, hb5⟩; have hI5 := HI.out.call hb5; have d0 := (hI5.below.cell (p := ⟨b, o + k * 2, none⟩) Hbw.out).trans ((HI.out.below.cell (p := ⟨b, o + k * 2, none⟩) Hbw.out).symm.trans Hc0.out); have d1 := (hI5.below.cell (p := ⟨b, o + k * 2 + 1, none⟩) Hbw.out).trans ((HI.out.below.cell (p := ⟨b, o + k * 2 + 1, none⟩) Hbw.out).symm.trans Hc1.out); have HX5 := Lib.hid (ex_below hX.out hb5); clear c0 c1 hb5) | (go_at_call 62; refine (rclean_any T.nodes y T.root q c Hsm.out HRT.out HsT.out hyz _ (fun b _ => b < w.heap.size) (H3.out.below hI5.below)).mono ?_; rintro e W6 ⟨⟨v6, rfl, p1, q1, e6, hp6⟩, hb6⟩; rw [clean_len] at e6; subst e6; have hI6 := hI5.call hb6; have HX6 := Lib.hid (ex_below HX5.out hb6)))
      have hI7 := hI6.alloc (arO p1 y.size q1 (clean y).root)
      have HT1 : Hid (∀ g, Told w.heap.size (ofR2 q' k c' (.slice qo (sizeL (ks.take k)) co) (sizeL (ks.take k)) ks xs) g → g < W5.heap.size) := Lib.hid (by
        rintro g (rfl | ⟨r, hr, e⟩)
        · exact lt_of_heap (hI5.at (g := w.heap.size) List.mem_cons_self)
        · exact own_lt hI5 hr e)
      have Hp7 : Hid (NodesAt (W6.alloc (arO p1 y.size q1 (clean y).root)) (fun b _ => W5.heap.size ≤ b ∧ b < W6.heap.size) p1 (lay y 0)) := Lib.hid (hp6.turn fun b t ho hlt => ⟨((Below.refl _ _).alloc (Nat.le_refl _) (arO p1 y.size q1 (clean y).root)).block b hlt, ho.1, hlt⟩)
      have HX7 := Lib.hid (ex_below HX6.out ((Below.refl _ _).alloc (Nat.le_refl _) (arO p1 y.size q1 (clean y).root)))
      have HJ7 := Lib.hid (hI7.again w.heap.size)
      have HI7 := Lib.hid hI7
      have hsz7 : w.heap.size < W6.heap.size := lt_of_heap (hI6.at (g := w.heap.size) List.mem_cons_self)
      clear hp6 hI7 hI5 hI6 d0 d1 hb6
      go_loopw [6, 10] (fun vo iv wr => ∃ (m : Nat) (ys : List Value), m ≤ y.size ∧ iv = .int .i64 m ∧ RInv (Told w.heap.size (ofR2 q' k c' (.slice qo (sizeL (ks.take k)) co) (sizeL (ks.take k)) ks xs)) (W6.alloc (arO p1 y.size q1 (clean y).root)) [(W6.heap.size, arO p1 y.size q1 (clean y).root), (w.heap.size, ndO nh q' k c'), (w.heap.size + 1, arO none 0 0 0)] (ofR2 q' k c' vo (sizeL (ks.take k) + m) ks ys) wr ∧
        Hid (NodesIn wr (Ex (.slice q' k c') w.heap.size wr) ys (layL (ks.take k) 0 ++ (lay y (sizeL (ks.take k))).take m))) (fun _ iv _ => y.size - (intOf iv).toNat)
      case atStart => exact ⟨0, xs, by omega, rfl, HJ7.out, Lib.hid (by rw [List.take_zero, List.append_nil]; exact HX7.out)⟩
      case round =>
        clear HJ7 HX7
        obtain ⟨m, ys, hm, rfl, hJ, hY⟩ := hrel
        obtain ⟨wm, rfl⟩ : ∃ wm : World, wm = wr := ⟨_, rfl⟩
        obtain ⟨qm, cm, rfl, _, _⟩ := row_slice hJ.own1
        by_cases hmt : m < y.size
        · obtain ⟨nd, hnd⟩ : ∃ nd, (lay y 0)[m]? = some nd := ⟨_, List.getElem?_eq_getElem (by rw [lay_len]; exact hmt)⟩
          have hpm := Hp7.out.keep fun b t hf hlt => hJ.off.block b hlt (fun ht => by have := HT1.out b ht; have := hf.1; omega)
          obtain ⟨b1, o1, rfl, hF1, hcc⟩ := hpm (by intro h; rw [h] at hnd; simp at hnd)
          obtain ⟨q2, cap2, hdok, hr, hki⟩ := hcc m nd hnd
          have hin := fun a ha => lay_in y 0 nd (List.mem_of_getElem? hnd) a ha
          have hkl : nd.kids.length ≤ 100000 := by have := lay_kids y 0 nd (List.mem_of_getElem? hnd); omega
          obtain ⟨t0, t1⟩ := box_cells hJ List.mem_cons_self
          have Hnd := Lib.hid hnd
          have Hdok := Lib.hid hdok
          have Hr := Lib.hid hr
          have Hki := Lib.hid hki
          have Hin := Lib.hid hin
          have HJ := Lib.hid hJ
          have HK := Lib.hid (((hJ.again w.heap.size).alloc (ndO nd.hd q2 nd.kids.length cap2)).nil 3 1)
          have hwm : W6.heap.size < wm.heap.size := lt_of_heap (hJ.at (g := W6.heap.size) List.mem_cons_self)
          clear hnd hpm hcc hdok hr hki hin hJ
          go_wp2_with (first | (refine load_node rfl _ rfl b1 (o1 + m * 9) rfl nd.hd q2 nd.kids.length cap2 Hr.out ?_))
          clear t0 t1
          go_loopw [12, 13] (fun kv iv w2 => ∃ j : Nat, j ≤ nd.kids.length ∧ iv = .int .i64 j ∧ RInv (Told w.heap.size (ofR2 q' k c' (.slice qm (sizeL (ks.take k) + m) cm) (sizeL (ks.take k) + m) ks ys)) wm [(wm.heap.size, ndO nd.hd q2 nd.kids.length cap2), (W6.heap.size, arO (some ⟨b1, o1, none⟩) y.size q1 (clean y).root), (w.heap.size, ndO nh q' k c'), (w.heap.size + 1, arO none 0 0 0)] (⟨3, 1, kv, j, intC ((nd.kids.take j).map fun a => (sizeL (ks.take k) : Int) + a)⟩ :: (ofR2 q' k c' (.slice qm (sizeL (ks.take k) + m) cm) (sizeL (ks.take k) + m) ks ys)) w2) (fun _ iv _ => nd.kids.length - (intOf iv).toNat)
          case atStart => exact ⟨0, by omega, rfl, HK.out⟩
          case round =>
            clear HK
            obtain ⟨j, hj, rfl, hK⟩ := hrel
            obtain ⟨wi, rfl⟩ : ∃ wi : World, wi = wr := ⟨_, rfl⟩
            by_cases hjt : j < nd.kids.length
            · obtain ⟨a, ha⟩ : ∃ a, nd.kids[j]? = some a := ⟨_, List.getElem?_eq_getElem hjt⟩
              obtain ⟨ha0, ha1⟩ := Hin.out a (List.mem_of_getElem? ha)
              obtain ⟨b2, o2, rfl, _, hcc⟩ := (Hki.out.keep fun b t hf hlt => hK.off.block b hlt (fun ht => (HJ.out.toldS (.inr (.inl rfl)) b ht).elim (fun h => by rw [World.size_alloc] at h; omega) (fun h => by have := HT1.out b h; omega))) (by intro h; rw [h] at hjt; exact absurd hjt (by simp))
              have hcm := hcc j a ha
              have d8 := hK.cell (g := wm.heap.size) (j := 8) (v := .slice (some ⟨b2, o2, none⟩) nd.kids.length cap2) List.mem_cons_self rfl
              have HKK := Lib.hid hK
              have Ha := Lib.hid ha
              clear hcc ha hK
              go_wp2_with (first | (at_builtin; refine app_newB intT rfl (.tmp 60) (.tmp 68) rfl #[.int .i64 ((sizeL (ks.take k) : Int) + a)] rfl rfl rfl (by simp [Value.oneCell']) HKK.out (by unfold maxLen; omega) (by omega) ?_; intro v1 W2 hJ2 hg hbb; clear hg hbb))
              go_roundw
              case rel =>
                refine ⟨j + 1, by omega, by go_num, ?_⟩
                rw [List.toList_toArray, show intC ((nd.kids.take j).map fun a => (sizeL (ks.take k) : Int) + a) ++ [.int .i64 ((sizeL (ks.take k) : Int) + a)] = intC ((nd.kids.take (j + 1)).map fun a => (sizeL (ks.take k) : Int) + a) by rw [List.take_add_one, Ha.out]; simp [intC]] at hJ2
                exact hJ2
              case measure => simp [intOf]; omega
            · obtain rfl : j = nd.kids.length := by omega
              rw [List.take_length] at hK
              obtain ⟨qk', ck', rfl, _⟩ := row_slice hK.own1
              have d8 := hK.cell (g := wm.heap.size) (j := 8) (v := .slice q2 nd.kids.length cap2) List.mem_cons_self rfl
              have HKK := Lib.hid hK
              have hown := HI7.out.overS (HJ.out.overS hK (HJ.out.toldS (.inr (.inl rfl)))) (HI7.out.toldS (.inl (Nat.le_refl _)))
              have Hown := Lib.hid hown
              clear hK hown
              go_wp2_with (first | (refine rinv_store rfl _ _ _ rfl wm.heap.size 8 (ndC nd.hd q2 nd.kids.length cap2).toArray 56 (.slice qk' nd.kids.length ck') rfl rfl rfl szInts (by simp) HKK.out (.inl (Nat.le_refl _)) ?_ ?_; (intro p hp; simp only [List.mem_cons, List.not_mem_nil, or_false] at hp; rcases hp with h | h | h <;> subst h <;> simp only <;> omega); intro W7 hP hW; rw [ndO_set] at hP; clear hW; have hP2 := hP.swap) | (refine load_own rfl _ rfl wm.heap.size rfl nd.hd qk' nd.kids.length ck' (hP.at List.mem_cons_self) ?_) | (at_builtin; refine app_newB nodeT rfl (.tmp 72) (.tmp 74) rfl (ndC nd.hd qk' nd.kids.length ck').toArray rfl rfl rfl (by simp [Value.oneCell']) hP2 (by unfold maxLen; omega) (by omega) ?_; intro v8 W8 hE h8 hb8))
              go_roundw
              case rel =>
                have hkids := row_kids2 (v := .slice q' k c') (s := w.heap.size) hP ⟨_, List.mem_cons_of_mem _ List.mem_cons_self, rfl⟩ (fun g hg => (Hown.out.new _ List.mem_cons_self g hg).elim id False.elim)
                have h1 := ofr_nodes (nd := shiftN (sizeL (ks.take k)) nd) hY.out (fun b ho hv => hP.off.block b ho.lt (told_ofr HJ.out.own1 (HJ.out.at (g := w.heap.size) (List.mem_cons_of_mem _ List.mem_cons_self)) ho hv)) hP2.own1 h8 Hdok.out qk' ck' hkids
                rw [← lay_more Hnd.out] at h1
                simp only [shiftN, List.length_map] at h1
                have h2 := ((HJ.out.overS hE (HJ.out.toldS (.inr (.inl rfl)))).subL (L' := [(W6.heap.size, arO (some ⟨b1, o1, none⟩) y.size q1 (clean y).root), (w.heap.size, ndO nh q' k c'), (w.heap.size + 1, arO none 0 0 0)]) (fun p hp => by simp only [List.mem_cons, List.not_mem_nil, or_false] at hp ⊢; rcases hp with h | h | h <;> subst h <;> simp)).subR (List.Sublist.cons_cons _ (List.Sublist.cons _ (List.Sublist.refl _)))
                exact ⟨m + 1, ys ++ ndC nd.hd qk' nd.kids.length ck', by omega, by go_num, h2, Lib.hid h1⟩
              case measure => simp [intOf]; omega
        · obtain rfl : m = y.size := by omega
          have HXb : Hid (NodesIn wm (Ex (.slice q' k c') w.heap.size wm) ys (layL (ks.take (k + 1)) 0)) := Lib.hid (by
            have := hY.out
            rw [show (lay y (sizeL (ks.take k))).take y.size = lay y (sizeL (ks.take k)) from List.take_of_length_le (by rw [lay_len]; exact Nat.le_refl _), ← lay_snoc Hy.out] at this
            exact this)
          have hIb := ((HI7.out.overS hJ (HI7.out.toldS (.inl (Nat.le_refl _)))).swap).subL (L' := [(w.heap.size, ndO nh q' k c'), (w.heap.size + 1, arO none 0 0 0)]) (fun p hp => by simp only [List.mem_cons, List.not_mem_nil, or_false] at hp ⊢; rcases hp with h | h <;> subst h <;> simp)
          rw [← hm3] at hIb
          rw [← hm3]
          obtain ⟨t0, t1⟩ := box_cells hJ List.mem_cons_self
          have c8 := hIb.cell (g := w.heap.size) (j := 8) (v := .slice q' k c') List.mem_cons_self rfl
          have HIb := Lib.hid hIb
          have hpos : 0 < sizeL (ks.take (k + 1)) := by omega
          clear hY hJ hIb hm3
          go_wp2_with (first | (at_builtin; refine app_newB intT rfl (.tmp 77) (.tmp 81) rfl _ rfl rfl rfl (by simp [Value.oneCell']) HIb.out (by unfold maxLen; omega) (by omega) ?_; intro v3 W16 hIc hg3 hb6; rw [List.toList_toArray, ← roots_snoc2 Hy.out] at hIc; have HX6 := Lib.hid (ex_app HXb.out hg3 hb6); obtain ⟨q3, c3, rfl, _, _⟩ := row_slice hIc.own1; clear hg3 hb6 c8) | (refine rinv_store rfl _ _ _ rfl w.heap.size 8 (ndC nh q' k c').toArray 56 (.slice q3 (k + 1) c3) rfl rfl rfl szInts (by simp) hIc (.inl (by omega)) (by simp) ?_; intro W17 hId hW; have HX7 := Lib.hid (ex_node (W1 := W17) HX6.out (by rw [hW]; exact grown_setCell _ _ _ _) (hIc.at List.mem_cons_self)); clear hW; rw [ndO_set] at hId))
          go_roundw
          case rel => exact ⟨k + 1, ys, q3, c3, by omega, by go_num, hId.swap, HX7⟩
          case measure => simp [intOf]; omega
    · obtain rfl : k = ts.length := by omega
      have hall : ks.take ts.length = ks := by rw [Hlen.out]; exact List.take_length
      have hrl : (rootsL ks 0).length = ts.length := by rw [rootsL_len, Hlen.out]
      rw [hall] at hX
      simp only [ofR2, hall] at hI
      have Hall := Lib.hid hrl
      obtain ⟨qo, co, rfl, _, _⟩ := row_slice hI.own1
      clear hall hrl
      go_wp2_with (first | (refine load_own rfl _ rfl w.heap.size rfl nh q' ts.length c' (hI.at List.mem_cons_self) ?_) | (at_builtin; refine app_new nodeT rfl (.tmp 84) (.tmp 86) rfl (ndC nh q' ts.length c').toArray rfl rfl rfl (by simp [Value.oneCell']) hI (by unfold maxLen; omega) (by omega) ?_; intro v2 W2 hI2 hg2; obtain ⟨q2, c2, rfl, _, _⟩ := row_slice hI2.own1) | (refine rinv_row rfl _ _ _ rfl (w.heap.size + 1) #[.slice none 0 0, .int .i64 0] #[.slice q2 (sizeL ks + 1) c2, .int .i64 (sizeL ks : Int)] 24 rfl rfl (by simp [Value.oneCell']) szTree rfl (hI2.subL (L' := [(w.heap.size + 1, arO none 0 0 0), (w.heap.size, ndO nh q' ts.length c')]) (by simp)) (.inl (by omega)) (by simp) ?_; intro W3 hI3 hg3; obtain ⟨c0, c1⟩ := box_cells hI3 List.mem_cons_self))
      have hlast := of_last (nd := ⟨nh, rootsL ks 0⟩) hX.out Hd.out q' c' (row_ints (s := w.heap.size) (by have := hI.own2; exact this) (fun g hg => (hI.new _ (List.mem_cons_of_mem _ List.mem_cons_self) g hg).elim id False.elim)) hI.own1 hg2 (hI2.at (g := w.heap.size + 1) (List.mem_cons_of_mem _ List.mem_cons_self)) hg3
      rw [← lay_node] at hlast
      have ho := hI3.fresh
      have hlen : (lay (.node nh ks) 0).length = sizeL ks + 1 := by rw [lay_len, Xp.size_node]
      simp only [Hall.out] at hlast
      obtain ⟨p3, c3, he, hn3⟩ := hlast.at (v := .slice q2 (sizeL ks + 1) c2) (by rw [hlen]; exact ho)
      rw [hlen] at he
      injection he with e1 _ e3
      subst e1 e3
      refine bodyPost_ret (v := .tuple #[arV q2 (sizeL ks + 1) c2 (sizeL ks : Int), .bool true]) (by simp [results, Tryd.results45, go_sem, c0, c1]) rfl ⟨⟨_, rfl, q2, c2, ?_, hn3⟩, hI3.below⟩
      rw [clean_len, Xp.size_node]
      simp [clean, Xp.size_node]
end Go.Proofs.YtcenjpaiehidjaaDoor
