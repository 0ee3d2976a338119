/- Contracts of path.node and path.At. -/
import Derived.Test.YtcenjpaiehidjaaDoorJ10
set_option linter.unusedSimpArgs false
set_option linter.unusedVariables false
namespace Go.Proofs.YtcenjpaiehidjaaDoor
open Go.RowKit
set_option maxRecDepth 100000

/-- What stands at a path: its number, and yes; or no. -/
def NodeR (ns : List Nd) (e : Ending) : Option Xp → Prop
  | some y => ∃ i, e = .returned (.tuple #[.int .i64 i, .bool true]) ∧ sits ns y i
  | none => e = .returned (.tuple #[.int .i64 0, .bool false])
theorem getX_snoc {x y : Xp} {p : List Int} (c : Int) (h : getX x p = some y) : getX x (p ++ [c]) = kidX y.kids c := by
  rw [getX_app, h, Option.bind_some, getX_cons]
  cases kidX y.kids c with
  | none => rfl
  | some z => rw [Option.bind_some, getX_nil]
theorem getX_stop {x y : Xp} {p : List Int} {k : Nat} {c : Int} (h : getX x (p.take k) = some y) (hc : p[k]? = some c) (hn : kidX y.kids c = none) : getX x p = none := by
  obtain ⟨hk, e⟩ := List.getElem?_eq_some_iff.1 hc
  have h1 : p = p.take k ++ (c :: p.drop (k + 1)) := by
    conv => lhs; rw [← List.take_append_drop k p]
    rw [List.drop_eq_getElem_cons hk, e]
  rw [h1, getX_app, h, Option.bind_some, getX_cons, hn]; rfl
set_option maxHeartbeats 8000000 in
/-- path.node, in a tree that is right. -/
theorem node_any (ns : List Nd) (x : Xp) (root : Int) (p : Option Addr) (cap : Nat) (hS : Small ns) (hR : RightP ⟨ns, root⟩) (hx : sits ns x root) (pl : List Int) (hpl : pl.length ≤ 100000) (q : Option Addr) (c : Nat) (w : World) (F G : Nat → TypeId → Prop) (hN : NodesAt w F p ns) (hQ : IntsAt w G q pl) (hT : KidsT w) :
    Calls Tryd.prog 25 #[arV p ns.length cap root, .slice q pl.length c] w fun e w' => NodeR ns e (getX x pl) ∧ Below w.heap.size w w' := by
  have hl := hS.len
  have hp0 : p = p := rfl
  have HN := Lib.hid hN
  have HQ := Lib.hid hQ
  have HS := Lib.hid hS
  have HR := Lib.hid hR
  have HT := Lib.hid hT
  have Hx := Lib.hid hx
  have hI := (RInv.start noS w).alloc (arO p ns.length cap root)
  clear hN hQ hS hR hT hx hp0
  go_enter Tryd.func25, Tryd.ntmps25
  go_wp2_with (first | (go_at_call 15; refine (right_true ns root p cap HS.out _ F (HN.out.below hI.below) (HT.out.keep hI.below) HR.out).mono ?_; rintro e W1 ⟨rfl, hb1⟩; have hI1 := hI.call hb1; clear hb1; obtain ⟨c0, c1⟩ := box_cells hI1 List.mem_cons_self))
  clear hI
  go_loop [6, 17] (fun av kv => ∃ (k : Nat) (z : Xp) (i : Int), k ≤ pl.length ∧ kv = .int .i64 k ∧ av = .int .i64 i ∧ Hid (sits ns z i ∧ getX x (pl.take k) = some z)) (fun _ kv => pl.length - (intOf kv).toNat)
  case atStart => exact ⟨0, x, root, by omega, rfl, rfl, Lib.hid ⟨Hx.out, getX_nil x⟩⟩
  case round =>
    obtain ⟨k, z, i, hk, rfl, rfl, hZ⟩ := hrel
    by_cases hlt : k < pl.length
    · obtain ⟨c', hc'⟩ : ∃ c', pl[k]? = some c' := ⟨_, List.getElem?_eq_getElem hlt⟩
      obtain ⟨bq, oq, rfl, _, hqc⟩ := HQ.out (by intro h; rw [h] at hlt; exact absurd hlt (by simp))
      have hck := (hI1.below.cell (p := ⟨bq, oq + k, none⟩) (block_lt_of_cell (hqc k c' hc'))).trans (hqc k c' hc')
      obtain ⟨j, nd, rfl, hj, hnd, _, hhd, hsk⟩ := walk_idx hZ.out.1
      obtain ⟨b, off, rfl, _, hcc⟩ := HN.out (by intro h; rw [h] at hj; exact absurd hj (by simp))
      obtain ⟨qk, cap', hdok, hr, hki⟩ := hcc j nd hnd
      have hkl := HS.out.kids nd (List.mem_of_getElem? hnd)
      have c8 : W1.cell? ⟨b, off + j * 9 + 8, none⟩ = some (.slice qk nd.kids.length cap') := (hI1.below.cell (p := ⟨b, off + j * 9 + 8, none⟩) (block_lt_of_cell (hr 8 _ rfl))).trans (hr 8 _ rfl)
      have hkk := sitsL_len hsk
      have Hkk := Lib.hid hkk
      have Hsk := Lib.hid hsk
      have Hki := Lib.hid hki
      have Hc' := Lib.hid hc'
      clear hqc hcc hr hki hnd hdok hhd hsk hkk hc'
      by_cases h0 : c' < 0
      · go_wp2
        go_ret2
        refine ⟨?_, hI1.below⟩
        rw [getX_stop hZ.out.2 Hc'.out (by unfold kidX; rw [if_neg (by omega)])]
        exact rfl
      · by_cases h1 : (nd.kids.length : Int) ≤ c'
        · go_wp2
          go_ret2
          refine ⟨?_, hI1.below⟩
          rw [getX_stop hZ.out.2 Hc'.out (by unfold kidX; rw [if_pos (by omega)]; exact List.getElem?_eq_none (by rw [← Hkk.out]; omega))]
          exact rfl
        · obtain ⟨cn, rfl⟩ := Int.eq_ofNat_of_zero_le (show 0 ≤ c' by omega)
          have hcl : cn < z.kids.length := by rw [← Hkk.out]; omega
          obtain ⟨u, hu⟩ : ∃ u, z.kids[cn]? = some u := ⟨_, List.getElem?_eq_getElem hcl⟩
          obtain ⟨a, ha, hsa⟩ := sitsL_get Hsk.out hu
          obtain ⟨bk, ok, rfl, _, hkc⟩ := Hki.out (by intro h; rw [h] at ha; simp at ha)
          have hka := (hI1.below.cell (p := ⟨bk, ok + cn, none⟩) (block_lt_of_cell (hkc cn a ha))).trans (hkc cn a ha)
          have Hu := Lib.hid hu
          have Hsa := Lib.hid hsa
          clear hu ha hsa hkc hcl
          go_wp2
          go_round
          case rel =>
            refine ⟨k + 1, u, a, by omega, by go_num, rfl, Lib.hid ⟨Hsa.out, ?_⟩⟩
            obtain ⟨hk2, e2⟩ := List.getElem?_eq_some_iff.1 Hc'.out
            rw [List.take_succ_eq_append_getElem hk2, e2, getX_snoc _ hZ.out.2]
            unfold kidX
            rw [if_pos (by omega), Int.toNat_natCast]
            exact Hu.out
          case measure => simp [intOf]; omega
    · obtain rfl : k = pl.length := by omega
      go_wp2
      go_ret2
      refine ⟨?_, hI1.below⟩
      have h2 := hZ.out.2
      rw [List.take_length] at h2
      rw [h2]
      exact ⟨i, rfl, hZ.out.1⟩
set_option maxHeartbeats 4000000 in
/-- path.node, in one that is not. -/
theorem node_bad (ns : List Nd) (root : Int) (p : Option Addr) (cap : Nat) (hS : Small ns) (hR : ¬ RightP ⟨ns, root⟩) (pl : List Int) (q : Option Addr) (c : Nat) (w : World) (F : Nat → TypeId → Prop) (hN : NodesAt w F p ns) (hT : KidsT w) :
    Calls Tryd.prog 25 #[arV p ns.length cap root, .slice q pl.length c] w fun e w' => NodeR ns e none ∧ Below w.heap.size w w' := by
  have HN := Lib.hid hN
  have HS := Lib.hid hS
  have HR := Lib.hid hR
  have HT := Lib.hid hT
  have hI := (RInv.start noS w).alloc (arO p ns.length cap root)
  clear hN hS hR hT
  go_enter Tryd.func25, Tryd.ntmps25
  go_wp2_with (first | (go_at_call 15; refine (right_false ns root p cap HS.out _ F (HN.out.below hI.below) (HT.out.keep hI.below) HR.out).mono ?_; rintro e W1 ⟨rfl, hb1⟩; have hI1 := hI.call hb1; clear hb1))
  go_ret2
  exact ⟨rfl, hI1.below⟩
end Go.Proofs.YtcenjpaiehidjaaDoor

/- Contract of path.At. -/
namespace Go.Proofs.YtcenjpaiehidjaaDoor
open Go.RowKit
set_option maxRecDepth 100000

theorem sub_right {ns : List Nd} {x : Xp} {root : Int} (hR : RightP ⟨ns, root⟩) (hx : sits ns x root) (hz : x.size ≤ 100000) {p : List Int} {y : Xp} (h : getX x p = some y) : okX y = true ∧ y.size ≤ 100000 := by
  have := getX_ok (ok_of_fits hR.fits x hx) h
  exact ⟨this.1, by omega⟩
set_option maxHeartbeats 8000000 in
/-- path.At, in a tree that is right. -/
theorem at_any (ns : List Nd) (x : Xp) (root : Int) (p : Option Addr) (cap : Nat) (hS : Small ns) (hR : RightP ⟨ns, root⟩) (hx : sits ns x root) (hz : x.size ≤ 100000) (pl : List Int) (hpl : pl.length ≤ 100000) (q : Option Addr) (c : Nat) (w : World) (F G : Nat → TypeId → Prop) (hN : NodesAt w F p ns) (hQ : IntsAt w G q pl) (hT : KidsT w) :
    Calls Tryd.prog 9 #[arV p ns.length cap root, .slice q pl.length c] w fun e w' => GetsT w.heap.size w' e (getX x pl) ∧ Below w.heap.size w w' := by
  have HN := Lib.hid hN
  have HQ := Lib.hid hQ
  have HS := Lib.hid hS
  have HR := Lib.hid hR
  have HT := Lib.hid hT
  have Hx := Lib.hid hx
  have hI := ((RInv.start noS w).alloc (arO p ns.length cap root)).alloc (arO none 0 0 0)
  rw [World.size_alloc] at hI
  have Hnode := Lib.hid (node_any ns x root p cap hS hR hx pl hpl q c)
  have Hsub := Lib.hid (fun (y : Xp) (i : Int) (hy : sits ns y i) (h : getX x pl = some y) => sub_yes ns y i root p cap hS hR hy (sub_right hR hx hz h).2)
  clear hN hQ hS hR hT hx
  cases hg : getX x pl with
  | none =>
    have Hg := Lib.hid hg
    clear hg
    go_enter Tryd.func9, Tryd.ntmps9
    go_wp2_with (first | (go_at_call 25; refine (Hnode.out _ F G (HN.out.below hI.below) (HQ.out.below hI.below) (HT.out.keep hI.below)).mono ?_; rw [Hg.out]; rintro e W1 ⟨rfl, hb1⟩; have hI1 := hI.call hb1; clear hb1) | (refine rinv_row rfl _ _ _ rfl (w.heap.size + 1) #[.slice none 0 0, .int .i64 0] #[.slice none 0 0, .int .i64 0] 24 rfl rfl (by simp [Value.oneCell']) szTree rfl hI1 (.inl (by omega)) (by simp) ?_; intro W3 hI3 hg3; obtain ⟨c0, c1⟩ := box_cells hI3 List.mem_cons_self))
    exact bodyPost_ret (v := .tuple #[arV none 0 0 0, .bool false]) (by simp [results, Tryd.results9, go_sem, c0, c1]) rfl ⟨rfl, hI3.below⟩
  | some y =>
    have Hg := Lib.hid hg
    clear hg
    go_enter Tryd.func9, Tryd.ntmps9
    go_wp2_with (first | (go_at_call 25; refine (Hnode.out _ F G (HN.out.below hI.below) (HQ.out.below hI.below) (HT.out.keep hI.below)).mono ?_; rw [Hg.out]; rintro e W1 ⟨⟨i, rfl, hsi⟩, hb1⟩; have hI1 := hI.call hb1; clear hb1; have Hsi := Lib.hid hsi; clear hsi; obtain ⟨b0, b1⟩ := box_cells hI1 (List.mem_cons_of_mem _ List.mem_cons_self)) | (go_at_call 26; refine (Hsub.out y i Hsi.out Hg.out _ F (HN.out.below hI1.below) (HT.out.keep hI1.below)).mono ?_; rintro e W2 ⟨⟨v, rfl, p2, c2, rfl, hp2⟩, hb2⟩; have hsz := hI1.size; have hI2 := hI1.call hb2; clear hb2 b0 b1) | (refine rinv_row rfl _ _ _ rfl (w.heap.size + 1) #[.slice none 0 0, .int .i64 0] #[.slice p2 (clean y).nodes.length c2, .int .i64 (clean y).root] 24 rfl rfl (by simp [Value.oneCell']) szTree rfl hI2 (.inl (by omega)) (by simp) ?_; intro W3 hI3 hg3; obtain ⟨c0, c1⟩ := box_cells hI3 List.mem_cons_self))
    exact bodyPost_ret (v := .tuple #[arV p2 (clean y).nodes.length c2 (clean y).root, .bool true]) (by simp [results, Tryd.results9, go_sem, c0, c1]) rfl ⟨⟨_, rfl, p2, c2, rfl, nodes_tree (hp2.mono fun b t ho => ho.mono hsz) hg3 (hI2.at List.mem_cons_self)⟩, hI3.below⟩
set_option maxHeartbeats 8000000 in
/-- path.At, in one that is not. -/
theorem at_bad (ns : List Nd) (root : Int) (p : Option Addr) (cap : Nat) (hS : Small ns) (hR : ¬ RightP ⟨ns, root⟩) (pl : List Int) (q : Option Addr) (c : Nat) (w : World) (F : Nat → TypeId → Prop) (hN : NodesAt w F p ns) (hT : KidsT w) :
    Calls Tryd.prog 9 #[arV p ns.length cap root, .slice q pl.length c] w fun e w' => GetsT w.heap.size w' e none ∧ Below w.heap.size w w' := by
  have HN := Lib.hid hN
  have HT := Lib.hid hT
  have hI := ((RInv.start noS w).alloc (arO p ns.length cap root)).alloc (arO none 0 0 0)
  rw [World.size_alloc] at hI
  have Hnode := Lib.hid (node_bad ns root p cap hS hR pl q c)
  clear hN hS hR hT
  go_enter Tryd.func9, Tryd.ntmps9
  go_wp2_with (first | (go_at_call 25; refine (Hnode.out _ F (HN.out.below hI.below) (HT.out.keep hI.below)).mono ?_; rintro e W1 ⟨rfl, hb1⟩; have hI1 := hI.call hb1; clear hb1) | (refine rinv_row rfl _ _ _ rfl (w.heap.size + 1) #[.slice none 0 0, .int .i64 0] #[.slice none 0 0, .int .i64 0] 24 rfl rfl (by simp [Value.oneCell']) szTree rfl hI1 (.inl (by omega)) (by simp) ?_; intro W3 hI3 hg3; obtain ⟨c0, c1⟩ := box_cells hI3 List.mem_cons_self))
  exact bodyPost_ret (v := .tuple #[arV none 0 0 0, .bool false]) (by simp [results, Tryd.results9, go_sem, c0, c1]) rfl ⟨rfl, hI3.below⟩
end Go.Proofs.YtcenjpaiehidjaaDoor

/- Contracts of expr.Seq, Choice, Rep, And, Not, Cap. -/
namespace Go.Proofs.YtcenjpaiehidjaaDoor
open Go.RowKit
set_option maxRecDepth 100000

theorem lit_tree {W : World} {F : Nat → TypeId → Prop} {g : Nat} {q : Option Addr} {c : Nat} {y : Xp} (hh : W.heap[g]? = some (arO q y.size c ((y.size : Int) - 1))) (hF : F g 24) (hq : NodesAt W F q (lay y 0)) : TreesAt W F (some ⟨g, 0, none⟩) ([y].map clean) := fun _ => by
  refine ⟨g, 0, rfl, hF, fun j T hj => ?_⟩
  match j, hj with
  | 0, hj =>
    simp at hj
    subst hj
    refine ⟨q, c, ?_, ?_, hq⟩
    · rw [clean_len, cell_of_row _ _ _ _ _ _ hh]; rfl
    · rw [cell_of_row _ _ _ _ _ _ hh]; rfl
theorem makes {ks : List Xp} (hok : ∀ k ∈ ks, okX k = true) (hz : sizeL ks ≤ 99999) : ∀ k ∈ ks, MakeC k := fun k hk => make_clean k (hok k hk) (by have := size_le_of_mem hk; omega)
theorem makes1 {y : Xp} (hok : okX y = true) (hz : y.size ≤ 99999) : (∀ k ∈ [y], okX k = true) ∧ (∀ k ∈ [y], MakeC k) ∧ sizeL [y] ≤ 99999 := by
  have h1 : ∀ k ∈ [y], okX k = true := fun k hk => by obtain rfl := List.mem_singleton.1 hk; exact hok
  have h2 : sizeL [y] ≤ 99999 := by rw [sizeL_cons, sizeL_nil]; omega
  exact ⟨h1, makes h1 h2, h2⟩
set_option maxHeartbeats 4000000 in
/-- bonsai/expr.Seq. -/
theorem seqE_any (ks : List Xp) (hok : ∀ k ∈ ks, okX k = true) (hz : sizeL ks ≤ 99999) (p : Option Addr) (cap : Nat) (w : World) (F : Nat → TypeId → Prop) (hN : TreesAt w F p (ks.map clean)) (hT : Tabs w) :
    Calls Tryd.prog 47 #[.slice p ks.length cap] w fun e w' => GetsT w.heap.size w' e (some (join ⟨4, 0, [], 0, 0⟩ (ks.map norm))) ∧ Below w.heap.size w w' := by
  have hof := ofE_any ⟨4, 0, [], 0, 0⟩ (HdOk.mk' (by decide) (by decide)) none 0 0 ks hok (makes hok hz) (.inr ⟨by decide, by decide⟩) hz p cap
  obtain ⟨r0, hr0⟩ : ∃ r0, r0 = join ⟨4, 0, [], 0, 0⟩ (ks.map norm) := ⟨_, rfl⟩
  rw [← hr0, ndZ_eq] at hof
  rw [← hr0]
  have Hof := Lib.hid hof
  have HN := Lib.hid hN
  have HT := Lib.hid hT
  have HI := Lib.hid ((RInv.start noS w).alloc (arO none 0 0 0))
  clear hof hN hT hok hr0
  go_enter Tryd.func47, Tryd.ntmps47
  go_wp2_with (first | (go_at_call 36; refine (Hof.out _ F (HN.out.below HI.out.below) (HT.out.keep HI.out.below)).mono ?_; rintro e W2 ⟨⟨v, rfl, p2, c2, rfl, hp2⟩, hb2⟩; have hsz := HI.out.size; have hI2 := HI.out.call hb2; clear hb2) | (refine rinv_row rfl _ _ _ rfl w.heap.size #[.slice none 0 0, .int .i64 0] #[.slice p2 (clean r0).nodes.length c2, .int .i64 (clean r0).root] 24 rfl rfl (by simp [Value.oneCell']) szTree rfl hI2 (.inl (by omega)) (by simp) ?_; intro W3 hI3 hg3; obtain ⟨c0, c1⟩ := box_cells hI3 List.mem_cons_self))
  exact bodyPost_ret (v := .tuple #[arV p2 (clean r0).nodes.length c2 (clean r0).root, .bool true]) (by simp [results, Tryd.results47, go_sem, c0, c1]) rfl ⟨⟨_, rfl, p2, c2, rfl, nodes_tree (hp2.mono fun b t ho => ho.mono hsz) hg3 (hI2.at List.mem_cons_self)⟩, hI3.below⟩
set_option maxHeartbeats 4000000 in
/-- bonsai/expr.Choice. -/
theorem choiceE_any (ks : List Xp) (hok : ∀ k ∈ ks, okX k = true) (hz : sizeL ks ≤ 99999) (p : Option Addr) (cap : Nat) (w : World) (F : Nat → TypeId → Prop) (hN : TreesAt w F p (ks.map clean)) (hT : Tabs w) :
    Calls Tryd.prog 48 #[.slice p ks.length cap] w fun e w' => GetsT w.heap.size w' e (some (join ⟨5, 0, [], 0, 0⟩ (ks.map norm))) ∧ Below w.heap.size w w' := by
  have hof := ofE_any ⟨5, 0, [], 0, 0⟩ (HdOk.mk' (by decide) (by decide)) none 0 0 ks hok (makes hok hz) (.inr ⟨by decide, by decide⟩) hz p cap
  obtain ⟨r0, hr0⟩ : ∃ r0, r0 = join ⟨5, 0, [], 0, 0⟩ (ks.map norm) := ⟨_, rfl⟩
  rw [← hr0, ndZ_eq] at hof
  rw [← hr0]
  have Hof := Lib.hid hof
  have HN := Lib.hid hN
  have HT := Lib.hid hT
  have HI := Lib.hid ((RInv.start noS w).alloc (arO none 0 0 0))
  clear hof hN hT hok hr0
  go_enter Tryd.func48, Tryd.ntmps48
  go_wp2_with (first | (go_at_call 36; refine (Hof.out _ F (HN.out.below HI.out.below) (HT.out.keep HI.out.below)).mono ?_; rintro e W2 ⟨⟨v, rfl, p2, c2, rfl, hp2⟩, hb2⟩; have hsz := HI.out.size; have hI2 := HI.out.call hb2; clear hb2) | (refine rinv_row rfl _ _ _ rfl w.heap.size #[.slice none 0 0, .int .i64 0] #[.slice p2 (clean r0).nodes.length c2, .int .i64 (clean r0).root] 24 rfl rfl (by simp [Value.oneCell']) szTree rfl hI2 (.inl (by omega)) (by simp) ?_; intro W3 hI3 hg3; obtain ⟨c0, c1⟩ := box_cells hI3 List.mem_cons_self))
  exact bodyPost_ret (v := .tuple #[arV p2 (clean r0).nodes.length c2 (clean r0).root, .bool true]) (by simp [results, Tryd.results48, go_sem, c0, c1]) rfl ⟨⟨_, rfl, p2, c2, rfl, nodes_tree (hp2.mono fun b t ho => ho.mono hsz) hg3 (hI2.at List.mem_cons_self)⟩, hI3.below⟩
set_option maxHeartbeats 4000000 in
/-- bonsai/expr.And. -/
theorem andE_any (y : Xp) (hok : okX y = true) (hz : y.size ≤ 99999)  (q : Option Addr) (c : Nat) (w : World) (F : Nat → TypeId → Prop) (hN : NodesAt w F q (lay y 0)) (hT : Tabs w) :
    Calls Tryd.prog 50 #[arV q y.size c ((y.size : Int) - 1)] w fun e w' => GetsT w.heap.size w' e (some (join ⟨7, 0, [], 0, 0⟩ [norm y])) ∧ Below w.heap.size w w' := by
  obtain ⟨hm1, hm2, hm3⟩ := makes1 hok hz
  have hof := ofE_any ⟨7, 0, [], 0, 0⟩ (HdOk.mk' (by decide) (by decide)) none 0 0 [y] hm1 hm2 (.inl (show fitsB ⟨7, 0, [], 0, 0⟩ 1 = true by decide)) hm3
  obtain ⟨r0, hr0⟩ : ∃ r0, r0 = join ⟨7, 0, [], 0, 0⟩ [norm y] := ⟨_, rfl⟩
  rw [show [y].map norm = [norm y] from rfl, ← hr0, ndZ_eq, show [y].length = 1 from rfl] at hof
  rw [← hr0]
  have Hof := Lib.hid hof
  have HN := Lib.hid hN
  have HT := Lib.hid hT
  have HI := Lib.hid (((RInv.start noS w).alloc (arO q y.size c ((y.size : Int) - 1))).alloc (arO none 0 0 0))
  have hI := HI.out.alloc (arO q y.size c ((y.size : Int) - 1))
  simp only [World.size_alloc] at hI
  have hlit := lit_tree (F := fun _ _ => True) (hI.at (g := w.heap.size + 1 + 1) List.mem_cons_self) trivial ((hN.mono fun _ _ _ => trivial).below hI.below)
  have Hlit := Lib.hid hlit
  have HI1 := Lib.hid (hI.subL (L' := [(w.heap.size + 1, arO none 0 0 0)]) (fun x hx => by simp only [List.mem_cons, List.not_mem_nil, or_false] at hx; subst hx; exact List.mem_cons_of_mem _ List.mem_cons_self))
  clear hof hN hT hok hr0 hm1 hm2 hm3 hI hlit
  go_enter Tryd.func50, Tryd.ntmps50
  go_wp2_with (first | (go_at_call 36; refine (Hof.out _ 1 _ (fun _ _ => True) Hlit.out (HT.out.keep HI1.out.below)).mono ?_; rintro e W2 ⟨⟨v, rfl, p2, c2, rfl, hp2⟩, hb2⟩; have hsz := HI1.out.size; have hI2 := HI1.out.call hb2; clear hb2) | (refine rinv_row rfl _ _ _ rfl (w.heap.size + 1) #[.slice none 0 0, .int .i64 0] #[.slice p2 (clean r0).nodes.length c2, .int .i64 (clean r0).root] 24 rfl rfl (by simp [Value.oneCell']) szTree rfl hI2 (.inl (by omega)) (by simp) ?_; intro W3 hI3 hg3; obtain ⟨c0, c1⟩ := box_cells hI3 List.mem_cons_self))
  exact bodyPost_ret (v := .tuple #[arV p2 (clean r0).nodes.length c2 (clean r0).root, .bool true]) (by simp [results, Tryd.results50, go_sem, c0, c1]) rfl ⟨⟨_, rfl, p2, c2, rfl, nodes_tree (hp2.mono fun b t ho => ho.mono hsz) hg3 (hI2.at List.mem_cons_self)⟩, hI3.below⟩
set_option maxHeartbeats 4000000 in
/-- bonsai/expr.Not. -/
theorem notE_any (y : Xp) (hok : okX y = true) (hz : y.size ≤ 99999)  (q : Option Addr) (c : Nat) (w : World) (F : Nat → TypeId → Prop) (hN : NodesAt w F q (lay y 0)) (hT : Tabs w) :
    Calls Tryd.prog 51 #[arV q y.size c ((y.size : Int) - 1)] w fun e w' => GetsT w.heap.size w' e (some (join ⟨8, 0, [], 0, 0⟩ [norm y])) ∧ Below w.heap.size w w' := by
  obtain ⟨hm1, hm2, hm3⟩ := makes1 hok hz
  have hof := ofE_any ⟨8, 0, [], 0, 0⟩ (HdOk.mk' (by decide) (by decide)) none 0 0 [y] hm1 hm2 (.inl (show fitsB ⟨8, 0, [], 0, 0⟩ 1 = true by decide)) hm3
  obtain ⟨r0, hr0⟩ : ∃ r0, r0 = join ⟨8, 0, [], 0, 0⟩ [norm y] := ⟨_, rfl⟩
  rw [show [y].map norm = [norm y] from rfl, ← hr0, ndZ_eq, show [y].length = 1 from rfl] at hof
  rw [← hr0]
  have Hof := Lib.hid hof
  have HN := Lib.hid hN
  have HT := Lib.hid hT
  have HI := Lib.hid (((RInv.start noS w).alloc (arO q y.size c ((y.size : Int) - 1))).alloc (arO none 0 0 0))
  have hI := HI.out.alloc (arO q y.size c ((y.size : Int) - 1))
  simp only [World.size_alloc] at hI
  have hlit := lit_tree (F := fun _ _ => True) (hI.at (g := w.heap.size + 1 + 1) List.mem_cons_self) trivial ((hN.mono fun _ _ _ => trivial).below hI.below)
  have Hlit := Lib.hid hlit
  have HI1 := Lib.hid (hI.subL (L' := [(w.heap.size + 1, arO none 0 0 0)]) (fun x hx => by simp only [List.mem_cons, List.not_mem_nil, or_false] at hx; subst hx; exact List.mem_cons_of_mem _ List.mem_cons_self))
  clear hof hN hT hok hr0 hm1 hm2 hm3 hI hlit
  go_enter Tryd.func51, Tryd.ntmps51
  go_wp2_with (first | (go_at_call 36; refine (Hof.out _ 1 _ (fun _ _ => True) Hlit.out (HT.out.keep HI1.out.below)).mono ?_; rintro e W2 ⟨⟨v, rfl, p2, c2, rfl, hp2⟩, hb2⟩; have hsz := HI1.out.size; have hI2 := HI1.out.call hb2; clear hb2) | (refine rinv_row rfl _ _ _ rfl (w.heap.size + 1) #[.slice none 0 0, .int .i64 0] #[.slice p2 (clean r0).nodes.length c2, .int .i64 (clean r0).root] 24 rfl rfl (by simp [Value.oneCell']) szTree rfl hI2 (.inl (by omega)) (by simp) ?_; intro W3 hI3 hg3; obtain ⟨c0, c1⟩ := box_cells hI3 List.mem_cons_self))
  exact bodyPost_ret (v := .tuple #[arV p2 (clean r0).nodes.length c2 (clean r0).root, .bool true]) (by simp [results, Tryd.results51, go_sem, c0, c1]) rfl ⟨⟨_, rfl, p2, c2, rfl, nodes_tree (hp2.mono fun b t ho => ho.mono hsz) hg3 (hI2.at List.mem_cons_self)⟩, hI3.below⟩
set_option maxHeartbeats 4000000 in
/-- bonsai/expr.Rep. -/
theorem repE_any (lo hi : Int) (y : Xp) (hok : okX y = true) (hz : y.size ≤ 99999) (hf : fitsB ⟨6, 0, [], lo, hi⟩ 1 = true) (q : Option Addr) (c : Nat) (w : World) (F : Nat → TypeId → Prop) (hN : NodesAt w F q (lay y 0)) (hT : Tabs w) :
    Calls Tryd.prog 49 #[arV q y.size c ((y.size : Int) - 1), .int .i64 lo, .int .i64 hi] w fun e w' => GetsT w.heap.size w' e (some (join ⟨6, 0, [], lo, hi⟩ [norm y])) ∧ Below w.heap.size w w' := by
  obtain ⟨hm1, hm2, hm3⟩ := makes1 hok hz
  have hof := ofE_any ⟨6, 0, [], lo, hi⟩ (HdOk.mk' (by decide) (by decide)) none 0 0 [y] hm1 hm2 (.inl hf) hm3
  obtain ⟨r0, hr0⟩ : ∃ r0, r0 = join ⟨6, 0, [], lo, hi⟩ [norm y] := ⟨_, rfl⟩
  rw [show [y].map norm = [norm y] from rfl, ← hr0, ndZ_eq, show [y].length = 1 from rfl] at hof
  rw [← hr0]
  have Hof := Lib.hid hof
  have HN := Lib.hid hN
  have HT := Lib.hid hT
  have HI := Lib.hid (((RInv.start noS w).alloc (arO q y.size c ((y.size : Int) - 1))).alloc (arO none 0 0 0))
  have hI := HI.out.alloc (arO q y.size c ((y.size : Int) - 1))
  simp only [World.size_alloc] at hI
  have hlit := lit_tree (F := fun _ _ => True) (hI.at (g := w.heap.size + 1 + 1) List.mem_cons_self) trivial ((hN.mono fun _ _ _ => trivial).below hI.below)
  have Hlit := Lib.hid hlit
  have HI1 := Lib.hid (hI.subL (L' := [(w.heap.size + 1, arO none 0 0 0)]) (fun x hx => by simp only [List.mem_cons, List.not_mem_nil, or_false] at hx; subst hx; exact List.mem_cons_of_mem _ List.mem_cons_self))
  clear hof hN hT hok hr0 hm1 hm2 hm3 hI hlit
  go_enter Tryd.func49, Tryd.ntmps49
  go_wp2_with (first | (go_at_call 36; refine (Hof.out _ 1 _ (fun _ _ => True) Hlit.out (HT.out.keep HI1.out.below)).mono ?_; rintro e W2 ⟨⟨v, rfl, p2, c2, rfl, hp2⟩, hb2⟩; have hsz := HI1.out.size; have hI2 := HI1.out.call hb2; clear hb2) | (refine rinv_row rfl _ _ _ rfl (w.heap.size + 1) #[.slice none 0 0, .int .i64 0] #[.slice p2 (clean r0).nodes.length c2, .int .i64 (clean r0).root] 24 rfl rfl (by simp [Value.oneCell']) szTree rfl hI2 (.inl (by omega)) (by simp) ?_; intro W3 hI3 hg3; obtain ⟨c0, c1⟩ := box_cells hI3 List.mem_cons_self))
  exact bodyPost_ret (v := .tuple #[arV p2 (clean r0).nodes.length c2 (clean r0).root, .bool true]) (by simp [results, Tryd.results49, go_sem, c0, c1]) rfl ⟨⟨_, rfl, p2, c2, rfl, nodes_tree (hp2.mono fun b t ho => ho.mono hsz) hg3 (hI2.at List.mem_cons_self)⟩, hI3.below⟩
set_option maxHeartbeats 4000000 in
/-- bonsai/expr.Cap. -/
theorem capE_any (s : List UInt8) (y : Xp) (hok : okX y = true) (hz : y.size ≤ 99999) (hf : fitsB ⟨9, 0, s, 0, 0⟩ 1 = true) (q : Option Addr) (c : Nat) (w : World) (F : Nat → TypeId → Prop) (hN : NodesAt w F q (lay y 0)) (hT : Tabs w) :
    Calls Tryd.prog 52 #[.string (strOf s), arV q y.size c ((y.size : Int) - 1)] w fun e w' => GetsT w.heap.size w' e (some (join ⟨9, 0, s, 0, 0⟩ [norm y])) ∧ Below w.heap.size w w' := by
  obtain ⟨hm1, hm2, hm3⟩ := makes1 hok hz
  have hof := ofE_any ⟨9, 0, s, 0, 0⟩ (HdOk.mk' (by decide) (by decide)) none 0 0 [y] hm1 hm2 (.inl hf) hm3
  obtain ⟨r0, hr0⟩ : ∃ r0, r0 = join ⟨9, 0, s, 0, 0⟩ [norm y] := ⟨_, rfl⟩
  rw [show [y].map norm = [norm y] from rfl, ← hr0, ndZ_eq, show [y].length = 1 from rfl] at hof
  rw [← hr0]
  have Hof := Lib.hid hof
  have HN := Lib.hid hN
  have HT := Lib.hid hT
  have HI := Lib.hid (((RInv.start noS w).alloc (arO q y.size c ((y.size : Int) - 1))).alloc (arO none 0 0 0))
  have hI := HI.out.alloc (arO q y.size c ((y.size : Int) - 1))
  simp only [World.size_alloc] at hI
  have hlit := lit_tree (F := fun _ _ => True) (hI.at (g := w.heap.size + 1 + 1) List.mem_cons_self) trivial ((hN.mono fun _ _ _ => trivial).below hI.below)
  have Hlit := Lib.hid hlit
  have HI1 := Lib.hid (hI.subL (L' := [(w.heap.size + 1, arO none 0 0 0)]) (fun x hx => by simp only [List.mem_cons, List.not_mem_nil, or_false] at hx; subst hx; exact List.mem_cons_of_mem _ List.mem_cons_self))
  clear hof hN hT hok hr0 hm1 hm2 hm3 hI hlit
  go_enter Tryd.func52, Tryd.ntmps52
  go_wp2_with (first | (go_at_call 36; refine (Hof.out _ 1 _ (fun _ _ => True) Hlit.out (HT.out.keep HI1.out.below)).mono ?_; rintro e W2 ⟨⟨v, rfl, p2, c2, rfl, hp2⟩, hb2⟩; have hsz := HI1.out.size; have hI2 := HI1.out.call hb2; clear hb2) | (refine rinv_row rfl _ _ _ rfl (w.heap.size + 1) #[.slice none 0 0, .int .i64 0] #[.slice p2 (clean r0).nodes.length c2, .int .i64 (clean r0).root] 24 rfl rfl (by simp [Value.oneCell']) szTree rfl hI2 (.inl (by omega)) (by simp) ?_; intro W3 hI3 hg3; obtain ⟨c0, c1⟩ := box_cells hI3 List.mem_cons_self))
  exact bodyPost_ret (v := .tuple #[arV p2 (clean r0).nodes.length c2 (clean r0).root, .bool true]) (by simp [results, Tryd.results52, go_sem, c0, c1]) rfl ⟨⟨_, rfl, p2, c2, rfl, nodes_tree (hp2.mono fun b t ho => ho.mono hsz) hg3 (hI2.at List.mem_cons_self)⟩, hI3.below⟩
end Go.Proofs.YtcenjpaiehidjaaDoor

/- Contract of path.again. -/
namespace Go.Proofs.YtcenjpaiehidjaaDoor
open Go.RowKit
set_option maxRecDepth 100000
attribute [local go_sem ↓] Go.wp_at_zero Go.wp_at_succ

set_option maxHeartbeats 8000000 in
theorem again_seq (ks : List Xp) (hok : ∀ k ∈ ks, okX k = true) (hz : sizeL ks ≤ 99999) (p : Option Addr) (cap : Nat) (w : World) (F : Nat → TypeId → Prop) (hN : TreesAt w F p (ks.map clean)) (hT : Tabs w) :
    Calls Tryd.prog 30 #[ndV ⟨4, 0, [], 0, 0⟩ none 0 0, .slice p ks.length cap] w fun e w' => GetsT w.heap.size w' e (some (join ⟨4, 0, [], 0, 0⟩ (ks.map norm))) ∧ Below w.heap.size w w' := by
  have hcon := fun (W : World) (G : Nat → TypeId → Prop) (hN : TreesAt W G p (ks.map clean)) (hT : Tabs W) => seqE_any ks hok hz p cap W G hN hT
  obtain ⟨r0, hr0⟩ : ∃ r0, r0 = join ⟨4, 0, [], 0, 0⟩ (ks.map norm) := ⟨_, rfl⟩
  rw [← hr0] at hcon
  rw [← hr0]
  have Hcon := Lib.hid hcon
  have HN := Lib.hid hN
  have HT := Lib.hid hT
  have hI := ((RInv.start noS w).alloc (ndO ⟨4, 0, [], 0, 0⟩ none 0 0)).alloc (arO none 0 0 0)
  rw [World.size_alloc] at hI
  have HI := Lib.hid hI
  have hcs := nd_cells hI (List.mem_cons_of_mem _ List.mem_cons_self)
  have Hcs := Lib.hid hcs
  clear hcon hN hT hr0 hI hcs hok
  go_enter Tryd.func30, Tryd.ntmps30
  go_wp2_with (first | (go_at_call 47; refine (Hcon.out _ _ (HN.out.below HI.out.below) (HT.out.keep HI.out.below)).mono ?_; rintro e W2 ⟨⟨v, rfl, p2, c2, rfl, hp2⟩, hb2⟩; have hsz := HI.out.size; have hI2 := HI.out.call hb2; clear hb2) | (refine rinv_row rfl _ _ _ rfl (w.heap.size + 1) #[.slice none 0 0, .int .i64 0] #[.slice p2 (clean r0).nodes.length c2, .int .i64 (clean r0).root] 24 rfl rfl (by simp [Value.oneCell']) szTree rfl hI2 (.inl (by omega)) (by simp) ?_; intro W3 hI3 hg3; obtain ⟨c0, c1⟩ := box_cells hI3 List.mem_cons_self))
  exact bodyPost_ret (v := .tuple #[arV p2 (clean r0).nodes.length c2 (clean r0).root, .bool true]) (by simp [results, Tryd.results30, go_sem, c0, c1]) rfl ⟨⟨_, rfl, p2, c2, rfl, nodes_tree (hp2.mono fun b t ho => ho.mono hsz) hg3 (hI2.at List.mem_cons_self)⟩, hI3.below⟩
set_option maxHeartbeats 8000000 in
theorem again_choice (ks : List Xp) (hok : ∀ k ∈ ks, okX k = true) (hz : sizeL ks ≤ 99999) (p : Option Addr) (cap : Nat) (w : World) (F : Nat → TypeId → Prop) (hN : TreesAt w F p (ks.map clean)) (hT : Tabs w) :
    Calls Tryd.prog 30 #[ndV ⟨5, 0, [], 0, 0⟩ none 0 0, .slice p ks.length cap] w fun e w' => GetsT w.heap.size w' e (some (join ⟨5, 0, [], 0, 0⟩ (ks.map norm))) ∧ Below w.heap.size w w' := by
  have hcon := fun (W : World) (G : Nat → TypeId → Prop) (hN : TreesAt W G p (ks.map clean)) (hT : Tabs W) => choiceE_any ks hok hz p cap W G hN hT
  obtain ⟨r0, hr0⟩ : ∃ r0, r0 = join ⟨5, 0, [], 0, 0⟩ (ks.map norm) := ⟨_, rfl⟩
  rw [← hr0] at hcon
  rw [← hr0]
  have Hcon := Lib.hid hcon
  have HN := Lib.hid hN
  have HT := Lib.hid hT
  have hI := ((RInv.start noS w).alloc (ndO ⟨5, 0, [], 0, 0⟩ none 0 0)).alloc (arO none 0 0 0)
  rw [World.size_alloc] at hI
  have HI := Lib.hid hI
  have hcs := nd_cells hI (List.mem_cons_of_mem _ List.mem_cons_self)
  have Hcs := Lib.hid hcs
  clear hcon hN hT hr0 hI hcs hok
  go_enter Tryd.func30, Tryd.ntmps30
  go_wp2_with (first | (go_at_call 48; refine (Hcon.out _ _ (HN.out.below HI.out.below) (HT.out.keep HI.out.below)).mono ?_; rintro e W2 ⟨⟨v, rfl, p2, c2, rfl, hp2⟩, hb2⟩; have hsz := HI.out.size; have hI2 := HI.out.call hb2; clear hb2) | (refine rinv_row rfl _ _ _ rfl (w.heap.size + 1) #[.slice none 0 0, .int .i64 0] #[.slice p2 (clean r0).nodes.length c2, .int .i64 (clean r0).root] 24 rfl rfl (by simp [Value.oneCell']) szTree rfl hI2 (.inl (by omega)) (by simp) ?_; intro W3 hI3 hg3; obtain ⟨c0, c1⟩ := box_cells hI3 List.mem_cons_self))
  exact bodyPost_ret (v := .tuple #[arV p2 (clean r0).nodes.length c2 (clean r0).root, .bool true]) (by simp [results, Tryd.results30, go_sem, c0, c1]) rfl ⟨⟨_, rfl, p2, c2, rfl, nodes_tree (hp2.mono fun b t ho => ho.mono hsz) hg3 (hI2.at List.mem_cons_self)⟩, hI3.below⟩
set_option maxHeartbeats 8000000 in
theorem again_and (y : Xp) (hok : okX y = true) (hz : y.size ≤ 99999) (p : Option Addr) (cap : Nat) (w : World) (F : Nat → TypeId → Prop) (hN : TreesAt w F p ([y].map clean)) (hT : Tabs w) :
    Calls Tryd.prog 30 #[ndV ⟨7, 0, [], 0, 0⟩ none 0 0, .slice p 1 cap] w fun e w' => GetsT w.heap.size w' e (some (join ⟨7, 0, [], 0, 0⟩ [norm y])) ∧ Below w.heap.size w w' := by
  have hcon := fun (W : World) (G : Nat → TypeId → Prop) (q : Option Addr) (c : Nat) (hN : NodesAt W G q (lay y 0)) (hT : Tabs W) => andE_any y hok hz q c W G hN hT
  obtain ⟨r0, hr0⟩ : ∃ r0, r0 = join ⟨7, 0, [], 0, 0⟩ [norm y] := ⟨_, rfl⟩
  rw [← hr0] at hcon
  rw [← hr0]
  have Hcon := Lib.hid hcon
  have HN := Lib.hid hN
  have HT := Lib.hid hT
  have hI := ((RInv.start noS w).alloc (ndO ⟨7, 0, [], 0, 0⟩ none 0 0)).alloc (arO none 0 0 0)
  rw [World.size_alloc] at hI
  have HI := Lib.hid hI
  have hcs := nd_cells hI (List.mem_cons_of_mem _ List.mem_cons_self)
  have Hcs := Lib.hid hcs
  obtain ⟨b, o, rfl, _, hc⟩ := hN (by simp)
  obtain ⟨q, c, h1, h2, h3⟩ := hc 0 (clean y) rfl
  rw [clean_len] at h1
  rw [Nat.zero_mul, Nat.add_zero] at h1 h2
  have hbl := block_lt_of_cell h1
  have H3 := Lib.hid h3
  have HL : Hid (∀ W : World, Below w.heap.size w W → W.cell? ⟨b, o, none⟩ = some (.slice q y.size c) ∧ W.cell? ⟨b, o + 1, none⟩ = some (.int .i64 ((y.size : Int) - 1))) := Lib.hid fun W hb => ⟨(hb.cell (p := ⟨b, o, none⟩) hbl).trans h1, (hb.cell (p := ⟨b, o + 1, none⟩) hbl).trans h2⟩
  clear hc h1 h2 h3
  clear hcon hN hT hr0 hI hcs hok
  go_enter Tryd.func30, Tryd.ntmps30
  obtain ⟨l0, l1⟩ := HL.out _ HI.out.below
  go_wp2_with (first | (go_at_call 50; refine (Hcon.out _ _ _ _ (H3.out.below HI.out.below) (HT.out.keep HI.out.below)).mono ?_; rintro e W2 ⟨⟨v, rfl, p2, c2, rfl, hp2⟩, hb2⟩; have hsz := HI.out.size; have hI2 := HI.out.call hb2; clear hb2) | (refine rinv_row rfl _ _ _ rfl (w.heap.size + 1) #[.slice none 0 0, .int .i64 0] #[.slice p2 (clean r0).nodes.length c2, .int .i64 (clean r0).root] 24 rfl rfl (by simp [Value.oneCell']) szTree rfl hI2 (.inl (by omega)) (by simp) ?_; intro W3 hI3 hg3; obtain ⟨c0, c1⟩ := box_cells hI3 List.mem_cons_self))
  exact bodyPost_ret (v := .tuple #[arV p2 (clean r0).nodes.length c2 (clean r0).root, .bool true]) (by simp [results, Tryd.results30, go_sem, c0, c1]) rfl ⟨⟨_, rfl, p2, c2, rfl, nodes_tree (hp2.mono fun b t ho => ho.mono hsz) hg3 (hI2.at List.mem_cons_self)⟩, hI3.below⟩
set_option maxHeartbeats 8000000 in
theorem again_not (y : Xp) (hok : okX y = true) (hz : y.size ≤ 99999) (p : Option Addr) (cap : Nat) (w : World) (F : Nat → TypeId → Prop) (hN : TreesAt w F p ([y].map clean)) (hT : Tabs w) :
    Calls Tryd.prog 30 #[ndV ⟨8, 0, [], 0, 0⟩ none 0 0, .slice p 1 cap] w fun e w' => GetsT w.heap.size w' e (some (join ⟨8, 0, [], 0, 0⟩ [norm y])) ∧ Below w.heap.size w w' := by
  have hcon := fun (W : World) (G : Nat → TypeId → Prop) (q : Option Addr) (c : Nat) (hN : NodesAt W G q (lay y 0)) (hT : Tabs W) => notE_any y hok hz q c W G hN hT
  obtain ⟨r0, hr0⟩ : ∃ r0, r0 = join ⟨8, 0, [], 0, 0⟩ [norm y] := ⟨_, rfl⟩
  rw [← hr0] at hcon
  rw [← hr0]
  have Hcon := Lib.hid hcon
  have HN := Lib.hid hN
  have HT := Lib.hid hT
  have hI := ((RInv.start noS w).alloc (ndO ⟨8, 0, [], 0, 0⟩ none 0 0)).alloc (arO none 0 0 0)
  rw [World.size_alloc] at hI
  have HI := Lib.hid hI
  have hcs := nd_cells hI (List.mem_cons_of_mem _ List.mem_cons_self)
  have Hcs := Lib.hid hcs
  obtain ⟨b, o, rfl, _, hc⟩ := hN (by simp)
  obtain ⟨q, c, h1, h2, h3⟩ := hc 0 (clean y) rfl
  rw [clean_len] at h1
  rw [Nat.zero_mul, Nat.add_zero] at h1 h2
  have hbl := block_lt_of_cell h1
  have H3 := Lib.hid h3
  have HL : Hid (∀ W : World, Below w.heap.size w W → W.cell? ⟨b, o, none⟩ = some (.slice q y.size c) ∧ W.cell? ⟨b, o + 1, none⟩ = some (.int .i64 ((y.size : Int) - 1))) := Lib.hid fun W hb => ⟨(hb.cell (p := ⟨b, o, none⟩) hbl).trans h1, (hb.cell (p := ⟨b, o + 1, none⟩) hbl).trans h2⟩
  clear hc h1 h2 h3
  clear hcon hN hT hr0 hI hcs hok
  go_enter Tryd.func30, Tryd.ntmps30
  obtain ⟨l0, l1⟩ := HL.out _ HI.out.below
  go_wp2_with (first | (go_at_call 51; refine (Hcon.out _ _ _ _ (H3.out.below HI.out.below) (HT.out.keep HI.out.below)).mono ?_; rintro e W2 ⟨⟨v, rfl, p2, c2, rfl, hp2⟩, hb2⟩; have hsz := HI.out.size; have hI2 := HI.out.call hb2; clear hb2) | (refine rinv_row rfl _ _ _ rfl (w.heap.size + 1) #[.slice none 0 0, .int .i64 0] #[.slice p2 (clean r0).nodes.length c2, .int .i64 (clean r0).root] 24 rfl rfl (by simp [Value.oneCell']) szTree rfl hI2 (.inl (by omega)) (by simp) ?_; intro W3 hI3 hg3; obtain ⟨c0, c1⟩ := box_cells hI3 List.mem_cons_self))
  exact bodyPost_ret (v := .tuple #[arV p2 (clean r0).nodes.length c2 (clean r0).root, .bool true]) (by simp [results, Tryd.results30, go_sem, c0, c1]) rfl ⟨⟨_, rfl, p2, c2, rfl, nodes_tree (hp2.mono fun b t ho => ho.mono hsz) hg3 (hI2.at List.mem_cons_self)⟩, hI3.below⟩
set_option maxHeartbeats 8000000 in
theorem again_rep (lo hi : Int) (y : Xp) (hok : okX y = true) (hz : y.size ≤ 99999) (hf : fitsB ⟨6, 0, [], lo, hi⟩ 1 = true) (p : Option Addr) (cap : Nat) (w : World) (F : Nat → TypeId → Prop) (hN : TreesAt w F p ([y].map clean)) (hT : Tabs w) :
    Calls Tryd.prog 30 #[ndV ⟨6, 0, [], lo, hi⟩ none 0 0, .slice p 1 cap] w fun e w' => GetsT w.heap.size w' e (some (join ⟨6, 0, [], lo, hi⟩ [norm y])) ∧ Below w.heap.size w w' := by
  have hcon := fun (W : World) (G : Nat → TypeId → Prop) (q : Option Addr) (c : Nat) (hN : NodesAt W G q (lay y 0)) (hT : Tabs W) => repE_any lo hi y hok hz hf q c W G hN hT
  obtain ⟨r0, hr0⟩ : ∃ r0, r0 = join ⟨6, 0, [], lo, hi⟩ [norm y] := ⟨_, rfl⟩
  rw [← hr0] at hcon
  rw [← hr0]
  have Hcon := Lib.hid hcon
  have HN := Lib.hid hN
  have HT := Lib.hid hT
  have hI := ((RInv.start noS w).alloc (ndO ⟨6, 0, [], lo, hi⟩ none 0 0)).alloc (arO none 0 0 0)
  rw [World.size_alloc] at hI
  have HI := Lib.hid hI
  have hcs := nd_cells hI (List.mem_cons_of_mem _ List.mem_cons_self)
  have Hcs := Lib.hid hcs
  obtain ⟨b, o, rfl, _, hc⟩ := hN (by simp)
  obtain ⟨q, c, h1, h2, h3⟩ := hc 0 (clean y) rfl
  rw [clean_len] at h1
  rw [Nat.zero_mul, Nat.add_zero] at h1 h2
  have hbl := block_lt_of_cell h1
  have H3 := Lib.hid h3
  have HL : Hid (∀ W : World, Below w.heap.size w W → W.cell? ⟨b, o, none⟩ = some (.slice q y.size c) ∧ W.cell? ⟨b, o + 1, none⟩ = some (.int .i64 ((y.size : Int) - 1))) := Lib.hid fun W hb => ⟨(hb.cell (p := ⟨b, o, none⟩) hbl).trans h1, (hb.cell (p := ⟨b, o + 1, none⟩) hbl).trans h2⟩
  clear hc h1 h2 h3
  clear hcon hN hT hr0 hI hcs hok
  go_enter Tryd.func30, Tryd.ntmps30
  go_wp2
  have hID := HI.out.drew
  obtain ⟨l0, l1⟩ := HL.out _ HI.out.below
  go_region_held_law (fun w' => w'.cell? ⟨b, o, none⟩ = some (.slice q y.size c) ∧ w'.cell? ⟨b, o + 1, none⟩ = some (.int .i64 ((y.size : Int) - 1)) ∧ w'.cell? ⟨w.heap.size, 6, none⟩ = some (.int .i64 lo) ∧ w'.cell? ⟨w.heap.size, 7, none⟩ = some (.int .i64 hi)) (first | exact ⟨(HL.out _ hID.below).1, (HL.out _ hID.below).2, (nd_cells hID (List.mem_cons_of_mem _ List.mem_cons_self)).2.2.2.2.2.2.1, (nd_cells hID (List.mem_cons_of_mem _ List.mem_cons_self)).2.2.2.2.2.2.2.1⟩ | exact ⟨(HL.out _ hI2.below).1, (HL.out _ hI2.below).2, (nd_cells hI2 (List.mem_cons_of_mem _ List.mem_cons_self)).2.2.2.2.2.2.1, (nd_cells hI2 (List.mem_cons_of_mem _ List.mem_cons_self)).2.2.2.2.2.2.2.1⟩ | exact ⟨two_set (HL.out _ hI2.below).1 (by omega), two_set (HL.out _ hI2.below).2 (by omega), two_set (nd_cells hI2 (List.mem_cons_of_mem _ List.mem_cons_self)).2.2.2.2.2.2.1 (by omega), two_set (nd_cells hI2 (List.mem_cons_of_mem _ List.mem_cons_self)).2.2.2.2.2.2.2.1 (by omega)⟩)
    (first | (go_at_call 49; refine (Hcon.out _ _ _ _ (H3.out.below hID.below) (HT.out.keep hID.below)).mono ?_; rintro e W2 ⟨⟨v, rfl, p2, c2, rfl, hp2⟩, hb2⟩; have hsz := hID.size; have hI2 := hID.call hb2; clear hb2; obtain ⟨r0', r1'⟩ := box_cells hI2 List.mem_cons_self; have f0 := hI2.free (g := w.heap.size + 1) (j := 0) List.mem_cons_self; have f1 := hI2.free (g := w.heap.size + 1) (j := 1) List.mem_cons_self))
  all_goals
    go_wp2
    have hend := put_tree (p := p2) (k := (clean r0).nodes.length) (c := c2) (r := (clean r0).root) hI2 (.inl (by omega)) (by simp) (hp2.mono fun b t ho => ho.mono hsz)
    obtain ⟨d0, d1⟩ := box_cells hend.1 List.mem_cons_self
    exact bodyPost_ret (v := .tuple #[arV p2 (clean r0).nodes.length c2 (clean r0).root, .bool true]) (by simp [results, Tryd.results30, go_sem, d0, d1]) rfl ⟨⟨_, rfl, p2, c2, rfl, hend.2⟩, hend.1.below⟩
set_option maxHeartbeats 8000000 in
theorem again_cap (s : List UInt8) (y : Xp) (hok : okX y = true) (hz : y.size ≤ 99999) (hf : fitsB ⟨9, 0, s, 0, 0⟩ 1 = true) (p : Option Addr) (cap : Nat) (w : World) (F : Nat → TypeId → Prop) (hN : TreesAt w F p ([y].map clean)) (hT : Tabs w) :
    Calls Tryd.prog 30 #[ndV ⟨9, 0, s, 0, 0⟩ none 0 0, .slice p 1 cap] w fun e w' => GetsT w.heap.size w' e (some (join ⟨9, 0, s, 0, 0⟩ [norm y])) ∧ Below w.heap.size w w' := by
  have hcon := fun (W : World) (G : Nat → TypeId → Prop) (q : Option Addr) (c : Nat) (hN : NodesAt W G q (lay y 0)) (hT : Tabs W) => capE_any s y hok hz hf q c W G hN hT
  obtain ⟨r0, hr0⟩ : ∃ r0, r0 = join ⟨9, 0, s, 0, 0⟩ [norm y] := ⟨_, rfl⟩
  rw [← hr0] at hcon
  rw [← hr0]
  have Hcon := Lib.hid hcon
  have HN := Lib.hid hN
  have HT := Lib.hid hT
  have hI := ((RInv.start noS w).alloc (ndO ⟨9, 0, s, 0, 0⟩ none 0 0)).alloc (arO none 0 0 0)
  rw [World.size_alloc] at hI
  have HI := Lib.hid hI
  have hcs := nd_cells hI (List.mem_cons_of_mem _ List.mem_cons_self)
  have Hcs := Lib.hid hcs
  obtain ⟨b, o, rfl, _, hc⟩ := hN (by simp)
  obtain ⟨q, c, h1, h2, h3⟩ := hc 0 (clean y) rfl
  rw [clean_len] at h1
  rw [Nat.zero_mul, Nat.add_zero] at h1 h2
  have hbl := block_lt_of_cell h1
  have H3 := Lib.hid h3
  have HL : Hid (∀ W : World, Below w.heap.size w W → W.cell? ⟨b, o, none⟩ = some (.slice q y.size c) ∧ W.cell? ⟨b, o + 1, none⟩ = some (.int .i64 ((y.size : Int) - 1))) := Lib.hid fun W hb => ⟨(hb.cell (p := ⟨b, o, none⟩) hbl).trans h1, (hb.cell (p := ⟨b, o + 1, none⟩) hbl).trans h2⟩
  clear hc h1 h2 h3
  clear hcon hN hT hr0 hI hcs hok
  go_enter Tryd.func30, Tryd.ntmps30
  go_wp2
  have hID := HI.out.drew
  obtain ⟨l0, l1⟩ := HL.out _ HI.out.below
  go_region_held_law (fun w' => w'.cell? ⟨b, o, none⟩ = some (.slice q y.size c) ∧ w'.cell? ⟨b, o + 1, none⟩ = some (.int .i64 ((y.size : Int) - 1)) ∧ w'.cell? ⟨w.heap.size, 5, none⟩ = some (.string (strOf s))) (first | exact ⟨(HL.out _ hID.below).1, (HL.out _ hID.below).2, (nd_cells hID (List.mem_cons_of_mem _ List.mem_cons_self)).2.2.2.2.2.1⟩ | exact ⟨(HL.out _ hI2.below).1, (HL.out _ hI2.below).2, (nd_cells hI2 (List.mem_cons_of_mem _ List.mem_cons_self)).2.2.2.2.2.1⟩ | exact ⟨two_set (HL.out _ hI2.below).1 (by omega), two_set (HL.out _ hI2.below).2 (by omega), two_set (nd_cells hI2 (List.mem_cons_of_mem _ List.mem_cons_self)).2.2.2.2.2.1 (by omega)⟩)
    (first | (go_at_call 52; refine (Hcon.out _ _ _ _ (H3.out.below hID.below) (HT.out.keep hID.below)).mono ?_; rintro e W2 ⟨⟨v, rfl, p2, c2, rfl, hp2⟩, hb2⟩; have hsz := hID.size; have hI2 := hID.call hb2; clear hb2; obtain ⟨r0', r1'⟩ := box_cells hI2 List.mem_cons_self; have f0 := hI2.free (g := w.heap.size + 1) (j := 0) List.mem_cons_self; have f1 := hI2.free (g := w.heap.size + 1) (j := 1) List.mem_cons_self))
  all_goals
    go_wp2
    have hend := put_tree (p := p2) (k := (clean r0).nodes.length) (c := c2) (r := (clean r0).root) hI2 (.inl (by omega)) (by simp) (hp2.mono fun b t ho => ho.mono hsz)
    obtain ⟨d0, d1⟩ := box_cells hend.1 List.mem_cons_self
    exact bodyPost_ret (v := .tuple #[arV p2 (clean r0).nodes.length c2 (clean r0).root, .bool true]) (by simp [results, Tryd.results30, go_sem, d0, d1]) rfl ⟨⟨_, rfl, p2, c2, rfl, hend.2⟩, hend.1.below⟩
end Go.Proofs.YtcenjpaiehidjaaDoor
