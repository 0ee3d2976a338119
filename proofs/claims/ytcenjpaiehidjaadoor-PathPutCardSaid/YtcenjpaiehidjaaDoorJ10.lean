/- Contracts of the two functions of expr.together that open their parts. -/
import Derived.Test.YtcenjpaiehidjaaDoorJ9
set_option linter.unusedSimpArgs false
set_option linter.unusedVariables false
namespace Go.Proofs.YtcenjpaiehidjaaDoor
open Go.RowKit
set_option maxRecDepth 100000
attribute [local go_sem ↓] Go.wp_at_zero Go.wp_at_succ

theorem setT_none (w : World) : Calls Tryd.prog 94 #[.agg #[.int .u64 0, .int .u64 0, .int .u64 0, .int .u64 0]] w fun e w' => GivesT w.heap.size w' e noneX ∧ Below w.heap.size w w' := by
  have h := setT_any 0 (by decide) w
  unfold setV at h
  simp only [w64_zero] at h
  exact h
theorem flat_S (ks : List Xp) : ks.flatMap (openG 4 0) = ks.flatMap openS := by congr 1
theorem flat_C (ks : List Xp) : ks.flatMap (openG 5 5) = ks.flatMap openC := by congr 1; funext t; exact openG_C t
set_option maxHeartbeats 4000000 in
theorem seq_any (nh : Hd) (hd : HdOk nh) (hk : nh.kind = 4) (hf : fitsB nh 2 = true) (qk : Option Addr) (nk ck : Nat) (ks : List Xp) (hok : ∀ k ∈ ks, okX k = true) (hz : sizeL ks ≤ 99999) (p : Option Addr) (cap : Nat) (n : Nat) (w : World)
    (hN : TreesAt w (Own n w) p (ks.map clean)) (hT : KidsT w) (hn : n ≤ w.heap.size) :
    Calls Tryd.prog 91 #[ndV nh qk nk ck, .slice p ks.length cap] w fun e w' => GetsT n w' e (some (shut nh emptyX (ks.flatMap openS))) ∧ Below w.heap.size w w' := by
  have HN := Lib.hid hN
  have HT := Lib.hid hT
  have hI := ((RInv.start noS w).alloc (ndO nh qk nk ck)).alloc (arO none 0 0 0)
  rw [World.size_alloc] at hI
  have hsome := some_any nh hd (.inl hk) hf qk nk ck 0 ks hok hz p cap emptyX
  rw [hk, flat_S] at hsome
  have Hsome := Lib.hid hsome
  have hcs := nd_cells hI (List.mem_cons_of_mem _ List.mem_cons_self)
  have Hcs := Lib.hid hcs
  have HI := Lib.hid hI
  clear hN hT hd hk hf hok hsome hcs hI
  go_enter Tryd.func91, Tryd.ntmps91
  go_wp2
  go_region_held_law (fun w' => w'.cell? ⟨w.heap.size, 0, none⟩ = some (.int .u8 nh.kind) ∧ w'.cell? ⟨w.heap.size, 1, none⟩ = some (.int .u64 (w64 nh.set 0)) ∧ w'.cell? ⟨w.heap.size, 2, none⟩ = some (.int .u64 (w64 nh.set 1)) ∧ w'.cell? ⟨w.heap.size, 3, none⟩ = some (.int .u64 (w64 nh.set 2)) ∧ w'.cell? ⟨w.heap.size, 4, none⟩ = some (.int .u64 (w64 nh.set 3)) ∧
    w'.cell? ⟨w.heap.size, 5, none⟩ = some (.string (strOf nh.text)) ∧ w'.cell? ⟨w.heap.size, 6, none⟩ = some (.int .i64 nh.lo) ∧ w'.cell? ⟨w.heap.size, 7, none⟩ = some (.int .i64 nh.hi) ∧ w'.cell? ⟨w.heap.size, 8, none⟩ = some (.slice qk nk ck)) (first | exact Hcs.out | exact Hcs1.out | exact Hcs2.out | (obtain ⟨k0, k1, k2, k3, k4, k5, k6, k7, k8⟩ := Hcs2.out; go_keep))
    (first | (go_at_call 22; refine (emptyT_any _).mono ?_; rintro e W1 ⟨⟨v, rfl, pz, cz, rfl, hz1⟩, hb1⟩; have hI1 := HI.out.drew.call hb1; have Hcs1 := Lib.hid (nd_cells hI1 (List.mem_cons_of_mem _ List.mem_cons_self))) | (go_at_call 92; refine (Hsome.out pz cz n _ (HN.out.own hI1.below (Nat.le_refl _)) (hz1.mono fun b t ho => ho.mono (Nat.le_trans hn HI.out.size)) (HT.out.keep hI1.below) (Nat.le_trans hn hI1.size)).mono ?_; rintro e W2 ⟨⟨v2, rfl, p2, c2, rfl, hp2⟩, hb2⟩; have hI2 := hI1.call hb2; have Hcs2 := Lib.hid (nd_cells hI2 (List.mem_cons_of_mem _ List.mem_cons_self)); obtain ⟨r0, r1⟩ := box_cells hI2 List.mem_cons_self; have f0 := hI2.free (g := w.heap.size + 1) (j := 0) List.mem_cons_self; have f1 := hI2.free (g := w.heap.size + 1) (j := 1) List.mem_cons_self))
  all_goals
    go_wp2
    have hend := put_tree (p := p2) (k := (clean (shut nh emptyX (ks.flatMap openS))).nodes.length) (c := c2) (r := (clean (shut nh emptyX (ks.flatMap openS))).root) hI2 (.inl (by omega)) (by simp) hp2
    obtain ⟨d0, d1⟩ := box_cells hend.1 List.mem_cons_self
    exact bodyPost_ret (v := .tuple #[arV p2 (clean (shut nh emptyX (ks.flatMap openS))).nodes.length c2 (clean (shut nh emptyX (ks.flatMap openS))).root, .bool true]) (by simp [results, Tryd.results91, go_sem, d0, d1]) rfl ⟨⟨_, rfl, p2, c2, rfl, hend.2⟩, hend.1.below⟩
set_option maxHeartbeats 4000000 in
theorem choice_any (nh : Hd) (hd : HdOk nh) (hk : nh.kind = 5) (hf : fitsB nh 2 = true) (qk : Option Addr) (nk ck : Nat) (ks : List Xp) (hok : ∀ k ∈ ks, okX k = true) (hz : sizeL ks ≤ 99999) (p : Option Addr) (cap : Nat) (n : Nat) (w : World)
    (hN : TreesAt w (Own n w) p (ks.map clean)) (hT : KidsT w) (hn : n ≤ w.heap.size) :
    Calls Tryd.prog 93 #[ndV nh qk nk ck, .slice p ks.length cap] w fun e w' => GetsT n w' e (some (shut nh noneX (ks.flatMap openC))) ∧ Below w.heap.size w w' := by
  have HN := Lib.hid hN
  have HT := Lib.hid hT
  have hI := ((RInv.start noS w).alloc (ndO nh qk nk ck)).alloc (arO none 0 0 0)
  rw [World.size_alloc] at hI
  have hsome := some_any nh hd (.inr hk) hf qk nk ck 5 ks hok hz p cap noneX
  rw [hk, flat_C] at hsome
  have Hsome := Lib.hid hsome
  have hcs := nd_cells hI (List.mem_cons_of_mem _ List.mem_cons_self)
  have Hcs := Lib.hid hcs
  have HI := Lib.hid hI
  clear hN hT hd hk hf hok hsome hcs hI
  go_enter Tryd.func93, Tryd.ntmps93
  go_wp2
  go_region_held_law (fun w' => w'.cell? ⟨w.heap.size, 0, none⟩ = some (.int .u8 nh.kind) ∧ w'.cell? ⟨w.heap.size, 1, none⟩ = some (.int .u64 (w64 nh.set 0)) ∧ w'.cell? ⟨w.heap.size, 2, none⟩ = some (.int .u64 (w64 nh.set 1)) ∧ w'.cell? ⟨w.heap.size, 3, none⟩ = some (.int .u64 (w64 nh.set 2)) ∧ w'.cell? ⟨w.heap.size, 4, none⟩ = some (.int .u64 (w64 nh.set 3)) ∧
    w'.cell? ⟨w.heap.size, 5, none⟩ = some (.string (strOf nh.text)) ∧ w'.cell? ⟨w.heap.size, 6, none⟩ = some (.int .i64 nh.lo) ∧ w'.cell? ⟨w.heap.size, 7, none⟩ = some (.int .i64 nh.hi) ∧ w'.cell? ⟨w.heap.size, 8, none⟩ = some (.slice qk nk ck)) (first | exact Hcs.out | exact Hcs1.out | exact Hcs2.out | (obtain ⟨k0, k1, k2, k3, k4, k5, k6, k7, k8⟩ := Hcs2.out; go_keep))
    (first | (go_at_call 94; refine (setT_none _).mono ?_; rintro e W1 ⟨⟨v, rfl, pz, cz, rfl, hz1⟩, hb1⟩; have hI1 := HI.out.drew.call hb1; have Hcs1 := Lib.hid (nd_cells hI1 (List.mem_cons_of_mem _ List.mem_cons_self))) | (go_at_call 92; refine (Hsome.out pz cz n _ (HN.out.own hI1.below (Nat.le_refl _)) (hz1.mono fun b t ho => ho.mono (Nat.le_trans hn HI.out.size)) (HT.out.keep hI1.below) (Nat.le_trans hn hI1.size)).mono ?_; rintro e W2 ⟨⟨v2, rfl, p2, c2, rfl, hp2⟩, hb2⟩; have hI2 := hI1.call hb2; have Hcs2 := Lib.hid (nd_cells hI2 (List.mem_cons_of_mem _ List.mem_cons_self)); obtain ⟨r0, r1⟩ := box_cells hI2 List.mem_cons_self; have f0 := hI2.free (g := w.heap.size + 1) (j := 0) List.mem_cons_self; have f1 := hI2.free (g := w.heap.size + 1) (j := 1) List.mem_cons_self))
  all_goals
    go_wp2
    have hend := put_tree (p := p2) (k := (clean (shut nh noneX (ks.flatMap openC))).nodes.length) (c := c2) (r := (clean (shut nh noneX (ks.flatMap openC))).root) hI2 (.inl (by omega)) (by simp) hp2
    obtain ⟨d0, d1⟩ := box_cells hend.1 List.mem_cons_self
    exact bodyPost_ret (v := .tuple #[arV p2 (clean (shut nh noneX (ks.flatMap openC))).nodes.length c2 (clean (shut nh noneX (ks.flatMap openC))).root, .bool true]) (by simp [results, Tryd.results93, go_sem, d0, d1]) rfl ⟨⟨_, rfl, p2, c2, rfl, hend.2⟩, hend.1.below⟩
end Go.Proofs.YtcenjpaiehidjaaDoor

/- Contracts of expr.all, expr.of and expr.Make. -/
namespace Go.Proofs.YtcenjpaiehidjaaDoor
open Go.RowKit
set_option maxRecDepth 100000
attribute [local go_sem ↓] Go.wp_at_zero Go.wp_at_succ

abbrev fv (n : Nat) : Value := .func (.func n) #[] #[]
/-- The table of functions that put parts together. -/
def togTab : List Nat := [90, 90, 90, 90, 91, 93, 90, 90, 90, 90]
structure Tabs (w : World) : Prop where
  kids : KidsT w
  tog : ∀ j, j < 10 → w.cell? ⟨1, j, none⟩ = some (fv (togTab.getD j 0))
theorem Tabs.keep {w w' : World} (h : Tabs w) (hb : Below w.heap.size w w') : Tabs w' := by
  refine ⟨h.kids.keep hb, fun j hj => ?_⟩
  have h0 : 1 < w.heap.size := block_lt_of_cell (h.tog 0 (by decide))
  rw [hb.cell (p := ⟨1, j, none⟩) h0]; exact h.tog j hj
/-- expr.Make, at one tree. -/
def MakeC (k : Xp) : Prop := ∀ (W : World) (F : Nat → TypeId → Prop) (q : Option Addr) (c : Nat), NodesAt W F q (lay k 0) → Tabs W → Calls Tryd.prog 17 #[arV q k.size c ((k.size : Int) - 1)] W fun e w' => GetsT W.heap.size w' e (some (norm k)) ∧ Below W.heap.size W w'
theorem norm_snoc {ks : List Xp} {k : Nat} {y : Xp} (h : ks[k]? = some y) : ((ks.take (k + 1)).map norm).map clean = ((ks.take k).map norm).map clean ++ [clean (norm y)] := by
  rw [take_snoc h, List.map_append, List.map_append]; rfl
set_option maxHeartbeats 4000000 in
/-- expr.all, of trees that are right. -/
theorem all_any (ks : List Xp) (hM : ∀ k ∈ ks, MakeC k) (hz : ks.length ≤ 100000) (p : Option Addr) (cap : Nat) (w : World) (F : Nat → TypeId → Prop) (hN : TreesAt w F p (ks.map clean)) (hT : Tabs w) :
    Calls Tryd.prog 58 #[.slice p ks.length cap] w fun e w' => ∃ v xs, e = .returned (.tuple #[v, .bool true]) ∧ w'.ownsRow w.heap.size 24 2 v ks.length xs ∧ TreesIn w' (Own w.heap.size w') xs ((ks.map norm).map clean) ∧ Below w.heap.size w w' := by
  have HN := Lib.hid hN
  have HT := Lib.hid hT
  have HM := Lib.hid hM
  have HI := Lib.hid ((RInv.start noS w).nil 24 2)
  clear hN hT hM
  go_enter Tryd.func58, Tryd.ntmps58
  go_wp2
  go_loopw [4, 11] (fun vo iv wr => ∃ (j : Nat) (xs : List Value), j ≤ ks.length ∧ iv = .int .i64 j ∧ RInv noS w [] [⟨24, 2, vo, j, xs⟩] wr ∧ Hid (TreesIn wr (Own w.heap.size wr) xs (((ks.take j).map norm).map clean))) (fun _ iv _ => ks.length - (intOf iv).toNat)
  case atStart => exact ⟨0, [], by omega, rfl, HI.out, Lib.hid (TreesIn.nil _ _)⟩
  case round =>
    clear HI
    obtain ⟨j, xs, hj, rfl, hI, hX⟩ := hrel
    by_cases hlt : j < ks.length
    · obtain ⟨y, hy⟩ : ∃ y, ks[j]? = some y := ⟨_, List.getElem?_eq_getElem hlt⟩
      have hym := List.mem_of_getElem? hy
      obtain ⟨b, o, rfl, _, hc⟩ := HN.out (by intro h; have := congrArg List.length h; simp at this; rw [this] at hlt; exact absurd hlt (by simp))
      obtain ⟨q, c, h1, h2, h3⟩ := hc j (clean y) (by rw [List.getElem?_map, hy]; rfl)
      rw [clean_len] at h1
      have c0 := (hI.below.cell (p := ⟨b, o + j * 2, none⟩) (block_lt_of_cell h1)).trans h1
      have c1 : wr.cell? ⟨b, o + j * 2 + 1, none⟩ = some (.int .i64 ((y.size : Int) - 1)) := (hI.below.cell (p := ⟨b, o + j * 2 + 1, none⟩) (block_lt_of_cell h2)).trans h2
      have H3 := Lib.hid (h3.below hI.below)
      have HMy := Lib.hid (HM.out y hym)
      have Hy := Lib.hid hy
      have HIa := Lib.hid (hI.alloc (arO q y.size c ((y.size : Int) - 1)))
      have HTr := Lib.hid (HT.out.keep hI.below)
      have Hsz := Lib.hid hI.size
      clear hc h1 h2 h3 hy hym hI
      go_wp2_with (first | (go_at_call 17; refine (HMy.out _ F q c (H3.out.below ((Below.refl _ _).alloc (Nat.le_refl _) _)) (HTr.out.keep ((Below.refl _ _).alloc (Nat.le_refl _) _))).mono ?_; rintro e W2 ⟨⟨v2, rfl, p2, c2, rfl, hp2⟩, hb2⟩; have hI2 := (HIa.out.call hb2).alloc (arO p2 (clean (norm y)).nodes.length c2 (clean (norm y)).root)) | (at_builtin; refine app_newB treeT rfl (.tmp 22) (.tmp 24) rfl _ rfl (by rw [World.size_alloc]; rfl) rfl (by simp [Value.oneCell']) hI2 (by unfold maxLen; omega) (by omega) ?_; intro v3 W3 hI3 hg3 hb3))
      go_roundw
      case rel => exact ⟨j + 1, _, by omega, by go_num, hI3.subL (by simp), Lib.hid (by
        rw [norm_snoc Hy.out]
        have h1 := (hX.out.own (((Below.refl _ _).alloc (Nat.le_refl _) (arO q y.size c ((y.size : Int) - 1))).trans (hb2.mono (by simp))) (Nat.le_refl _)).own ((Below.refl _ _).alloc (Nat.le_refl _) (arO p2 (clean (norm y)).nodes.length c2 (clean (norm y)).root)) (Nat.le_refl _)
        have h2 := h1.push (T := clean (norm y)) (cap := c2) ((hp2.own ((Below.refl _ _).alloc (Nat.le_refl _) (arO p2 (clean (norm y)).nodes.length c2 (clean (norm y)).root)) (Nat.le_refl _)).mono fun b t ho => ho.mono (by rw [World.size_alloc]; have := Hsz.out; omega))
        exact h2.other hg3 fun g cur t e hh => by
          have := row_type hI2.own1 g cur t e hh
          subst this
          exact ⟨by decide, by decide⟩)⟩
      case measure => simp [intOf]; omega
    · obtain rfl : j = ks.length := by omega
      go_wp2
      go_ret2
      refine ⟨_, xs, rfl, hI.fresh, ?_, hI.below⟩
      have := hX.out
      rw [List.take_length] at this
      exact this
end Go.Proofs.YtcenjpaiehidjaaDoor

/- Contracts of expr.of. -/
namespace Go.Proofs.YtcenjpaiehidjaaDoor
open Go.RowKit
set_option maxRecDepth 100000
attribute [local go_sem ↓] Go.wp_at_zero Go.wp_at_succ

abbrev ndK (κ : Int) (h : Hd) (q : Option Addr) (n c : Nat) : Value := .agg #[.int .u8 κ, .int .u64 (w64 h.set 0), .int .u64 (w64 h.set 1), .int .u64 (w64 h.set 2), .int .u64 (w64 h.set 3), .string (strOf h.text), .int .i64 h.lo, .int .i64 h.hi, .slice q n c]
theorem ndK_eq {κ : Int} {h : Hd} (hk : h.kind = κ) (q : Option Addr) (n c : Nat) : ndV h q n c = ndK κ h q n c := by subst hk; rfl
theorem two_set {W : World} {g b j : Nat} {x y v : Value} (h : W.cell? ⟨b, j, none⟩ = some v) (hne : b ≠ g) : ((W.setCell ⟨g, 0, none⟩ x).setCell ⟨g, 1, none⟩ y).cell? ⟨b, j, none⟩ = some v := by
  rw [World.cell?_of_block (w := W.setCell ⟨g, 0, none⟩ x) (a := ⟨b, j, none⟩) (heap_setCell_other _ _ _ _ hne), World.cell?_of_block (w := W) (a := ⟨b, j, none⟩) (heap_setCell_other _ _ _ _ hne)]
  exact h
theorem normL_size (ks : List Xp) : sizeL (ks.map norm) ≤ sizeL ks := by
  induction ks with
  | nil => exact Nat.le_refl _
  | cons k ks ih => rw [List.map_cons, sizeL_cons, sizeL_cons]; have := norm_size k; omega
theorem norm_all {ks : List Xp} (h : ∀ k ∈ ks, okX k = true) : ∀ k ∈ ks.map norm, okX k = true := by
  intro k hk
  obtain ⟨x, hx, rfl⟩ := List.mem_map.1 hk
  exact (norm_good x (h x hx)).1
set_option maxHeartbeats 8000000 in
theorem ofE_plain (nh : Hd) (hd : HdOk nh) (κ : Nat) (hκ : κ < 10) (hk : nh.kind = κ) (hkk : κ ≠ 4 ∧ κ ≠ 5) (qk : Option Addr) (nk ck : Nat) (ks : List Xp) (hok : ∀ k ∈ ks, okX k = true) (hM : ∀ k ∈ ks, MakeC k) (hf : fitsB nh ks.length = true) (hz : sizeL ks ≤ 99999) (p : Option Addr) (cap : Nat) (w : World) (F : Nat → TypeId → Prop) (hN : TreesAt w F p (ks.map clean)) (hT : Tabs w) :
    Calls Tryd.prog 36 #[ndV nh qk nk ck, .slice p ks.length cap] w fun e w' => GetsT w.heap.size w' e (some (.node nh (ks.map norm))) ∧ Below w.heap.size w w' := by
  have hlz := sizeL_le_len ks
  have hcell := hT.tog κ hκ
  have e0 : togTab.getD κ 0 = 90 := by
    obtain ⟨ha, hb⟩ := hkk
    match κ, hκ, ha, hb with
    | 0, _, _, _ => rfl
    | 1, _, _, _ => rfl
    | 2, _, _, _ => rfl
    | 3, _, _, _ => rfl
    | 6, _, _, _ => rfl
    | 7, _, _, _ => rfl
    | 8, _, _, _ => rfl
    | 9, _, _, _ => rfl
  rw [e0] at hcell
  have hfn := hcell
  have HN := Lib.hid hN
  have HT := Lib.hid hT
  have hI := ((RInv.start noS w).alloc (ndO nh qk nk ck)).alloc (arO none 0 0 0)
  rw [World.size_alloc] at hI
  have HI := Lib.hid hI
  have Hall := Lib.hid (all_any ks hM (by omega) p cap)
  have hns := normL_size ks
  have Hno := Lib.hid (norm_all hok)
  have h1b : 1 < w.heap.size := block_lt_of_cell hfn
  obtain ⟨r0, hr0⟩ : ∃ r0 : Xp, r0 = .node nh (ks.map norm) := ⟨_, rfl⟩
  have Hcon : Hid (∀ (W : World) (n : Nat) (q : Option Addr) (c : Nat), TreesAt W (Own n W) q ((ks.map norm).map clean) → KidsT W → n ≤ W.heap.size → Calls Tryd.prog 90 #[ndK κ nh qk nk ck, .slice q ks.length c] W fun e w' => GetsT n w' e (some r0) ∧ Below W.heap.size W w') := Lib.hid (by
    intro W n q c h1 h2 h3
    have := of_yes nh hd qk nk ck (ks.map norm) ((ks.map norm).map clean) q c (small_clean (by omega)) (readL_clean (norm_all hok)) (by rw [List.length_map, List.length_map]; exact hf) (by omega) W (Own n W) h1 h2
    rw [List.length_map, List.length_map] at this
    rw [hr0, ← ndK_eq hk]
    exact this.mono fun e w' ⟨ha, hb⟩ => ⟨ha.mono h3, hb⟩)
  have Hr0 := Lib.hid hr0
  have hk0 : (0 : Int) ≤ (κ : Int) := by omega
  have hk9 : (κ : Int) < 10 := by omega
  have hwk : IntKind.i64.wrap (κ : Int) = (κ : Int) := IntWalk.i64_in _ (by omega)
  have hfk0 := nd_cells hI (List.mem_cons_of_mem _ List.mem_cons_self)
  have Hfn := Lib.hid hfn
  have Hhk := Lib.hid hk
  have Hd := Lib.hid hd
  clear hN hT hok hM hI hcell hfn hr0 hfk0 hd hk hkk e0
  rw [← Hr0.out]
  go_enter Tryd.func36, Tryd.ntmps36
  go_wp2_with (first | (go_at_call 58; refine (Hall.out _ F (HN.out.below HI.out.below) (HT.out.keep HI.out.below)).mono ?_; rintro e W1 ⟨v1, xs1, rfl, ho1, hx1, hb1⟩; obtain ⟨q1, c1, rfl, _, _⟩ := row_slice ho1; have hI1 := HI.out.call hb1; have Hcs := Lib.hid (nd_cells hI1 (List.mem_cons_of_mem _ List.mem_cons_self)); have hkc : W1.cell? ⟨w.heap.size, 0, none⟩ = some (.int .u8 (κ : Int)) := by rw [← Hhk.out]; exact Hcs.out.1))
  have hts := hx1.at (by rw [List.length_map, List.length_map]; exact ho1) (fun g hg => (ho1.lt g hg).1)
  obtain ⟨p2, c2, he, hts⟩ := hts
  injection he with e1 e2 e3
  subst e1 e3
  have Hts : Hid (TreesAt W1 (Own w.heap.size W1) q1 ((ks.map norm).map clean)) := Lib.hid (hts.mono fun b t ho => ho.mono (by simp only [World.size_alloc]; omega))
  have Hf1 : Hid (W1.cell? ⟨1, κ, none⟩ = some (fv 90)) := Lib.hid ((hI1.below.cell (p := ⟨1, κ, none⟩) h1b).trans Hfn.out)
  have HI1 := Lib.hid hI1
  have Hsz1 := Lib.hid HI.out.size
  clear hts hx1 ho1 e2 hI1
  go_region_held_law (fun w' => w'.cell? ⟨w.heap.size, 0, none⟩ = some (.int .u8 (κ : Int)) ∧ w'.cell? ⟨w.heap.size, 1, none⟩ = some (.int .u64 (w64 nh.set 0)) ∧ w'.cell? ⟨w.heap.size, 2, none⟩ = some (.int .u64 (w64 nh.set 1)) ∧ w'.cell? ⟨w.heap.size, 3, none⟩ = some (.int .u64 (w64 nh.set 2)) ∧ w'.cell? ⟨w.heap.size, 4, none⟩ = some (.int .u64 (w64 nh.set 3)) ∧ w'.cell? ⟨w.heap.size, 5, none⟩ = some (.string (strOf nh.text)) ∧ w'.cell? ⟨w.heap.size, 6, none⟩ = some (.int .i64 nh.lo) ∧ w'.cell? ⟨w.heap.size, 7, none⟩ = some (.int .i64 nh.hi) ∧ w'.cell? ⟨w.heap.size, 8, none⟩ = some (.slice qk nk ck) ∧ w'.cell? ⟨1, κ, none⟩ = some (fv 90)) (first | exact ⟨hkc, Hcs.out.2.1, Hcs.out.2.2.1, Hcs.out.2.2.2.1, Hcs.out.2.2.2.2.1, Hcs.out.2.2.2.2.2.1, Hcs.out.2.2.2.2.2.2.1, Hcs.out.2.2.2.2.2.2.2.1, Hcs.out.2.2.2.2.2.2.2.2, Hf1.out⟩ | (obtain ⟨k0, k1, k2, k3, k4, k5, k6, k7, k8, k9⟩ := Hcs2.out; first | exact ⟨k0, k1, k2, k3, k4, k5, k6, k7, k8, k9⟩ | exact ⟨two_set k0 (by omega), two_set k1 (by omega), two_set k2 (by omega), two_set k3 (by omega), two_set k4 (by omega), two_set k5 (by omega), two_set k6 (by omega), two_set k7 (by omega), two_set k8 (by omega), two_set k9 (by omega)⟩))
    (first | (go_at_call 90; refine (Hcon.out _ _ _ _ (Hts.out.own (Below.refl _ _).drew (Nat.le_refl _)) ((HT.out.keep HI1.out.below).kids.keep (Below.refl _ _).drew) HI1.out.drew.size).mono ?_; rintro e W2 ⟨⟨v2, rfl, p3, c3, rfl, hp3⟩, hb2⟩; have hI2 := HI1.out.drew.call hb2; obtain ⟨r0', r1'⟩ := box_cells hI2 List.mem_cons_self; have f0 := hI2.free (g := w.heap.size + 1) (j := 0) List.mem_cons_self; have f1 := hI2.free (g := w.heap.size + 1) (j := 1) List.mem_cons_self; obtain ⟨m0, m1, m2, m3, m4, m5, m6, m7, m8⟩ := nd_cells hI2 (List.mem_cons_of_mem _ List.mem_cons_self); rw [Hhk.out] at m0; have Hcs2 : Hid (W2.cell? ⟨w.heap.size, 0, none⟩ = some (.int .u8 (κ : Int)) ∧ W2.cell? ⟨w.heap.size, 1, none⟩ = some (.int .u64 (w64 nh.set 0)) ∧ W2.cell? ⟨w.heap.size, 2, none⟩ = some (.int .u64 (w64 nh.set 1)) ∧ W2.cell? ⟨w.heap.size, 3, none⟩ = some (.int .u64 (w64 nh.set 2)) ∧ W2.cell? ⟨w.heap.size, 4, none⟩ = some (.int .u64 (w64 nh.set 3)) ∧ W2.cell? ⟨w.heap.size, 5, none⟩ = some (.string (strOf nh.text)) ∧ W2.cell? ⟨w.heap.size, 6, none⟩ = some (.int .i64 nh.lo) ∧ W2.cell? ⟨w.heap.size, 7, none⟩ = some (.int .i64 nh.hi) ∧ W2.cell? ⟨w.heap.size, 8, none⟩ = some (.slice qk nk ck) ∧ W2.cell? ⟨1, κ, none⟩ = some (fv 90)) := Lib.hid ⟨m0, m1, m2, m3, m4, m5, m6, m7, m8, (hI2.below.cell (p := ⟨1, κ, none⟩) h1b).trans Hfn.out⟩; clear m0 m1 m2 m3 m4 m5 m6 m7 m8))
  all_goals
    go_wp2
    have hend := put_tree (p := p3) (k := (clean r0).nodes.length) (c := c3) (r := (clean r0).root) hI2 (.inl (by omega)) (by simp) hp3
    obtain ⟨d0, d1⟩ := box_cells hend.1 List.mem_cons_self
    exact bodyPost_ret (v := .tuple #[arV p3 (clean r0).nodes.length c3 (clean r0).root, .bool true]) (by simp [results, Tryd.results36, go_sem, d0, d1]) rfl ⟨⟨_, rfl, p3, c3, rfl, hend.2⟩, hend.1.below⟩
set_option maxHeartbeats 8000000 in
theorem ofE_seq (nh : Hd) (hd : HdOk nh) (κ : Nat) (hκ : κ < 10) (hk : nh.kind = κ) (hkk : κ = 4) (qk : Option Addr) (nk ck : Nat) (ks : List Xp) (hok : ∀ k ∈ ks, okX k = true) (hM : ∀ k ∈ ks, MakeC k) (hf : fitsB nh 2 = true) (hz : sizeL ks ≤ 99999) (p : Option Addr) (cap : Nat) (w : World) (F : Nat → TypeId → Prop) (hN : TreesAt w F p (ks.map clean)) (hT : Tabs w) :
    Calls Tryd.prog 36 #[ndV nh qk nk ck, .slice p ks.length cap] w fun e w' => GetsT w.heap.size w' e (some (shut nh emptyX ((ks.map norm).flatMap openS))) ∧ Below w.heap.size w w' := by
  have hlz := sizeL_le_len ks
  have hcell := hT.tog κ hκ
  have e0 : togTab.getD κ 0 = 91 := by rw [hkk]; rfl
  rw [e0] at hcell
  have hfn := hcell
  have HN := Lib.hid hN
  have HT := Lib.hid hT
  have hI := ((RInv.start noS w).alloc (ndO nh qk nk ck)).alloc (arO none 0 0 0)
  rw [World.size_alloc] at hI
  have HI := Lib.hid hI
  have Hall := Lib.hid (all_any ks hM (by omega) p cap)
  have hns := normL_size ks
  have Hno := Lib.hid (norm_all hok)
  have h1b : 1 < w.heap.size := block_lt_of_cell hfn
  obtain ⟨r0, hr0⟩ : ∃ r0 : Xp, r0 = shut nh emptyX ((ks.map norm).flatMap openS) := ⟨_, rfl⟩
  have Hcon : Hid (∀ (W : World) (n : Nat) (q : Option Addr) (c : Nat), TreesAt W (Own n W) q ((ks.map norm).map clean) → KidsT W → n ≤ W.heap.size → Calls Tryd.prog 91 #[ndK κ nh qk nk ck, .slice q ks.length c] W fun e w' => GetsT n w' e (some r0) ∧ Below W.heap.size W w') := Lib.hid (by
    intro W n q c h1 h2 h3
    have := seq_any nh hd (by rw [hk, hkk]; rfl) hf qk nk ck (ks.map norm) (norm_all hok) (by omega) q c n W h1 h2 h3
    rw [List.length_map] at this
    rw [hr0, ← ndK_eq hk]
    exact this)
  have Hr0 := Lib.hid hr0
  have hk0 : (0 : Int) ≤ (κ : Int) := by omega
  have hk9 : (κ : Int) < 10 := by omega
  have hwk : IntKind.i64.wrap (κ : Int) = (κ : Int) := IntWalk.i64_in _ (by omega)
  have hfk0 := nd_cells hI (List.mem_cons_of_mem _ List.mem_cons_self)
  have Hfn := Lib.hid hfn
  have Hhk := Lib.hid hk
  have Hd := Lib.hid hd
  clear hN hT hok hM hI hcell hfn hr0 hfk0 hd hk hkk e0
  rw [← Hr0.out]
  go_enter Tryd.func36, Tryd.ntmps36
  go_wp2_with (first | (go_at_call 58; refine (Hall.out _ F (HN.out.below HI.out.below) (HT.out.keep HI.out.below)).mono ?_; rintro e W1 ⟨v1, xs1, rfl, ho1, hx1, hb1⟩; obtain ⟨q1, c1, rfl, _, _⟩ := row_slice ho1; have hI1 := HI.out.call hb1; have Hcs := Lib.hid (nd_cells hI1 (List.mem_cons_of_mem _ List.mem_cons_self)); have hkc : W1.cell? ⟨w.heap.size, 0, none⟩ = some (.int .u8 (κ : Int)) := by rw [← Hhk.out]; exact Hcs.out.1))
  have hts := hx1.at (by rw [List.length_map, List.length_map]; exact ho1) (fun g hg => (ho1.lt g hg).1)
  obtain ⟨p2, c2, he, hts⟩ := hts
  injection he with e1 e2 e3
  subst e1 e3
  have Hts : Hid (TreesAt W1 (Own w.heap.size W1) q1 ((ks.map norm).map clean)) := Lib.hid (hts.mono fun b t ho => ho.mono (by simp only [World.size_alloc]; omega))
  have Hf1 : Hid (W1.cell? ⟨1, κ, none⟩ = some (fv 91)) := Lib.hid ((hI1.below.cell (p := ⟨1, κ, none⟩) h1b).trans Hfn.out)
  have HI1 := Lib.hid hI1
  have Hsz1 := Lib.hid HI.out.size
  clear hts hx1 ho1 e2 hI1
  go_region_held_law (fun w' => w'.cell? ⟨w.heap.size, 0, none⟩ = some (.int .u8 (κ : Int)) ∧ w'.cell? ⟨w.heap.size, 1, none⟩ = some (.int .u64 (w64 nh.set 0)) ∧ w'.cell? ⟨w.heap.size, 2, none⟩ = some (.int .u64 (w64 nh.set 1)) ∧ w'.cell? ⟨w.heap.size, 3, none⟩ = some (.int .u64 (w64 nh.set 2)) ∧ w'.cell? ⟨w.heap.size, 4, none⟩ = some (.int .u64 (w64 nh.set 3)) ∧ w'.cell? ⟨w.heap.size, 5, none⟩ = some (.string (strOf nh.text)) ∧ w'.cell? ⟨w.heap.size, 6, none⟩ = some (.int .i64 nh.lo) ∧ w'.cell? ⟨w.heap.size, 7, none⟩ = some (.int .i64 nh.hi) ∧ w'.cell? ⟨w.heap.size, 8, none⟩ = some (.slice qk nk ck) ∧ w'.cell? ⟨1, κ, none⟩ = some (fv 91)) (first | exact ⟨hkc, Hcs.out.2.1, Hcs.out.2.2.1, Hcs.out.2.2.2.1, Hcs.out.2.2.2.2.1, Hcs.out.2.2.2.2.2.1, Hcs.out.2.2.2.2.2.2.1, Hcs.out.2.2.2.2.2.2.2.1, Hcs.out.2.2.2.2.2.2.2.2, Hf1.out⟩ | (obtain ⟨k0, k1, k2, k3, k4, k5, k6, k7, k8, k9⟩ := Hcs2.out; first | exact ⟨k0, k1, k2, k3, k4, k5, k6, k7, k8, k9⟩ | exact ⟨two_set k0 (by omega), two_set k1 (by omega), two_set k2 (by omega), two_set k3 (by omega), two_set k4 (by omega), two_set k5 (by omega), two_set k6 (by omega), two_set k7 (by omega), two_set k8 (by omega), two_set k9 (by omega)⟩))
    (first | (go_at_call 91; refine (Hcon.out _ _ _ _ (Hts.out.own (Below.refl _ _).drew (Nat.le_refl _)) ((HT.out.keep HI1.out.below).kids.keep (Below.refl _ _).drew) HI1.out.drew.size).mono ?_; rintro e W2 ⟨⟨v2, rfl, p3, c3, rfl, hp3⟩, hb2⟩; have hI2 := HI1.out.drew.call hb2; obtain ⟨r0', r1'⟩ := box_cells hI2 List.mem_cons_self; have f0 := hI2.free (g := w.heap.size + 1) (j := 0) List.mem_cons_self; have f1 := hI2.free (g := w.heap.size + 1) (j := 1) List.mem_cons_self; obtain ⟨m0, m1, m2, m3, m4, m5, m6, m7, m8⟩ := nd_cells hI2 (List.mem_cons_of_mem _ List.mem_cons_self); rw [Hhk.out] at m0; have Hcs2 : Hid (W2.cell? ⟨w.heap.size, 0, none⟩ = some (.int .u8 (κ : Int)) ∧ W2.cell? ⟨w.heap.size, 1, none⟩ = some (.int .u64 (w64 nh.set 0)) ∧ W2.cell? ⟨w.heap.size, 2, none⟩ = some (.int .u64 (w64 nh.set 1)) ∧ W2.cell? ⟨w.heap.size, 3, none⟩ = some (.int .u64 (w64 nh.set 2)) ∧ W2.cell? ⟨w.heap.size, 4, none⟩ = some (.int .u64 (w64 nh.set 3)) ∧ W2.cell? ⟨w.heap.size, 5, none⟩ = some (.string (strOf nh.text)) ∧ W2.cell? ⟨w.heap.size, 6, none⟩ = some (.int .i64 nh.lo) ∧ W2.cell? ⟨w.heap.size, 7, none⟩ = some (.int .i64 nh.hi) ∧ W2.cell? ⟨w.heap.size, 8, none⟩ = some (.slice qk nk ck) ∧ W2.cell? ⟨1, κ, none⟩ = some (fv 91)) := Lib.hid ⟨m0, m1, m2, m3, m4, m5, m6, m7, m8, (hI2.below.cell (p := ⟨1, κ, none⟩) h1b).trans Hfn.out⟩; clear m0 m1 m2 m3 m4 m5 m6 m7 m8))
  all_goals
    go_wp2
    have hend := put_tree (p := p3) (k := (clean r0).nodes.length) (c := c3) (r := (clean r0).root) hI2 (.inl (by omega)) (by simp) hp3
    obtain ⟨d0, d1⟩ := box_cells hend.1 List.mem_cons_self
    exact bodyPost_ret (v := .tuple #[arV p3 (clean r0).nodes.length c3 (clean r0).root, .bool true]) (by simp [results, Tryd.results36, go_sem, d0, d1]) rfl ⟨⟨_, rfl, p3, c3, rfl, hend.2⟩, hend.1.below⟩
set_option maxHeartbeats 8000000 in
theorem ofE_choice (nh : Hd) (hd : HdOk nh) (κ : Nat) (hκ : κ < 10) (hk : nh.kind = κ) (hkk : κ = 5) (qk : Option Addr) (nk ck : Nat) (ks : List Xp) (hok : ∀ k ∈ ks, okX k = true) (hM : ∀ k ∈ ks, MakeC k) (hf : fitsB nh 2 = true) (hz : sizeL ks ≤ 99999) (p : Option Addr) (cap : Nat) (w : World) (F : Nat → TypeId → Prop) (hN : TreesAt w F p (ks.map clean)) (hT : Tabs w) :
    Calls Tryd.prog 36 #[ndV nh qk nk ck, .slice p ks.length cap] w fun e w' => GetsT w.heap.size w' e (some (shut nh noneX ((ks.map norm).flatMap openC))) ∧ Below w.heap.size w w' := by
  have hlz := sizeL_le_len ks
  have hcell := hT.tog κ hκ
  have e0 : togTab.getD κ 0 = 93 := by rw [hkk]; rfl
  rw [e0] at hcell
  have hfn := hcell
  have HN := Lib.hid hN
  have HT := Lib.hid hT
  have hI := ((RInv.start noS w).alloc (ndO nh qk nk ck)).alloc (arO none 0 0 0)
  rw [World.size_alloc] at hI
  have HI := Lib.hid hI
  have Hall := Lib.hid (all_any ks hM (by omega) p cap)
  have hns := normL_size ks
  have Hno := Lib.hid (norm_all hok)
  have h1b : 1 < w.heap.size := block_lt_of_cell hfn
  obtain ⟨r0, hr0⟩ : ∃ r0 : Xp, r0 = shut nh noneX ((ks.map norm).flatMap openC) := ⟨_, rfl⟩
  have Hcon : Hid (∀ (W : World) (n : Nat) (q : Option Addr) (c : Nat), TreesAt W (Own n W) q ((ks.map norm).map clean) → KidsT W → n ≤ W.heap.size → Calls Tryd.prog 93 #[ndK κ nh qk nk ck, .slice q ks.length c] W fun e w' => GetsT n w' e (some r0) ∧ Below W.heap.size W w') := Lib.hid (by
    intro W n q c h1 h2 h3
    have := choice_any nh hd (by rw [hk, hkk]; rfl) hf qk nk ck (ks.map norm) (norm_all hok) (by omega) q c n W h1 h2 h3
    rw [List.length_map] at this
    rw [hr0, ← ndK_eq hk]
    exact this)
  have Hr0 := Lib.hid hr0
  have hk0 : (0 : Int) ≤ (κ : Int) := by omega
  have hk9 : (κ : Int) < 10 := by omega
  have hwk : IntKind.i64.wrap (κ : Int) = (κ : Int) := IntWalk.i64_in _ (by omega)
  have hfk0 := nd_cells hI (List.mem_cons_of_mem _ List.mem_cons_self)
  have Hfn := Lib.hid hfn
  have Hhk := Lib.hid hk
  have Hd := Lib.hid hd
  clear hN hT hok hM hI hcell hfn hr0 hfk0 hd hk hkk e0
  rw [← Hr0.out]
  go_enter Tryd.func36, Tryd.ntmps36
  go_wp2_with (first | (go_at_call 58; refine (Hall.out _ F (HN.out.below HI.out.below) (HT.out.keep HI.out.below)).mono ?_; rintro e W1 ⟨v1, xs1, rfl, ho1, hx1, hb1⟩; obtain ⟨q1, c1, rfl, _, _⟩ := row_slice ho1; have hI1 := HI.out.call hb1; have Hcs := Lib.hid (nd_cells hI1 (List.mem_cons_of_mem _ List.mem_cons_self)); have hkc : W1.cell? ⟨w.heap.size, 0, none⟩ = some (.int .u8 (κ : Int)) := by rw [← Hhk.out]; exact Hcs.out.1))
  have hts := hx1.at (by rw [List.length_map, List.length_map]; exact ho1) (fun g hg => (ho1.lt g hg).1)
  obtain ⟨p2, c2, he, hts⟩ := hts
  injection he with e1 e2 e3
  subst e1 e3
  have Hts : Hid (TreesAt W1 (Own w.heap.size W1) q1 ((ks.map norm).map clean)) := Lib.hid (hts.mono fun b t ho => ho.mono (by simp only [World.size_alloc]; omega))
  have Hf1 : Hid (W1.cell? ⟨1, κ, none⟩ = some (fv 93)) := Lib.hid ((hI1.below.cell (p := ⟨1, κ, none⟩) h1b).trans Hfn.out)
  have HI1 := Lib.hid hI1
  have Hsz1 := Lib.hid HI.out.size
  clear hts hx1 ho1 e2 hI1
  go_region_held_law (fun w' => w'.cell? ⟨w.heap.size, 0, none⟩ = some (.int .u8 (κ : Int)) ∧ w'.cell? ⟨w.heap.size, 1, none⟩ = some (.int .u64 (w64 nh.set 0)) ∧ w'.cell? ⟨w.heap.size, 2, none⟩ = some (.int .u64 (w64 nh.set 1)) ∧ w'.cell? ⟨w.heap.size, 3, none⟩ = some (.int .u64 (w64 nh.set 2)) ∧ w'.cell? ⟨w.heap.size, 4, none⟩ = some (.int .u64 (w64 nh.set 3)) ∧ w'.cell? ⟨w.heap.size, 5, none⟩ = some (.string (strOf nh.text)) ∧ w'.cell? ⟨w.heap.size, 6, none⟩ = some (.int .i64 nh.lo) ∧ w'.cell? ⟨w.heap.size, 7, none⟩ = some (.int .i64 nh.hi) ∧ w'.cell? ⟨w.heap.size, 8, none⟩ = some (.slice qk nk ck) ∧ w'.cell? ⟨1, κ, none⟩ = some (fv 93)) (first | exact ⟨hkc, Hcs.out.2.1, Hcs.out.2.2.1, Hcs.out.2.2.2.1, Hcs.out.2.2.2.2.1, Hcs.out.2.2.2.2.2.1, Hcs.out.2.2.2.2.2.2.1, Hcs.out.2.2.2.2.2.2.2.1, Hcs.out.2.2.2.2.2.2.2.2, Hf1.out⟩ | (obtain ⟨k0, k1, k2, k3, k4, k5, k6, k7, k8, k9⟩ := Hcs2.out; first | exact ⟨k0, k1, k2, k3, k4, k5, k6, k7, k8, k9⟩ | exact ⟨two_set k0 (by omega), two_set k1 (by omega), two_set k2 (by omega), two_set k3 (by omega), two_set k4 (by omega), two_set k5 (by omega), two_set k6 (by omega), two_set k7 (by omega), two_set k8 (by omega), two_set k9 (by omega)⟩))
    (first | (go_at_call 93; refine (Hcon.out _ _ _ _ (Hts.out.own (Below.refl _ _).drew (Nat.le_refl _)) ((HT.out.keep HI1.out.below).kids.keep (Below.refl _ _).drew) HI1.out.drew.size).mono ?_; rintro e W2 ⟨⟨v2, rfl, p3, c3, rfl, hp3⟩, hb2⟩; have hI2 := HI1.out.drew.call hb2; obtain ⟨r0', r1'⟩ := box_cells hI2 List.mem_cons_self; have f0 := hI2.free (g := w.heap.size + 1) (j := 0) List.mem_cons_self; have f1 := hI2.free (g := w.heap.size + 1) (j := 1) List.mem_cons_self; obtain ⟨m0, m1, m2, m3, m4, m5, m6, m7, m8⟩ := nd_cells hI2 (List.mem_cons_of_mem _ List.mem_cons_self); rw [Hhk.out] at m0; have Hcs2 : Hid (W2.cell? ⟨w.heap.size, 0, none⟩ = some (.int .u8 (κ : Int)) ∧ W2.cell? ⟨w.heap.size, 1, none⟩ = some (.int .u64 (w64 nh.set 0)) ∧ W2.cell? ⟨w.heap.size, 2, none⟩ = some (.int .u64 (w64 nh.set 1)) ∧ W2.cell? ⟨w.heap.size, 3, none⟩ = some (.int .u64 (w64 nh.set 2)) ∧ W2.cell? ⟨w.heap.size, 4, none⟩ = some (.int .u64 (w64 nh.set 3)) ∧ W2.cell? ⟨w.heap.size, 5, none⟩ = some (.string (strOf nh.text)) ∧ W2.cell? ⟨w.heap.size, 6, none⟩ = some (.int .i64 nh.lo) ∧ W2.cell? ⟨w.heap.size, 7, none⟩ = some (.int .i64 nh.hi) ∧ W2.cell? ⟨w.heap.size, 8, none⟩ = some (.slice qk nk ck) ∧ W2.cell? ⟨1, κ, none⟩ = some (fv 93)) := Lib.hid ⟨m0, m1, m2, m3, m4, m5, m6, m7, m8, (hI2.below.cell (p := ⟨1, κ, none⟩) h1b).trans Hfn.out⟩; clear m0 m1 m2 m3 m4 m5 m6 m7 m8))
  all_goals
    go_wp2
    have hend := put_tree (p := p3) (k := (clean r0).nodes.length) (c := c3) (r := (clean r0).root) hI2 (.inl (by omega)) (by simp) hp3
    obtain ⟨d0, d1⟩ := box_cells hend.1 List.mem_cons_self
    exact bodyPost_ret (v := .tuple #[arV p3 (clean r0).nodes.length c3 (clean r0).root, .bool true]) (by simp [results, Tryd.results36, go_sem, d0, d1]) rfl ⟨⟨_, rfl, p3, c3, rfl, hend.2⟩, hend.1.below⟩
theorem fits_kind {h : Hd} {n : Nat} (hf : fitsB h n = true) (h0 : 0 ≤ h.kind) : h.kind < 10 := by
  unfold fitsB at hf
  by_cases h10 : h.kind < 10
  · exact h10
  · rw [if_neg (by omega), if_neg (by omega), if_neg (by omega), if_neg (by omega), if_neg (by omega), if_neg (by omega), if_neg (by omega), if_neg (by omega)] at hf
    cases hf
/-- May a node be put together of so many parts? -/
def mayB (h : Hd) (n : Nat) : Prop := fitsB h n = true ∨ (h.kind = 4 ∨ h.kind = 5) ∧ fitsB h 2 = true
/-- expr.of. -/
theorem ofE_any (nh : Hd) (hd : HdOk nh) (qk : Option Addr) (nk ck : Nat) (ks : List Xp) (hok : ∀ k ∈ ks, okX k = true) (hM : ∀ k ∈ ks, MakeC k) (hf : mayB nh ks.length) (hz : sizeL ks ≤ 99999) (p : Option Addr) (cap : Nat) (w : World) (F : Nat → TypeId → Prop) (hN : TreesAt w F p (ks.map clean)) (hT : Tabs w) :
    Calls Tryd.prog 36 #[ndV nh qk nk ck, .slice p ks.length cap] w fun e w' => GetsT w.heap.size w' e (some (join nh (ks.map norm))) ∧ Below w.heap.size w w' := by
  have hk0 := hd.kind.1
  have hk10 : nh.kind < 10 := by
    rcases hf with hf | hf
    · exact fits_kind hf hk0
    · exact fits_kind hf.2 hk0
  obtain ⟨κ, hk⟩ := Int.eq_ofNat_of_zero_le hk0
  have hκ : κ < 10 := by omega
  have h2 : (nh.kind = 4 ∨ nh.kind = 5) → fitsB nh 2 = true := fun h => by
    rcases hf with hf | hf
    · exact fits_more h hf (Nat.le_refl _)
    · exact hf.2
  unfold join
  by_cases h4 : nh.kind = 4
  · rw [if_pos h4]
    exact ofE_seq nh hd κ hκ hk (by omega) qk nk ck ks hok hM (h2 (.inl h4)) hz p cap w F hN hT
  · rw [if_neg h4]
    by_cases h5 : nh.kind = 5
    · rw [if_pos h5]
      exact ofE_choice nh hd κ hκ hk (by omega) qk nk ck ks hok hM (h2 (.inr h5)) hz p cap w F hN hT
    · rw [if_neg h5]
      refine ofE_plain nh hd κ hκ hk ⟨by omega, by omega⟩ qk nk ck ks hok hM ?_ hz p cap w F hN hT
      rcases hf with hf | hf
      · exact hf
      · rcases hf.1 with h | h
        · exact absurd h h4
        · exact absurd h h5
end Go.Proofs.YtcenjpaiehidjaaDoor

/- Contract of expr.Make. -/
namespace Go.Proofs.YtcenjpaiehidjaaDoor
open Go.RowKit
set_option maxRecDepth 100000
attribute [local go_sem ↓] Go.wp_at_zero Go.wp_at_succ

/-- A node's head, out of memory. -/
theorem hd_ok {W : World} {F : Nat → TypeId → Prop} {p : Option Addr} {ns : List Nd} (h : NodesAt W F p ns) {x : Xp} {i : Int} (hx : sits ns x i) : HdOk x.hd := by
  obtain ⟨j, nd, rfl, hj, hnd, _, hhd, _⟩ := walk_idx hx
  obtain ⟨_, _, _, _, hc⟩ := h (by intro e; rw [e] at hj; exact absurd hj (by simp))
  obtain ⟨_, _, hd, _⟩ := hc j nd hnd
  rw [← hhd]; exact hd
set_option maxHeartbeats 8000000 in
theorem make_step (ns : List Nd) (x : Xp) (root : Int) (p : Option Addr) (cap : Nat) (hS : Small ns) (hR : RightP ⟨ns, root⟩) (hx : sits ns x root) (hz : x.size ≤ 100000) (hM : ∀ k ∈ x.kids, MakeC k) (w : World) (F : Nat → TypeId → Prop) (hN : NodesAt w F p ns) (hT : Tabs w) :
    Calls Tryd.prog 17 #[arV p ns.length cap root] w fun e w' => GetsT w.heap.size w' e (some (norm x)) ∧ Below w.heap.size w w' := by
  have hok := ok_of_fits hR.fits x hx
  have hdk := hd_ok hN hx
  have hkz := kids_size x
  have HN := Lib.hid hN
  have HS := Lib.hid hS
  have HR := Lib.hid hR
  have HT := Lib.hid hT
  have Hx := Lib.hid hx
  have Hof := Lib.hid (ofE_any x.hd hdk none 0 0 x.kids (ok_kids hok) hM (.inl (ok_fits hok)) (by omega))
  obtain ⟨r0, hr0⟩ : ∃ r0, r0 = norm x := ⟨_, rfl⟩
  have hnx : norm x = join x.hd (x.kids.map norm) := by cases x with | node h ks => exact norm_node h ks
  have Hr0 : Hid (r0 = join x.hd (x.kids.map norm)) := Lib.hid (hr0.trans hnx)
  have hI := ((RInv.start noS w).alloc (arO p ns.length cap root)).alloc (arO none 0 0 0)
  rw [World.size_alloc] at hI
  rw [← hr0]
  clear hN hS hR hT hx hok hdk hkz hr0 hnx hM
  go_enter Tryd.func17, Tryd.ntmps17
  go_wp2_with (first | (go_at_call 15; refine (right_true ns root p cap HS.out _ F (HN.out.below hI.below) (HT.out.keep hI.below).kids HR.out).mono ?_; rintro e W1 ⟨rfl, hb1⟩; have hI1 := (hI.call hb1).drew; clear hb1))
  have Hts : Hid True := Lib.hid trivial
  clear hI
  go_region_held_law (fun w' => w'.cell? ⟨w.heap.size, 0, none⟩ = some (.slice p ns.length cap) ∧ w'.cell? ⟨w.heap.size, 1, none⟩ = some (.int .i64 root)) (first | exact box_cells hI1 (List.mem_cons_of_mem _ List.mem_cons_self) | exact ⟨two_set (box_cells hI1 (List.mem_cons_of_mem _ List.mem_cons_self)).1 (by omega), two_set (box_cells hI1 (List.mem_cons_of_mem _ List.mem_cons_self)).2 (by omega)⟩)
    (first | (go_at_call 31; refine (root_yes ns x root p cap HS.out HR.out Hx.out _ F (HN.out.below hI1.below) (HT.out.keep hI1.below).kids).mono ?_; rintro e W2 ⟨rfl, hb2⟩; (try replace Hts := Lib.hid (Hts.out.own hb2 (Nat.le_refl _))); replace hI1 := hI1.call hb2) | (go_at_call 29; refine (kids_yes ns x root p cap HS.out HR.out Hx.out hz _ F (HN.out.below hI1.below) (HT.out.keep hI1.below).kids).mono ?_; rintro e W3 ⟨v3, xs3, rfl, ho3, hx3, hb3⟩; obtain ⟨q3, c3, he3, hts3⟩ := hx3.at (by rw [List.length_map]; exact ho3) (fun g hg => (ho3.lt g hg).1); rw [List.length_map] at he3; subst he3; clear Hts; have Hts := Lib.hid hts3; clear hts3 ho3 hx3; replace hI1 := hI1.call hb3) | (go_at_call 36; refine (Hof.out q3 c3 _ _ Hts.out (HT.out.keep hI1.below)).mono ?_; rw [← Hr0.out]; rintro e W4 ⟨⟨v4, rfl, p4, c4, rfl, hp4⟩, hb4⟩; have hsz4 := hI1.size; replace hI1 := hI1.call hb4; obtain ⟨r0', r1'⟩ := box_cells hI1 List.mem_cons_self; have f0 := hI1.free (g := w.heap.size + 1) (j := 0) List.mem_cons_self; have f1 := hI1.free (g := w.heap.size + 1) (j := 1) List.mem_cons_self))
  all_goals
    go_wp2
    have hend := put_tree (p := p4) (k := (clean r0).nodes.length) (c := c4) (r := (clean r0).root) hI1 (.inl (by omega)) (by simp) (hp4.mono fun b t ho => ho.mono hsz4)
    obtain ⟨d0, d1⟩ := box_cells hend.1 List.mem_cons_self
    exact bodyPost_ret (v := .tuple #[arV p4 (clean r0).nodes.length c4 (clean r0).root, .bool true]) (by simp [results, Tryd.results17, go_sem, d0, d1]) rfl ⟨⟨_, rfl, p4, c4, rfl, hend.2⟩, hend.1.below⟩
/-- expr.Make, of a clean tree. -/
theorem make_clean (x : Xp) : okX x = true → x.size ≤ 100000 → MakeC x := by
  induction x using Xp.ind with
  | h hh ks ih =>
    intro hok hz W F q c hN hT
    have hks : ∀ k ∈ ks, MakeC k := fun k hk => ih k hk ((okX_iff.1 hok).2 k hk) (by
      have h1 := size_le_of_mem hk
      rw [Xp.size_node] at hz
      omega)
    have := make_step (lay (.node hh ks) 0) (.node hh ks) (((Xp.node hh ks).size : Int) - 1) q c (small_one hz) (clean_right hok) (show sits (lay (.node hh ks) 0) (.node hh ks) (((Xp.node hh ks).size : Int) - 1) from sits_clean (.node hh ks)) hz hks W F hN hT
    rw [lay_len] at this
    exact this
/-- expr.Make, of a tree that is right. -/
theorem make_yes (ns : List Nd) (x : Xp) (root : Int) (p : Option Addr) (cap : Nat) (hS : Small ns) (hR : RightP ⟨ns, root⟩) (hx : sits ns x root) (hz : x.size ≤ 100000) (w : World) (F : Nat → TypeId → Prop) (hN : NodesAt w F p ns) (hT : Tabs w) :
    Calls Tryd.prog 17 #[arV p ns.length cap root] w fun e w' => GetsT w.heap.size w' e (some (norm x)) ∧ Below w.heap.size w w' :=
  make_step ns x root p cap hS hR hx hz (fun k hk => make_clean k (ok_kids (ok_of_fits hR.fits x hx) k hk) (by
    have h1 := size_le_of_mem hk
    have h2 := kids_size x
    omega)) w F hN hT
set_option maxHeartbeats 4000000 in
/-- expr.Make, of one that is not. -/
theorem make_no (ns : List Nd) (root : Int) (p : Option Addr) (cap : Nat) (hS : Small ns) (hR : ¬ RightP ⟨ns, root⟩) (w : World) (F : Nat → TypeId → Prop) (hN : NodesAt w F p ns) (hT : Tabs w) :
    Calls Tryd.prog 17 #[arV p ns.length cap root] w fun e w' => GetsT w.heap.size w' e none ∧ Below w.heap.size w w' := by
  have HN := Lib.hid hN
  have HS := Lib.hid hS
  have HR := Lib.hid hR
  have HT := Lib.hid hT
  have hI := ((RInv.start noS w).alloc (arO p ns.length cap root)).alloc (arO none 0 0 0)
  rw [World.size_alloc] at hI
  clear hN hS hR hT
  go_enter Tryd.func17, Tryd.ntmps17
  go_wp2_with (first | (go_at_call 15; refine (right_false ns root p cap HS.out _ F (HN.out.below hI.below) (HT.out.keep hI.below).kids HR.out).mono ?_; rintro e W1 ⟨rfl, hb1⟩; have hI1 := hI.call hb1; clear hb1) | (refine rinv_row rfl _ _ _ rfl (w.heap.size + 1) #[.slice none 0 0, .int .i64 0] #[.slice none 0 0, .int .i64 0] 24 rfl rfl (by simp [Value.oneCell']) szTree rfl hI1 (.inl (by omega)) (by simp) ?_; intro W3 hI3 hg3; obtain ⟨c0, c1⟩ := box_cells hI3 List.mem_cons_self))
  exact bodyPost_ret (v := .tuple #[arV none 0 0 0, .bool false]) (by simp [results, Tryd.results17, go_sem, c0, c1]) rfl ⟨rfl, hI3.below⟩
end Go.Proofs.YtcenjpaiehidjaaDoor
