/- Contract of bonsairef05.open. -/
import Derived.Test.YtcenjpaiehidjaaDoorJ14
import Derived.Test.YtcenjpaiehidjaaDoorJ10
set_option linter.unusedSimpArgs false
set_option linter.unusedVariables false
namespace Go.Proofs.YtcenjpaiehidjaaDoor
open Go.RowKit
set_option maxRecDepth 100000

theorem oG_size (κ d : Int) (t : Xp) : sizeL (openG κ d t) ≤ t.size := by
  cases t with
  | node h ks =>
    unfold openG
    rw [Xp.size_node]
    split
    · show sizeL ks ≤ _; omega
    · split
      · rw [sizeL_nil]; omega
      · rw [sizeL_cons, sizeL_nil, Xp.size_node]; omega
theorem fl_snoc {ks : List Xp} {k : Nat} {y : Xp} (f : Xp → List Xp) (h : ks[k]? = some y) : (ks.take (k + 1)).flatMap f = (ks.take k).flatMap f ++ f y := by
  rw [take_snoc h, List.flatMap_append]; simp
theorem fl_len (κ d : Int) (ks : List Xp) (k : Nat) : ((ks.take k).flatMap (openG κ d)).length ≤ sizeL ks :=
  Nat.le_trans (sizeL_le_len _) (Nat.le_trans (flat_size (oG_size κ d) _) (sizeL_take ks k))
/-- What open gives. -/
def OpenD (n : Nat) (w : World) (us : List Xp) (e : Ending) (w' : World) : Prop := ∃ v xs, e = .returned v ∧ w'.ownsRow w.heap.size 24 2 v us.length xs ∧ TreesIn w' (Own n w') xs (us.map clean) ∧ Below w.heap.size w w'
set_option maxHeartbeats 8000000 in
/-- bonsairef05.open of kind 4, the kids of such parts being open already. -/
theorem ropen4_step (ks : List Xp) (hok : ∀ k ∈ ks, okX k = true) (hz : sizeL ks ≤ 99999) (hrec : ∀ y ∈ ks, y.hd.kind = 4 → ∀ (p : Option Addr) (cap n : Nat) (w : World), TreesAt w (Own n w) p (y.kids.map clean) → n ≤ w.heap.size → Calls Tryd.prog 64 #[.int .u8 4, .slice p y.kids.length cap] w fun e w' => OpenD n w y.kids e w')
    (p : Option Addr) (cap n : Nat) (w : World) (hN : TreesAt w (Own n w) p (ks.map clean)) (hn : n ≤ w.heap.size) : Calls Tryd.prog 64 #[.int .u8 4, .slice p ks.length cap] w fun e w' => OpenD n w (ks.flatMap (openG 4 0)) e w' := by
  have hkl : ks.length ≤ 100000 := by have := sizeL_le_len ks; omega
  have HN := Lib.hid hN
  have Hok := Lib.hid hok
  have HI4 := Lib.hid ((RInv.start noS w).nil 24 2)
  have Hhrec := Lib.hid hrec
  clear hN hok hrec
  go_enter Tryd.func64, Tryd.ntmps64
  go_wp2
  go_loopw [5, 6] (fun vo iv wr => ∃ (k g : Nat) (xs : List Value), k ≤ ks.length ∧ iv = .int .i64 k ∧ RInv noS w [] [⟨24, 2, vo, g, xs⟩] wr ∧ Hid (g = ((ks.take k).flatMap (openG 4 0)).length) ∧ Hid (TreesIn wr (Own n wr) xs (((ks.take k).flatMap (openG 4 0)).map clean))) (fun _ iv _ => ks.length - (intOf iv).toNat)
  case atStart => exact ⟨0, 0, [], by omega, rfl, HI4.out, Lib.hid rfl, Lib.hid (TreesIn.nil _ _)⟩
  case round =>
    clear HI4
    obtain ⟨wo, rfl⟩ : ∃ wo : World, wo = wr := ⟨_, rfl⟩
    obtain ⟨k, g, xs, hk, rfl, hI, Hg, HX⟩ := hrel
    by_cases hlt : k < ks.length
    · obtain ⟨qo, co, rfl, _, _⟩ := row_slice hI.own1
      obtain ⟨y, hy⟩ : ∃ y, ks[k]? = some y := ⟨_, List.getElem?_eq_getElem hlt⟩
      obtain ⟨b, o, rfl, hF, hc⟩ := HN.out (by intro h; have := congrArg List.length h; simp at this; rw [this] at hlt; exact absurd hlt (by simp))
      obtain ⟨q, c, h1, h2, h3⟩ := hc k (clean y) (by rw [List.getElem?_map, hy]; rfl)
      have hbw : b < w.heap.size := hF.lt
      have c0 := (hI.below.cell (p := ⟨b, o + k * 2, none⟩) hbw).trans h1
      have c1 := (hI.below.cell (p := ⟨b, o + k * 2 + 1, none⟩) hbw).trans h2
      have hyz : y.size ≤ 100000 := by have := size_le_of_mem (List.mem_of_getElem? hy); omega
      have Hsm := Lib.hid (small_one hyz)
      have Hr := Lib.hid (clean_right (Hok.out y (List.mem_of_getElem? hy)))
      have H3 := Lib.hid h3
      have Hy := Lib.hid hy
      have Hh1 := Lib.hid h1
      have Hh2 := Lib.hid h2
      have Hbw := Lib.hid hbw
      have HI := Lib.hid hI
      have hrec := Hhrec.out
      clear Hhrec
      clear hc hF h1 h2 h3 hy hI
      by_cases h4 : y.hd.kind = 4
      · skip
        have hkd : (y.hd.kind == 4) = true := by simp [h4]
        have Hrec := Lib.hid (hrec y (List.mem_of_getElem? Hy.out) h4)
        have H4 := Lib.hid h4
        have hfl := fl_snoc (openG 4 0) Hy.out
        rw [show openG 4 0 y = y.kids by unfold openG; rw [if_pos h4]] at hfl
        have hfn := fl_len 4 0 ks (k + 1)
        rw [hfl, List.length_append, ← Hg.out] at hfn
        have Hfl := Lib.hid hfl
        clear h4 hfl
        go_wp2_with (first | (go_at_call 55; refine (rroot_yes (clean y).nodes y (clean y).root q c Hsm.out Hr.out (sits_clean y) _ (Own n w) (H3.out.below HI.out.below)).mono ?_; rintro e W1 ⟨rfl, hb1⟩; have hI2 := (HI.out.call hb1).alloc (ndO y.hd none 0 0); have hJ2 := ((HI.out.restart noS).call hb1).alloc (ndO y.hd none 0 0); have d0 := (hI2.below.cell (p := ⟨b, o + k * 2, none⟩) Hbw.out).trans Hh1.out; have d1 := (hI2.below.cell (p := ⟨b, o + k * 2 + 1, none⟩) Hbw.out).trans Hh2.out; clear c0 c1 hb1) | (go_at_call 53; refine (rkids_yes (clean y).nodes y (clean y).root q c Hsm.out Hr.out (sits_clean y) hyz _ (Own n w) (H3.out.below hI2.below)).mono ?_; rintro e W2 ⟨v2, xs2, rfl, ho2, hx2, hb2⟩; obtain ⟨p2, c2, e2, ht2⟩ := hx2.at (by rw [List.length_map]; exact ho2) (fun g hg => (ho2.lt g hg).1); rw [List.length_map] at e2; subst e2; have hI3 := hI2.call hb2; have hJ3 := hJ2.call hb2) | (go_at_call 64; refine (Hrec.out p2 c2 _ _ ht2 hb2.size).mono ?_; rintro e W3 ⟨v3, xs3, rfl, ho3, hx3, hb3⟩; obtain ⟨q3, c3, rfl, _, _⟩ := row_slice ho3; have hI4 := hI3.call hb3; have hJ4 := hJ3.call hb3) | (at_builtin; refine app_rowB treeT rfl (.tmp 23) (.tmp 30) rfl q3 y.kids.length c3 xs3 rfl rfl (by rw [hx3.len, List.length_map]) (row_src ho3) hx3.one (hI4.subL (L' := []) (by simp)) (by unfold maxLen; omega) (by omega) ?_; intro v4 W4 hI5 hg4 hb4))
        go_roundw
        case rel =>
          refine ⟨k + 1, g + y.kids.length, xs ++ xs3, by omega, by go_num, hI5, Lib.hid (by rw [Hfl.out, List.length_append, ← Hg.out]), Lib.hid ?_⟩
          rw [Hfl.out, List.map_append]
          exact some_app HX.out hJ4.below hx3 (Nat.le_trans hn hI2.size) hI4.own1 hg4
        case measure => simp [intOf]; omega
      · by_cases h0 : y.hd.kind = 0
        · skip
          have hkd : (y.hd.kind == 4) = false := by simp [h4]
          have hkd2 : (y.hd.kind == 0) = true := by simp [h0]
          have hfl := fl_snoc (openG 4 0) Hy.out
          rw [show openG 4 0 y = [] by unfold openG; rw [if_neg h4, if_pos h0], List.append_nil] at hfl
          have Hfl := Lib.hid hfl
          clear h4 h0 hfl
          go_wp2_with (first | (go_at_call 55; refine (rroot_yes (clean y).nodes y (clean y).root q c Hsm.out Hr.out (sits_clean y) _ (Own n w) (H3.out.below HI.out.below)).mono ?_; rintro e W1 ⟨rfl, hb1⟩; have hI2 := (HI.out.call hb1).alloc (ndO y.hd none 0 0); have hJ2 := ((HI.out.restart noS).call hb1).alloc (ndO y.hd none 0 0); have d0 := (hI2.below.cell (p := ⟨b, o + k * 2, none⟩) Hbw.out).trans Hh1.out; have d1 := (hI2.below.cell (p := ⟨b, o + k * 2 + 1, none⟩) Hbw.out).trans Hh2.out; clear c0 c1 hb1))
          go_roundw
          case rel => exact ⟨k + 1, g, xs, by omega, by go_num, hI2.subL (by simp), Lib.hid (by rw [Hfl.out, ← Hg.out]), Lib.hid (by rw [Hfl.out]; exact HX.out.own hJ2.below (Nat.le_refl _))⟩
          case measure => simp [intOf]; omega
        · skip
          have hkd : (y.hd.kind == 4) = false := by simp [h4]
          have hkd2 : (y.hd.kind == 0) = false := by simp [h0]
          have hfl := fl_snoc (openG 4 0) Hy.out
          rw [show openG 4 0 y = [y] by unfold openG; rw [if_neg h4, if_neg h0]] at hfl
          have hfn := fl_len 4 0 ks (k + 1)
          rw [hfl, List.length_append, List.length_singleton, ← Hg.out] at hfn
          have Hfl := Lib.hid hfl
          clear h4 h0 hfl
          go_wp2_with (first | (go_at_call 55; refine (rroot_yes (clean y).nodes y (clean y).root q c Hsm.out Hr.out (sits_clean y) _ (Own n w) (H3.out.below HI.out.below)).mono ?_; rintro e W1 ⟨rfl, hb1⟩; have hI2 := (HI.out.call hb1).alloc (ndO y.hd none 0 0); have hJ2 := ((HI.out.restart noS).call hb1).alloc (ndO y.hd none 0 0); have d0 := (hI2.below.cell (p := ⟨b, o + k * 2, none⟩) Hbw.out).trans Hh1.out; have d1 := (hI2.below.cell (p := ⟨b, o + k * 2 + 1, none⟩) Hbw.out).trans Hh2.out; clear c0 c1 hb1) | (at_builtin; refine app_newB treeT rfl (.tmp 39) (.tmp 44) rfl #[.slice q (clean y).nodes.length c, .int .i64 (clean y).root] rfl (by simp only [World.size_alloc]; rfl) rfl (by simp [Value.oneCell']) (hI2.subL (L' := []) (by simp)) (by unfold maxLen; omega) (by omega) ?_; intro v4 W4 hI5 hg4 hb4))
          go_roundw
          case rel =>
            refine ⟨k + 1, g + 1, xs ++ [.slice q (clean y).nodes.length c, .int .i64 (clean y).root], by omega, by go_num, hI5, Lib.hid (by rw [Hfl.out, List.length_append, ← Hg.out]; rfl), Lib.hid ?_⟩
            rw [Hfl.out, List.map_append]
            exact (HX.out.own hJ2.below (Nat.le_refl _)).put2 hI2.own1 (H3.out.turn fun b t ho hlt => ⟨hI2.below.block b hlt, ho.below hI2.below hlt⟩) (Nat.le_refl _) hg4
          case measure => simp [intOf]; omega
    · obtain rfl : k = ks.length := by omega
      obtain ⟨qo, co, rfl, _, _⟩ := row_slice hI.own1
      go_wp2
      go_ret
      have := HX.out
      have hg := Hg.out
      rw [List.take_length] at this hg
      subst hg
      exact ⟨_, xs, rfl, hI.fresh, this, hI.below⟩
set_option maxHeartbeats 8000000 in
/-- bonsairef05.open of kind 5, the kids of such parts being open already. -/
theorem ropen5_step (ks : List Xp) (hok : ∀ k ∈ ks, okX k = true) (hz : sizeL ks ≤ 99999) (hrec : ∀ y ∈ ks, y.hd.kind = 5 → ∀ (p : Option Addr) (cap n : Nat) (w : World), TreesAt w (Own n w) p (y.kids.map clean) → n ≤ w.heap.size → Calls Tryd.prog 64 #[.int .u8 5, .slice p y.kids.length cap] w fun e w' => OpenD n w y.kids e w')
    (p : Option Addr) (cap n : Nat) (w : World) (hN : TreesAt w (Own n w) p (ks.map clean)) (hn : n ≤ w.heap.size) : Calls Tryd.prog 64 #[.int .u8 5, .slice p ks.length cap] w fun e w' => OpenD n w (ks.flatMap (openG 5 5)) e w' := by
  have hkl : ks.length ≤ 100000 := by have := sizeL_le_len ks; omega
  have HN := Lib.hid hN
  have Hok := Lib.hid hok
  have HI4 := Lib.hid ((RInv.start noS w).nil 24 2)
  have Hhrec := Lib.hid hrec
  clear hN hok hrec
  go_enter Tryd.func64, Tryd.ntmps64
  go_wp2
  go_loopw [5, 6] (fun vo iv wr => ∃ (k g : Nat) (xs : List Value), k ≤ ks.length ∧ iv = .int .i64 k ∧ RInv noS w [] [⟨24, 2, vo, g, xs⟩] wr ∧ Hid (g = ((ks.take k).flatMap (openG 5 5)).length) ∧ Hid (TreesIn wr (Own n wr) xs (((ks.take k).flatMap (openG 5 5)).map clean))) (fun _ iv _ => ks.length - (intOf iv).toNat)
  case atStart => exact ⟨0, 0, [], by omega, rfl, HI4.out, Lib.hid rfl, Lib.hid (TreesIn.nil _ _)⟩
  case round =>
    clear HI4
    obtain ⟨wo, rfl⟩ : ∃ wo : World, wo = wr := ⟨_, rfl⟩
    obtain ⟨k, g, xs, hk, rfl, hI, Hg, HX⟩ := hrel
    by_cases hlt : k < ks.length
    · obtain ⟨qo, co, rfl, _, _⟩ := row_slice hI.own1
      obtain ⟨y, hy⟩ : ∃ y, ks[k]? = some y := ⟨_, List.getElem?_eq_getElem hlt⟩
      obtain ⟨b, o, rfl, hF, hc⟩ := HN.out (by intro h; have := congrArg List.length h; simp at this; rw [this] at hlt; exact absurd hlt (by simp))
      obtain ⟨q, c, h1, h2, h3⟩ := hc k (clean y) (by rw [List.getElem?_map, hy]; rfl)
      have hbw : b < w.heap.size := hF.lt
      have c0 := (hI.below.cell (p := ⟨b, o + k * 2, none⟩) hbw).trans h1
      have c1 := (hI.below.cell (p := ⟨b, o + k * 2 + 1, none⟩) hbw).trans h2
      have hyz : y.size ≤ 100000 := by have := size_le_of_mem (List.mem_of_getElem? hy); omega
      have Hsm := Lib.hid (small_one hyz)
      have Hr := Lib.hid (clean_right (Hok.out y (List.mem_of_getElem? hy)))
      have H3 := Lib.hid h3
      have Hy := Lib.hid hy
      have Hh1 := Lib.hid h1
      have Hh2 := Lib.hid h2
      have Hbw := Lib.hid hbw
      have HI := Lib.hid hI
      have hrec := Hhrec.out
      clear Hhrec
      clear hc hF h1 h2 h3 hy hI
      by_cases h4 : y.hd.kind = 5
      · skip
        have hkd : (y.hd.kind == 5) = true := by simp [h4]
        have Hrec := Lib.hid (hrec y (List.mem_of_getElem? Hy.out) h4)
        have H4 := Lib.hid h4
        have hfl := fl_snoc (openG 5 5) Hy.out
        rw [show openG 5 5 y = y.kids by unfold openG; rw [if_pos h4]] at hfl
        have hfn := fl_len 5 5 ks (k + 1)
        rw [hfl, List.length_append, ← Hg.out] at hfn
        have Hfl := Lib.hid hfl
        clear h4 hfl
        go_wp2_with (first | (go_at_call 55; refine (rroot_yes (clean y).nodes y (clean y).root q c Hsm.out Hr.out (sits_clean y) _ (Own n w) (H3.out.below HI.out.below)).mono ?_; rintro e W1 ⟨rfl, hb1⟩; have hI2 := (HI.out.call hb1).alloc (ndO y.hd none 0 0); have hJ2 := ((HI.out.restart noS).call hb1).alloc (ndO y.hd none 0 0); have d0 := (hI2.below.cell (p := ⟨b, o + k * 2, none⟩) Hbw.out).trans Hh1.out; have d1 := (hI2.below.cell (p := ⟨b, o + k * 2 + 1, none⟩) Hbw.out).trans Hh2.out; clear c0 c1 hb1) | (go_at_call 53; refine (rkids_yes (clean y).nodes y (clean y).root q c Hsm.out Hr.out (sits_clean y) hyz _ (Own n w) (H3.out.below hI2.below)).mono ?_; rintro e W2 ⟨v2, xs2, rfl, ho2, hx2, hb2⟩; obtain ⟨p2, c2, e2, ht2⟩ := hx2.at (by rw [List.length_map]; exact ho2) (fun g hg => (ho2.lt g hg).1); rw [List.length_map] at e2; subst e2; have hI3 := hI2.call hb2; have hJ3 := hJ2.call hb2) | (go_at_call 64; refine (Hrec.out p2 c2 _ _ ht2 hb2.size).mono ?_; rintro e W3 ⟨v3, xs3, rfl, ho3, hx3, hb3⟩; obtain ⟨q3, c3, rfl, _, _⟩ := row_slice ho3; have hI4 := hI3.call hb3; have hJ4 := hJ3.call hb3) | (at_builtin; refine app_rowB treeT rfl (.tmp 23) (.tmp 30) rfl q3 y.kids.length c3 xs3 rfl rfl (by rw [hx3.len, List.length_map]) (row_src ho3) hx3.one (hI4.subL (L' := []) (by simp)) (by unfold maxLen; omega) (by omega) ?_; intro v4 W4 hI5 hg4 hb4))
        go_roundw
        case rel =>
          refine ⟨k + 1, g + y.kids.length, xs ++ xs3, by omega, by go_num, hI5, Lib.hid (by rw [Hfl.out, List.length_append, ← Hg.out]), Lib.hid ?_⟩
          rw [Hfl.out, List.map_append]
          exact some_app HX.out hJ4.below hx3 (Nat.le_trans hn hI2.size) hI4.own1 hg4
        case measure => simp [intOf]; omega
      · skip
        have hkd : (y.hd.kind == 5) = false := by simp [h4]
        have hfl := fl_snoc (openG 5 5) Hy.out
        rw [show openG 5 5 y = [y] by unfold openG; rw [if_neg h4, if_neg h4]] at hfl
        have hfn := fl_len 5 5 ks (k + 1)
        rw [hfl, List.length_append, List.length_singleton, ← Hg.out] at hfn
        have Hfl := Lib.hid hfl
        clear h4 hfl
        go_wp2_with (first | (go_at_call 55; refine (rroot_yes (clean y).nodes y (clean y).root q c Hsm.out Hr.out (sits_clean y) _ (Own n w) (H3.out.below HI.out.below)).mono ?_; rintro e W1 ⟨rfl, hb1⟩; have hI2 := (HI.out.call hb1).alloc (ndO y.hd none 0 0); have hJ2 := ((HI.out.restart noS).call hb1).alloc (ndO y.hd none 0 0); have d0 := (hI2.below.cell (p := ⟨b, o + k * 2, none⟩) Hbw.out).trans Hh1.out; have d1 := (hI2.below.cell (p := ⟨b, o + k * 2 + 1, none⟩) Hbw.out).trans Hh2.out; clear c0 c1 hb1) | (at_builtin; refine app_newB treeT rfl (.tmp 39) (.tmp 44) rfl #[.slice q (clean y).nodes.length c, .int .i64 (clean y).root] rfl (by simp only [World.size_alloc]; rfl) rfl (by simp [Value.oneCell']) (hI2.subL (L' := []) (by simp)) (by unfold maxLen; omega) (by omega) ?_; intro v4 W4 hI5 hg4 hb4))
        go_roundw
        case rel =>
          refine ⟨k + 1, g + 1, xs ++ [.slice q (clean y).nodes.length c, .int .i64 (clean y).root], by omega, by go_num, hI5, Lib.hid (by rw [Hfl.out, List.length_append, ← Hg.out]; rfl), Lib.hid ?_⟩
          rw [Hfl.out, List.map_append]
          exact (HX.out.own hJ2.below (Nat.le_refl _)).put2 hI2.own1 (H3.out.turn fun b t ho hlt => ⟨hI2.below.block b hlt, ho.below hI2.below hlt⟩) (Nat.le_refl _) hg4
        case measure => simp [intOf]; omega
    · obtain rfl : k = ks.length := by omega
      obtain ⟨qo, co, rfl, _, _⟩ := row_slice hI.own1
      go_wp2
      go_ret
      have := HX.out
      have hg := Hg.out
      rw [List.take_length] at this hg
      subst hg
      exact ⟨_, xs, rfl, hI.fresh, this, hI.below⟩
/-- What is open stays as it is. -/
theorem ropen4_flat (ks : List Xp) (hok : ∀ k ∈ ks, okX k = true) (hz : sizeL ks ≤ 99999) (hf : ∀ k ∈ ks, k.hd.kind ≠ 4 ∧ k.hd.kind ≠ 0) (p : Option Addr) (cap n : Nat) (w : World) (hN : TreesAt w (Own n w) p (ks.map clean)) (hn : n ≤ w.heap.size) :
    Calls Tryd.prog 64 #[.int .u8 4, .slice p ks.length cap] w fun e w' => OpenD n w ks e w' := by
  have := ropen4_step ks hok hz (fun y hy h => absurd h (hf y hy).1) p cap n w hN hn
  rwa [flat_self fun k hk => by unfold openG; rw [if_neg (hf k hk).1, if_neg (hf k hk).2]] at this
theorem ropen5_flat (ks : List Xp) (hok : ∀ k ∈ ks, okX k = true) (hz : sizeL ks ≤ 99999) (hf : ∀ k ∈ ks, k.hd.kind ≠ 5) (p : Option Addr) (cap n : Nat) (w : World) (hN : TreesAt w (Own n w) p (ks.map clean)) (hn : n ≤ w.heap.size) :
    Calls Tryd.prog 64 #[.int .u8 5, .slice p ks.length cap] w fun e w' => OpenD n w ks e w' := by
  have := ropen5_step ks hok hz (fun y hy h => absurd h (hf y hy)) p cap n w hN hn
  rwa [flat_self fun k hk => by unfold openG; rw [if_neg (hf k hk), if_neg (hf k hk)]] at this
theorem kids_sizeL {y : Xp} {ks : List Xp} (h : y ∈ ks) : sizeL y.kids ≤ sizeL ks := by have := size_le_of_mem h; have := kids_size y; omega
/-- bonsairef05.open, of normal parts. -/
theorem ropen4 (ks : List Xp) (hok : ∀ k ∈ ks, okX k = true ∧ nrm k) (hz : sizeL ks ≤ 99999) (p : Option Addr) (cap n : Nat) (w : World) (hN : TreesAt w (Own n w) p (ks.map clean)) (hn : n ≤ w.heap.size) :
    Calls Tryd.prog 64 #[.int .u8 4, .slice p ks.length cap] w fun e w' => OpenD n w (ks.flatMap openS) e w' :=
  ropen4_step ks (fun k hk => (hok k hk).1) hz (fun y hy h4 p cap n w hN hn => by
    have hg := openS_good (hok y hy)
    rw [show openS y = y.kids by unfold openS; rw [if_pos h4]] at hg
    exact ropen4_flat y.kids (fun k hk => (hg k hk).1) (Nat.le_trans (kids_sizeL hy) hz) (fun k hk => (hg k hk).2.2) p cap n w hN hn) p cap n w hN hn
theorem ropen5 (ks : List Xp) (hok : ∀ k ∈ ks, okX k = true ∧ nrm k) (hz : sizeL ks ≤ 99999) (p : Option Addr) (cap n : Nat) (w : World) (hN : TreesAt w (Own n w) p (ks.map clean)) (hn : n ≤ w.heap.size) :
    Calls Tryd.prog 64 #[.int .u8 5, .slice p ks.length cap] w fun e w' => OpenD n w (ks.flatMap openC) e w' := by
  rw [← flat_C]
  exact ropen5_step ks (fun k hk => (hok k hk).1) hz (fun y hy h4 p cap n w hN hn => by
    have hg := openC_good (hok y hy)
    rw [show openC y = y.kids by unfold openC; rw [if_pos h4]] at hg
    exact ropen5_flat y.kids (fun k hk => (hg k hk).1) (Nat.le_trans (kids_sizeL hy) hz) (fun k hk => (hg k hk).2.2) p cap n w hN hn) p cap n w hN hn
end Go.Proofs.YtcenjpaiehidjaaDoor

/- Contract of bonsairef05.put. -/
namespace Go.Proofs.YtcenjpaiehidjaaDoor
open Go.RowKit
set_option maxRecDepth 100000

theorem rleaf_zero (k : Int) (l : List UInt8) (a b : Int) (hk : 0 ≤ k ∧ k < 256) (w : World) :
    Calls Tryd.prog 65 #[ndZ k l a b none 0 0] w fun e w' => GivesT w.heap.size w' e (.node ⟨k, 0, l, a, b⟩ []) ∧ Below w.heap.size w w' := by
  rw [← ndZ_eq]
  exact rleaf_any _ (HdOk.mk' hk (by decide)) w
theorem rfits_two (h : Hd) (hh : HdOk h) (q : Option Addr) (m cap : Nat) (w : World) :
    Calls Tryd.prog 46 #[ndV h q m cap, .int .i64 2] w fun e w' => e = .returned (.bool (fitsB h 2)) ∧ Below w.heap.size w w' := rfits_any h hh q m cap 2 w
/-- bonsairef04.Of, of clean trees. -/
theorem rof_clean (nh : Hd) (hd : HdOk nh) (qk : Option Addr) (nk ck : Nat) (ks : List Xp) (hok : ∀ k ∈ ks, okX k = true) (hf : fitsB nh ks.length = true) (hz : sizeL ks ≤ 99999) (p : Option Addr) (cap : Nat) (w : World) (F : Nat → TypeId → Prop) (hN : TreesAt w F p (ks.map clean)) :
    Calls Tryd.prog 45 #[ndV nh qk nk ck, .slice p ks.length cap] w fun e w' => GetsT w.heap.size w' e (some (.node nh ks)) ∧ Below w.heap.size w w' := by
  have := rof_yes nh hd qk nk ck ks (ks.map clean) p cap (small_clean (by omega)) (readL_clean hok) (by rw [List.length_map]; exact hf) hz w F hN
  rwa [List.length_map] at this
set_option maxHeartbeats 4000000 in
/-- bonsairef05.put, of a node that is no Seq and no Choice. -/
theorem rput_plain (nh : Hd) (hd : HdOk nh) (qk : Option Addr) (nk ck : Nat) (l : List Xp) (hk4 : nh.kind ≠ 4) (hk5 : nh.kind ≠ 5) (hok : ∀ k ∈ l, okX k = true) (hz : sizeL l ≤ 99999) (hf : fitsB nh l.length = true) (p : Option Addr) (cap n : Nat) (w : World) (hN : TreesAt w (Own n w) p (l.map clean)) (hn : n ≤ w.heap.size) :
    Calls Tryd.prog 54 #[ndV nh qk nk ck, .slice p l.length cap] w fun e w' => GetsT w.heap.size w' e (some (.node nh l)) ∧ Below w.heap.size w w' := by
  have HN := Lib.hid hN
  have HHd := Lib.hid hd
  have hI := ((RInv.start noS w).alloc (ndO nh qk nk ck)).alloc (arO none 0 0 0)
  rw [World.size_alloc] at hI
  have Hok := Lib.hid hok
  have Hf := Lib.hid hf
  have hk4' : (nh.kind != 4) = true := by simp [hk4]
  have hk5' : (nh.kind != 5) = true := by simp [hk5]
  clear hN hd hk4 hk5 hok hf
  go_enter Tryd.func54, Tryd.ntmps54
  go_wp2_with (first | (refine load_own rfl _ rfl w.heap.size rfl nh qk nk ck (hI.at (List.mem_cons_of_mem _ List.mem_cons_self)) ?_) | (go_at_call 45; refine (rof_clean nh HHd.out qk nk ck l Hok.out Hf.out hz _ _ _ (Own n _) (HN.out.turn fun b t ho hlt => ⟨hI.below.block b hlt, ho.below hI.below hlt⟩)).mono ?_; rintro e W4 ⟨⟨v4, rfl, p4, c4, rfl, hp4⟩, hb4⟩; have hI4 := hI.call hb4) | (refine rinv_row rfl _ _ _ rfl (w.heap.size + 1) #[.slice none 0 0, .int .i64 0] #[.slice p4 (clean (.node nh l)).nodes.length c4, .int .i64 (clean (.node nh l)).root] 24 rfl rfl (by simp [Value.oneCell']) szTree rfl hI4 (.inl (by omega)) (by simp) ?_; intro W9 hI9 hg9; obtain ⟨c0, c1⟩ := box_cells hI9 List.mem_cons_self))
  exact bodyPost_ret (v := .tuple #[arV p4 (clean (.node nh l)).nodes.length c4 (clean (.node nh l)).root, .bool true]) (by simp [results, Tryd.results54, go_sem, c0, c1]) rfl ⟨⟨_, rfl, p4, c4, rfl, hp4.turn (own_low hg9 (by simp only [World.size_alloc]; omega) (by simp only [World.size_alloc]; omega))⟩, hI9.below⟩
set_option maxHeartbeats 4000000 in
theorem rput4_nil (s : Nat) (tx : List UInt8) (lo hi : Int) (hd : HdOk (⟨4, s, tx, lo, hi⟩ : Hd)) (qk : Option Addr) (nk ck : Nat) (l L : List Xp) (hL : L = l.flatMap openS) (hok : ∀ k ∈ l, okX k = true ∧ nrm k) (hz : sizeL l ≤ 99999) (hf : fitsB (⟨4, s, tx, lo, hi⟩ : Hd) 2 = true) (hm : L.length = 0) (p : Option Addr) (cap n : Nat) (w : World) (hN : TreesAt w (Own n w) p (l.map clean)) (hn : n ≤ w.heap.size) :
    Calls Tryd.prog 54 #[ndV (⟨4, s, tx, lo, hi⟩ : Hd) qk nk ck, .slice p l.length cap] w fun e w' => GetsT w.heap.size w' e (some emptyX) ∧ Below w.heap.size w w' := by
  have HN := Lib.hid hN
  have HHd := Lib.hid hd
  have hI := ((RInv.start noS w).alloc (ndO (⟨4, s, tx, lo, hi⟩ : Hd) qk nk ck)).alloc (arO none 0 0 0)
  rw [World.size_alloc] at hI
  have hopen := ropen4 l hok hz p cap n
  rw [← hL] at hopen
  have Hopen := Lib.hid hopen
  have Hf := Lib.hid hf
  clear hN hd hopen hL hok hf
  go_enter Tryd.func54, Tryd.ntmps54
  go_wp2_with (first | (refine load_own rfl _ rfl w.heap.size rfl (⟨4, s, tx, lo, hi⟩ : Hd) qk nk ck (hI.at (List.mem_cons_of_mem _ List.mem_cons_self)) ?_) | (go_at_call 46; refine (rfits_two (⟨4, s, tx, lo, hi⟩ : Hd) HHd.out qk nk ck _).mono ?_; rw [Hf.out]; rintro e W1 ⟨rfl, hb1⟩; have hI1 := hI.call hb1; have e0 := (nd_cells hI1 (List.mem_cons_of_mem _ List.mem_cons_self)).1; clear hb1) | (go_at_call 64; refine (Hopen.out _ (HN.out.turn fun b t ho hlt => ⟨hI1.below.block b hlt, ho.below hI1.below hlt⟩) (Nat.le_trans hn hI1.size)).mono ?_; rintro e W3 ⟨v3, xs3, rfl, ho3, hx3, hb3⟩; have hI3 := hI1.call hb3; obtain ⟨p3, c3, e3, ht3⟩ := hx3.at (by rw [List.length_map]; exact ho3) (fun g hg => Nat.le_trans (Nat.le_trans hn hI1.size) (ho3.lt g hg).1); rw [List.length_map] at e3; subst e3; have f0 := (nd_cells hI3 (List.mem_cons_of_mem _ List.mem_cons_self)).1; clear e0 ho3) | (go_at_call 65; refine (rleaf_zero 0 [] 0 0 (by decide) _).mono ?_; rintro e W4 ⟨⟨v4, rfl, p4, c4, rfl, hp4⟩, hb4⟩; have hI4 := hI3.call hb4) | (refine rinv_row rfl _ _ _ rfl (w.heap.size + 1) #[.slice none 0 0, .int .i64 0] #[.slice p4 (clean emptyX).nodes.length c4, .int .i64 (clean emptyX).root] 24 rfl rfl (by simp [Value.oneCell']) szTree rfl hI4 (.inl (by omega)) (by simp) ?_; intro W9 hI9 hg9; obtain ⟨c0, c1⟩ := box_cells hI9 List.mem_cons_self))
  have hlt9 : w.heap.size + 1 < W3.heap.size := lt_of_heap (hI3.at (g := w.heap.size + 1) List.mem_cons_self)
  exact bodyPost_ret (v := .tuple #[arV p4 (clean emptyX).nodes.length c4 (clean emptyX).root, .bool true]) (by simp [results, Tryd.results54, go_sem, c0, c1]) rfl ⟨⟨_, rfl, p4, c4, rfl, hp4.turn (own_low hg9 (by omega) (by omega))⟩, hI9.below⟩
set_option maxHeartbeats 4000000 in
theorem rput4_one (s : Nat) (tx : List UInt8) (lo hi : Int) (hd : HdOk (⟨4, s, tx, lo, hi⟩ : Hd)) (qk : Option Addr) (nk ck : Nat) (l L : List Xp) (hL : L = l.flatMap openS) (hok : ∀ k ∈ l, okX k = true ∧ nrm k) (hz : sizeL l ≤ 99999) (hf : fitsB (⟨4, s, tx, lo, hi⟩ : Hd) 2 = true) (y : Xp) (hm : L = [y]) (p : Option Addr) (cap n : Nat) (w : World) (hN : TreesAt w (Own n w) p (l.map clean)) (hn : n ≤ w.heap.size) :
    Calls Tryd.prog 54 #[ndV (⟨4, s, tx, lo, hi⟩ : Hd) qk nk ck, .slice p l.length cap] w fun e w' => GetsT w.heap.size w' e (some y) ∧ Below w.heap.size w w' := by
  have HN := Lib.hid hN
  have HHd := Lib.hid hd
  have hI := ((RInv.start noS w).alloc (ndO (⟨4, s, tx, lo, hi⟩ : Hd) qk nk ck)).alloc (arO none 0 0 0)
  rw [World.size_alloc] at hI
  have hopen := ropen4 l hok hz p cap n
  rw [← hL] at hopen
  have Hopen := Lib.hid hopen
  have Hf := Lib.hid hf
  have hy : okX y = true ∧ y.size ≤ 100000 := by
    have hmem : y ∈ l.flatMap openS := by rw [← hL, hm]; exact List.mem_singleton.2 rfl
    obtain ⟨t, ht, hyt⟩ := List.mem_flatMap.1 hmem
    exact ⟨(openS_good (hok t ht) y hyt).1, by have := size_le_of_mem hyt; have := openS_size t; have := size_le_of_mem ht; omega⟩
  have Hy := Lib.hid hy
  have hml : L.length = 1 := by rw [hm]; rfl
  have Hm := Lib.hid hm
  clear hN hd hopen hL hok hf hy hm
  go_enter Tryd.func54, Tryd.ntmps54
  go_wp2_with (first | (refine load_own rfl _ rfl w.heap.size rfl (⟨4, s, tx, lo, hi⟩ : Hd) qk nk ck (hI.at (List.mem_cons_of_mem _ List.mem_cons_self)) ?_) | (go_at_call 46; refine (rfits_two (⟨4, s, tx, lo, hi⟩ : Hd) HHd.out qk nk ck _).mono ?_; rw [Hf.out]; rintro e W1 ⟨rfl, hb1⟩; have hI1 := hI.call hb1; have e0 := (nd_cells hI1 (List.mem_cons_of_mem _ List.mem_cons_self)).1; clear hb1) | (go_at_call 64; refine (Hopen.out _ (HN.out.turn fun b t ho hlt => ⟨hI1.below.block b hlt, ho.below hI1.below hlt⟩) (Nat.le_trans hn hI1.size)).mono ?_; rintro e W3 ⟨v3, xs3, rfl, ho3, hx3, hb3⟩; have hI3 := hI1.call hb3; obtain ⟨p3, c3, e3, ht3⟩ := hx3.at (by rw [List.length_map]; exact ho3) (fun g hg => Nat.le_trans (Nat.le_trans hn hI1.size) (ho3.lt g hg).1); rw [List.length_map] at e3; subst e3; have f0 := (nd_cells hI3 (List.mem_cons_of_mem _ List.mem_cons_self)).1; clear e0 ho3; obtain ⟨b, o, rfl, hF, hc⟩ := ht3 (by rw [Hm.out]; simp); obtain ⟨q, c, h1, h2, h3⟩ := hc 0 (clean y) (by rw [Hm.out]; rfl); rw [Nat.zero_mul, Nat.add_zero] at h1 h2; have H3 := Lib.hid h3; clear hc h3) | (go_at_call 62; refine (rclean_any (clean y).nodes y (clean y).root q c (small_one Hy.out.2) (clean_right Hy.out.1) (sits_clean y) Hy.out.2 _ _ H3.out).mono ?_; rintro e W4 ⟨⟨v4, rfl, p4, c4, rfl, hp4⟩, hb4⟩; have hI4 := hI3.call hb4; clear h1 h2) | (refine rinv_row rfl _ _ _ rfl (w.heap.size + 1) #[.slice none 0 0, .int .i64 0] #[.slice p4 (clean y).nodes.length c4, .int .i64 (clean y).root] 24 rfl rfl (by simp [Value.oneCell']) szTree rfl hI4 (.inl (by omega)) (by simp) ?_; intro W9 hI9 hg9; obtain ⟨c0, c1⟩ := box_cells hI9 List.mem_cons_self))
  have hlt9 : w.heap.size + 1 < W3.heap.size := lt_of_heap (hI3.at (g := w.heap.size + 1) List.mem_cons_self)
  exact bodyPost_ret (v := .tuple #[arV p4 (clean y).nodes.length c4 (clean y).root, .bool true]) (by simp [results, Tryd.results54, go_sem, c0, c1]) rfl ⟨⟨_, rfl, p4, c4, rfl, hp4.turn (own_low hg9 (by omega) (by omega))⟩, hI9.below⟩
set_option maxHeartbeats 4000000 in
theorem rput4_many (s : Nat) (tx : List UInt8) (lo hi : Int) (hd : HdOk (⟨4, s, tx, lo, hi⟩ : Hd)) (qk : Option Addr) (nk ck : Nat) (l L : List Xp) (hL : L = l.flatMap openS) (hok : ∀ k ∈ l, okX k = true ∧ nrm k) (hz : sizeL l ≤ 99999) (hf : fitsB (⟨4, s, tx, lo, hi⟩ : Hd) 2 = true) (hm : 2 ≤ L.length) (p : Option Addr) (cap n : Nat) (w : World) (hN : TreesAt w (Own n w) p (l.map clean)) (hn : n ≤ w.heap.size) :
    Calls Tryd.prog 54 #[ndV (⟨4, s, tx, lo, hi⟩ : Hd) qk nk ck, .slice p l.length cap] w fun e w' => GetsT w.heap.size w' e (some (.node (⟨4, s, tx, lo, hi⟩ : Hd) L)) ∧ Below w.heap.size w w' := by
  have HN := Lib.hid hN
  have HHd := Lib.hid hd
  have hI := ((RInv.start noS w).alloc (ndO (⟨4, s, tx, lo, hi⟩ : Hd) qk nk ck)).alloc (arO none 0 0 0)
  rw [World.size_alloc] at hI
  have hopen := ropen4 l hok hz p cap n
  rw [← hL] at hopen
  have Hopen := Lib.hid hopen
  have Hf := Lib.hid hf
  have Hok : Hid (∀ k ∈ L, okX k = true) := Lib.hid (by
    intro k hk'
    rw [hL] at hk'
    obtain ⟨t, ht, hyt⟩ := List.mem_flatMap.1 hk'
    exact (openS_good (hok t ht) k hyt).1)
  have HfL := Lib.hid (fits_more (.inl rfl) hf hm)
  have hzL : sizeL L ≤ 99999 := by rw [hL]; exact Nat.le_trans (flat_size openS_size l) hz
  have hlL : L.length ≤ 99999 := Nat.le_trans (sizeL_le_len L) hzL
  have hm0 : ¬ ((L.length : Int) = 0) := by omega
  have hm1 : ¬ ((L.length : Int) = 1) := by omega
  have hm2 : ¬ (L.length = 0) := by omega
  have hm3 : ¬ (L.length = 1) := by omega
  have hm4 : ¬ (L = []) := fun h => hm2 (by rw [h]; rfl)
  clear hN hd hopen hL hok hf
  go_enter Tryd.func54, Tryd.ntmps54
  go_wp2_with (first | (refine load_own rfl _ rfl w.heap.size rfl (⟨4, s, tx, lo, hi⟩ : Hd) qk nk ck (hI.at (List.mem_cons_of_mem _ List.mem_cons_self)) ?_) | (refine load_own rfl _ rfl w.heap.size rfl (⟨4, s, tx, lo, hi⟩ : Hd) qk nk ck (hI3.at (List.mem_cons_of_mem _ List.mem_cons_self)) ?_) | (go_at_call 46; refine (rfits_two (⟨4, s, tx, lo, hi⟩ : Hd) HHd.out qk nk ck _).mono ?_; rw [Hf.out]; rintro e W1 ⟨rfl, hbb1⟩; have hI1 := hI.call hbb1; have e0 := (nd_cells hI1 (List.mem_cons_of_mem _ List.mem_cons_self)).1; clear hbb1) | (go_at_call 64; refine (Hopen.out _ (HN.out.turn fun b t ho hlt => ⟨hI1.below.block b hlt, ho.below hI1.below hlt⟩) (Nat.le_trans hn hI1.size)).mono ?_; rintro e W3 ⟨v3, xs3, rfl, ho3, hx3, hb3⟩; have hI3 := hI1.call hb3; obtain ⟨p3, c3, e3, ht3⟩ := hx3.at (by rw [List.length_map]; exact ho3) (fun g hg => Nat.le_trans (Nat.le_trans hn hI1.size) (ho3.lt g hg).1); rw [List.length_map] at e3; subst e3; have f0 := (nd_cells hI3 (List.mem_cons_of_mem _ List.mem_cons_self)).1; clear e0 ho3) | (go_at_call 45; refine (rof_clean (⟨4, s, tx, lo, hi⟩ : Hd) HHd.out qk nk ck L Hok.out HfL.out hzL _ _ _ (Own n _) ht3).mono ?_; rintro e W4 ⟨⟨v4, rfl, p4, c4, rfl, hp4⟩, hb4⟩; have hI4 := hI3.call hb4) | (refine rinv_row rfl _ _ _ rfl (w.heap.size + 1) #[.slice none 0 0, .int .i64 0] #[.slice p4 (clean (.node (⟨4, s, tx, lo, hi⟩ : Hd) L)).nodes.length c4, .int .i64 (clean (.node (⟨4, s, tx, lo, hi⟩ : Hd) L)).root] 24 rfl rfl (by simp [Value.oneCell']) szTree rfl hI4 (.inl (by omega)) (by simp) ?_; intro W9 hI9 hg9; obtain ⟨c0, c1⟩ := box_cells hI9 List.mem_cons_self))
  have hlt9 : w.heap.size + 1 < W3.heap.size := lt_of_heap (hI3.at (g := w.heap.size + 1) List.mem_cons_self)
  exact bodyPost_ret (v := .tuple #[arV p4 (clean (.node (⟨4, s, tx, lo, hi⟩ : Hd) L)).nodes.length c4 (clean (.node (⟨4, s, tx, lo, hi⟩ : Hd) L)).root, .bool true]) (by simp [results, Tryd.results54, go_sem, c0, c1]) rfl ⟨⟨_, rfl, p4, c4, rfl, hp4.turn (own_low hg9 (by omega) (by omega))⟩, hI9.below⟩
set_option maxHeartbeats 4000000 in
theorem rput5_nil (s : Nat) (tx : List UInt8) (lo hi : Int) (hd : HdOk (⟨5, s, tx, lo, hi⟩ : Hd)) (qk : Option Addr) (nk ck : Nat) (l L : List Xp) (hL : L = l.flatMap openC) (hok : ∀ k ∈ l, okX k = true ∧ nrm k) (hz : sizeL l ≤ 99999) (hf : fitsB (⟨5, s, tx, lo, hi⟩ : Hd) 2 = true) (hm : L.length = 0) (p : Option Addr) (cap n : Nat) (w : World) (hN : TreesAt w (Own n w) p (l.map clean)) (hn : n ≤ w.heap.size) :
    Calls Tryd.prog 54 #[ndV (⟨5, s, tx, lo, hi⟩ : Hd) qk nk ck, .slice p l.length cap] w fun e w' => GetsT w.heap.size w' e (some noneX) ∧ Below w.heap.size w w' := by
  have HN := Lib.hid hN
  have HHd := Lib.hid hd
  have hI := ((RInv.start noS w).alloc (ndO (⟨5, s, tx, lo, hi⟩ : Hd) qk nk ck)).alloc (arO none 0 0 0)
  rw [World.size_alloc] at hI
  have hopen := ropen5 l hok hz p cap n
  rw [← hL] at hopen
  have Hopen := Lib.hid hopen
  have Hf := Lib.hid hf
  clear hN hd hopen hL hok hf
  go_enter Tryd.func54, Tryd.ntmps54
  go_wp2_with (first | (refine load_own rfl _ rfl w.heap.size rfl (⟨5, s, tx, lo, hi⟩ : Hd) qk nk ck (hI.at (List.mem_cons_of_mem _ List.mem_cons_self)) ?_) | (go_at_call 46; refine (rfits_two (⟨5, s, tx, lo, hi⟩ : Hd) HHd.out qk nk ck _).mono ?_; rw [Hf.out]; rintro e W1 ⟨rfl, hb1⟩; have hI1 := hI.call hb1; have e0 := (nd_cells hI1 (List.mem_cons_of_mem _ List.mem_cons_self)).1; clear hb1) | (go_at_call 64; refine (Hopen.out _ (HN.out.turn fun b t ho hlt => ⟨hI1.below.block b hlt, ho.below hI1.below hlt⟩) (Nat.le_trans hn hI1.size)).mono ?_; rintro e W3 ⟨v3, xs3, rfl, ho3, hx3, hb3⟩; have hI3 := hI1.call hb3; obtain ⟨p3, c3, e3, ht3⟩ := hx3.at (by rw [List.length_map]; exact ho3) (fun g hg => Nat.le_trans (Nat.le_trans hn hI1.size) (ho3.lt g hg).1); rw [List.length_map] at e3; subst e3; have f0 := (nd_cells hI3 (List.mem_cons_of_mem _ List.mem_cons_self)).1; clear e0 ho3) | (go_at_call 65; refine (rleaf_zero 1 [] 0 0 (by decide) _).mono ?_; rintro e W4 ⟨⟨v4, rfl, p4, c4, rfl, hp4⟩, hb4⟩; have hI4 := hI3.call hb4) | (refine rinv_row rfl _ _ _ rfl (w.heap.size + 1) #[.slice none 0 0, .int .i64 0] #[.slice p4 (clean noneX).nodes.length c4, .int .i64 (clean noneX).root] 24 rfl rfl (by simp [Value.oneCell']) szTree rfl hI4 (.inl (by omega)) (by simp) ?_; intro W9 hI9 hg9; obtain ⟨c0, c1⟩ := box_cells hI9 List.mem_cons_self))
  have hlt9 : w.heap.size + 1 < W3.heap.size := lt_of_heap (hI3.at (g := w.heap.size + 1) List.mem_cons_self)
  exact bodyPost_ret (v := .tuple #[arV p4 (clean noneX).nodes.length c4 (clean noneX).root, .bool true]) (by simp [results, Tryd.results54, go_sem, c0, c1]) rfl ⟨⟨_, rfl, p4, c4, rfl, hp4.turn (own_low hg9 (by omega) (by omega))⟩, hI9.below⟩
set_option maxHeartbeats 4000000 in
theorem rput5_one (s : Nat) (tx : List UInt8) (lo hi : Int) (hd : HdOk (⟨5, s, tx, lo, hi⟩ : Hd)) (qk : Option Addr) (nk ck : Nat) (l L : List Xp) (hL : L = l.flatMap openC) (hok : ∀ k ∈ l, okX k = true ∧ nrm k) (hz : sizeL l ≤ 99999) (hf : fitsB (⟨5, s, tx, lo, hi⟩ : Hd) 2 = true) (y : Xp) (hm : L = [y]) (p : Option Addr) (cap n : Nat) (w : World) (hN : TreesAt w (Own n w) p (l.map clean)) (hn : n ≤ w.heap.size) :
    Calls Tryd.prog 54 #[ndV (⟨5, s, tx, lo, hi⟩ : Hd) qk nk ck, .slice p l.length cap] w fun e w' => GetsT w.heap.size w' e (some y) ∧ Below w.heap.size w w' := by
  have HN := Lib.hid hN
  have HHd := Lib.hid hd
  have hI := ((RInv.start noS w).alloc (ndO (⟨5, s, tx, lo, hi⟩ : Hd) qk nk ck)).alloc (arO none 0 0 0)
  rw [World.size_alloc] at hI
  have hopen := ropen5 l hok hz p cap n
  rw [← hL] at hopen
  have Hopen := Lib.hid hopen
  have Hf := Lib.hid hf
  have hy : okX y = true ∧ y.size ≤ 100000 := by
    have hmem : y ∈ l.flatMap openC := by rw [← hL, hm]; exact List.mem_singleton.2 rfl
    obtain ⟨t, ht, hyt⟩ := List.mem_flatMap.1 hmem
    exact ⟨(openC_good (hok t ht) y hyt).1, by have := size_le_of_mem hyt; have := openC_size t; have := size_le_of_mem ht; omega⟩
  have Hy := Lib.hid hy
  have hml : L.length = 1 := by rw [hm]; rfl
  have Hm := Lib.hid hm
  clear hN hd hopen hL hok hf hy hm
  go_enter Tryd.func54, Tryd.ntmps54
  go_wp2_with (first | (refine load_own rfl _ rfl w.heap.size rfl (⟨5, s, tx, lo, hi⟩ : Hd) qk nk ck (hI.at (List.mem_cons_of_mem _ List.mem_cons_self)) ?_) | (go_at_call 46; refine (rfits_two (⟨5, s, tx, lo, hi⟩ : Hd) HHd.out qk nk ck _).mono ?_; rw [Hf.out]; rintro e W1 ⟨rfl, hb1⟩; have hI1 := hI.call hb1; have e0 := (nd_cells hI1 (List.mem_cons_of_mem _ List.mem_cons_self)).1; clear hb1) | (go_at_call 64; refine (Hopen.out _ (HN.out.turn fun b t ho hlt => ⟨hI1.below.block b hlt, ho.below hI1.below hlt⟩) (Nat.le_trans hn hI1.size)).mono ?_; rintro e W3 ⟨v3, xs3, rfl, ho3, hx3, hb3⟩; have hI3 := hI1.call hb3; obtain ⟨p3, c3, e3, ht3⟩ := hx3.at (by rw [List.length_map]; exact ho3) (fun g hg => Nat.le_trans (Nat.le_trans hn hI1.size) (ho3.lt g hg).1); rw [List.length_map] at e3; subst e3; have f0 := (nd_cells hI3 (List.mem_cons_of_mem _ List.mem_cons_self)).1; clear e0 ho3; obtain ⟨b, o, rfl, hF, hc⟩ := ht3 (by rw [Hm.out]; simp); obtain ⟨q, c, h1, h2, h3⟩ := hc 0 (clean y) (by rw [Hm.out]; rfl); rw [Nat.zero_mul, Nat.add_zero] at h1 h2; have H3 := Lib.hid h3; clear hc h3) | (go_at_call 62; refine (rclean_any (clean y).nodes y (clean y).root q c (small_one Hy.out.2) (clean_right Hy.out.1) (sits_clean y) Hy.out.2 _ _ H3.out).mono ?_; rintro e W4 ⟨⟨v4, rfl, p4, c4, rfl, hp4⟩, hb4⟩; have hI4 := hI3.call hb4; clear h1 h2) | (refine rinv_row rfl _ _ _ rfl (w.heap.size + 1) #[.slice none 0 0, .int .i64 0] #[.slice p4 (clean y).nodes.length c4, .int .i64 (clean y).root] 24 rfl rfl (by simp [Value.oneCell']) szTree rfl hI4 (.inl (by omega)) (by simp) ?_; intro W9 hI9 hg9; obtain ⟨c0, c1⟩ := box_cells hI9 List.mem_cons_self))
  have hlt9 : w.heap.size + 1 < W3.heap.size := lt_of_heap (hI3.at (g := w.heap.size + 1) List.mem_cons_self)
  exact bodyPost_ret (v := .tuple #[arV p4 (clean y).nodes.length c4 (clean y).root, .bool true]) (by simp [results, Tryd.results54, go_sem, c0, c1]) rfl ⟨⟨_, rfl, p4, c4, rfl, hp4.turn (own_low hg9 (by omega) (by omega))⟩, hI9.below⟩
set_option maxHeartbeats 4000000 in
theorem rput5_many (s : Nat) (tx : List UInt8) (lo hi : Int) (hd : HdOk (⟨5, s, tx, lo, hi⟩ : Hd)) (qk : Option Addr) (nk ck : Nat) (l L : List Xp) (hL : L = l.flatMap openC) (hok : ∀ k ∈ l, okX k = true ∧ nrm k) (hz : sizeL l ≤ 99999) (hf : fitsB (⟨5, s, tx, lo, hi⟩ : Hd) 2 = true) (hm : 2 ≤ L.length) (p : Option Addr) (cap n : Nat) (w : World) (hN : TreesAt w (Own n w) p (l.map clean)) (hn : n ≤ w.heap.size) :
    Calls Tryd.prog 54 #[ndV (⟨5, s, tx, lo, hi⟩ : Hd) qk nk ck, .slice p l.length cap] w fun e w' => GetsT w.heap.size w' e (some (.node (⟨5, s, tx, lo, hi⟩ : Hd) L)) ∧ Below w.heap.size w w' := by
  have HN := Lib.hid hN
  have HHd := Lib.hid hd
  have hI := ((RInv.start noS w).alloc (ndO (⟨5, s, tx, lo, hi⟩ : Hd) qk nk ck)).alloc (arO none 0 0 0)
  rw [World.size_alloc] at hI
  have hopen := ropen5 l hok hz p cap n
  rw [← hL] at hopen
  have Hopen := Lib.hid hopen
  have Hf := Lib.hid hf
  have Hok : Hid (∀ k ∈ L, okX k = true) := Lib.hid (by
    intro k hk'
    rw [hL] at hk'
    obtain ⟨t, ht, hyt⟩ := List.mem_flatMap.1 hk'
    exact (openC_good (hok t ht) k hyt).1)
  have HfL := Lib.hid (fits_more (.inr rfl) hf hm)
  have hzL : sizeL L ≤ 99999 := by rw [hL]; exact Nat.le_trans (flat_size openC_size l) hz
  have hlL : L.length ≤ 99999 := Nat.le_trans (sizeL_le_len L) hzL
  have hm0 : ¬ ((L.length : Int) = 0) := by omega
  have hm1 : ¬ ((L.length : Int) = 1) := by omega
  have hm2 : ¬ (L.length = 0) := by omega
  have hm3 : ¬ (L.length = 1) := by omega
  have hm4 : ¬ (L = []) := fun h => hm2 (by rw [h]; rfl)
  clear hN hd hopen hL hok hf
  go_enter Tryd.func54, Tryd.ntmps54
  go_wp2_with (first | (refine load_own rfl _ rfl w.heap.size rfl (⟨5, s, tx, lo, hi⟩ : Hd) qk nk ck (hI.at (List.mem_cons_of_mem _ List.mem_cons_self)) ?_) | (refine load_own rfl _ rfl w.heap.size rfl (⟨5, s, tx, lo, hi⟩ : Hd) qk nk ck (hI3.at (List.mem_cons_of_mem _ List.mem_cons_self)) ?_) | (go_at_call 46; refine (rfits_two (⟨5, s, tx, lo, hi⟩ : Hd) HHd.out qk nk ck _).mono ?_; rw [Hf.out]; rintro e W1 ⟨rfl, hbb1⟩; have hI1 := hI.call hbb1; have e0 := (nd_cells hI1 (List.mem_cons_of_mem _ List.mem_cons_self)).1; clear hbb1) | (go_at_call 64; refine (Hopen.out _ (HN.out.turn fun b t ho hlt => ⟨hI1.below.block b hlt, ho.below hI1.below hlt⟩) (Nat.le_trans hn hI1.size)).mono ?_; rintro e W3 ⟨v3, xs3, rfl, ho3, hx3, hb3⟩; have hI3 := hI1.call hb3; obtain ⟨p3, c3, e3, ht3⟩ := hx3.at (by rw [List.length_map]; exact ho3) (fun g hg => Nat.le_trans (Nat.le_trans hn hI1.size) (ho3.lt g hg).1); rw [List.length_map] at e3; subst e3; have f0 := (nd_cells hI3 (List.mem_cons_of_mem _ List.mem_cons_self)).1; clear e0 ho3) | (go_at_call 45; refine (rof_clean (⟨5, s, tx, lo, hi⟩ : Hd) HHd.out qk nk ck L Hok.out HfL.out hzL _ _ _ (Own n _) ht3).mono ?_; rintro e W4 ⟨⟨v4, rfl, p4, c4, rfl, hp4⟩, hb4⟩; have hI4 := hI3.call hb4) | (refine rinv_row rfl _ _ _ rfl (w.heap.size + 1) #[.slice none 0 0, .int .i64 0] #[.slice p4 (clean (.node (⟨5, s, tx, lo, hi⟩ : Hd) L)).nodes.length c4, .int .i64 (clean (.node (⟨5, s, tx, lo, hi⟩ : Hd) L)).root] 24 rfl rfl (by simp [Value.oneCell']) szTree rfl hI4 (.inl (by omega)) (by simp) ?_; intro W9 hI9 hg9; obtain ⟨c0, c1⟩ := box_cells hI9 List.mem_cons_self))
  have hlt9 : w.heap.size + 1 < W3.heap.size := lt_of_heap (hI3.at (g := w.heap.size + 1) List.mem_cons_self)
  exact bodyPost_ret (v := .tuple #[arV p4 (clean (.node (⟨5, s, tx, lo, hi⟩ : Hd) L)).nodes.length c4 (clean (.node (⟨5, s, tx, lo, hi⟩ : Hd) L)).root, .bool true]) (by simp [results, Tryd.results54, go_sem, c0, c1]) rfl ⟨⟨_, rfl, p4, c4, rfl, hp4.turn (own_low hg9 (by omega) (by omega))⟩, hI9.below⟩
end Go.Proofs.YtcenjpaiehidjaaDoor

/- Contract of bonsairef05.Make. -/
namespace Go.Proofs.YtcenjpaiehidjaaDoor
open Go.RowKit
set_option maxRecDepth 100000

theorem rput_any (nh : Hd) (hd : HdOk nh) (qk : Option Addr) (nk ck : Nat) (l : List Xp) (hok : ∀ k ∈ l, okX k = true ∧ nrm k) (hz : sizeL l ≤ 99999) (hf : fitsB nh l.length = true) (p : Option Addr) (cap n : Nat) (w : World) (hN : TreesAt w (Own n w) p (l.map clean)) (hn : n ≤ w.heap.size) :
    Calls Tryd.prog 54 #[ndV nh qk nk ck, .slice p l.length cap] w fun e w' => GetsT w.heap.size w' e (some (join nh l)) ∧ Below w.heap.size w w' := by
  by_cases h4 : nh.kind = 4
  · unfold join
    rw [if_pos h4]
    have hf2 := fits_more (.inl h4) hf (Nat.le_refl 2)
    obtain ⟨κ, s, tx, lo, hi⟩ := nh
    simp only at h4
    subst h4
    obtain ⟨L, hL⟩ : ∃ L, L = l.flatMap openS := ⟨_, rfl⟩
    rw [← hL]
    match L, hL with
    | [], hL => exact rput4_nil s tx lo hi hd qk nk ck l [] hL hok hz hf2 rfl p cap n w hN hn
    | [y], hL => exact rput4_one s tx lo hi hd qk nk ck l [y] hL hok hz hf2 y rfl p cap n w hN hn
    | y :: y2 :: L, hL => exact rput4_many s tx lo hi hd qk nk ck l (y :: y2 :: L) hL hok hz hf2 (by simp) p cap n w hN hn
  · by_cases h5 : nh.kind = 5
    · unfold join
      rw [if_neg h4, if_pos h5]
      have hf2 := fits_more (.inr h5) hf (Nat.le_refl 2)
      obtain ⟨κ, s, tx, lo, hi⟩ := nh
      simp only at h5
      subst h5
      obtain ⟨L, hL⟩ : ∃ L, L = l.flatMap openC := ⟨_, rfl⟩
      rw [← hL]
      match L, hL with
      | [], hL => exact rput5_nil s tx lo hi hd qk nk ck l [] hL hok hz hf2 rfl p cap n w hN hn
      | [y], hL => exact rput5_one s tx lo hi hd qk nk ck l [y] hL hok hz hf2 y rfl p cap n w hN hn
      | y :: y2 :: L, hL => exact rput5_many s tx lo hi hd qk nk ck l (y :: y2 :: L) hL hok hz hf2 (by simp) p cap n w hN hn
    · unfold join
      rw [if_neg h4, if_neg h5]
      exact rput_plain nh hd qk nk ck l h4 h5 (fun k hk => (hok k hk).1) hz hf p cap n w hN hn
/-- bonsairef05.Make makes a tree normal. -/
def RMakeC (x : Xp) : Prop := ∀ (W : World) (F : Nat → TypeId → Prop) (q : Option Addr) (c : Nat), NodesAt W F q (clean x).nodes →
  Calls Tryd.prog 32 #[arV q (clean x).nodes.length c (clean x).root] W fun e w' => GetsT W.heap.size w' e (some (norm x)) ∧ Below W.heap.size W w'
theorem map_norm_size (ks : List Xp) : sizeL (ks.map norm) ≤ sizeL ks := by
  induction ks with
  | nil => exact Nat.le_refl _
  | cons k ks ih => rw [List.map_cons, sizeL_cons, sizeL_cons]; exact Nat.add_le_add (norm_size k) ih
theorem take_norm {ks : List Xp} {k : Nat} {y : Xp} (h : ks[k]? = some y) : (ks.take (k + 1)).map (fun y => clean (norm y)) = (ks.take k).map (fun y => clean (norm y)) ++ [clean (norm y)] := by
  rw [take_snoc h, List.map_append]; rfl
set_option maxHeartbeats 8000000 in
theorem rmake_step (ns : List Nd) (x : Xp) (root : Int) (p : Option Addr) (cap : Nat) (hS : Small ns) (hR : RightP ⟨ns, root⟩) (hx : sits ns x root) (hz : x.size ≤ 100000) (hM : ∀ k ∈ x.kids, RMakeC k) (w : World) (F : Nat → TypeId → Prop) (hN : NodesAt w F p ns) :
    Calls Tryd.prog 32 #[arV p ns.length cap root] w fun e w' => GetsT w.heap.size w' e (some (norm x)) ∧ Below w.heap.size w w' := by
  have hok := ok_of_fits hR.fits x hx
  have hdk := hd_ok hN hx
  have hkz := kids_size x
  have hkl := sizeL_le_len x.kids
  have HN := Lib.hid hN
  have HS := Lib.hid hS
  have HR := Lib.hid hR
  have Hx := Lib.hid hx
  have HM := Lib.hid hM
  have hput := rput_any x.hd hdk none 0 0 (x.kids.map norm) (fun k hk => by
    obtain ⟨y, hy, rfl⟩ := List.mem_map.1 hk
    exact norm_good y (ok_kids hok y hy)) (Nat.le_trans (map_norm_size _) (by omega)) (by rw [List.length_map]; exact ok_fits hok)
  rw [List.length_map] at hput
  obtain ⟨r0, hr0⟩ : ∃ r0, r0 = norm x := ⟨_, rfl⟩
  have hnx : norm x = join x.hd (x.kids.map norm) := by cases x with | node h ks => exact norm_node h ks
  rw [← hnx, ← hr0] at hput
  have Hput := Lib.hid hput
  have hkl2 : x.kids.length ≤ 99999 := by omega
  have hI := ((RInv.start noS w).alloc (arO p ns.length cap root)).alloc (arO none 0 0 0)
  rw [World.size_alloc] at hI
  rw [← hr0]
  clear hN hS hR hx hok hdk hkz hr0 hnx hM hput hkl
  go_enter Tryd.func32, Tryd.ntmps32
  go_wp2_with (first | (go_at_call 27; refine (rright_true ns root p cap HS.out _ F (HN.out.below hI.below) HR.out).mono ?_; rintro e W1 ⟨rfl, hb1⟩; have hI1 := hI.call hb1; obtain ⟨c0, c1⟩ := box_cells hI1 (List.mem_cons_of_mem _ List.mem_cons_self); clear hb1) | (go_at_call 53; refine (rkids_yes ns x root p cap HS.out HR.out Hx.out hz _ F (HN.out.below hI1.below)).mono ?_; rintro e W3 ⟨v3, xs3, rfl, ho3, hx3, hb3⟩; obtain ⟨q3, c3, he3, hts3⟩ := hx3.at (by rw [List.length_map]; exact ho3) (fun g hg => (ho3.lt g hg).1); rw [List.length_map] at he3; subst he3; have hI3 := hI1.call hb3))
  have Hts : Hid (TreesAt W3 (fun b _ => b < W3.heap.size) q3 (x.kids.map clean)) := Lib.hid (hts3.turn fun b t ho hlt => ⟨rfl, hlt⟩)
  have HI3 := Lib.hid hI3
  have HJ3 := Lib.hid ((hI3.restart noS).nil 24 2)
  clear hts3 ho3 hx3 hI hI1 hI3 c0 c1
  go_loopw [4, 6] (fun vo iv wr => ∃ (k : Nat) (xs : List Value), k ≤ x.kids.length ∧ iv = .int .i64 k ∧ RInv noS W3 [(w.heap.size + 1, arO none 0 0 0), (w.heap.size, arO p ns.length cap root)] [⟨24, 2, vo, k, xs⟩] wr ∧ Hid (TreesIn wr (Own W3.heap.size wr) xs ((x.kids.take k).map (fun y => clean (norm y))))) (fun _ iv _ => x.kids.length - (intOf iv).toNat)
  case atStart => exact ⟨0, [], by omega, rfl, HJ3.out, Lib.hid (TreesIn.nil _ _)⟩
  case round =>
    clear HJ3
    obtain ⟨wo, rfl⟩ : ∃ wo : World, wo = wr := ⟨_, rfl⟩
    obtain ⟨k, xs, hk, rfl, hI, HX⟩ := hrel
    obtain ⟨qo, co, rfl, _, _⟩ := row_slice hI.own1
    by_cases hlt : k < x.kids.length
    · obtain ⟨y, hy⟩ : ∃ y, x.kids[k]? = some y := ⟨_, List.getElem?_eq_getElem hlt⟩
      obtain ⟨b, o, rfl, hbw, hc⟩ := Hts.out (by intro h; have := congrArg List.length h; simp at this; rw [this] at hlt; exact absurd hlt (by simp))
      obtain ⟨q, c, h1, h2, h3⟩ := hc k (clean y) (by rw [List.getElem?_map, hy]; rfl)
      have c0 := (hI.below.cell (p := ⟨b, o + k * 2, none⟩) hbw).trans h1
      have c1 := (hI.below.cell (p := ⟨b, o + k * 2 + 1, none⟩) hbw).trans h2
      have Hmk := Lib.hid (HM.out y (List.mem_of_getElem? hy) wo _ q c (h3.below hI.below))
      have Hy := Lib.hid hy
      have HI := Lib.hid hI
      clear hc h1 h2 h3 hy hI hbw
      go_wp2_with (first | (go_at_call 32; refine Hmk.out.mono ?_; rintro e W4 ⟨⟨v4, rfl, p4, c4, rfl, hp4⟩, hb4⟩; have hI4 := (HI.out.call hb4).alloc (arO p4 (clean (norm y)).nodes.length c4 (clean (norm y)).root); have hJ4 := ((HI.out.restart noS).call hb4).alloc (arO p4 (clean (norm y)).nodes.length c4 (clean (norm y)).root); clear c0 c1) | (at_builtin; refine app_newB treeT rfl (.tmp 29) (.tmp 31) rfl #[.slice p4 (clean (norm y)).nodes.length c4, .int .i64 (clean (norm y)).root] rfl (by simp only [World.size_alloc]; rfl) rfl (by simp [Value.oneCell']) (hI4.subL (L' := [(w.heap.size + 1, arO none 0 0 0), (w.heap.size, arO p ns.length cap root)]) (by simp)) (by unfold maxLen; omega) (by omega) ?_; intro v' W5 hE hg hbb; clear hbb))
      go_roundw
      case rel =>
        refine ⟨k + 1, xs ++ [.slice p4 (clean (norm y)).nodes.length c4, .int .i64 (clean (norm y)).root], by omega, by go_num, hE, Lib.hid ?_⟩
        rw [take_norm Hy.out]
        exact (HX.out.own hJ4.below (Nat.le_refl _)).put2 hI4.own1 (hp4.turn (W' := W4.alloc (arO p4 (clean (norm y)).nodes.length c4 (clean (norm y)).root)) (F' := Own wo.heap.size (W4.alloc (arO p4 (clean (norm y)).nodes.length c4 (clean (norm y)).root))) fun b t ho hlt => ⟨((Below.refl _ _).alloc (Nat.le_refl _) (arO p4 (clean (norm y)).nodes.length c4 (clean (norm y)).root)).block b hlt, ho.below ((Below.refl _ _).alloc (Nat.le_refl _) _) hlt⟩) HI.out.size hg
      case measure => simp [intOf]; omega
    · obtain rfl : k = x.kids.length := by omega
      have hX := HX.out
      rw [List.take_length, show x.kids.map (fun y => clean (norm y)) = (x.kids.map norm).map clean by rw [List.map_map]; rfl] at hX
      have hov := HI3.out.over hI (fun _ h => h.elim)
      obtain ⟨c0, c1⟩ := box_cells hI (List.mem_cons_of_mem _ List.mem_cons_self)
      obtain ⟨p5, c5, e5, ht5⟩ := hX.at (by rw [List.length_map, List.length_map]; exact hI.own1) (fun g hg => (hI.new _ List.mem_cons_self g hg).elim id False.elim)
      rw [List.length_map, List.length_map] at e5
      injection e5 with e5 _ e6
      subst e5 e6
      have Ht5 := Lib.hid ht5
      have Hsz := Lib.hid hI.size
      have hlt3 : w.heap.size + 1 < W3.heap.size := lt_of_heap (HI3.out.at (g := w.heap.size + 1) List.mem_cons_self)
      clear hX ht5 hI
      go_wp2_with (first | (go_at_call 55; refine (rroot_yes ns x root p cap HS.out HR.out Hx.out _ F (HN.out.below hov.below)).mono ?_; rintro e W6 ⟨rfl, hb6⟩; have hI6 := hov.call hb6) | (go_at_call 54; refine (Hput.out _ _ W3.heap.size _ (Ht5.out.turn fun b t ho hlt => ⟨hb6.block b hlt, ho.below hb6 hlt⟩) (Nat.le_trans Hsz.out hb6.size)).mono ?_; rintro e W7 ⟨⟨v7, rfl, p7, c7, rfl, hp7⟩, hb7⟩; have hI7 := (hI6.call hb7).subL (L' := [(w.heap.size + 1, arO none 0 0 0), (w.heap.size, arO p ns.length cap root)]) (by simp)) | (refine rinv_row rfl _ _ _ rfl (w.heap.size + 1) #[.slice none 0 0, .int .i64 0] #[.slice p7 (clean r0).nodes.length c7, .int .i64 (clean r0).root] 24 rfl rfl (by simp [Value.oneCell']) szTree rfl hI7 (.inl (by omega)) (by simp) ?_; intro W9 hI9 hg9; obtain ⟨d0, d1⟩ := box_cells hI9 List.mem_cons_self))
      exact bodyPost_ret (v := .tuple #[arV p7 (clean r0).nodes.length c7 (clean r0).root, .bool true]) (by simp [results, Tryd.results32, go_sem, d0, d1]) rfl ⟨⟨_, rfl, p7, c7, rfl, hp7.turn (own_low hg9 (by have := Hsz.out; have := hb6.size; omega) (by have := Hsz.out; have := hb6.size; omega))⟩, hI9.below⟩
theorem rmake_clean (x : Xp) : okX x = true → x.size ≤ 100000 → RMakeC x := by
  induction x using Xp.ind with
  | h hh ks ih =>
    intro hok hz W F q c hN
    have hks : ∀ k ∈ ks, RMakeC k := fun k hk => ih k hk ((okX_iff.1 hok).2 k hk) (by
      have h1 := size_le_of_mem hk
      rw [Xp.size_node] at hz
      omega)
    exact rmake_step (clean (.node hh ks)).nodes (.node hh ks) (clean (.node hh ks)).root q c (small_one hz) (clean_right hok) (sits_clean (.node hh ks)) hz hks W F hN
/-- bonsairef05.Make, of a tree that is right. -/
theorem rmake_yes (ns : List Nd) (x : Xp) (root : Int) (p : Option Addr) (cap : Nat) (hS : Small ns) (hR : RightP ⟨ns, root⟩) (hx : sits ns x root) (hz : x.size ≤ 100000) (w : World) (F : Nat → TypeId → Prop) (hN : NodesAt w F p ns) :
    Calls Tryd.prog 32 #[arV p ns.length cap root] w fun e w' => GetsT w.heap.size w' e (some (norm x)) ∧ Below w.heap.size w w' :=
  rmake_step ns x root p cap hS hR hx hz (fun k hk => rmake_clean k (ok_kids (ok_of_fits hR.fits x hx) k hk) (by
    have h1 := size_le_of_mem hk
    have h2 := kids_size x
    omega)) w F hN
end Go.Proofs.YtcenjpaiehidjaaDoor
