/- Contract of bonsairef18.At. -/
import Derived.Test.YtcenjpaiehidjaaDoorJ15
import Derived.Test.YtcenjpaiehidjaaDoorJ11
import Derived.Test.YtcenjpaiehidjaaDoorJ12
import Derived.BigQuiet
set_option linter.unusedSimpArgs false
set_option linter.unusedVariables false
namespace Go.Proofs.YtcenjpaiehidjaaDoor
open Go.RowKit
set_option maxRecDepth 100000

set_option maxHeartbeats 8000000 in
/-- bonsairef18.At, in a tree that is right. -/
theorem rat_any (ns : List Nd) (x : Xp) (root : Int) (p : Option Addr) (cap : Nat) (hS : Small ns) (hR : RightP ⟨ns, root⟩) (hx : sits ns x root) (hz : x.size ≤ 100000) (pl : List Int) (hpl : pl.length ≤ 100000) (q : Option Addr) (c : Nat) (w : World) (F G : Nat → TypeId → Prop) (hN : NodesAt w F p ns) (hQ : IntsAt w G q pl) :
    Calls Tryd.prog 10 #[arV p ns.length cap root, .slice q pl.length c] w fun e w' => GetsT w.heap.size w' e (getX x pl) ∧ Below w.heap.size w w' := by
  have hl := hS.len
  have hp0 : p = p := rfl
  have HN := Lib.hid hN
  have HQ := Lib.hid hQ
  have HS := Lib.hid hS
  have HR := Lib.hid hR
  have Hx := Lib.hid hx
  have hI := ((RInv.start noS w).alloc (arO p ns.length cap root)).alloc (arO none 0 0 0)
  rw [World.size_alloc] at hI
  have Hsub := Lib.hid (fun (y : Xp) (i : Int) (hy : sits ns y i) (h : getX x pl = some y) => rsub_yes ns y i root p cap hS hR hy (sub_right hR hx hz h).2)
  clear hN hQ hS hR hx hp0
  go_enter Tryd.func10, Tryd.ntmps10
  go_wp2_with (first | (go_at_call 27; refine (rright_true ns root p cap HS.out _ F (HN.out.below hI.below) HR.out).mono ?_; rintro e W1 ⟨rfl, hb1⟩; have hI1 := hI.call hb1; clear hb1; obtain ⟨c0, c1⟩ := box_cells hI1 (List.mem_cons_of_mem _ List.mem_cons_self)))
  clear hI
  go_loop [6, 7] (fun av kv => ∃ (k : Nat) (z : Xp) (i : Int), k ≤ pl.length ∧ kv = .int .i64 k ∧ av = .int .i64 i ∧ Hid (sits ns z i ∧ getX x (pl.take k) = some z)) (fun _ kv => pl.length - (intOf kv).toNat)
  case atStart => exact ⟨0, x, root, by omega, rfl, rfl, Lib.hid ⟨Hx.out, getX_nil x⟩⟩
  case round =>
    obtain ⟨k, z, i, hk, rfl, rfl, hZ⟩ := hrel
    by_cases hlt : k < pl.length
    · obtain ⟨c', hc'⟩ : ∃ c', pl[k]? = some c' := ⟨_, List.getElem?_eq_getElem hlt⟩
      obtain ⟨bq, oq, rfl, _, hqc⟩ := HQ.out (by intro h; rw [h] at hlt; exact absurd hlt (by simp))
      have hck := (hI1.below.cell (p := ⟨bq, oq + k, none⟩) (block_lt_of_cell (hqc k c' hc'))).trans (hqc k c' hc')
      obtain ⟨j, nd, rfl, hj, hnd, _, hhd, hsk⟩ := walk_idx hZ.out.1
      obtain ⟨b, off, rfl, _, hcc⟩ := HN.out (by intro h; rw [h] at hj; exact absurd hj (by simp))
      obtain ⟨qk, cap', hdok, hr, hki⟩ := hcc j nd hnd
      have hkl := HS.out.kids nd (List.mem_of_getElem? hnd)
      have c8 : W1.cell? ⟨b, off + j * 9 + 8, none⟩ = some (.slice qk nd.kids.length cap') := (hI1.below.cell (p := ⟨b, off + j * 9 + 8, none⟩) (block_lt_of_cell (hr 8 _ rfl))).trans (hr 8 _ rfl)
      have hkk := sitsL_len hsk
      have Hkk := Lib.hid hkk
      have Hsk := Lib.hid hsk
      have Hki := Lib.hid hki
      have Hc' := Lib.hid hc'
      clear hqc hcc hr hki hnd hdok hhd hsk hkk hc'
      by_cases h0 : c' < 0
      · go_wp2_with (first | (refine rinv_row rfl _ _ _ rfl (w.heap.size + 1) #[.slice none 0 0, .int .i64 0] #[.slice none 0 0, .int .i64 0] 24 rfl rfl (by simp [Value.oneCell']) szTree rfl hI1 (.inl (by omega)) (by simp) ?_; intro W3 hI3 hg3; clear c0 c1; obtain ⟨c0, c1⟩ := box_cells hI3 List.mem_cons_self))
        refine bodyPost_ret (v := .tuple #[arV none 0 0 0, .bool false]) (by simp [results, Tryd.results10, go_sem, c0, c1]) rfl ⟨?_, hI3.below⟩
        rw [getX_stop hZ.out.2 Hc'.out (by unfold kidX; rw [if_neg (by omega)])]
        exact rfl
      · by_cases h1 : (nd.kids.length : Int) ≤ c'
        · go_wp2_with (first | (refine rinv_row rfl _ _ _ rfl (w.heap.size + 1) #[.slice none 0 0, .int .i64 0] #[.slice none 0 0, .int .i64 0] 24 rfl rfl (by simp [Value.oneCell']) szTree rfl hI1 (.inl (by omega)) (by simp) ?_; intro W3 hI3 hg3; clear c0 c1; obtain ⟨c0, c1⟩ := box_cells hI3 List.mem_cons_self))
          refine bodyPost_ret (v := .tuple #[arV none 0 0 0, .bool false]) (by simp [results, Tryd.results10, go_sem, c0, c1]) rfl ⟨?_, hI3.below⟩
          rw [getX_stop hZ.out.2 Hc'.out (by unfold kidX; rw [if_pos (by omega)]; exact List.getElem?_eq_none (by rw [← Hkk.out]; omega))]
          exact rfl
        · obtain ⟨cn, rfl⟩ := Int.eq_ofNat_of_zero_le (show 0 ≤ c' by omega)
          have hcl : cn < z.kids.length := by rw [← Hkk.out]; omega
          obtain ⟨u, hu⟩ : ∃ u, z.kids[cn]? = some u := ⟨_, List.getElem?_eq_getElem hcl⟩
          obtain ⟨a, ha, hsa⟩ := sitsL_get Hsk.out hu
          obtain ⟨bk, ok, rfl, _, hkc⟩ := Hki.out (by intro h; rw [h] at ha; simp at ha)
          have hka := (hI1.below.cell (p := ⟨bk, ok + cn, none⟩) (block_lt_of_cell (hkc cn a ha))).trans (hkc cn a ha)
          have Hu := Lib.hid hu
          have Hsa := Lib.hid hsa
          clear hu ha hsa hkc hcl
          go_wp2
          go_round
          case rel =>
            refine ⟨k + 1, u, a, by omega, by go_num, rfl, Lib.hid ⟨Hsa.out, ?_⟩⟩
            obtain ⟨hk2, e2⟩ := List.getElem?_eq_some_iff.1 Hc'.out
            rw [List.take_succ_eq_append_getElem hk2, e2, getX_snoc _ hZ.out.2]
            unfold kidX
            rw [if_pos (by omega), Int.toNat_natCast]
            exact Hu.out
          case measure => simp [intOf]; omega
    · obtain rfl : k = pl.length := by omega
      have h2 := hZ.out.2
      rw [List.take_length] at h2
      have H2 := Lib.hid h2
      have Hs2 := Lib.hid hZ.out.1
      have hsz := hI1.size
      clear h2
      go_wp2_with (first | (go_at_call 28; refine (Hsub.out z i Hs2.out H2.out _ F (HN.out.below hI1.below)).mono ?_; rintro e W2 ⟨⟨v, rfl, p2, c2, rfl, hp2⟩, hb2⟩; have hI2 := hI1.call hb2; clear hb2 c0 c1) | (refine rinv_row rfl _ _ _ rfl (w.heap.size + 1) #[.slice none 0 0, .int .i64 0] #[.slice p2 (clean z).nodes.length c2, .int .i64 (clean z).root] 24 rfl rfl (by simp [Value.oneCell']) szTree rfl hI2 (.inl (by omega)) (by simp) ?_; intro W3 hI3 hg3; obtain ⟨c0, c1⟩ := box_cells hI3 List.mem_cons_self))
      rw [H2.out]
      exact bodyPost_ret (v := .tuple #[arV p2 (clean z).nodes.length c2 (clean z).root, .bool true]) (by simp [results, Tryd.results10, go_sem, c0, c1]) rfl ⟨⟨_, rfl, p2, c2, rfl, nodes_tree (hp2.mono fun b t ho => ho.mono hsz) hg3 (hI2.at List.mem_cons_self)⟩, hI3.below⟩
set_option maxHeartbeats 4000000 in
/-- bonsairef18.At, in one that is not. -/
theorem rat_bad (ns : List Nd) (root : Int) (p : Option Addr) (cap : Nat) (hS : Small ns) (hR : ¬ RightP ⟨ns, root⟩) (pl : List Int) (q : Option Addr) (c : Nat) (w : World) (F : Nat → TypeId → Prop) (hN : NodesAt w F p ns) :
    Calls Tryd.prog 10 #[arV p ns.length cap root, .slice q pl.length c] w fun e w' => GetsT w.heap.size w' e none ∧ Below w.heap.size w w' := by
  have HN := Lib.hid hN
  have HS := Lib.hid hS
  have HR := Lib.hid hR
  have hI := ((RInv.start noS w).alloc (arO p ns.length cap root)).alloc (arO none 0 0 0)
  rw [World.size_alloc] at hI
  clear hN hS hR
  go_enter Tryd.func10, Tryd.ntmps10
  go_wp2_with (first | (go_at_call 27; refine (rright_false ns root p cap HS.out _ F (HN.out.below hI.below) HR.out).mono ?_; rintro e W1 ⟨rfl, hb1⟩; have hI1 := hI.call hb1; clear hb1; obtain ⟨c0, c1⟩ := box_cells hI1 (List.mem_cons_of_mem _ List.mem_cons_self)) | (refine rinv_row rfl _ _ _ rfl (w.heap.size + 1) #[.slice none 0 0, .int .i64 0] #[.slice none 0 0, .int .i64 0] 24 rfl rfl (by simp [Value.oneCell']) szTree rfl hI1 (.inl (by omega)) (by simp) ?_; intro W3 hI3 hg3; clear c0 c1; obtain ⟨c0, c1⟩ := box_cells hI3 List.mem_cons_self))
  exact bodyPost_ret (v := .tuple #[arV none 0 0 0, .bool false]) (by simp [results, Tryd.results10, go_sem, c0, c1]) rfl ⟨rfl, hI3.below⟩
end Go.Proofs.YtcenjpaiehidjaaDoor

/- Contract of bonsairef18.put. -/
namespace Go.Proofs.YtcenjpaiehidjaaDoor
open Go.RowKit
set_option maxRecDepth 100000
attribute [local go_sem ↓] Go.wp_at_zero Go.wp_at_succ

/-- What bonsairef18.put gives: a tree that reads so, not normal yet, in what was told or in memory of its own. -/
def PutD (H : Nat → TypeId → Prop) (n : Nat) (y : Xp) (e : Ending) (w' : World) : Prop :=
  ∃ v T, e = .returned v ∧ TreeAt w' (fun b t => H b t ∨ Own n w' b t) v T ∧ Small T.nodes ∧ RightP T ∧ sits T.nodes y T.root
def Put18C (u : Xp) (us : List Nd) (ru : Int) (pl : List Int) : Prop := ∀ (ns : List Nd) (x z : Xp) (root : Int) (p : Option Addr) (cap : Nat), Small ns → RightP ⟨ns, root⟩ → sits ns x root → getX x pl = some z → x.size + u.size ≤ 99999 →
  ∀ (q : Option Addr) (c : Nat) (pu : Option Addr) (cu : Nat) (w : World) (F G H : Nat → TypeId → Prop), NodesAt w F p ns → IntsAt w G q pl → NodesAt w H pu us → (∀ b t, H b t → b < w.heap.size) → pl.length ≤ 100000 → pl.length ≤ c →
  Calls Tryd.prog 33 #[arV p ns.length cap root, .slice q pl.length c, arV pu us.length cu ru] w fun e w' => PutD H w.heap.size (setX x pl u) e w' ∧ Below w.heap.size w w'
/-- Lists of clean trees are small. -/
theorem clean_small {ks : List Xp} (h : sizeL ks ≤ 100000) : SmallT (ks.map clean) := small_clean h
theorem readL_set {ks : List Xp} {cn : Nat} {T : Ar} {a' : Xp} (hok : ∀ k ∈ ks, okX k = true) (hr : RightP T) (hs : sits T.nodes a' T.root) : ReadL ((ks.map clean).set cn T) (ks.set cn a') := by
  have h0 := readL_clean hok
  refine ⟨by simp, fun j T' hj => ?_⟩
  rw [List.getElem?_set] at hj
  by_cases hij : cn = j
  · subst hij
    rw [if_pos rfl] at hj
    split at hj
    · next hlt =>
      injection hj with hj
      subst hj
      rw [List.length_map] at hlt
      exact ⟨a', by rw [List.getElem?_set, if_pos rfl, if_pos hlt], hr, hs⟩
    · cases hj
  · rw [if_neg hij] at hj
    obtain ⟨y, h1, h2⟩ := h0.get j T' hj
    exact ⟨y, by rw [List.getElem?_set, if_neg hij]; exact h1, h2⟩
theorem smallT_set {ts : List Ar} {cn : Nat} {T : Ar} (h : SmallT ts) (hT : Small T.nodes) : SmallT (ts.set cn T) :=
  ⟨by rw [List.length_set]; exact h.len, fun T' hm => (List.mem_or_eq_of_mem_set hm).elim (h.each T') (fun e => by rw [e]; exact hT)⟩
set_option maxHeartbeats 4000000 in
theorem put18_nil (u : Xp) (us : List Nd) (ru : Int) (hSu : Small us) (hRu : RightP ⟨us, ru⟩) (hu : sits us u ru) : Put18C u us ru [] := by
  intro ns x z root p cap hS hR hx hg hz q c pu cu w F G H hN hQ hU hH hpl hpc
  have HU := Lib.hid hU
  have HH := Lib.hid hH
  have Hs := Lib.hid (And.intro hSu (And.intro hRu hu))
  have hI := (((RInv.start noS w).alloc (arO p ns.length cap root)).alloc (arO pu us.length cu ru)).alloc (arO none 0 0 0)
  rw [World.size_alloc, World.size_alloc] at hI
  clear hN hQ hU hS hR hx hg hSu hRu hu hH hpl hz
  go_enter Tryd.func33, Tryd.ntmps33
  go_wp2_with (first | (refine rinv_row rfl _ _ _ rfl (w.heap.size + 1 + 1) #[.slice none 0 0, .int .i64 0] #[.slice pu us.length cu, .int .i64 ru] 24 rfl rfl (by simp [Value.oneCell']) szTree rfl hI (.inl (by omega)) (by intro x hx; simp only [List.mem_cons, List.not_mem_nil, or_false] at hx; rcases hx with h | h <;> subst h <;> simp only <;> omega) ?_; intro W3 hI3 hg3; obtain ⟨c0, c1⟩ := box_cells hI3 List.mem_cons_self))
  refine bodyPost_ret (v := arV pu us.length cu ru) (by simp [results, Tryd.results33, go_sem, c0, c1]) rfl ⟨⟨_, ⟨us, ru⟩, rfl, ⟨pu, cu, rfl, HU.out.turn fun b t hb hlt => ⟨hI3.below.block b hlt, .inl hb⟩⟩, Hs.out.1, Hs.out.2.1, ?_⟩, hI3.below⟩
  rw [setX_nil]
  exact Hs.out.2.2
/-- The row of kids behind the store. -/
theorem put18_trees {w W2 W5 : World} {H : Nat → TypeId → Prop} {m cn g2 cap2 c5 : Nat} {ks : List Xp} {a' : Xp} {xs2 : List Value} {L L2 : List (Nat × Obj)} {T : Ar} {p5 : Option Addr} {n : Nat} (hx : TreesIn W2 (Own m W2) xs2 (ks.map clean)) (hb : Below W2.drew.heap.size W2.drew W5)
    (hI5 : RInv noS w L [⟨24, 2, .slice (some ⟨g2, 0, none⟩) n cap2, n, xs2⟩] W5) (hI2 : RInv noS w L2 [⟨24, 2, .slice (some ⟨g2, 0, none⟩) n cap2, n, xs2⟩] W2) (hH : ∀ b t, H b t → b < w.heap.size) (ht : NodesAt W5 (fun b t => H b t ∨ Own W2.drew.heap.size W5 b t) p5 T.nodes) (hcl : cn < (ks.map clean).length)
    (hn : n = ks.length) (hok : ∀ k ∈ ks, okX k = true) (hr : RightP T) (hs : sits T.nodes a' T.root) (hsm : SmallT (ks.map clean)) (hsT : Small T.nodes) (hwm : w.heap.size ≤ m) :
    ∃ qv cv, Value.slice (some ⟨g2, 0, none⟩) n cap2 = .slice qv ((ks.map clean).set cn T).length cv ∧ TreesAt ((W5.setCell ⟨g2, cn * 2, none⟩ (.slice p5 T.nodes.length c5)).setCell ⟨g2, cn * 2 + 1, none⟩ (.int .i64 T.root)) (fun _ _ => True) qv ((ks.map clean).set cn T) ∧ ((ks.map clean).set cn T).length = n := by
  have hlen : ((ks.map clean).set cn T).length = n := by rw [List.length_set, List.length_map, hn]
  have hg2 : w.heap.size ≤ g2 := (hI2.new _ List.mem_cons_self g2 rfl).elim id False.elim
  have hg2' : g2 < W2.heap.size := own_lt hI2 List.mem_cons_self rfl
  have hI6 := (hI5.stored (cn * 2) (.slice p5 T.nodes.length c5)).stored (cn * 2 + 1) (.int .i64 T.root)
  have h1 : TreesIn W5 (Own w.heap.size W5) xs2 (ks.map clean) := hx.turn fun b t ho hlt => by
    have hk : W5.heap[b]? = W2.heap[b]? := hb.block b hlt
    obtain ⟨ha, cur, hcur⟩ := ho
    exact ⟨hk, Nat.le_trans hwm ha, cur, hk.trans hcur⟩
  have h2 := (h1.other (grown_setCell W5 g2 (cn * 2) (.slice p5 T.nodes.length c5)) (row_tree hI5.own1)).other (grown_setCell _ g2 (cn * 2 + 1) (.int .i64 T.root)) (row_tree (hI5.stored (cn * 2) (.slice p5 T.nodes.length c5)).own1)
  have hq : NodesAt ((W5.setCell ⟨g2, cn * 2, none⟩ (.slice p5 T.nodes.length c5)).setCell ⟨g2, cn * 2 + 1, none⟩ (.int .i64 T.root)) (fun _ _ => True) p5 T.nodes := ht.turn fun b t hb' hlt => by
    have hne : b ≠ g2 := by
      rcases hb' with hb' | hb'
      · have := hH b t hb'; omega
      · have h3 := hb'.1
        have h4 : W2.drew.heap.size = W2.heap.size := rfl
        omega
    exact ⟨((grown_setCell _ g2 (cn * 2 + 1) (.int .i64 T.root)).block b (by rw [heap_size_set]; exact hlt) (fun e => hne (by injection e))).trans ((grown_setCell W5 g2 (cn * 2) (.slice p5 T.nodes.length c5)).block b hlt (fun e => hne (by injection e))), trivial⟩
  have h3 := (h2.turn (F' := fun _ _ => True) fun b t _ _ => ⟨rfl, trivial⟩).set (j := cn) (T := T) (c := c5) hq
  obtain ⟨qv, cv, e, h4⟩ := h3.atF (F' := fun _ _ => True) (by rw [hlen]; exact hI6.own1) (fun _ _ => trivial) (fun _ _ _ _ => trivial)
  exact ⟨qv, cv, e, h4, hlen⟩
set_option maxHeartbeats 8000000 in
theorem put18_cons (u : Xp) (us : List Nd) (ru : Int) (k : Int) (pl : List Int) (hu0 : okX u = true) (ih : Put18C u us ru pl) : Put18C u us ru (k :: pl) := by
  intro ns x z root p cap hS hR hx hg hz q c pu cu w F G H hN hQ hU hH hpl hpc
  rw [getX_cons] at hg
  obtain ⟨a, hka, hga⟩ : ∃ a, kidX x.kids k = some a ∧ getX a pl = some z := by
    cases e : kidX x.kids k with
    | none => rw [e] at hg; cases hg
    | some a => rw [e] at hg; exact ⟨a, rfl, hg⟩
  have hk0 : 0 ≤ k := by unfold kidX at hka; split at hka; assumption; cases hka
  obtain ⟨cn, rfl⟩ := Int.eq_ofNat_of_zero_le hk0
  have hca : x.kids[cn]? = some a := by unfold kidX at hka; rw [if_pos hk0] at hka; simpa using hka
  have hcl : cn < x.kids.length := (List.getElem?_eq_some_iff.1 hca).1
  have hok := ok_of_fits hR.fits x hx
  have hka2 := ok_kids hok a (List.mem_of_getElem? hca)
  have hks := kids_size x
  have hkl := sizeL_le_len x.kids
  have hasz := size_le_of_mem (List.mem_of_getElem? hca)
  have hxz : x.size ≤ 100000 := by omega
  obtain ⟨bq, oq, rfl, _, hqc⟩ := hQ (by simp)
  have hq0 := hqc 0 cn rfl
  rw [Nat.add_zero] at hq0
  have hih := ih (clean a).nodes a z (clean a).root
  have Hih := Lib.hid (fun qd cd q c pu cu w F G H => hih qd cd (small_one (by omega)) (clean_right hka2) (sits_clean a) hga (by omega) q c pu cu w F G H)
  have HN := Lib.hid hN
  have HU := Lib.hid hU
  have HH := Lib.hid hH
  have HS := Lib.hid hS
  have HR := Lib.hid hR
  have Hx := Lib.hid hx
  have Hqc := Lib.hid hqc
  have Hca := Lib.hid hca
  have Hq0 := Lib.hid hq0
  have hI := (((RInv.start noS w).alloc (arO p ns.length cap root)).alloc (arO pu us.length cu ru)).alloc (arO none 0 0 0)
  rw [World.size_alloc, World.size_alloc] at hI
  rw [List.length_cons] at hpl hpc
  rw [List.length_cons]
  have hbq : bq < w.heap.size := block_lt_of_cell hq0
  have hkl2 : x.kids.length ≤ 99999 := by omega
  have hset := setX_ok hu0 hok (show getX x ((cn : Int) :: pl) = some z by rw [getX_cons, hka]; exact hga)
  have hsa := setX_ok hu0 hka2 hga
  have hset2 := setX_cons u hka (p := pl)
  rw [Int.toNat_natCast] at hset2
  have Hset := Lib.hid hset
  have Hset2 := Lib.hid hset2
  have Hsz : Hid (sizeL (x.kids.set cn (setX a pl u)) ≤ 99999) := Lib.hid (by
    have h1 := hset.2
    rw [hset2, Xp.size_node] at h1
    omega)
  have Hdk := Lib.hid (hd_ok hN hx)
  have Hfit := Lib.hid (ok_fits hok)
  have Hokk := Lib.hid (ok_kids hok)
  have Hksz := Lib.hid (show sizeL x.kids ≤ 100000 by omega)
  clear hN hQ hU hS hR hx hg hH hqc hca hka hga hih hok hka2 hks hkl hasz ih hq0 hset hsa hset2
  go_enter Tryd.func33, Tryd.ntmps33
  go_wp2_with (first | (go_at_call 53; refine (rkids_yes ns x root p cap HS.out HR.out Hx.out hxz _ F (HN.out.below hI.below)).mono ?_; rintro e W2 ⟨v2, xs2, rfl, ho2, hx2, hb2⟩; obtain ⟨g2, cap2', cur2, rfl, _⟩ := row_form ho2 (by omega); have hI2 := hI.got hb2 ho2))
  have hck2 := (hI2.below.cell (p := ⟨bq, oq, none⟩) hbq).trans Hq0.out
  obtain ⟨u0, u1⟩ := box_cells hI2 (List.mem_cons_of_mem _ List.mem_cons_self)
  obtain ⟨qd, cd, e1, e2, hdn⟩ := hx2.get cn (clean a) (by rw [List.getElem?_map, Hca.out]; rfl)
  have k0 := row_cell hI2.own1 rfl e1
  have k1 := row_cell hI2.own1 rfl e2
  have hc0 : (0 : Int) ≤ (cn : Int) := by omega
  have hc1 : (cn : Int) < (x.kids.length : Int) := by omega
  have HI2 := Lib.hid hI2
  have Hx2 := Lib.hid hx2
  have Hdn := Lib.hid hdn
  have He1 := Lib.hid e1
  have He2 := Lib.hid e2
  clear ho2 hx2 hb2 hI2 e1 e2 hdn hI
  have hQa : Hid (IntsAt W2.drew (fun _ _ => True) (if c = 1 then some ⟨bq, oq, none⟩ else some ⟨bq, oq + 1, none⟩) pl) := Lib.hid (fun hne => ⟨bq, oq + 1, by rw [if_neg]; intro h1; exact hne (List.eq_nil_of_length_eq_zero (by omega)), trivial, fun j v hj => by
    have h1 := Hqc.out (j + 1) v (by simpa using hj)
    have h2 := (HI2.out.below.cell (p := ⟨bq, oq + (j + 1), none⟩) hbq).trans h1
    rw [show oq + 1 + j = oq + (j + 1) by omega]
    exact h2⟩)
  have hUa := Lib.hid (HU.out.below HI2.out.drew.below)
  have hHa : Hid (∀ b t, H b t → b < W2.drew.heap.size) := Lib.hid (fun b t h => Nat.lt_of_lt_of_le (HH.out b t h) HI2.out.drew.size)
  have hdA := Lib.hid (Hdn.out.turn (W' := W2.drew) (F' := Own w.heap.size W2.drew) fun b t ho _ => ⟨rfl, by have := HI2.out.size; obtain ⟨ha, cur, hcur⟩ := ho; exact ⟨by simp only [World.size_alloc] at ha; omega, cur, hcur⟩⟩)
  have hpl2 : pl.length ≤ 100000 := by omega
  have hpc2 : pl.length ≤ c - 1 := by omega
  have hpc3 : (1 : Int) ≤ (pl.length : Int) + 1 := by omega
  have hpc4 : pl.length + 1 ≤ c := hpc
  go_region_law (first | (go_simp; go_at_call 33; refine (Hih.out qd cd _ (c - 1) pu cu _ _ (fun _ _ => True) H hdA.out hQa.out hUa.out hHa.out hpl2 hpc2).mono ?_; rintro e W5 ⟨⟨v5, T, rfl, ⟨p5, c5, rfl, ht5⟩, hsT, hrT, hsitT⟩, hb5⟩; have hI5 := HI2.out.drew.call hb5; have hck5 := (hI5.below.cell (p := ⟨bq, oq, none⟩) hbq).trans Hq0.out; have k5 := row_cell hI5.own1 rfl He1.out; have k6 := row_cell hI5.own1 rfl He2.out; have f0 : W5.frozen? ⟨g2, cn * 2, none⟩ = false := hI5.own1.frozenAt _; have f1 : W5.frozen? ⟨g2, cn * 2 + 1, none⟩ = false := hI5.own1.frozenAt _))
  all_goals
    obtain ⟨qv, cv, hqv, hts, hlen⟩ := put18_trees (W5 := W5) Hx2.out hb5 hI5 HI2.out HH.out ht5 (by rw [List.length_map]; exact hcl) (a' := setX a pl u) (ks := x.kids) rfl Hokk.out hrT hsitT (clean_small Hksz.out) hsT (by simp only [World.size_alloc]; omega)
    rw [hlen] at hqv
    injection hqv with hqv1 _ hqv3
    subst hqv1 hqv3
    have Hts : Hid (TreesAt ((W5.setCell ⟨g2, cn * 2, none⟩ (.slice p5 T.nodes.length c5)).setCell ⟨g2, cn * 2 + 1, none⟩ (.int .i64 T.root)) (fun _ _ => True) (some ⟨g2, 0, none⟩) ((x.kids.map clean).set cn T)) := Lib.hid hts
    have HI6 := Lib.hid (((hI5.stored (cn * 2) (.slice p5 T.nodes.length c5)).stored (cn * 2 + 1) (.int .i64 T.root)).subR (List.nil_sublist _))
    have HST := Lib.hid (smallT_set (cn := cn) (clean_small Hksz.out) hsT)
    have HRL := Lib.hid (readL_set (cn := cn) Hokk.out hrT hsitT)
    have Hlen : Hid (((x.kids.map clean).set cn T).length = x.kids.length) := Lib.hid hlen
    obtain ⟨t0, t1⟩ := box_cells HI6.out (List.mem_cons_of_mem _ (List.mem_cons_of_mem _ List.mem_cons_self))
    clear hts k5 k6 f0 f1 hck5 hI5 ht5 hsT hrT hsitT hb5 hlen k0 k1 u0 u1 hck2
    have Hof := Lib.hid (fun W F hN => rof_yes x.hd Hdk.out none 0 0 (x.kids.set cn (setX a pl u)) ((x.kids.map clean).set cn T) (some ⟨g2, 0, none⟩) cap2' HST.out HRL.out (by rw [Hlen.out]; exact Hfit.out) Hsz.out W F hN)
    have Hof2 := Hof.out
    rw [Hlen.out] at Hof2
    rw [← Hset2.out] at Hof2
    replace Hof2 := Lib.hid Hof2
    clear Hof
    obtain ⟨r, hr⟩ : ∃ r, r = setX x ((cn : Int) :: pl) u := ⟨_, rfl⟩
    rw [← hr] at Hof2
    have Hr := Lib.hid hr
    clear hr
    go_wp2_with (first | (go_at_call 55; refine (rroot_yes ns x root p cap HS.out HR.out Hx.out _ F (HN.out.below HI6.out.below)).mono ?_; rintro e W7 ⟨rfl, hb7⟩; have hI7 := HI6.out.call hb7) | (go_at_call 45; refine (Hof2.out _ (fun _ _ => True) (Hts.out.below hb7)).mono ?_; rintro e W8 ⟨⟨v8, rfl, p8, c8, rfl, hp8⟩, hb8⟩; have hI8 := (hI7.call hb8).alloc (arO p8 (clean r).nodes.length c8 (clean r).root); obtain ⟨s0, s1⟩ := box_cells hI8 List.mem_cons_self) | (refine rinv_row rfl _ _ _ rfl (w.heap.size + 1 + 1) #[.slice none 0 0, .int .i64 0] #[.slice p8 (clean r).nodes.length c8, .int .i64 (clean r).root] 24 rfl rfl (by simp [Value.oneCell']) szTree rfl (hI8.subL (L' := [(w.heap.size + 1 + 1, arO none 0 0 0)]) (by simp)) (.inl (by omega)) (by simp) ?_; intro W9 hI9 hg9; obtain ⟨c0, c1⟩ := box_cells hI9 List.mem_cons_self))
    all_goals
      have hlt9 : w.heap.size + 1 + 1 < W7.heap.size := lt_of_heap (hI7.at (g := w.heap.size + 1 + 1) List.mem_cons_self)
      have hq9 := hp8.turn (W' := W8.alloc (arO p8 (clean r).nodes.length c8 (clean r).root)) (F' := Own (w.heap.size + 1 + 1 + 1) (W8.alloc (arO p8 (clean r).nodes.length c8 (clean r).root))) fun b t ho hlt => ⟨((Below.refl _ _).alloc (Nat.le_refl _) (arO p8 (clean r).nodes.length c8 (clean r).root)).block b hlt, (ho.mono (by omega)).below ((Below.refl _ _).alloc (Nat.le_refl _) _) hlt⟩
      have hset := Hset.out
      rw [← Hr.out] at hset
      rw [← Hr.out]
      exact bodyPost_ret (v := arV p8 (clean r).nodes.length c8 (clean r).root) (by simp [results, Tryd.results33, go_sem, c0, c1]) rfl ⟨⟨_, clean r, rfl, ⟨p8, c8, rfl, (hq9.turn (own_low (m := w.heap.size) hg9 (by omega) (by omega))).mono fun b t ho => .inr ho⟩, small_one (by omega), clean_right hset.1, sits_clean r⟩, hI9.below⟩
/-- bonsairef18.put, at a path that there is. -/
theorem put18_any (u : Xp) (us : List Nd) (ru : Int) (hSu : Small us) (hRu : RightP ⟨us, ru⟩) (hu : sits us u ru) (pl : List Int) : Put18C u us ru pl := by
  induction pl with
  | nil => exact put18_nil u us ru hSu hRu hu
  | cons k pl ih => exact put18_cons u us ru k pl (ok_of_fits hRu.fits u hu) ih
end Go.Proofs.YtcenjpaiehidjaaDoor

/- Contract of bonsairef18.Put. -/
namespace Go.Proofs.YtcenjpaiehidjaaDoor
open Go.RowKit
set_option maxRecDepth 100000

set_option maxHeartbeats 4000000 in
/-- bonsairef18.Put, where bonsairef18.At says no. -/
theorem rput_none_at (ns : List Nd) (root : Int) (p : Option Addr) (cap : Nat) (pl : List Int) (q : Option Addr) (c : Nat) (us : List Nd) (ru : Int) (pu : Option Addr) (cu : Nat) (hSu : Small us) (w : World) (F G H : Nat → TypeId → Prop) (hN : NodesAt w F p ns) (hQ : IntsAt w G q pl) (hU : NodesAt w H pu us) (hH : ∀ b t, H b t → b < w.heap.size)
    (hat : ∀ W, NodesAt W F p ns → IntsAt W G q pl → Calls Tryd.prog 10 #[arV p ns.length cap root, .slice q pl.length c] W fun e w' => GetsT W.heap.size w' e none ∧ Below W.heap.size W w') :
    Calls Tryd.prog 12 #[arV p ns.length cap root, .slice q pl.length c, arV pu us.length cu ru] w fun e w' => GetsT w.heap.size w' e none ∧ Below w.heap.size w w' := by
  have HN := Lib.hid hN
  have HU := Lib.hid hU
  have HQ := Lib.hid hQ
  have HH := Lib.hid hH
  have HSu := Lib.hid hSu
  have hI := (((RInv.start noS w).alloc (arO p ns.length cap root)).alloc (arO pu us.length cu ru)).alloc (arO none 0 0 0)
  rw [World.size_alloc, World.size_alloc] at hI
  have Hat := Lib.hid hat
  clear hN hU hQ hH hSu hat
  go_enter Tryd.func12, Tryd.ntmps12
  go_wp2_with (first | (go_at_call 10; refine (Hat.out _ (HN.out.below hI.below) (HQ.out.below hI.below)).mono ?_; rintro e W1 ⟨rfl, hb1⟩; have hI1 := (hI.call hb1).alloc (arO none 0 0 0)) | (refine rinv_row rfl _ _ _ rfl (w.heap.size + 1 + 1) #[.slice none 0 0, .int .i64 0] #[.slice none 0 0, .int .i64 0] 24 rfl rfl (by simp [Value.oneCell']) szTree rfl (hI1.subL (L' := [(w.heap.size + 1 + 1, arO none 0 0 0)]) (by simp)) (.inl (by omega)) (by simp) ?_; intro W3 hI3 hg3; obtain ⟨c0, c1⟩ := box_cells hI3 List.mem_cons_self))
  exact bodyPost_ret (v := .tuple #[arV none 0 0 0, .bool false]) (by simp [results, Tryd.results12, go_sem, c0, c1]) rfl ⟨rfl, hI3.below⟩
set_option maxHeartbeats 4000000 in
/-- bonsairef18.Put, of what is not right. -/
theorem rput_none_right (ns : List Nd) (x z : Xp) (root : Int) (hS : Small ns) (hR : RightP ⟨ns, root⟩) (hx : sits ns x root) (hz : x.size ≤ 100000) (p : Option Addr) (cap : Nat) (pl : List Int) (q : Option Addr) (c : Nat) (us : List Nd) (ru : Int) (pu : Option Addr) (cu : Nat) (hSu : Small us) (w : World) (F G H : Nat → TypeId → Prop) (hN : NodesAt w F p ns) (hQ : IntsAt w G q pl) (hU : NodesAt w H pu us) (hH : ∀ b t, H b t → b < w.heap.size) (hg : getX x pl = some z) (hpl : pl.length ≤ 100000) (hRu : ¬ RightP ⟨us, ru⟩) :
    Calls Tryd.prog 12 #[arV p ns.length cap root, .slice q pl.length c, arV pu us.length cu ru] w fun e w' => GetsT w.heap.size w' e none ∧ Below w.heap.size w w' := by
  have HN := Lib.hid hN
  have HU := Lib.hid hU
  have HQ := Lib.hid hQ
  have HH := Lib.hid hH
  have HSu := Lib.hid hSu
  have hI := (((RInv.start noS w).alloc (arO p ns.length cap root)).alloc (arO pu us.length cu ru)).alloc (arO none 0 0 0)
  rw [World.size_alloc, World.size_alloc] at hI
  have hat := fun W hN hQ => rat_any ns x root p cap hS hR hx hz pl hpl q c W F G hN hQ
  rw [hg] at hat
  have Hat := Lib.hid hat
  have HRu := Lib.hid hRu
  clear hN hU hQ hH hSu hat hRu hS hR hx hg
  go_enter Tryd.func12, Tryd.ntmps12
  go_wp2_with (first | (go_at_call 10; refine (Hat.out _ (HN.out.below hI.below) (HQ.out.below hI.below)).mono ?_; rintro e W1 ⟨⟨v1, rfl, p1, c1, rfl, hp1⟩, hb1⟩; have hI1 := (hI.call hb1).alloc (arO p1 (clean z).nodes.length c1 (clean z).root); obtain ⟨u0, u1⟩ := box_cells hI1 (List.mem_cons_of_mem _ (List.mem_cons_of_mem _ List.mem_cons_self))) | (go_at_call 27; refine (rright_false us ru pu cu HSu.out _ H (HU.out.below hI1.below) HRu.out).mono ?_; rintro e W2 ⟨rfl, hb2⟩; have hI2 := hI1.call hb2) | (refine rinv_row rfl _ _ _ rfl (w.heap.size + 1 + 1) #[.slice none 0 0, .int .i64 0] #[.slice none 0 0, .int .i64 0] 24 rfl rfl (by simp [Value.oneCell']) szTree rfl (hI2.subL (L' := [(w.heap.size + 1 + 1, arO none 0 0 0)]) (by simp)) (.inl (by omega)) (by simp) ?_; intro W3 hI3 hg3; obtain ⟨c0, c1⟩ := box_cells hI3 List.mem_cons_self))
  exact bodyPost_ret (v := .tuple #[arV none 0 0 0, .bool false]) (by simp [results, Tryd.results12, go_sem, c0, c1]) rfl ⟨rfl, hI3.below⟩
set_option maxHeartbeats 4000000 in
/-- bonsairef18.Put, at a path that there is. -/
theorem rput_yes (ns : List Nd) (x z u : Xp) (root : Int) (hS : Small ns) (hR : RightP ⟨ns, root⟩) (hx : sits ns x root) (hz : x.size + u.size ≤ 99999) (p : Option Addr) (cap : Nat) (pl : List Int) (q : Option Addr) (c : Nat) (us : List Nd) (ru : Int) (pu : Option Addr) (cu : Nat) (hSu : Small us) (w : World) (F G H : Nat → TypeId → Prop) (hN : NodesAt w F p ns) (hQ : IntsAt w G q pl) (hU : NodesAt w H pu us) (hH : ∀ b t, H b t → b < w.heap.size) (hg : getX x pl = some z) (hpl : pl.length ≤ 100000) (hpc : pl.length ≤ c) (hRu : RightP ⟨us, ru⟩) (hu : sits us u ru) :
    Calls Tryd.prog 12 #[arV p ns.length cap root, .slice q pl.length c, arV pu us.length cu ru] w fun e w' => GetsT w.heap.size w' e (some (norm (setX x pl u))) ∧ Below w.heap.size w w' := by
  have HN := Lib.hid hN
  have HU := Lib.hid hU
  have HQ := Lib.hid hQ
  have HH := Lib.hid hH
  have HSu := Lib.hid hSu
  have hI := (((RInv.start noS w).alloc (arO p ns.length cap root)).alloc (arO pu us.length cu ru)).alloc (arO none 0 0 0)
  rw [World.size_alloc, World.size_alloc] at hI
  have hat := fun W hN hQ => rat_any ns x root p cap hS hR hx (by omega) pl hpl q c W F G hN hQ
  rw [hg] at hat
  have Hat := Lib.hid hat
  have HRu := Lib.hid hRu
  have Hput := Lib.hid (fun w F G H => put18_any u us ru hSu hRu hu pl ns x z root p cap hS hR hx hg hz q c pu cu w F G H)
  have hset := setX_ok (ok_of_fits hRu.fits u hu) (ok_of_fits hR.fits x hx) hg
  have hsz : (setX x pl u).size ≤ 100000 := by omega
  obtain ⟨y, hy⟩ : ∃ y, y = setX x pl u := ⟨_, rfl⟩
  rw [← hy] at hsz Hput
  rw [← hy]
  obtain ⟨r, hr⟩ : ∃ r, r = norm y := ⟨_, rfl⟩
  rw [← hr]
  have Hmk := Lib.hid (fun ns root p cap hS hR hx w F hN => rmake_yes ns y root p cap hS hR hx hsz w F hN)
  rw [← hr] at Hmk
  clear hN hU hQ hH hSu hat hRu hS hR hx hg hset hy hr hu
  go_enter Tryd.func12, Tryd.ntmps12
  go_wp2_with (first | (go_at_call 10; refine (Hat.out _ (HN.out.below hI.below) (HQ.out.below hI.below)).mono ?_; rintro e W1 ⟨⟨v1, rfl, p1, c1, rfl, hp1⟩, hb1⟩; have hI1 := (hI.call hb1).alloc (arO p1 (clean z).nodes.length c1 (clean z).root); obtain ⟨u0, u1⟩ := box_cells hI1 (List.mem_cons_of_mem _ (List.mem_cons_of_mem _ List.mem_cons_self))) | (go_at_call 27; refine (rright_true us ru pu cu HSu.out _ H (HU.out.below hI1.below) HRu.out).mono ?_; rintro e W2 ⟨rfl, hb2⟩; have hI2 := hI1.call hb2; obtain ⟨t0, t1⟩ := box_cells hI2 (List.mem_cons_of_mem _ (List.mem_cons_of_mem _ List.mem_cons_self)); obtain ⟨t2, t3⟩ := box_cells hI2 (List.mem_cons_of_mem _ (List.mem_cons_of_mem _ (List.mem_cons_of_mem _ List.mem_cons_self)))) | (go_at_call 33; refine (Hput.out _ F G H (HN.out.below hI2.below) (HQ.out.below hI2.below) (HU.out.below hI2.below) (fun b t h => Nat.lt_of_lt_of_le (HH.out b t h) hI2.size) hpl hpc).mono ?_; rintro e W4 ⟨⟨v4, T, rfl, ⟨p4, c4, rfl, ht4⟩, hsT, hrT, hsitT⟩, hb4⟩; have hI4 := hI2.call hb4) | (go_at_call 32; refine (Hmk.out T.nodes T.root p4 c4 hsT hrT hsitT _ _ ht4).mono ?_; rintro e W5 ⟨⟨v5, rfl, p5, c5, rfl, hp5⟩, hb5⟩; have hI5 := hI4.call hb5) | (refine rinv_row rfl _ _ _ rfl (w.heap.size + 1 + 1) #[.slice none 0 0, .int .i64 0] #[.slice p5 (clean r).nodes.length c5, .int .i64 (clean r).root] 24 rfl rfl (by simp [Value.oneCell']) szTree rfl (hI5.subL (L' := [(w.heap.size + 1 + 1, arO none 0 0 0)]) (by simp)) (.inl (by omega)) (by simp) ?_; intro W3 hI3 hg3; obtain ⟨c0, c1⟩ := box_cells hI3 List.mem_cons_self))
  have hlt9 : w.heap.size + 1 + 1 < W4.heap.size := lt_of_heap (hI4.at (g := w.heap.size + 1 + 1) (List.mem_cons_of_mem _ List.mem_cons_self))
  exact bodyPost_ret (v := .tuple #[arV p5 (clean r).nodes.length c5 (clean r).root, .bool true]) (by simp [results, Tryd.results12, go_sem, c0, c1]) rfl ⟨⟨_, rfl, p5, c5, rfl, hp5.turn (own_low hg3 (by omega) (by omega))⟩, hI3.below⟩
end Go.Proofs.YtcenjpaiehidjaaDoor

/- Contract of bonsairef04.Exact, of arenas that are the same. -/
namespace Go.Proofs.YtcenjpaiehidjaaDoor
open Go.RowKit
set_option maxRecDepth 100000
attribute [local go_sem ↓] Go.wp_at_zero Go.wp_at_succ

set_option maxHeartbeats 8000000 in
theorem rexact_same (ns : List Nd) (root : Int) (hS : Small ns) (p : Option Addr) (cap : Nat) (p' : Option Addr) (cap' : Nat) (w : World) (F G : Nat → TypeId → Prop) (hN : NodesAt w F p ns) (hM : NodesAt w G p' ns) :
    Calls Tryd.prog 13 #[arV p ns.length cap root, arV p' ns.length cap' root] w fun e w' => e = .returned (.bool true) ∧ Below w.heap.size w w' := by
  have hl := hS.len
  have HN := Lib.hid hN
  have HM := Lib.hid hM
  have HS := Lib.hid hS
  have hI := ((RInv.start noS w).alloc (arO p ns.length cap root)).alloc (arO p' ns.length cap' root)
  rw [World.size_alloc] at hI
  have HI0 := Lib.hid hI
  clear hN hM hS hI
  go_enter Tryd.func13, Tryd.ntmps13
  go_wp2
  go_loopw [5] (fun iv wr => ∃ k : Nat, k ≤ ns.length ∧ iv = .int .i64 k ∧ RInv noS w [(w.heap.size + 1, arO p' ns.length cap' root), (w.heap.size, arO p ns.length cap root)] [] wr) (fun iv _ => ns.length - (intOf iv).toNat)
  case atStart => exact ⟨0, by omega, rfl, HI0.out⟩
  case round =>
    clear HI0
    obtain ⟨wo, rfl⟩ : ∃ wo : World, wo = wr := ⟨_, rfl⟩
    obtain ⟨k, hk, rfl, hI⟩ := hrel
    obtain ⟨a0, a1⟩ := box_cells hI (List.mem_cons_of_mem _ List.mem_cons_self)
    obtain ⟨b0, b1⟩ := box_cells hI List.mem_cons_self
    by_cases hlt : k < ns.length
    · obtain ⟨nd, hnd⟩ : ∃ nd, ns[k]? = some nd := ⟨_, List.getElem?_eq_getElem hlt⟩
      have hne : ns ≠ [] := by intro h; rw [h] at hlt; exact absurd hlt (by simp)
      obtain ⟨b, o, rfl, _, hcc⟩ := HN.out hne
      obtain ⟨b', o', rfl, _, hcc'⟩ := HM.out hne
      obtain ⟨q, c, hd, hr, hki⟩ := hcc k nd hnd
      obtain ⟨q', c', _, hr', hki'⟩ := hcc' k nd hnd
      have hkl := HS.out.kids nd (List.mem_of_getElem? hnd)
      have Hr := rangeAt_keep hr (hI.below.block b (block_lt_of_cell (hr 0 _ rfl)))
      have Hr' := rangeAt_keep hr' (hI.below.block b' (block_lt_of_cell (hr' 0 _ rfl)))
      have r0 := Hr 0 _ rfl
      have r1 := Hr 1 _ rfl
      have r2 := Hr 2 _ rfl
      have r3 := Hr 3 _ rfl
      have r4 := Hr 4 _ rfl
      have r5 := Hr 5 _ rfl
      have r6 := Hr 6 _ rfl
      have r7 := Hr 7 _ rfl
      have r8 := Hr 8 _ rfl
      have s0 := Hr' 0 _ rfl
      have s1 := Hr' 1 _ rfl
      have s2 := Hr' 2 _ rfl
      have s3 := Hr' 3 _ rfl
      have s4 := Hr' 4 _ rfl
      have s5 := Hr' 5 _ rfl
      have s6 := Hr' 6 _ rfl
      have s7 := Hr' 7 _ rfl
      have s8 := Hr' 8 _ rfl
      have HI := Lib.hid hI
      have Hki := Lib.hid hki
      have Hki' := Lib.hid hki'
      have m0 := World.new_ne wo _ a0
      have m1 := World.new_ne wo _ b0
      have m2 := World.new_ne wo _ r0
      have m3 := World.new_ne wo _ s0
      clear hcc hcc' hr hr' hki hki' hnd Hr Hr' hI hne
      go_wp2
      go_region_held_law (fun w' => w'.cell? ⟨w.heap.size, 0, none⟩ = some (.slice (some ⟨b, o, none⟩) ns.length cap) ∧ w'.cell? ⟨w.heap.size + 1, 0, none⟩ = some (.slice (some ⟨b', o', none⟩) ns.length cap') ∧
        w'.cell? ⟨b, o + k * 9, none⟩ = some (.int .u8 nd.hd.kind) ∧ w'.cell? ⟨b, o + k * 9 + 1, none⟩ = some (.int .u64 (w64 nd.hd.set 0)) ∧ w'.cell? ⟨b, o + k * 9 + 2, none⟩ = some (.int .u64 (w64 nd.hd.set 1)) ∧ w'.cell? ⟨b, o + k * 9 + 3, none⟩ = some (.int .u64 (w64 nd.hd.set 2)) ∧ w'.cell? ⟨b, o + k * 9 + 4, none⟩ = some (.int .u64 (w64 nd.hd.set 3)) ∧ w'.cell? ⟨b, o + k * 9 + 5, none⟩ = some (.string (strOf nd.hd.text)) ∧ w'.cell? ⟨b, o + k * 9 + 6, none⟩ = some (.int .i64 nd.hd.lo) ∧ w'.cell? ⟨b, o + k * 9 + 7, none⟩ = some (.int .i64 nd.hd.hi) ∧ w'.cell? ⟨b, o + k * 9 + 8, none⟩ = some (.slice q nd.kids.length c) ∧
        w'.cell? ⟨b', o' + k * 9, none⟩ = some (.int .u8 nd.hd.kind) ∧ w'.cell? ⟨b', o' + k * 9 + 1, none⟩ = some (.int .u64 (w64 nd.hd.set 0)) ∧ w'.cell? ⟨b', o' + k * 9 + 2, none⟩ = some (.int .u64 (w64 nd.hd.set 1)) ∧ w'.cell? ⟨b', o' + k * 9 + 3, none⟩ = some (.int .u64 (w64 nd.hd.set 2)) ∧ w'.cell? ⟨b', o' + k * 9 + 4, none⟩ = some (.int .u64 (w64 nd.hd.set 3)) ∧ w'.cell? ⟨b', o' + k * 9 + 5, none⟩ = some (.string (strOf nd.hd.text)) ∧ w'.cell? ⟨b', o' + k * 9 + 6, none⟩ = some (.int .i64 nd.hd.lo) ∧ w'.cell? ⟨b', o' + k * 9 + 7, none⟩ = some (.int .i64 nd.hd.hi) ∧ w'.cell? ⟨b', o' + k * 9 + 8, none⟩ = some (.slice q' nd.kids.length c'))
        (first | exact ⟨a0, b0, r0, r1, r2, r3, r4, r5, r6, r7, r8, s0, s1, s2, s3, s4, s5, s6, s7, s8⟩ | exact ⟨cell_alloc_keep a0, cell_alloc_keep b0, cell_alloc_keep r0, cell_alloc_keep r1, cell_alloc_keep r2, cell_alloc_keep r3, cell_alloc_keep r4, cell_alloc_keep r5, cell_alloc_keep r6, cell_alloc_keep r7, cell_alloc_keep r8, cell_alloc_keep s0, cell_alloc_keep s1, cell_alloc_keep s2, cell_alloc_keep s3, cell_alloc_keep s4, cell_alloc_keep s5, cell_alloc_keep s6, cell_alloc_keep s7, cell_alloc_keep s8⟩ | exact ⟨cell_alloc_keep (cell_alloc_keep a0), cell_alloc_keep (cell_alloc_keep b0), cell_alloc_keep (cell_alloc_keep r0), cell_alloc_keep (cell_alloc_keep r1), cell_alloc_keep (cell_alloc_keep r2), cell_alloc_keep (cell_alloc_keep r3), cell_alloc_keep (cell_alloc_keep r4), cell_alloc_keep (cell_alloc_keep r5), cell_alloc_keep (cell_alloc_keep r6), cell_alloc_keep (cell_alloc_keep r7), cell_alloc_keep (cell_alloc_keep r8), cell_alloc_keep (cell_alloc_keep s0), cell_alloc_keep (cell_alloc_keep s1), cell_alloc_keep (cell_alloc_keep s2), cell_alloc_keep (cell_alloc_keep s3), cell_alloc_keep (cell_alloc_keep s4), cell_alloc_keep (cell_alloc_keep s5), cell_alloc_keep (cell_alloc_keep s6), cell_alloc_keep (cell_alloc_keep s7), cell_alloc_keep (cell_alloc_keep s8)⟩ | go_keep) (fail)
      · have hI2 := ((HI.out.alloc (ndO nd.hd q nd.kids.length c)).alloc (ndO nd.hd q' nd.kids.length c')).drew
        rw [World.size_alloc] at hI2
        have HI2 := Lib.hid hI2
        obtain ⟨x0, x1, x2, x3, x4, x5, x6, x7, x8⟩ := nd_cells (g := wo.heap.size) hI2 (List.mem_cons_of_mem _ List.mem_cons_self)
        obtain ⟨y0, y1, y2, y3, y4, y5, y6, y7, y8⟩ := nd_cells (g := wo.heap.size + 1) hI2 List.mem_cons_self
        clear hI2 a0 a1 b0 b1 r0 r1 r2 r3 r4 r5 r6 r7 r8 s0 s1 s2 s3 s4 s5 s6 s7 s8 m0 m1 m2 m3
        go_wp2
        clear x0 x1 x2 x3 x4 x5 x6 x7 x8 y0 y1 y2 y3 y4 y5 y6 y7 y8
        go_loopw [8] (fun jv w2 => ∃ j : Nat, j ≤ nd.kids.length ∧ jv = .int .i64 j ∧ RInv noS w [(wo.heap.size + 1, ndO nd.hd q' nd.kids.length c'), (wo.heap.size, ndO nd.hd q nd.kids.length c), (w.heap.size + 1, arO (some ⟨b', o', none⟩) ns.length cap' root), (w.heap.size, arO (some ⟨b, o, none⟩) ns.length cap root)] [] w2) (fun jv _ => nd.kids.length - (intOf jv).toNat)
        case atStart => exact ⟨0, by omega, rfl, HI2.out⟩
        case round =>
          clear HI2
          obtain ⟨j, hj, rfl, hJ⟩ := hrel
          obtain ⟨wi, rfl⟩ : ∃ wi : World, wi = wr := ⟨_, rfl⟩
          have x8 := (nd_cells (g := wo.heap.size) hJ (List.mem_cons_of_mem _ List.mem_cons_self)).2.2.2.2.2.2.2.2
          have y8 := (nd_cells (g := wo.heap.size + 1) hJ List.mem_cons_self).2.2.2.2.2.2.2.2
          by_cases hjt : j < nd.kids.length
          · obtain ⟨a, ha⟩ : ∃ a, nd.kids[j]? = some a := ⟨_, List.getElem?_eq_getElem hjt⟩
            have hne : nd.kids ≠ [] := by intro h; rw [h] at hjt; exact absurd hjt (by simp)
            obtain ⟨b2, o2, rfl, _, h2⟩ := Hki.out hne
            obtain ⟨b3, o3, rfl, _, h3⟩ := Hki'.out hne
            have z2 := (hJ.below.cell (p := ⟨b2, o2 + j, none⟩) (block_lt_of_cell (h2 j a ha))).trans (h2 j a ha)
            have z3 := (hJ.below.cell (p := ⟨b3, o3 + j, none⟩) (block_lt_of_cell (h3 j a ha))).trans (h3 j a ha)
            have HJ := Lib.hid hJ
            have hj0 : (0 : Int) ≤ (j : Int) := by omega
            have hj1 : (j : Int) < (nd.kids.length : Int) := by omega
            have hjw : IntKind.i64.wrap ((j : Int) + 1) = (j : Int) + 1 := IntWalk.i64_in _ (by omega)
            clear h2 h3 ha hne hJ
            go_wp2
            go_quiet (fail)
            go_wp2
            go_roundw
            case rel => exact ⟨j + 1, by omega, by go_num, HJ.out.drewN _⟩
            case measure => simp [intOf]; omega
          · obtain rfl : j = nd.kids.length := by omega
            have HJ := Lib.hid hJ
            clear hJ
            go_wp2
            go_roundw
            case rel => exact ⟨k + 1, by omega, by go_num, HJ.out.subL (by simp)⟩
            case measure => simp [intOf]; omega
      · have hI2 := ((HI.out.alloc (ndO nd.hd q' nd.kids.length c')).alloc (ndO nd.hd q nd.kids.length c)).drew
        rw [World.size_alloc] at hI2
        have HI2 := Lib.hid hI2
        obtain ⟨x0, x1, x2, x3, x4, x5, x6, x7, x8⟩ := nd_cells (g := wo.heap.size + 1) hI2 List.mem_cons_self
        obtain ⟨y0, y1, y2, y3, y4, y5, y6, y7, y8⟩ := nd_cells (g := wo.heap.size) hI2 (List.mem_cons_of_mem _ List.mem_cons_self)
        clear hI2 a0 a1 b0 b1 r0 r1 r2 r3 r4 r5 r6 r7 r8 s0 s1 s2 s3 s4 s5 s6 s7 s8 m0 m1 m2 m3
        go_wp2
        clear x0 x1 x2 x3 x4 x5 x6 x7 x8 y0 y1 y2 y3 y4 y5 y6 y7 y8
        go_loopw [8] (fun jv w2 => ∃ j : Nat, j ≤ nd.kids.length ∧ jv = .int .i64 j ∧ RInv noS w [(wo.heap.size + 1, ndO nd.hd q nd.kids.length c), (wo.heap.size, ndO nd.hd q' nd.kids.length c'), (w.heap.size + 1, arO (some ⟨b', o', none⟩) ns.length cap' root), (w.heap.size, arO (some ⟨b, o, none⟩) ns.length cap root)] [] w2) (fun jv _ => nd.kids.length - (intOf jv).toNat)
        case atStart => exact ⟨0, by omega, rfl, HI2.out⟩
        case round =>
          clear HI2
          obtain ⟨j, hj, rfl, hJ⟩ := hrel
          obtain ⟨wi, rfl⟩ : ∃ wi : World, wi = wr := ⟨_, rfl⟩
          have x8 := (nd_cells (g := wo.heap.size + 1) hJ List.mem_cons_self).2.2.2.2.2.2.2.2
          have y8 := (nd_cells (g := wo.heap.size) hJ (List.mem_cons_of_mem _ List.mem_cons_self)).2.2.2.2.2.2.2.2
          by_cases hjt : j < nd.kids.length
          · obtain ⟨a, ha⟩ : ∃ a, nd.kids[j]? = some a := ⟨_, List.getElem?_eq_getElem hjt⟩
            have hne : nd.kids ≠ [] := by intro h; rw [h] at hjt; exact absurd hjt (by simp)
            obtain ⟨b2, o2, rfl, _, h2⟩ := Hki.out hne
            obtain ⟨b3, o3, rfl, _, h3⟩ := Hki'.out hne
            have z2 := (hJ.below.cell (p := ⟨b2, o2 + j, none⟩) (block_lt_of_cell (h2 j a ha))).trans (h2 j a ha)
            have z3 := (hJ.below.cell (p := ⟨b3, o3 + j, none⟩) (block_lt_of_cell (h3 j a ha))).trans (h3 j a ha)
            have HJ := Lib.hid hJ
            have hj0 : (0 : Int) ≤ (j : Int) := by omega
            have hj1 : (j : Int) < (nd.kids.length : Int) := by omega
            have hjw : IntKind.i64.wrap ((j : Int) + 1) = (j : Int) + 1 := IntWalk.i64_in _ (by omega)
            clear h2 h3 ha hne hJ
            go_wp2
            go_quiet (fail)
            go_wp2
            go_roundw
            case rel => exact ⟨j + 1, by omega, by go_num, HJ.out.drewN _⟩
            case measure => simp [intOf]; omega
          · obtain rfl : j = nd.kids.length := by omega
            have HJ := Lib.hid hJ
            clear hJ
            go_wp2
            go_roundw
            case rel => exact ⟨k + 1, by omega, by go_num, HJ.out.subL (by simp)⟩
            case measure => simp [intOf]; omega
    · obtain rfl : k = ns.length := by omega
      go_wp2
      go_ret
      exact ⟨rfl, hI.below⟩
end Go.Proofs.YtcenjpaiehidjaaDoor
