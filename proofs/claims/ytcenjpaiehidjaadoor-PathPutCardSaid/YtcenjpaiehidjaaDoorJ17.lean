/- Contract of bonsailaw18.own. -/
import Derived.Test.YtcenjpaiehidjaaDoorJ16
import Derived.Test.YtcenjpaiehidjaaDoorJ7
set_option linter.unusedSimpArgs false
set_option linter.unusedVariables false
namespace Go.Proofs.YtcenjpaiehidjaaDoor
open Go.RowKit
set_option maxRecDepth 100000

theorem szNodes : (Tryd.prog.info? 22).map (·.size) = some 1 := by kernel_rfl
set_option maxHeartbeats 8000000 in
theorem own_any (ns : List Nd) (root : Int) (hS : Small ns) (p : Option Addr) (cap : Nat) (w : World) (F : Nat → TypeId → Prop) (hN : NodesAt w F p ns) :
    Calls Tryd.prog 8 #[arV p ns.length cap root] w fun e w' => (∃ v, e = .returned v ∧ TreeAt w' (Own w.heap.size w') v ⟨ns, root⟩) ∧ Below w.heap.size w w' := by
  have hl := hS.len
  have HN := Lib.hid hN
  have HS := Lib.hid hS
  have hI := (((RInv.start noS w).alloc (arO p ns.length cap root)).alloc (arO none 0 0 0)).alloc (arO none 0 0 root)
  rw [World.size_alloc, World.size_alloc] at hI
  have HI0 := Lib.hid (hI.nil 56 9)
  clear hN hS hI
  go_enter Tryd.func8, Tryd.ntmps8
  go_wp2
  go_loopw [4] (fun iv wr => ∃ (k : Nat) (vo : Value) (qo : Option Addr) (co : Nat) (xs : List Value), k ≤ ns.length ∧ iv = .int .i64 k ∧ vo = .slice qo k co ∧ RInv noS w [(w.heap.size + 1 + 1, arO qo k co root), (w.heap.size + 1, arO none 0 0 0), (w.heap.size, arO p ns.length cap root)] [⟨56, 9, .slice qo k co, k, xs⟩] wr ∧ Hid (NodesIn wr (Own (w.heap.size + 1 + 1 + 1) wr) xs (ns.take k))) (fun iv _ => ns.length - (intOf iv).toNat)
  case atStart => exact ⟨0, _, none, 0, [], by omega, rfl, rfl, HI0.out, Lib.hid (NodesIn.nil _ _)⟩
  case round =>
    clear HI0
    obtain ⟨wo, rfl⟩ : ∃ wo : World, wo = wr := ⟨_, rfl⟩
    obtain ⟨k, vo, qo, co, xs, hk, rfl, hvo, hI, hX⟩ := hrel
    clear hvo
    obtain ⟨c0, c1⟩ := box_cells hI (List.mem_cons_of_mem _ (List.mem_cons_of_mem _ List.mem_cons_self))
    obtain ⟨t0, t1⟩ := box_cells hI List.mem_cons_self
    by_cases hlt : k < ns.length
    · obtain ⟨nd, hnd⟩ : ∃ nd, ns[k]? = some nd := ⟨_, List.getElem?_eq_getElem hlt⟩
      obtain ⟨b, o, rfl, _, hcc⟩ := HN.out (by intro h; rw [h] at hlt; exact absurd hlt (by simp))
      obtain ⟨q, c, hd, hr, hki⟩ := hcc k nd hnd
      have hkl := HS.out.kids nd (List.mem_of_getElem? hnd)
      have Hr := Lib.hid (rangeAt_keep hr (hI.below.block b (block_lt_of_cell (hr 0 _ rfl))))
      have Hki := Lib.hid (hki.below hI.below)
      have Hnd := Lib.hid hnd
      have Hhd := Lib.hid hd
      have hw0 : w.heap.size ≤ wo.heap.size := hI.size
      have HI := Lib.hid hI
      have hlt2 : w.heap.size + 1 + 1 < wo.heap.size := lt_of_heap (hI.at (g := w.heap.size + 1 + 1) List.mem_cons_self)
      have hIa := ((hI.alloc (ndO nd.hd q nd.kids.length c)).lay 3 1 #[] 0 0 rfl (by omega) (by unfold maxLen; omega))
      rw [World.size_alloc] at hIa
      have HIa := Lib.hid hIa
      clear hcc hr hki hnd hd hI hIa t0 t1
      go_wp2_with (first | (refine load_node rfl _ rfl b (o + k * 9) rfl nd.hd q nd.kids.length c Hr.out ?_) | (at_builtin; refine app_rowB intT rfl (.tmp 21) (.tmp 23) rfl q nd.kids.length c (intC nd.kids) rfl rfl (by simp) (src_ints (Hki.out.below (((Below.refl _ _).alloc (Nat.le_refl _) _).alloc (by simp) _))) (intC_one _) HIa.out (by unfold maxLen; omega) (by omega) ?_; intro v1 W2 hI2 hg2 hb2; rw [Nat.zero_add, show ((#[] : Array Value).toList.take (0 * 1)) ++ intC nd.kids = intC nd.kids from rfl] at hI2; obtain ⟨q1, c1', rfl, _, _⟩ := row_slice hI2.own1) | (refine rinv_store rfl _ _ _ rfl wo.heap.size 8 (ndC nd.hd q nd.kids.length c).toArray 56 (.slice q1 nd.kids.length c1') rfl rfl rfl szInts (by simp) hI2 (.inl hw0) ?_ ?_; (intro p hp; simp only [List.mem_cons, List.not_mem_nil, or_false] at hp; rcases hp with h | h | h <;> subst h <;> simp only <;> omega); intro W3 hI3 hW; rw [ndO_set] at hI3; have HW := Lib.hid hW; clear hW; obtain ⟨t0, t1⟩ := box_cells hI3 (List.mem_cons_of_mem _ List.mem_cons_self); have hI3s := hI3.swap) | (refine load_own rfl _ rfl wo.heap.size rfl nd.hd q1 nd.kids.length c1' (hI3.at List.mem_cons_self) ?_) | (at_builtin; refine app_newB nodeT rfl (.tmp 27) (.tmp 29) rfl (ndC nd.hd q1 nd.kids.length c1').toArray rfl rfl rfl (by simp [Value.oneCell']) hI3s (by unfold maxLen; omega) (by omega) ?_; intro v8 W8 hE h8 hb8; obtain ⟨q8, c8, rfl, _, _⟩ := row_slice hE.own1; have hE2 := hE.subL (L' := [(w.heap.size + 1 + 1, arO qo k co root), (w.heap.size + 1, arO none 0 0 0), (w.heap.size, arO (some ⟨b, o, none⟩) ns.length cap root)]) (fun p hp => List.mem_cons_of_mem _ hp)) | (refine rinv_store rfl _ _ _ rfl (w.heap.size + 1 + 1) 0 #[.slice qo k co, .int .i64 root] 24 (.slice q8 (k + 1) c8) rfl rfl rfl szNodes (by simp) hE2 (.inl (by omega)) ?_ ?_; (intro p hp; simp only [List.mem_cons, List.not_mem_nil, or_false] at hp; rcases hp with h | h <;> subst h <;> simp only <;> omega); intro W9 hI9 hW9; have HW9 := Lib.hid hW9; clear hW9))
      go_roundw
      case rel =>
        have hbW : Below wo.heap.size wo W3 := by
          rw [HW.out]
          exact ((((Below.refl _ _).alloc (Nat.le_refl _) _).alloc (by simp) _).grown hg2 (by simp; omega) (fun k hk => by injection hk with hk; simp only at hk; omega)).setCell (Nat.le_refl _) _
        have hq := row_ints (s := w.heap.size + 1 + 1 + 1) hI3.own1 (fun g hg => by
          rcases hb2 with hb2 | hb2
          · rw [hg] at hb2; injection hb2 with hb2; simp only at hb2; omega
          · have := hb2 g hg; simp only [World.size_alloc] at this; omega)
        have h1 := sub_nodes hX.out (fun b' ho hlt' => hbW.block b' hlt') hI3s.own1 h8 Hhd.out q1 c1' hq
        have h2 : NodesIn W9 (Own (w.heap.size + 1 + 1 + 1) W9) (xs ++ ndC nd.hd q1 nd.kids.length c1') (ns.take k ++ [nd]) := h1.turn fun b' ho hlt' => by
          have hk9 : W9.heap[b']? = W8.heap[b']? := by
            rw [HW9.out]
            exact (grown_setCell _ _ _ _).block b' hlt' (fun e => by injection e with e; have := ho.1; omega)
          exact ⟨hk9, ho.1, ho.2.imp fun cur h => hk9.trans h⟩
        refine ⟨k + 1, _, q8, c8, xs ++ ndC nd.hd q1 nd.kids.length c1', by omega, by go_num, rfl, hI9.subR (List.Sublist.cons_cons _ (List.nil_sublist _)), Lib.hid ?_⟩
        rw [List.take_add_one, Hnd.out]
        exact h2
      case measure => simp [intOf]; omega
    · obtain rfl : k = ns.length := by omega
      have HI := Lib.hid hI
      clear hI
      go_wp2_with (first | (refine rinv_row rfl _ _ _ rfl (w.heap.size + 1) #[.slice none 0 0, .int .i64 0] #[.slice qo ns.length co, .int .i64 root] 24 rfl rfl (by simp [Value.oneCell']) szTree rfl (HI.out.subL (L' := [(w.heap.size + 1, arO none 0 0 0)]) (by simp)) (.inl (by omega)) (by simp) ?_; intro W3 hI3 hg3; obtain ⟨d0, d1⟩ := box_cells hI3 List.mem_cons_self))
      have hbase : ∀ g, (Value.slice qo ns.length co).ownBlock = some g → w.heap.size + 1 + 1 + 1 ≤ g := fun g hg => by
        have k1 := (HI.out.new _ List.mem_cons_self g hg).elim id False.elim
        have k2 := HI.out.apartL _ List.mem_cons_self _ List.mem_cons_self
        have k3 := HI.out.apartL _ List.mem_cons_self _ (List.mem_cons_of_mem _ List.mem_cons_self)
        have k4 := HI.out.apartL _ List.mem_cons_self _ (List.mem_cons_of_mem _ (List.mem_cons_of_mem _ List.mem_cons_self))
        simp only [hg, ne_eq, Option.some.injEq] at k2 k3 k4
        omega
      have hX1 := hX.out
      rw [List.take_length] at hX1
      obtain ⟨p2, c2', e2, hq⟩ := hX1.at (row_base HI.out.own1 hbase)
      injection e2 with e2 _ e4
      subst e2 e4
      exact bodyPost_ret (v := arV qo ns.length co root) (by simp [results, Tryd.results8, go_sem, d0, d1]) rfl ⟨⟨_, rfl, qo, co, rfl, hq.turn (own_low (m := w.heap.size) hg3 (by omega) (by omega))⟩, hI3.below⟩
end Go.Proofs.YtcenjpaiehidjaaDoor

/- Contract of bonsailaw18.of. -/
namespace Go.Proofs.YtcenjpaiehidjaaDoor
open Go.RowKit
set_option maxRecDepth 100000

set_option maxHeartbeats 4000000 in
theorem lawof_any (nh : Hd) (hd : HdOk nh) (qk : Option Addr) (nk ck : Nat) (ks : List Xp) (hok : ∀ k ∈ ks, okX k = true) (hf : fitsB nh ks.length = true) (hz : sizeL ks ≤ 99999) (p : Option Addr) (cap : Nat) (w : World) (F : Nat → TypeId → Prop) (hN : TreesAt w F p (ks.map clean)) :
    Calls Tryd.prog 23 #[ndV nh qk nk ck, .slice p ks.length cap] w fun e w' => GivesT w.heap.size w' e (.node nh ks) ∧ Below w.heap.size w w' := by
  have HN := Lib.hid hN
  have HHd := Lib.hid hd
  have Hok := Lib.hid hok
  have Hf := Lib.hid hf
  have hI := ((RInv.start noS w).alloc (ndO nh qk nk ck)).alloc (arO none 0 0 0)
  rw [World.size_alloc] at hI
  clear hN hd hok hf
  go_enter Tryd.func23, Tryd.ntmps23
  go_wp2_with (first | (refine load_own rfl _ rfl w.heap.size rfl nh qk nk ck (hI.at (List.mem_cons_of_mem _ List.mem_cons_self)) ?_) | (go_at_call 45; refine (rof_clean nh HHd.out qk nk ck ks Hok.out Hf.out hz _ _ _ F (HN.out.below hI.below)).mono ?_; rintro e W4 ⟨⟨v4, rfl, p4, c4, rfl, hp4⟩, hb4⟩; have hI4 := (hI.call hb4).alloc (arO p4 (clean (.node nh ks)).nodes.length c4 (clean (.node nh ks)).root)) | (refine rinv_row rfl _ _ _ rfl (w.heap.size + 1) #[.slice none 0 0, .int .i64 0] #[.slice p4 (clean (.node nh ks)).nodes.length c4, .int .i64 (clean (.node nh ks)).root] 24 rfl rfl (by simp [Value.oneCell']) szTree rfl (hI4.subL (L' := [(w.heap.size + 1, arO none 0 0 0)]) (by simp)) (.inl (by omega)) (by simp) ?_; intro W9 hI9 hg9; obtain ⟨c0, c1⟩ := box_cells hI9 List.mem_cons_self))
  have hq9 := hp4.turn (W' := W4.alloc (arO p4 (clean (.node nh ks)).nodes.length c4 (clean (.node nh ks)).root)) (F' := Own (w.heap.size + 1 + 1) (W4.alloc (arO p4 (clean (.node nh ks)).nodes.length c4 (clean (.node nh ks)).root))) fun b t ho hlt => ⟨((Below.refl _ _).alloc (Nat.le_refl _) (arO p4 (clean (.node nh ks)).nodes.length c4 (clean (.node nh ks)).root)).block b hlt, (ho.mono (by simp only [World.size_alloc]; omega)).below ((Below.refl _ _).alloc (Nat.le_refl _) _) hlt⟩
  exact bodyPost_ret (v := arV p4 (clean (.node nh ks)).nodes.length c4 (clean (.node nh ks)).root) (by simp [results, Tryd.results23, go_sem, c0, c1]) rfl ⟨⟨_, rfl, p4, c4, rfl, hq9.turn (own_low (m := w.heap.size) hg9 (by omega) (by omega))⟩, hI9.below⟩
end Go.Proofs.YtcenjpaiehidjaaDoor

/- What path.At and path.Put tell is what the reference's tell. -/
namespace Go.Proofs.YtcenjpaiehidjaaDoor
open Go.RowKit
set_option maxRecDepth 100000

/-- The arena that a tree, or none, comes out as. -/
def arOf : Option Xp → Ar
  | some x => clean x
  | none => ⟨[], 0⟩
/-- A tree in new memory, or none, and whether there is one. -/
def GetsA (n : Nat) (w' : World) (e : Ending) (A : Option Xp) : Prop := ∃ p cap, e = .returned (.tuple #[arV p (arOf A).nodes.length cap (arOf A).root, .bool A.isSome]) ∧ NodesAt w' (Own n w') p (arOf A).nodes
theorem gets_a {n : Nat} {w' : World} {e : Ending} {A : Option Xp} (h : GetsT n w' e A) : GetsA n w' e A := by
  cases A with
  | none => exact ⟨none, 0, h, fun hn => absurd rfl hn⟩
  | some x =>
    obtain ⟨v, rfl, p, cap, rfl, hp⟩ := h
    exact ⟨p, cap, rfl, hp⟩
/-- What the four functions come to. -/
structure Twin (ns : List Nd) (root : Int) (us : List Nd) (ru : Int) (pl : List Int) (A B : Option Xp) : Prop where
  smallA : Small (arOf A).nodes
  smallB : Small (arOf B).nodes
  at1 : ∀ (w : World) (F G : Nat → TypeId → Prop) (p : Option Addr) (cap : Nat) (q : Option Addr) (c : Nat), NodesAt w F p ns → IntsAt w G q pl → Tabs w →
    Calls Tryd.prog 9 #[arV p ns.length cap root, .slice q pl.length c] w fun e w' => GetsA w.heap.size w' e A ∧ Below w.heap.size w w'
  at2 : ∀ (w : World) (F G : Nat → TypeId → Prop) (p : Option Addr) (cap : Nat) (q : Option Addr) (c : Nat), NodesAt w F p ns → IntsAt w G q pl →
    Calls Tryd.prog 10 #[arV p ns.length cap root, .slice q pl.length c] w fun e w' => GetsA w.heap.size w' e A ∧ Below w.heap.size w w'
  put1 : ∀ (w : World) (F G H : Nat → TypeId → Prop) (p : Option Addr) (cap : Nat) (q : Option Addr) (c : Nat) (pu : Option Addr) (cu : Nat), NodesAt w F p ns → IntsAt w G q pl → NodesAt w H pu us → Tabs w →
    Calls Tryd.prog 11 #[arV p ns.length cap root, .slice q pl.length c, arV pu us.length cu ru] w fun e w' => GetsA w.heap.size w' e B ∧ Below w.heap.size w w'
  put2 : ∀ (w : World) (F G H : Nat → TypeId → Prop) (p : Option Addr) (cap : Nat) (q : Option Addr) (c : Nat) (pu : Option Addr) (cu : Nat), NodesAt w F p ns → IntsAt w G q pl → NodesAt w H pu us → pl.length ≤ c →
    Calls Tryd.prog 12 #[arV p ns.length cap root, .slice q pl.length c, arV pu us.length cu ru] w fun e w' => GetsA w.heap.size w' e B ∧ Below w.heap.size w w'

theorem small_of : ∀ A : Option Xp, (∀ x, A = some x → x.size ≤ 100000) → Small (arOf A).nodes
  | none, _ => ⟨by simp [arOf], fun nd h => by simp [arOf] at h⟩
  | some x, h => small_one (h x rfl)
theorem low_nodes {w : World} {F : Nat → TypeId → Prop} {p : Option Addr} {ns : List Nd} (h : NodesAt w F p ns) : NodesAt w (fun b _ => b < w.heap.size) p ns := h.turn fun b _ _ hlt => ⟨rfl, hlt⟩

theorem twin_any (ns : List Nd) (root : Int) (us : List Nd) (ru : Int) (pl : List Int) (hS : Small ns) (hU : Small us) (hpl : pl.length ≤ 100000) (hz : ns.length + us.length ≤ 99999) : ∃ A B, Twin ns root us ru pl A B := by
  by_cases hR : RightP ⟨ns, root⟩
  · obtain ⟨x, hx, hok, hxz⟩ := hR.tree
    simp only at hx hxz
    cases hg : getX x pl with
    | none =>
      refine ⟨none, none, small_of _ (by simp), small_of _ (by simp), fun w F G p cap q c hN hQ hT => ?_, fun w F G p cap q c hN hQ => ?_, fun w F G H p cap q c pu cu hN hQ hU2 hT => ?_, fun w F G H p cap q c pu cu hN hQ hU2 hc => ?_⟩
      · have k := at_any ns x root p cap hS hR hx (by omega) pl hpl q c w F G hN hQ hT.kids
        rw [hg] at k
        exact k.mono fun e w' h => ⟨gets_a h.1, h.2⟩
      · have k := rat_any ns x root p cap hS hR hx (by omega) pl hpl q c w F G hN hQ
        rw [hg] at k
        exact k.mono fun e w' h => ⟨gets_a h.1, h.2⟩
      · refine (put_no_path ns root p cap us ru pu cu pl.length q c w fun W hb => ?_).mono fun e w' h => ⟨gets_a h.1, h.2⟩
        have k := node_any ns x root p cap hS hR hx pl hpl q c W F G (hN.below hb) (hQ.below hb) (hT.kids.keep hb)
        rw [hg] at k
        exact k
      · refine (rput_none_at ns root p cap pl q c us ru pu cu hU w F G _ hN hQ (low_nodes hU2) (fun b t h => h) fun W hN' hQ' => ?_).mono fun e w' h => ⟨gets_a h.1, h.2⟩
        have k := rat_any ns x root p cap hS hR hx (by omega) pl hpl q c W F G hN' hQ'
        rw [hg] at k
        exact k
    | some z =>
      have hzok := sub_right hR hx (by omega) hg
      by_cases hRu : RightP ⟨us, ru⟩
      · obtain ⟨u, hu, huok, huz⟩ := hRu.tree
        simp only at hu huz
        have hs := setX_ok huok hok hg
        have hn := norm_size (setX x pl u)
        refine ⟨some z, some (norm (setX x pl u)), small_of _ (fun y e => by injection e with e; subst e; exact hzok.2), small_of _ (fun y e => by injection e with e; subst e; omega), fun w F G p cap q c hN hQ hT => ?_, fun w F G p cap q c hN hQ => ?_, fun w F G H p cap q c pu cu hN hQ hU2 hT => ?_, fun w F G H p cap q c pu cu hN hQ hU2 hc => ?_⟩
        · have k := at_any ns x root p cap hS hR hx (by omega) pl hpl q c w F G hN hQ hT.kids
          rw [hg] at k
          exact k.mono fun e w' h => ⟨gets_a h.1, h.2⟩
        · have k := rat_any ns x root p cap hS hR hx (by omega) pl hpl q c w F G hN hQ
          rw [hg] at k
          exact k.mono fun e w' h => ⟨gets_a h.1, h.2⟩
        · exact (put_yes ns x root p cap hS hR hx us u ru pu cu hU hRu hu (by omega) pl hpl z hg q c w F G H hN hU2 hQ hT).mono fun e w' h => ⟨gets_a h.1, h.2⟩
        · exact (rput_yes ns x z u root hS hR hx (by omega) p cap pl q c us ru pu cu hU w F G _ hN hQ (low_nodes hU2) (fun b t h => h) hg hpl hc hRu hu).mono fun e w' h => ⟨gets_a h.1, h.2⟩
      · refine ⟨some z, none, small_of _ (fun y e => by injection e with e; subst e; exact hzok.2), small_of _ (by simp), fun w F G p cap q c hN hQ hT => ?_, fun w F G p cap q c hN hQ => ?_, fun w F G H p cap q c pu cu hN hQ hU2 hT => ?_, fun w F G H p cap q c pu cu hN hQ hU2 hc => ?_⟩
        · have k := at_any ns x root p cap hS hR hx (by omega) pl hpl q c w F G hN hQ hT.kids
          rw [hg] at k
          exact k.mono fun e w' h => ⟨gets_a h.1, h.2⟩
        · have k := rat_any ns x root p cap hS hR hx (by omega) pl hpl q c w F G hN hQ
          rw [hg] at k
          exact k.mono fun e w' h => ⟨gets_a h.1, h.2⟩
        · exact (put_none_right ns x root p cap hS hR hx us ru pu cu hU hRu (by omega) pl hpl z hg q c w F G H hN hU2 hQ hT).mono fun e w' h => ⟨gets_a h.1, h.2⟩
        · exact (rput_none_right ns x z root hS hR hx (by omega) p cap pl q c us ru pu cu hU w F G _ hN hQ (low_nodes hU2) (fun b t h => h) hg hpl hRu).mono fun e w' h => ⟨gets_a h.1, h.2⟩
  · refine ⟨none, none, small_of _ (by simp), small_of _ (by simp), fun w F G p cap q c hN hQ hT => ?_, fun w F G p cap q c hN hQ => ?_, fun w F G H p cap q c pu cu hN hQ hU2 hT => ?_, fun w F G H p cap q c pu cu hN hQ hU2 hc => ?_⟩
    · exact (at_bad ns root p cap hS hR pl q c w F hN hT.kids).mono fun e w' h => ⟨gets_a h.1, h.2⟩
    · exact (rat_bad ns root p cap hS hR pl q c w F hN).mono fun e w' h => ⟨gets_a h.1, h.2⟩
    · exact (put_no_path ns root p cap us ru pu cu pl.length q c w fun W hb => node_bad ns root p cap hS hR pl q c W F (hN.below hb) (hT.kids.keep hb)).mono fun e w' h => ⟨gets_a h.1, h.2⟩
    · exact (rput_none_at ns root p cap pl q c us ru pu cu hU w F G _ hN hQ (low_nodes hU2) (fun b t h => h) fun W hN' hQ' => rat_bad ns root p cap hS hR pl q c W F hN').mono fun e w' h => ⟨gets_a h.1, h.2⟩
end Go.Proofs.YtcenjpaiehidjaaDoor

/- Contract of bonsailaw18.spoil: it writes into the tree's blocks and nowhere else. -/
namespace Go.Proofs.YtcenjpaiehidjaaDoor
open Go.RowKit
set_option maxRecDepth 100000

/-- A tree's nodes and their kids' numbers may be written. -/
def SpoilIn (S : Nat → Prop) (W : World) (p : Option Addr) (ns : List Nd) : Prop :=
  ns ≠ [] → ∃ b o, p = some ⟨b, o, none⟩ ∧ S b ∧ (∃ cur, W.heap[b]? = some (.cells cur 56 (0, 0)) ∧ o + ns.length * 9 ≤ cur.size) ∧
    ∀ (j : Nat) nd, ns[j]? = some nd → ∃ q cap, W.cell? ⟨b, o + j * 9 + 8, none⟩ = some (.slice q nd.kids.length cap) ∧ (nd.kids ≠ [] → ∃ b' o', q = some ⟨b', o', none⟩ ∧ S b' ∧ ∃ cur, W.heap[b']? = some (.cells cur 3 (0, 0)) ∧ o' + nd.kids.length ≤ cur.size)
theorem cell_some_lt {W : World} {b i : Nat} {cur : Array Value} {t : TypeId} {fr : Nat × Nat} {v : Value} (h : W.heap[b]? = some (.cells cur t fr)) (hc : W.cell? ⟨b, i, none⟩ = some v) : i < cur.size := by
  rw [cell_of_row _ _ _ _ _ _ h] at hc
  exact (Array.getElem?_eq_some_iff.1 hc).1
theorem spoil_in {S : Nat → Prop} {n : Nat} {W : World} {p : Option Addr} {ns : List Nd} (h : NodesAt W (fun b t => S b ∧ Own n W b t) p ns) : SpoilIn S W p ns := fun hne => by
  obtain ⟨b, o, rfl, ⟨hs, _, cur, hcur⟩, hc⟩ := h hne
  have hlen : 0 < ns.length := List.length_pos_iff.2 hne
  refine ⟨b, o, rfl, hs, ⟨cur, hcur, ?_⟩, fun j nd hj => ?_⟩
  · obtain ⟨nd, hnd⟩ : ∃ nd, ns[ns.length - 1]? = some nd := ⟨_, List.getElem?_eq_getElem (by omega)⟩
    obtain ⟨q, cap, _, hr, _⟩ := hc _ nd hnd
    have := cell_some_lt hcur (hr 8 _ rfl)
    omega
  · obtain ⟨q, cap, _, hr, hk⟩ := hc j nd hj
    refine ⟨q, cap, hr 8 _ rfl, fun hk0 => ?_⟩
    obtain ⟨b', o', rfl, ⟨hs', _, cur', hcur'⟩, hcc⟩ := hk hk0
    have hkl : 0 < nd.kids.length := List.length_pos_iff.2 hk0
    obtain ⟨u, hu⟩ : ∃ u, nd.kids[nd.kids.length - 1]? = some u := ⟨_, List.getElem?_eq_getElem (by omega)⟩
    have := cell_some_lt hcur' (hcc _ u hu)
    exact ⟨b', o', rfl, hs', cur', hcur', by omega⟩
theorem set_other {W : World} {g i b j : Nat} {v : Value} {cur : Array Value} {t : TypeId} (ho : W.heap[b]? = some (.cells cur t (0, 0))) (h : b ≠ g ∨ j ≠ i) : (W.setCell ⟨g, i, none⟩ v).cell? ⟨b, j, none⟩ = W.cell? ⟨b, j, none⟩ := by
  by_cases hb : b = g
  · subst hb
    have hj : j ≠ i := h.elim (fun h => absurd rfl h) id
    rw [cell_of_row _ _ _ _ _ _ ho, cell_of_row _ _ _ _ _ _ (heap_setCell_same _ _ _ _ _ _ ho)]
    rw [Array.getElem?_setIfInBounds_ne (Ne.symm hj)]
  · exact World.cell?_of_block (a := ⟨b, j, none⟩) (heap_setCell_other _ _ _ _ hb)
/-- A write into one of the blocks keeps what may be written. -/
theorem SpoilIn.set {S : Nat → Prop} {W : World} {b o g i : Nat} {ns : List Nd} {v : Value} (h : SpoilIn S W (some ⟨b, o, none⟩) ns) (hw : (∃ cur, W.heap[g]? = some (.cells cur 3 (0, 0))) ∨ g = b ∧ ∃ k, i = o + k * 9) : SpoilIn S (W.setCell ⟨g, i, none⟩ v) (some ⟨b, o, none⟩) ns := fun hne => by
  obtain ⟨b, o, e, hs, ⟨cur, hcur, hlen⟩, hc⟩ := h hne
  injection e with e; injection e with e1 e2; subst e1 e2
  have blk : ∀ (c : Nat) (cur : Array Value) (t : TypeId) (m : Nat), W.heap[c]? = some (.cells cur t (0, 0)) → m ≤ cur.size → ∃ cur', (W.setCell ⟨g, i, none⟩ v).heap[c]? = some (.cells cur' t (0, 0)) ∧ m ≤ cur'.size := by
    intro c cur t m h hm
    by_cases e : c = g
    · subst e
      exact ⟨_, heap_setCell_same _ _ _ _ _ _ h, by simpa using hm⟩
    · exact ⟨cur, (heap_setCell_other _ _ _ _ e).trans h, hm⟩
  refine ⟨_, _, rfl, hs, blk _ _ _ _ hcur hlen, fun j nd hj => ?_⟩
  obtain ⟨q, cap, h8, hk⟩ := hc j nd hj
  refine ⟨q, cap, ?_, fun hk0 => ?_⟩
  · rw [set_other hcur ?_]; exact h8
    rcases hw with ⟨c2, hg⟩ | ⟨rfl, k, rfl⟩
    · refine .inl fun e => ?_
      subst e
      rw [hcur] at hg
      injection hg with hg
      injection hg with _ hg
      exact absurd hg (by decide)
    · exact .inr (by omega)
  · obtain ⟨b', o', rfl, hs', cur', hcur', hl'⟩ := hk hk0
    exact ⟨b', o', rfl, hs', blk _ _ _ _ hcur' hl'⟩
theorem RInv.add {S : Nat → Prop} {w W : World} {L : List (Nat × Obj)} {g : Nat} {o : Obj} (h : RInv S w L [] W) (hg : W.heap[g]? = some o) : RInv S w ((g, o) :: L) [] W :=
  ⟨h.off, fun p hp => by
    rcases List.mem_cons.1 hp with rfl | hp
    · exact hg
    · exact h.blk p hp, fun r hr => by simp at hr, fun r hr => by simp at hr, fun r hr => by simp at hr, List.Pairwise.nil⟩
theorem szU8 : (Tryd.prog.info? 5).map (·.size) = some 1 := by kernel_rfl

set_option maxHeartbeats 4000000 in
theorem spoil_any (S : Nat → Prop) (ns : List Nd) (hS : Small ns) (p : Option Addr) (cap : Nat) (root : Int) (w : World) (hlow : ∀ b, S b → b < w.heap.size) (n : Nat) (hN : NodesAt w (fun b t => S b ∧ Own n w b t) p ns) :
    Calls Tryd.prog 14 #[arV p ns.length cap root] w fun e w' => e = .returned (.tuple #[]) ∧ Off S w w' := by
  have hl := hS.len
  have HS := Lib.hid hS
  have hsp := spoil_in hN
  have Hlow := Lib.hid hlow
  have Hsp : Hid (SpoilIn S (w.alloc (arO p ns.length cap root)) p ns) := Lib.hid (by
    have hN2 := hN.turn (W' := w.alloc (arO p ns.length cap root)) (F' := fun b t => S b ∧ Own n (w.alloc (arO p ns.length cap root)) b t) fun b t ho hlt => ⟨((Below.refl _ _).alloc (Nat.le_refl _) (arO p ns.length cap root)).block b hlt, ho.1, ho.2.below ((Below.refl _ _).alloc (Nat.le_refl _) _) hlt⟩
    exact spoil_in hN2)
  have hI := ((RInv.start S w).alloc (arO p ns.length cap root))
  have HI0 := Lib.hid hI
  clear hN hS hI hsp hlow
  go_enter Tryd.func14, Tryd.ntmps14
  go_wp2
  go_loopw [2] (fun iv wr => ∃ (k : Nat), k ≤ ns.length ∧ iv = .int .i64 k ∧ RInv S w [(w.heap.size, arO p ns.length cap root)] [] wr ∧ Hid (SpoilIn S wr p ns)) (fun iv _ => ns.length - (intOf iv).toNat)
  case atStart => exact ⟨0, by omega, rfl, HI0.out, Hsp⟩
  case round =>
    clear HI0 Hsp
    obtain ⟨wo, rfl⟩ : ∃ wo : World, wo = wr := ⟨_, rfl⟩
    obtain ⟨k, hk, rfl, hI, hP⟩ := hrel
    obtain ⟨t0, t1⟩ := box_cells hI List.mem_cons_self
    by_cases hlt : k < ns.length
    · obtain ⟨nd, hnd⟩ : ∃ nd, ns[k]? = some nd := ⟨_, List.getElem?_eq_getElem hlt⟩
      obtain ⟨b, o, rfl, hsb, _, _⟩ := hP.out (by intro h; rw [h] at hlt; exact absurd hlt (by simp))
      have hkl := HS.out.kids nd (List.mem_of_getElem? hnd)
      have Hnd := Lib.hid hnd
      have Hsb := Lib.hid hsb
      have HI := Lib.hid hI
      clear hnd hsb hI
      go_wp2
      go_loopw [3] (fun jv wi => ∃ (m : Nat), m ≤ nd.kids.length ∧ jv = .int .i64 m ∧ Hid (RInv S w [(w.heap.size, arO (some ⟨b, o, none⟩) ns.length cap root)] [] wi) ∧ Hid (SpoilIn S wi (some ⟨b, o, none⟩) ns)) (fun jv _ => nd.kids.length - (intOf jv).toNat)
      case atStart => exact ⟨0, by omega, rfl, HI, hP⟩
      case round =>
        clear t0 t1 hP HI
        obtain ⟨wm, rfl⟩ : ∃ wm : World, wm = wr := ⟨_, rfl⟩
        obtain ⟨m, hm, rfl, HI, hP⟩ := hrel
        obtain ⟨t0, t1⟩ := box_cells HI.out List.mem_cons_self
        obtain ⟨b2, o2, e2, _, _, hcc⟩ := hP.out (by intro h; rw [h] at hlt; exact absurd hlt (by simp))
        injection e2 with e2; injection e2 with e21 e22; subst e21 e22
        obtain ⟨q, kc, c8, hkk⟩ := hcc k nd Hnd.out
        by_cases hlm : m < nd.kids.length
        · obtain ⟨b', o', rfl, hs', cur, hcur, hl'⟩ := hkk (by intro h; rw [h] at hlm; exact absurd hlm (by simp))
          have hb' := Hlow.out b' hs'
          have hIa := HI.out.add hcur
          have Hcur := Lib.hid hcur
          have Hs' := Lib.hid hs'
          clear hcc hkk hcur hs'
          go_wp2_with (first | (refine rinv_store rfl _ _ _ rfl b' (o' + m) cur 3 (.int .i64 (-7)) rfl rfl rfl szInt (by omega) hIa (.inr Hs'.out) ?_ ?_; (intro p hp; obtain rfl := List.mem_singleton.1 hp; simp only [ne_eq]; omega); intro W3 hI3 hW; have HW := Lib.hid hW; clear hW))
          go_roundw
          case rel =>
            refine ⟨m + 1, by omega, by go_num, Lib.hid (hI3.subL (by simp)), Lib.hid ?_⟩
            rw [HW.out]
            exact hP.out.set (.inl ⟨cur, Hcur.out⟩)
          case measure => simp [intOf]; omega
        · obtain rfl : m = nd.kids.length := by omega
          obtain ⟨_, _, e3, hs3, ⟨cur, hcur, hl3⟩, _⟩ := hP.out (by intro h; rw [h] at hlt; exact absurd hlt (by simp))
          injection e3 with e3; injection e3 with e31 e32; subst e31 e32
          have hb' := Hlow.out b hs3
          have hIa := HI.out.add hcur
          clear hcc hkk hcur hs3
          go_wp2_with (first | (refine rinv_store rfl _ _ _ rfl b (o + k * 9) cur 56 (.int .u8 77) rfl rfl rfl szU8 (by omega) hIa (.inr Hsb.out) ?_ ?_; (intro p hp; obtain rfl := List.mem_singleton.1 hp; simp only [ne_eq]; omega); intro W3 hI3 hW; have HW := Lib.hid hW; clear hW))
          go_roundw
          case rel =>
            refine ⟨k + 1, by omega, by go_num, hI3.subL (by simp), Lib.hid ?_⟩
            rw [HW.out]
            exact hP.out.set (.inr ⟨rfl, k, rfl⟩)
          case measure => simp [intOf]; omega
    · go_wp2
      go_end0
      exact ⟨rfl, hI.off⟩
end Go.Proofs.YtcenjpaiehidjaaDoor
