/- The row of what stands at a node, as a walk over a stack tells it: plain. -/
import Derived.Test.YtcenjpaiehidjaaDoorJ1
import Derived.Test.YtcenjpaiehidjaaDoorJ5
set_option linter.unusedSimpArgs false
set_option linter.unusedVariables false
namespace Go.Proofs.YtcenjpaiehidjaaDoor

/-- What is still to be told of a stack, its end first. -/
def rowOf (ns : List Nd) (xs : List Xp) (l : List Int) : List Int := (postL ns xs l).reverse
theorem rowOf_one (ns : List Nd) (x : Xp) (i : Int) : rowOf ns [x] [i] = (post ns x i).reverse := by unfold rowOf; rw [postL_cons, postL_nil, List.append_nil]
theorem rowOf_nil (ns : List Nd) : rowOf ns [] [] = [] := by unfold rowOf; rw [postL_nil]; rfl
/-- The last of the stack is told, and its kids are laid onto it. -/
theorem rowOf_step {ns : List Nd} {ys : List Xp} {l ls : List Int} {h : Hd} {ks : List Xp} {n : Int} (hl : l.length = ys.length) (hk : kidsAt ns n = ls) : rowOf ns (ys ++ [.node h ks]) (l ++ [n]) = n :: rowOf ns (ys ++ ks) (l ++ ls) := by
  unfold rowOf
  rw [postL_app ns _ _ ys l hl, postL_app ns _ _ ys l hl, postL_cons, postL_nil, List.append_nil, post_node, hk, ← List.append_assoc, List.reverse_append]
  rfl
/-- A stack that is not empty has a last one. -/
theorem stack_last {ns : List Nd} {xs : List Xp} {l : List Int} (h : sitsL ns xs l) (hl : l ≠ []) : ∃ ys x m n, xs = ys ++ [x] ∧ l = m ++ [n] ∧ m.length = ys.length ∧ sitsL ns ys m ∧ sits ns x n := by
  have hlen := sitsL_len h
  have hx : xs ≠ [] := fun e => by rw [e] at hlen; exact hl (List.eq_nil_of_length_eq_zero hlen)
  obtain ⟨ys, x, rfl⟩ : ∃ ys x, xs = ys ++ [x] := ⟨xs.dropLast, xs.getLast hx, (List.dropLast_concat_getLast hx).symm⟩
  obtain ⟨m, n, rfl⟩ : ∃ m n, l = m ++ [n] := ⟨l.dropLast, l.getLast hl, (List.dropLast_concat_getLast hl).symm⟩
  have hm : m.length = ys.length := by simpa using hlen
  obtain ⟨h1, h2⟩ := sitsL_part hm h
  exact ⟨ys, x, m, n, rfl, rfl, hm, h1, (sitsL_cc.1 h2).1⟩
/-- The stack behind a step holds trees still, and fewer nodes. -/
theorem stack_step {ns : List Nd} {ys : List Xp} {m : List Int} {h : Hd} {ks : List Xp} {n : Int} (h1 : sitsL ns ys m) (h2 : sits ns (.node h ks) n) : sitsL ns (ys ++ ks) (m ++ kidsAt ns n) ∧ sizeL (ys ++ ks) + 1 = sizeL (ys ++ [.node h ks]) := by
  obtain ⟨l, _, e, hl⟩ := (sits_node _ _ _ _).1 h2
  rw [kidsAt_get e]
  refine ⟨sitsL_app h1 hl, ?_⟩
  rw [sizeL_app, sizeL_app, sizeL_cons, sizeL_nil, Xp.size_node]
  omega
end Go.Proofs.YtcenjpaiehidjaaDoor

/- Contract of tree.walk: the row of what stands at a node, with kids turned about. -/
namespace Go.Proofs.YtcenjpaiehidjaaDoor
open Go.RowKit
set_option maxRecDepth 100000

abbrev intC (l : List Int) : List Value := l.map (Value.int .i64)
theorem intT : ElemT Tryd.prog 25 3 (.int .i64 0) 1 8 := ⟨by kernel_rfl, by kernel_rfl, rfl, by decide⟩
theorem intC_len (l : List Int) : (intC l).length = l.length := by simp
theorem intC_get {l : List Int} {j : Nat} {k : Int} (h : l[j]? = some k) : (intC l)[j]? = some (.int .i64 k) := by simp [h]
theorem intA_get {l : List Int} {j : Nat} {k : Int} (h : l[j]? = some k) : (intC l).toArray[j]? = some (.int .i64 k) := by rw [List.getElem?_toArray]; exact intC_get h
theorem intC_app (l m : List Int) : intC (l ++ m) = intC l ++ intC m := by simp
theorem intC_one (l : List Int) : ∀ u ∈ intC l, u.oneCell' = true := by intro u hu; obtain ⟨k, _, rfl⟩ := List.mem_map.1 hu; rfl
/-- The kids of a node, as what is appended. -/
theorem src_ints {W : World} {F : Nat → TypeId → Prop} {q : Option Addr} {l : List Int} (h : IntsAt W F q l) : l.length ≠ 0 → ∃ ad, q = some ad ∧ ∀ j u, (intC l)[j]? = some u → W.cell? (ad.add j) = some u := fun hl => by
  obtain ⟨b, o, e, _, hc⟩ := h (fun e => hl (by rw [e]; rfl))
  refine ⟨_, e, fun j u hu => ?_⟩
  rw [Addr.add_mid]
  cases hj : l[j]? with
  | none => simp [hj] at hu
  | some k => simp [hj] at hu; subst hu; exact hc j k hj
structure WalkI (ns : List Nd) (x : Xp) (i : Int) (o l : List Int) (xs : List Xp) : Prop where
  sits : sitsL ns xs l
  row : o ++ rowOf ns xs l = (post ns x i).reverse
  size : o.length + sizeL xs = x.size
theorem walkI_start {ns : List Nd} {x : Xp} {i : Int} (h : sits ns x i) : WalkI ns x i [] [i] [x] := ⟨sitsL_cc.2 ⟨h, (sitsL_nil _ _).2 rfl⟩, by rw [rowOf_one]; rfl, by rw [sizeL_cons, sizeL_nil]; simp⟩
theorem walkI_step {ns : List Nd} {x : Xp} {i : Int} {o m : List Int} {ys : List Xp} {y : Xp} {n : Int} (h : WalkI ns x i o (m ++ [n]) (ys ++ [y])) (hl : m.length = ys.length) (h1 : sitsL ns ys m) (h2 : sits ns y n) :
    WalkI ns x i (o ++ [n]) (m ++ kidsAt ns n) (ys ++ y.kids) := by
  cases y with
  | node hd ks =>
    obtain ⟨h3, h4⟩ := stack_step h1 h2
    refine ⟨h3, ?_, ?_⟩
    · rw [← h.row, rowOf_step hl rfl, List.append_assoc]; rfl
    · have := h.size
      have h5 : sizeL (ys ++ (Xp.node hd ks).kids) + 1 = sizeL (ys ++ [.node hd ks]) := h4
      rw [List.length_append, List.length_singleton]
      omega
abbrev walkR (v1 v2 : Value) (o l : List Int) : List OwnR := [⟨3, 1, v1, o.length, intC o⟩, ⟨3, 1, v2, l.length, intC l⟩]
theorem walk_idx {ns : List Nd} {y : Xp} {n : Int} (h : sits ns y n) : ∃ (j : Nat) (nd : Nd), n = (j : Int) ∧ j < ns.length ∧ ns[j]? = some nd ∧ kidsAt ns n = nd.kids ∧ nd.hd = y.hd ∧ sitsL ns y.kids nd.kids := by
  cases y with
  | node hd ks =>
    obtain ⟨l, h0, e, hk⟩ := (sits_node _ _ _ _).1 h
    obtain ⟨j, rfl⟩ := Int.eq_ofNat_of_zero_le h0
    rw [Int.toNat_natCast] at e
    exact ⟨j, _, rfl, (List.getElem?_eq_some_iff.1 e).1, e, kidsAt_some e, rfl, hk⟩
set_option maxHeartbeats 4000000 in
/-- tree.walk, not forth. -/
theorem walk_any (ns : List Nd) (x : Xp) (i : Int) (p : Option Addr) (cap : Nat) (root : Int) (hS : Small ns) (hz : x.size ≤ 100000) (hx : sits ns x i) (w : World) (F : Nat → TypeId → Prop) (hN : NodesAt w F p ns) :
    Calls Tryd.prog 59 #[arV p ns.length cap root, .int .i64 i, .bool false] w fun e w' => ∃ v, e = .returned v ∧ w'.ownsRow w.heap.size 3 1 v x.size (intC (post ns x i).reverse) ∧ Below w.heap.size w w' := by
  have hl := hS.len
  have hI0 := (((RInv.start noS w).alloc (arO p ns.length cap root)).lay 3 1 #[.int .i64 i] 1 1 rfl (by omega) (by unfold maxLen; omega)).nil 3 1
  rw [World.size_alloc] at hI0
  have HI0 := Lib.hid hI0
  have HN := Lib.hid hN
  have HS := Lib.hid hS
  have H0 := Lib.hid (walkI_start hx)
  clear hN hS hx hI0
  go_enter Tryd.func59, Tryd.ntmps59
  go_wp2
  go_loopw [7, 8] (fun v1 v2 wr => ∃ (o l : List Int) (xs : List Xp), RInv noS w [(w.heap.size, arO p ns.length cap root)] (walkR v1 v2 o l) wr ∧ Hid (WalkI ns x i o l xs)) (fun v1 _ _ => x.size - lenOfV v1)
  case atStart => exact ⟨[], [i], [x], HI0.out, H0⟩
  case round =>
    clear HI0 H0
    obtain ⟨o, l, xs, hI, hW⟩ := hrel
    have hown1 := hI.own1
    have hown2 := hI.own2
    have hlv := row_len hown1
    have hsz := hW.out.size
    by_cases hnil : l = []
    · subst hnil
      obtain ⟨q, c2, rfl, _⟩ := row_slice hown2
      have hfin : o = (post ns x i).reverse ∧ o.length = x.size := by
        have h1 := hW.out.row
        have h2 := sitsL_len hW.out.sits
        have h3 : xs = [] := List.eq_nil_of_length_eq_zero h2.symm
        subst h3
        rw [rowOf_nil, List.append_nil] at h1
        rw [sizeL_nil] at hsz
        exact ⟨h1, hsz⟩
      have Hfin := Lib.hid hfin
      have Hown := Lib.hid hI.fresh
      clear hfin hown1 hown2 hsz
      go_wp2
      go_ret
      refine ⟨_, rfl, ?_, hI.below⟩
      have := Hown.out
      rw [Hfin.out.2, Hfin.out.1] at this
      exact this
    · obtain ⟨ys, y, m, n, rfl, rfl, hml, h1, h2⟩ := stack_last hW.out.sits hnil
      obtain ⟨j, nd, rfl, hj, hnd, hk, hhd, hkk⟩ := walk_idx h2
      have hstep := walkI_step hW.out hml h1 h2
      rw [hk] at hstep
      have hsz2 := hstep.size
      have hlen2 := sitsL_len hstep.sits
      have hle := sizeL_le_len (ys ++ y.kids)
      obtain ⟨g, c2, cur, hv2, _, _, hc2, _⟩ := row_form hown2 (by simp)
      have hv2' : u8 = .slice (some ⟨g, 0, none⟩) (m.length + 1) c2 := by rw [hv2]; simp
      subst hv2'
      obtain ⟨b, off, hp, _, hc⟩ := HN.out (by intro h; rw [h] at hj; exact absurd hj (by simp))
      subst hp
      obtain ⟨q, cap', hd, hr, hki⟩ := hc j nd hnd
      have Hstep := Lib.hid hstep
      have Hki := Lib.hid hki
      have Hhl := Lib.hid hlv
      have hkl := HS.out.kids nd (List.mem_of_getElem? hnd)
      have hcn : wr.cell? ⟨g, m.length, none⟩ = some (.int .i64 j) := row_cell hown2 rfl (by simp)
      have Hlt : Hid (b < w.heap.size) := Lib.hid (block_lt_of_cell (hr 0 _ rfl))
      have Hr := Lib.hid hr
      obtain ⟨hlo, hox⟩ : m.length + nd.kids.length + o.length + 1 ≤ 100000 ∧ o.length + 1 ≤ x.size := by rw [List.length_append] at hlen2; simp only [List.length_append, List.length_singleton] at hsz2; omega
      clear hstep h1 h2 hhd hkk hnil hc hr hki hv2 hlv hown1 hown2 hsz hle hlen2 hnd hd hk hml hsz2
      go_wp2_with (at_builtin; refine app_new intT rfl (.tmp 21) (.tmp 23) rfl #[.int .i64 j] rfl rfl rfl (by simp [Value.oneCell']) hI (by unfold maxLen; omega) (by omega) ?_; intro v1 W1 hJ hg; clear hg)
      clear hI hcn
      have c0 := hJ.cell (g := w.heap.size) (j := 0) (v := .slice (some ⟨b, off, none⟩) ns.length cap) List.mem_cons_self rfl
      have c8 : W1.cell? ⟨b, off + j * 9 + 8, none⟩ = some (.slice q nd.kids.length cap') := (hJ.below.cell (p := ⟨b, off + j * 9 + 8, none⟩) Hlt.out).trans (Hr.out 8 _ rfl)
      have hwr : IntKind.i64.wrap (m.length : Int) = (m.length : Int) := IntWalk.i64_in _ (by omega)
      have hm0 : (0 : Int) ≤ (m.length : Int) := by omega
      have hm1 : (m.length : Int) ≤ (c2 : Int) := by rw [List.length_append] at hc2; omega
      go_still_tail 11, (by kernel_rfl)
      change wpList _ _ _ _ _ W1.drew
      have hJ2 : RInv noS w [(w.heap.size, arO (some ⟨b, off, none⟩) ns.length cap root)] [⟨3, 1, .slice (some ⟨g, 0, none⟩) m.length c2, m.length, intC m⟩, ⟨3, 1, v1, (o ++ [(j : Int)]).length, intC (o ++ [(j : Int)])⟩] W1.drew := by
        have h1 := hJ.drew.swap
        have h2 : (m ++ [(j : Int)]).length = m.length + 1 := by simp
        rw [h2] at h1
        have h3 := h1.cut (k' := m.length) (by omega)
        rw [Nat.mul_one, intC_app, List.take_left' (intC_len m)] at h3
        rw [intC_app, List.length_append]
        exact h3
      refine app_row intT rfl (.tmp 29) (.tmp 35) rfl q nd.kids.length cap' (intC nd.kids) rfl rfl (by simp) (src_ints (Hki.out.keep fun b' _ _ hlt => hJ.drew.below.block b' hlt)) (intC_one _) hJ2 (by unfold maxLen; omega) (by omega) ?_
      intro v2 W2 hJ3 hg
      clear hg hJ hJ2 c0 c8 hwr hm0 hm1
      go_wp2
      go_roundw
      case rel =>
        refine ⟨o ++ [(j : Int)], m ++ nd.kids, ys ++ y.kids, ?_, Hstep⟩
        have h1 := hJ3.swap
        rw [← intC_app, ← List.length_append] at h1
        exact h1
      case measure =>
        have := row_len hJ3.own2
        rw [this, Hhl.out]
        simp
        omega
end Go.Proofs.YtcenjpaiehidjaaDoor
