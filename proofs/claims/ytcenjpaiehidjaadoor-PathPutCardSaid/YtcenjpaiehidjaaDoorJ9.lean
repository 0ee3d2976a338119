/- Contract of tree.Of. -/
import Derived.Test.YtcenjpaiehidjaaDoorJ8
import Derived.Deep.RegionHeldLaw
import Derived.Deep.DrawnRows
set_option linter.unusedSimpArgs false
set_option linter.unusedVariables false
namespace Go.Proofs.YtcenjpaiehidjaaDoor
open Go.RowKit
set_option maxRecDepth 100000

abbrev fOf : Value := .func (.func 96) #[] #[]
set_option maxHeartbeats 2000000 in
theorem ofNot_any (ns : List Nd) (root : Int) (p : Option Addr) (cap : Nat) (hS : Small ns) (w : World) (F : Nat → TypeId → Prop) (hN : NodesAt w F p ns) (hT : KidsT w) (r : Bool) (hr : r = true ↔ RightP ⟨ns, root⟩) :
    Calls Tryd.prog 96 #[arV p ns.length cap root] w fun e w' => e = .returned (.bool !r) ∧ Below w.heap.size w w' := by
  have hI := (RInv.start noS w).alloc (arO p ns.length cap root)
  have HN := Lib.hid hN
  have HR := Lib.hid hr
  have HS := Lib.hid hS
  have HT := Lib.hid hT
  clear hN hr hS hT
  cases r
  · go_enter Tryd.func96, Tryd.ntmps96
    go_wp2_with (first | (go_at_call 15; refine (right_false ns root _ cap HS.out _ F (HN.out.below hI.below) (HT.out.keep hI.below) (fun h => by have := HR.out.2 h; cases this)).mono ?_; rintro e W1 ⟨rfl, hb1⟩; have hI1 := hI.call hb1; clear hb1))
    go_ret
    exact ⟨rfl, hI1.below⟩
  · go_enter Tryd.func96, Tryd.ntmps96
    go_wp2_with (first | (go_at_call 15; refine (right_true ns root _ cap HS.out _ F (HN.out.below hI.below) (HT.out.keep hI.below) (HR.out.1 rfl)).mono ?_; rintro e W1 ⟨rfl, hb1⟩; have hI1 := hI.call hb1; clear hb1))
    go_ret
    exact ⟨rfl, hI1.below⟩
theorem right_dec (T : Ar) : ∃ r : Bool, r = true ↔ RightP T := by
  by_cases h : RightP T
  · exact ⟨true, by simp [h]⟩
  · exact ⟨false, by simp [h]⟩
set_option maxHeartbeats 2000000 in
/-- slices.IndexFunc, of trees that are not right. -/
theorem idxOf_any (ts : List Ar) (p : Option Addr) (cap : Nat) (hS : SmallT ts) (w : World) (F : Nat → TypeId → Prop) (hN : TreesAt w F p ts) (hT : KidsT w) :
    Calls Tryd.prog 98 #[.slice p ts.length cap, fOf] w fun e w' => (∃ r : Int, e = .returned (.int .i64 r) ∧ (0 ≤ r ↔ ¬ ∀ T ∈ ts, RightP T)) ∧ Below w.heap.size w w' := by
  have hl := hS.len
  have HN := Lib.hid hN
  have HS := Lib.hid hS
  have HT := Lib.hid hT
  clear hN hS hT
  go_enter Tryd.func98, Tryd.ntmps98
  go_wp2
  go_loopw [8] (fun iv wr => ∃ k : Nat, k ≤ ts.length ∧ iv = .int .i64 k ∧ Hid (∀ j T, j < k → ts[j]? = some T → RightP T) ∧ Below w.heap.size w wr) (fun iv _ => ts.length - (intOf iv).toNat)
  case atStart => exact ⟨0, by omega, rfl, Lib.hid (fun j T h => absurd h (by omega)), Below.refl _ _⟩
  case round =>
    obtain ⟨k, hk, rfl, hA, hb⟩ := hrel
    by_cases hlt : k < ts.length
    · obtain ⟨T, hTk⟩ : ∃ T, ts[k]? = some T := ⟨_, List.getElem?_eq_getElem hlt⟩
      obtain ⟨b, o, rfl, _, hc⟩ := HN.out (by intro h; rw [h] at hlt; exact absurd hlt (by simp))
      obtain ⟨q, c, h1, h2, h3⟩ := hc k T hTk
      have hblt := block_lt_of_cell h1
      have c0 := (hb.cell (p := ⟨b, o + k * 2, none⟩) hblt).trans h1
      have c1 := (hb.cell (p := ⟨b, o + k * 2 + 1, none⟩) hblt).trans h2
      have H3 := Lib.hid (h3.below hb)
      have hsm := HS.out.each T (List.mem_of_getElem? hTk)
      obtain ⟨r, hr⟩ := right_dec T
      have Hr := Lib.hid hr
      have Hsm := Lib.hid hsm
      have HTk := Lib.hid hTk
      have Hb := Lib.hid hb
      clear hc h1 h2 h3 hsm hr hTk hb
      cases r
      · go_wp2_with (first | (go_at_call 96; refine (ofNot_any T.nodes T.root q c Hsm.out _ F H3.out (HT.out.keep Hb.out) false Hr.out).mono ?_; rintro e W1 ⟨rfl, hb1⟩))
        go_ret
        refine ⟨⟨k, rfl, ?_⟩, Hb.out.trans (hb1.mono Hb.out.size)⟩
        constructor
        · intro _ h
          have := Hr.out.2 (h T (List.mem_of_getElem? HTk.out))
          cases this
        · intro _; omega
      · go_wp2_with (first | (go_at_call 96; refine (ofNot_any T.nodes T.root q c Hsm.out _ F H3.out (HT.out.keep Hb.out) true Hr.out).mono ?_; rintro e W1 ⟨rfl, hb1⟩))
        go_roundw
        case rel => exact ⟨k + 1, by omega, by go_num, Lib.hid (fun j T' hj hT' => by
          by_cases hjk : j < k
          · exact hA.out j T' hjk hT'
          · obtain rfl : j = k := by omega
            rw [HTk.out] at hT'
            injection hT' with hT'
            subst hT'
            exact Hr.out.1 trivial), Hb.out.trans (hb1.mono Hb.out.size)⟩
        case measure => simp [intOf]; omega
    · obtain rfl : k = ts.length := by omega
      go_wp2
      go_ret
      refine ⟨⟨-1, rfl, ?_⟩, hb⟩
      constructor
      · intro h; omega
      · intro h
        refine absurd (fun T hT => ?_) h
        obtain ⟨j, hj, e⟩ := List.getElem_of_mem hT
        exact hA.out j T hj (by rw [List.getElem?_eq_getElem hj, e])
set_option maxHeartbeats 2000000 in
/-- slices.ContainsFunc, of trees that are not right. -/
theorem hasOf_any (ts : List Ar) (p : Option Addr) (cap : Nat) (hS : SmallT ts) (w : World) (F : Nat → TypeId → Prop) (hN : TreesAt w F p ts) (hT : KidsT w) (r : Bool) (hr : r = true ↔ ∀ T ∈ ts, RightP T) :
    Calls Tryd.prog 95 #[.slice p ts.length cap, fOf] w fun e w' => e = .returned (.bool !r) ∧ Below w.heap.size w w' := by
  have hc := Lib.hid (idxOf_any ts p cap hS w F hN hT)
  have Hr := Lib.hid hr
  clear hr hS hN hT
  go_enter Tryd.func95, Tryd.ntmps95
  go_wp2_with (first | (go_at_call 98; refine hc.out.mono ?_; rintro e W1 ⟨⟨i, rfl, hi⟩, hb1⟩; replace hi := Lib.hid hi))
  go_ret
  refine ⟨ret_bool ?_, hb1⟩
  rw [Bool.eq_iff_iff]
  simp only [decide_eq_true_eq, hi.out, ← Hr.out]
  cases r <;> simp
end Go.Proofs.YtcenjpaiehidjaaDoor

/- What tree.Of does to the memory of its own. -/
namespace Go.Proofs.YtcenjpaiehidjaaDoor
open Go.RowKit
set_option maxRecDepth 100000

/-- Arenas that read as trees. -/
structure ReadL (ts : List Ar) (ks : List Xp) : Prop where
  len : ts.length = ks.length
  get : ∀ (j : Nat) T, ts[j]? = some T → ∃ y, ks[j]? = some y ∧ RightP T ∧ sits T.nodes y T.root
theorem readL_clean {ks : List Xp} (h : ∀ k ∈ ks, okX k = true) : ReadL (ks.map clean) ks :=
  ⟨by simp, fun j T hj => by
    rw [List.getElem?_map] at hj
    cases e : ks[j]? with
    | none => rw [e] at hj; cases hj
    | some y =>
      rw [e] at hj
      injection hj with hj
      subst hj
      exact ⟨y, rfl, clean_right (h y (List.mem_of_getElem? e)), sits_clean y⟩⟩
theorem ReadL.all {ts : List Ar} {ks : List Xp} (h : ReadL ts ks) : ∀ T ∈ ts, RightP T := fun T hT => by
  obtain ⟨j, hj, e⟩ := List.getElem_of_mem hT
  obtain ⟨_, _, h1, _⟩ := h.get j T (by rw [List.getElem?_eq_getElem hj, e])
  exact h1
theorem mem_layL {nd : Nd} : ∀ {ks : List Xp} {off : Nat}, nd ∈ layL ks off → ∃ k ∈ ks, ∃ o, nd ∈ lay k o
  | [], off, h => by rw [layL_nil] at h; cases h
  | k :: ks, off, h => by
    rw [layL_cons] at h
    rcases List.mem_append.1 h with h | h
    · exact ⟨k, List.mem_cons_self, _, h⟩
    · obtain ⟨k', hk, o, ho⟩ := mem_layL h
      exact ⟨k', List.mem_cons_of_mem _ hk, o, ho⟩
theorem lay_kids (x : Xp) : ∀ (off : Nat) (nd : Nd), nd ∈ lay x off → nd.kids.length ≤ x.size := by
  induction x using Xp.ind with
  | h hh ks ih =>
    intro off nd h
    rw [lay_node] at h
    rw [Xp.size_node]
    rcases List.mem_append.1 h with h | h
    · obtain ⟨k, hk, o, ho⟩ := mem_layL h
      have h1 := ih k hk o nd ho
      have h2 := size_le_of_mem hk
      omega
    · simp at h
      subst h
      have := rootsL_len ks off
      have h2 := sizeL_le_len ks
      simp only
      omega
theorem small_one {y : Xp} (h : y.size ≤ 100000) : Small (clean y).nodes := ⟨by rw [clean_len]; exact h, fun nd hnd => by have := lay_kids y 0 nd hnd; omega⟩
theorem small_clean {ks : List Xp} (h : sizeL ks ≤ 100000) : SmallT (ks.map clean) := by
  refine ⟨by have := sizeL_le_len ks; simp; omega, fun T hT => ?_⟩
  obtain ⟨y, hy, rfl⟩ := List.mem_map.1 hT
  have h1 := size_le_of_mem hy
  exact small_one (by omega)
/-- Blocks of the call's own but for one slice's. -/
def Ex (v : Value) (s : Nat) (W : World) (b : Nat) (t : TypeId) : Prop := Own s W b t ∧ v.ownBlock ≠ some b
variable {W W1 W2 : World} {s : Nat} {v v' vo : Value} {xs : List Value} {ns : List Nd}
theorem ex_keep (h : NodesIn W (Ex v s W) xs ns) (hk : ∀ b, Own s W b 3 → v.ownBlock ≠ some b → W1.heap[b]? = W.heap[b]?) (hv : ∀ b, b < W.heap.size → v.ownBlock ≠ some b → v'.ownBlock ≠ some b) : NodesIn W1 (Ex v' s W1) xs ns :=
  h.turn fun b hb hlt => by
    obtain ⟨⟨h1, cur, h2⟩, h3⟩ := hb
    have := hk b ⟨h1, cur, h2⟩ h3
    exact ⟨this, ⟨h1, cur, this.trans h2⟩, hv b hlt h3⟩
theorem ex_below (h : NodesIn W (Ex v s W) xs ns) (hb : Below W.heap.size W W1) : NodesIn W1 (Ex v s W1) xs ns := ex_keep h (fun b ho _ => hb.block b ho.lt) (fun _ _ h => h)
theorem ex_put (h : NodesIn W2 (Since (Ex v s W1) W1.heap.size W2) xs ns) (hg : W1.grownBy W2 vo.ownBlock) {k : Nat} {ys : List Value} (ho : W1.ownsRow 0 56 9 vo k ys) (hv : ∀ g, v.ownBlock = some g → g < W1.heap.size) (hs : s ≤ W1.heap.size) : NodesIn W2 (Ex v s W2) xs ns :=
  h.turn fun b hb hlt => by
    refine ⟨rfl, ?_⟩
    rcases hb with ⟨⟨h1, cur, h2⟩, h3⟩ | ⟨h1, cur, h2⟩
    · have hk := hg.block b (lt_of_heap h2) (fun e => by have := row_type ho b cur _ e.symm h2; exact absurd this (by decide))
      exact ⟨⟨h1, cur, hk.trans h2⟩, h3⟩
    · exact ⟨⟨by omega, cur, h2⟩, fun e => by have := hv b e; omega⟩
theorem ex_app (h : NodesIn W (Ex v s W) xs ns) (hg : W.grownBy W1 v.ownBlock) (hb : v'.ownBlock = v.ownBlock ∨ ∀ g, v'.ownBlock = some g → W.heap.size ≤ g) : NodesIn W1 (Ex v' s W1) xs ns :=
  ex_keep h (fun b ho hne => hg.block b ho.lt (fun e => hne e.symm)) (fun b hlt hne e => by
    rcases hb with hb | hb
    · exact hne (by rw [← hb]; exact e)
    · have := hb b e; omega)
theorem ex_node (h : NodesIn W (Ex v s W) xs ns) {g : Nat} {cur : Array Value} (hg : W.grownBy W1 (some g)) (hh : W.heap[g]? = some (.cells cur 56 (0, 0))) : NodesIn W1 (Ex v s W1) xs ns :=
  ex_keep h (fun b ho _ => (own_grown hg hh (by decide) ho).1) (fun _ _ h => h)
theorem ex_own (h : NodesIn W (Ex v s W) xs ns) : NodesIn W (Own s W) xs ns := h.turn fun _ hb _ => ⟨rfl, hb.1⟩
/-- A row of ints of the call's own, as ints in memory. -/
theorem row_ints {q : Option Addr} {k c : Nat} {l : List Int} (h : W.ownsRow 0 3 1 (.slice q k c) k (intC l)) (hs : ∀ g, (Value.slice q k c).ownBlock = some g → s ≤ g) : IntsAt W (Own s W) q l := fun hl => by
  have hk : 0 < k := by
    have := h.1
    rw [intC_len, Nat.mul_one] at this
    have : l.length ≠ 0 := fun e => hl (List.eq_nil_of_length_eq_zero e)
    omega
  obtain ⟨g, cap, cur, e, _, hh, _⟩ := row_form h hk
  injection e with e1 _ _
  subst e1
  refine ⟨g, 0, rfl, ⟨hs g rfl, cur, hh⟩, fun j u hj => ?_⟩
  rw [Nat.zero_add]
  exact row_cell h rfl (intC_get hj)
/-- The node itself is put behind its kids. -/
theorem of_last {W3 : World} {k : Nat} {ys : List Value} {g : Nat} {cur : Array Value} (h : NodesIn W (Ex v s W) xs ns) {nd : Nd} (hd : HdOk nd.hd) (q : Option Addr) (cap : Nat) (hq : IntsAt W (Own s W) q nd.kids) (ho : W.ownsRow 0 56 9 vo k ys) (hg : W.grownBy W2 vo.ownBlock)
    (hh : W2.heap[g]? = some (.cells cur 24 (0, 0))) (h3 : W2.grownBy W3 (some g)) : NodesIn W3 (Own s W3) (xs ++ ndC nd.hd q nd.kids.length cap) (ns ++ [nd]) :=
  (((ex_own h).push hd q cap hq).turn (F' := Own s W2) fun b hb hlt => by
    have hk := hg.block b hlt fun e => row_other ho (by decide) b hb.2.choose e.symm hb.2.choose_spec
    exact ⟨hk, hb.1, hb.2.choose, hk.trans hb.2.choose_spec⟩).turn fun b hb _ => own_grown h3 hh (by decide) hb
end Go.Proofs.YtcenjpaiehidjaaDoor

/- Contract of tree.Of: the walk. -/
namespace Go.Proofs.YtcenjpaiehidjaaDoor
open Go.RowKit
set_option maxRecDepth 100000

abbrev ofR (q : Option Addr) (k c : Nat) (vo : Value) (ks : List Xp) (xs : List Value) : List OwnR := [⟨3, 1, .slice q k c, k, intC (rootsL (ks.take k) 0)⟩, ⟨56, 9, vo, sizeL (ks.take k), xs⟩]
theorem take_snoc {ks : List Xp} {k : Nat} {y : Xp} (h : ks[k]? = some y) : ks.take (k + 1) = ks.take k ++ [y] := by
  obtain ⟨hk, e⟩ := List.getElem?_eq_some_iff.1 h
  rw [List.take_succ_eq_append_getElem hk, e]
theorem size_snoc {ks : List Xp} {k : Nat} {y : Xp} (h : ks[k]? = some y) : sizeL (ks.take (k + 1)) = sizeL (ks.take k) + y.size := by rw [take_snoc h, sizeL_app, sizeL_cons, sizeL_nil]; rfl
theorem lay_snoc {ks : List Xp} {k : Nat} {y : Xp} (h : ks[k]? = some y) : layL (ks.take (k + 1)) 0 = layL (ks.take k) 0 ++ lay y (sizeL (ks.take k)) := by rw [take_snoc h, layL_app, layL_cons, layL_nil, Nat.zero_add, List.append_nil]
theorem roots_snoc {ks : List Xp} {k : Nat} {y : Xp} (h : ks[k]? = some y) : rootsL (ks.take (k + 1)) 0 = rootsL (ks.take k) 0 ++ [((sizeL (ks.take k) + y.size : Nat) : Int) - 1] := by rw [take_snoc h, rootsL_app, rootsL_cons, Nat.zero_add]; rfl
theorem roots_snoc2 {ks : List Xp} {k : Nat} {y : Xp} (h : ks[k]? = some y) : intC (rootsL (ks.take (k + 1)) 0) = intC (rootsL (ks.take k) 0) ++ [.int .i64 ((sizeL (ks.take (k + 1)) : Int) - 1)] := by rw [roots_snoc h, intC_app, size_snoc h]; rfl
theorem sizeL_take (ks : List Xp) (k : Nat) : sizeL (ks.take k) ≤ sizeL ks := by
  have h := sizeL_app (ks.take k) (ks.drop k)
  rw [List.take_append_drop] at h
  omega
set_option maxHeartbeats 8000000 in
/-- tree.Of, of a node that fits, and kids that are right. -/
theorem of_yes (nh : Hd) (hd : HdOk nh) (qk : Option Addr) (nk ck : Nat) (ks : List Xp) (ts : List Ar) (p : Option Addr) (cap : Nat) (hS : SmallT ts) (hR : ReadL ts ks) (hf : fitsB nh ts.length = true) (hz : sizeL ks ≤ 99999) (w : World) (F : Nat → TypeId → Prop) (hN : TreesAt w F p ts) (hT : KidsT w) :
    Calls Tryd.prog 90 #[ndV nh qk nk ck, .slice p ts.length cap] w fun e w' => GetsT w.heap.size w' e (some (.node nh ks)) ∧ Below w.heap.size w w' := by
  have hl := hS.len
  have HN : Hid (TreesAt w (fun b _ => b < w.heap.size) p ts) := Lib.hid (hN.turn fun b t _ hlt => ⟨rfl, hlt⟩)
  have HS := Lib.hid hS
  have HR := Lib.hid hR
  have HT := Lib.hid hT
  have Hd := Lib.hid hd
  have Hf := Lib.hid hf
  have Hlen := Lib.hid hR.len
  have hI := ((RInv.start noS w).alloc (ndO nh qk nk ck)).alloc (arO none 0 0 0)
  rw [World.size_alloc] at hI
  clear hN hS hR hT hd hf
  go_enter Tryd.func90, Tryd.ntmps90
  go_wp2_with (first | (go_at_call 34; with_reducible refine (fits_any nh Hd.out qk nk ck ts.length _ (HT.out.keep hI.below)).mono ?_; rw [Hf.out]; rintro e W1 ⟨rfl, hb1⟩; have hI1 := hI.call hb1; clear hb1) | (go_at_call 95; refine (hasOf_any ts p cap HS.out _ _ (HN.out.below hI1.below) (HT.out.keep hI1.below) true (by simp; exact HR.out.all)).mono ?_; rintro e W2 ⟨rfl, hb2⟩; have hI2 := (hI1.call hb2).subL (L' := [(w.heap.size, ndO nh qk nk ck), (w.heap.size + 1, arO none 0 0 0)]) (by simp)) | (refine rinv_store rfl _ _ _ rfl w.heap.size 8 (ndC nh qk nk ck).toArray 56 (.slice none 0 0) rfl rfl rfl szInts (by simp) hI2 (.inl (by omega)) (by simp) ?_; intro W3 hI3 hW; clear hW; rw [ndO_set] at hI3))
  have HI4 := Lib.hid ((hI3.nil 56 9).nil 3 1)
  clear hI hI1 hI2 hI3
  go_loopw [6, 22] (fun vo iv wr => ∃ (k : Nat) (xs : List Value) (q : Option Addr) (c : Nat), k ≤ ts.length ∧ iv = .int .i64 k ∧ RInv noS w [(w.heap.size, ndO nh q k c), (w.heap.size + 1, arO none 0 0 0)] (ofR q k c vo ks xs) wr ∧ Hid (NodesIn wr (Ex (.slice q k c) w.heap.size wr) xs (layL (ks.take k) 0))) (fun _ iv _ => ts.length - (intOf iv).toNat)
  case atStart => exact ⟨0, [], none, 0, by omega, rfl, HI4.out, Lib.hid (NodesIn.nil _ _)⟩
  case round =>
    clear HI4
    obtain ⟨wo, rfl⟩ : ∃ wo : World, wo = wr := ⟨_, rfl⟩
    obtain ⟨k, xs, q', c', hk, rfl, hI, hX⟩ := hrel
    by_cases hlt : k < ts.length
    · obtain ⟨qo, co, rfl, _, _⟩ := row_slice hI.own2
      obtain ⟨T, hTk⟩ : ∃ T, ts[k]? = some T := ⟨_, List.getElem?_eq_getElem hlt⟩
      obtain ⟨y, hy, hRT, hsT⟩ := HR.out.get k T hTk
      obtain ⟨b, o, rfl, hbw, hc⟩ := HN.out (by intro h; rw [h] at hlt; exact absurd hlt (by simp))
      obtain ⟨q, c, h1, h2, h3⟩ := hc k T hTk
      have c0 := (hI.below.cell (p := ⟨b, o + k * 2, none⟩) hbw).trans h1
      have c1 := (hI.below.cell (p := ⟨b, o + k * 2 + 1, none⟩) hbw).trans h2
      have H3 := Lib.hid h3
      have Hsm := Lib.hid (HS.out.each T (List.mem_of_getElem? hTk))
      have Hy := Lib.hid hy
      have HRT := Lib.hid hRT
      have HsT := Lib.hid hsT
      have hm2 := sizeL_take ks (k + 1)
      have hm1 := sizeL_take ks k
      have hyz : y.size ≤ 100000 := by have := size_le_of_mem (List.mem_of_getElem? hy); omega
      have hm3 : 0 < sizeL (ks.take (k + 1)) := by have := size_snoc hy; have := y.size_pos; omega
      have hIa := hI.alloc (arO q T.nodes.length c T.root)
      have HXa := Lib.hid (ex_below hX.out ((Below.refl _ _).alloc (Nat.le_refl _) (arO q T.nodes.length c T.root)))
      clear hc h1 h2 h3 hy hRT hsT hTk
      go_wp2_with (first | (go_at_call 38; refine (put_any T.nodes (layL (ks.take k) 0) y T.root q c T.root Hsm.out hyz HsT.out HRT.out.down' _ (fun b _ => b < w.heap.size) (H3.out.below hIa.below) _ xs 0 (by rw [layL_len]; exact hIa.own2) (by rw [layL_len]; omega) _ HXa.out (fun b hb => ⟨hb.1.lt, fun e => absurd (row_type hIa.own2 b _ _ e hb.1.2.choose_spec) (by decide)⟩) (Nat.zero_le _) (fun b t hb e => by have := hIa.new _ (List.mem_cons_of_mem _ List.mem_cons_self) b e; rcases this with h | h; omega; exact h)).mono ?_; rintro e W5 ⟨v2, xs2, rfl, ho2, hx2, hg2, hb5⟩; rw [layL_len, ← lay_snoc Hy.out] at ho2 hx2; rw [layL_len] at ho2; have hIb := ((hIa.swap.grow (r' := ⟨56, 9, v2, sizeL (ks.take (k + 1)), xs2⟩) hg2 ho2 hb5).swap).subL (L' := [(w.heap.size, ndO nh q' k c'), (w.heap.size + 1, arO none 0 0 0)]) (by simp); have HX5 := Lib.hid (ex_put hx2 hg2 hIa.own2 (fun g hg => own_lt hIa List.mem_cons_self hg) hIa.size); obtain ⟨q2, c2, rfl, _, _⟩ := row_slice hIb.own2; have c8 := hIb.cell (g := w.heap.size) (j := 8) (v := .slice q' k c') List.mem_cons_self rfl; clear ho2 hx2 hg2 hb5 c0 c1) | (at_builtin; refine app_newB intT rfl (.tmp 32) (.tmp 36) rfl _ rfl rfl rfl (by simp [Value.oneCell']) hIb (by unfold maxLen; omega) (by omega) ?_; intro v3 W6 hIc hg3 hb6; rw [List.toList_toArray, ← roots_snoc2 Hy.out] at hIc; have HX6 := Lib.hid (ex_app HX5.out hg3 hb6); obtain ⟨q3, c3, rfl, _, _⟩ := row_slice hIc.own1; clear hg3 hb6 c8) | (refine rinv_store rfl _ _ _ rfl w.heap.size 8 (ndC nh q' k c').toArray 56 (.slice q3 (k + 1) c3) rfl rfl rfl szInts (by simp) hIc (.inl (by omega)) (by simp) ?_; intro W7 hId hW; have HX7 := Lib.hid (ex_node (W1 := W7) HX6.out (by rw [hW]; exact grown_setCell _ _ _ _) (hIc.at List.mem_cons_self)); clear hW; rw [ndO_set] at hId))
      go_roundw
      case rel => exact ⟨k + 1, xs2, q3, c3, by omega, by go_num, hId, HX7⟩
      case measure => simp [intOf]; omega
    · obtain rfl : k = ts.length := by omega
      have hall : ks.take ts.length = ks := by rw [Hlen.out]; exact List.take_length
      have hrl : (rootsL ks 0).length = ts.length := by rw [rootsL_len, Hlen.out]
      rw [hall] at hX
      simp only [ofR, hall] at hI
      have Hall := Lib.hid hrl
      obtain ⟨qo, co, rfl, _, _⟩ := row_slice hI.own2
      clear hall hrl
      go_wp2_with (first | (refine load_own rfl _ rfl w.heap.size rfl nh q' ts.length c' (hI.at List.mem_cons_self) ?_) | (at_builtin; refine app_new nodeT rfl (.tmp 40) (.tmp 42) rfl (ndC nh q' ts.length c').toArray rfl rfl rfl (by simp [Value.oneCell']) hI.swap (by unfold maxLen; omega) (by omega) ?_; intro v2 W2 hI2 hg2; obtain ⟨q2, c2, rfl, _, _⟩ := row_slice hI2.own1) | (refine rinv_row rfl _ _ _ rfl (w.heap.size + 1) #[.slice none 0 0, .int .i64 0] #[.slice q2 (sizeL ks + 1) c2, .int .i64 (sizeL ks : Int)] 24 rfl rfl (by simp [Value.oneCell']) szTree rfl (hI2.subL (L' := [(w.heap.size + 1, arO none 0 0 0), (w.heap.size, ndO nh q' ts.length c')]) (by simp)) (.inl (by omega)) (by simp) ?_; intro W3 hI3 hg3; obtain ⟨c0, c1⟩ := box_cells hI3 List.mem_cons_self))
      have hlast := of_last (nd := ⟨nh, rootsL ks 0⟩) hX.out Hd.out q' c' (row_ints (s := w.heap.size) (by have := hI.own1; exact this) (fun g hg => (hI.new _ List.mem_cons_self g hg).elim id False.elim)) hI.own2 hg2 (hI2.at (g := w.heap.size + 1) (List.mem_cons_of_mem _ List.mem_cons_self)) hg3
      rw [← lay_node] at hlast
      have ho := hI3.fresh
      have hlen : (lay (.node nh ks) 0).length = sizeL ks + 1 := by rw [lay_len, Xp.size_node]
      simp only [Hall.out] at hlast
      obtain ⟨p3, c3, he, hn3⟩ := hlast.at (v := .slice q2 (sizeL ks + 1) c2) (by rw [hlen]; exact ho)
      rw [hlen] at he
      injection he with e1 _ e3
      subst e1 e3
      refine bodyPost_ret (v := .tuple #[arV q2 (sizeL ks + 1) c2 (sizeL ks : Int), .bool true]) (by simp [results, Tryd.results90, go_sem, c0, c1]) rfl ⟨⟨_, rfl, q2, c2, ?_, hn3⟩, hI3.below⟩
      rw [clean_len, Xp.size_node]
      simp [clean, Xp.size_node]
set_option maxHeartbeats 4000000 in
/-- tree.Of, where it says no. -/
theorem of_no (nh : Hd) (hd : HdOk nh) (qk : Option Addr) (nk ck : Nat) (ts : List Ar) (p : Option Addr) (cap : Nat) (hS : SmallT ts) (hf : ¬ (fitsB nh ts.length = true ∧ ∀ T ∈ ts, RightP T)) (w : World) (F : Nat → TypeId → Prop) (hN : TreesAt w F p ts) (hT : KidsT w) :
    Calls Tryd.prog 90 #[ndV nh qk nk ck, .slice p ts.length cap] w fun e w' => GetsT w.heap.size w' e none ∧ Below w.heap.size w w' := by
  have hl := hS.len
  have HN := Lib.hid hN
  have HS := Lib.hid hS
  have HT := Lib.hid hT
  have Hd := Lib.hid hd
  have hI := ((RInv.start noS w).alloc (ndO nh qk nk ck)).alloc (arO none 0 0 0)
  rw [World.size_alloc] at hI
  clear hN hS hT hd
  cases hb : fitsB nh ts.length
  · have Hf := Lib.hid hb
    clear hb hf
    go_enter Tryd.func90, Tryd.ntmps90
    go_wp2_with (first | (go_at_call 34; with_reducible refine (fits_any nh Hd.out qk nk ck ts.length _ (HT.out.keep hI.below)).mono ?_; rw [Hf.out]; rintro e W1 ⟨rfl, hb1⟩; have hI1 := hI.call hb1; clear hb1) | (refine rinv_row rfl _ _ _ rfl (w.heap.size + 1) #[.slice none 0 0, .int .i64 0] #[.slice none 0 0, .int .i64 0] 24 rfl rfl (by simp [Value.oneCell']) szTree rfl hI1 (.inl (by omega)) (by simp) ?_; intro W3 hI3 hg3; obtain ⟨c0, c1⟩ := box_cells hI3 List.mem_cons_self))
    exact bodyPost_ret (v := .tuple #[arV none 0 0 0, .bool false]) (by simp [results, Tryd.results90, go_sem, c0, c1]) rfl ⟨rfl, hI3.below⟩
  · have hnr : ¬ ∀ T ∈ ts, RightP T := fun h => hf ⟨hb, h⟩
    have Hf := Lib.hid hb
    have Hnr := Lib.hid hnr
    clear hb hf hnr
    go_enter Tryd.func90, Tryd.ntmps90
    go_wp2_with (first | (go_at_call 34; with_reducible refine (fits_any nh Hd.out qk nk ck ts.length _ (HT.out.keep hI.below)).mono ?_; rw [Hf.out]; rintro e W1 ⟨rfl, hb1⟩; have hI1 := hI.call hb1; clear hb1) | (go_at_call 95; refine (hasOf_any ts p cap HS.out _ _ (HN.out.below hI1.below) (HT.out.keep hI1.below) false (by simpa using Hnr.out)).mono ?_; rintro e W2 ⟨rfl, hb2⟩; have hI2 := hI1.call hb2; clear hb2) | (refine rinv_row rfl _ _ _ rfl (w.heap.size + 1) #[.slice none 0 0, .int .i64 0] #[.slice none 0 0, .int .i64 0] 24 rfl rfl (by simp [Value.oneCell']) szTree rfl hI2 (.inl (by omega)) (by simp) ?_; intro W3 hI3 hg3; obtain ⟨c0, c1⟩ := box_cells hI3 List.mem_cons_self))
    exact bodyPost_ret (v := .tuple #[arV none 0 0 0, .bool false]) (by simp [results, Tryd.results90, go_sem, c0, c1]) rfl ⟨rfl, hI3.below⟩
end Go.Proofs.YtcenjpaiehidjaaDoor

/- Contract of the closure that expr.some gathers parts by. -/
namespace Go.Proofs.YtcenjpaiehidjaaDoor
open Go.RowKit
set_option maxRecDepth 100000
attribute [local go_sem ↓] Go.wp_at_zero Go.wp_at_succ

abbrev trO (q : Option Addr) (k c : Nat) : Obj := .cells #[.slice q k c] 30
abbrev u8O (d : Int) : Obj := .cells #[.int .u8 d] 5
/-- What becomes of a part. -/
def openG (nk d : Int) (t : Xp) : List Xp := if t.hd.kind = nk then t.kids else if t.hd.kind = d then [] else [t]
theorem openG_S (t : Xp) : openG 4 0 t = openS t := rfl
theorem openG_C (t : Xp) : openG 5 5 t = openC t := by unfold openG openC; split <;> rfl
theorem field_kind (h : Hd) (q : Option Addr) (n c : Nat) (w : World) : (Instr.field 56 (ndV h q n c) 0).run Tryd.prog w = .ok (.int .u8 h.kind) w := by rfl
theorem szTrees : (Tryd.prog.info? 30).map (·.size) = some 1 := by kernel_rfl
/-- The cells of a row of trees, as what is appended. -/
theorem TreesIn.one {W : World} {F : Nat → TypeId → Prop} {xs : List Value} {ts : List Ar} (h : TreesIn W F xs ts) : ∀ u ∈ xs, u.oneCell' = true := by
  intro u hu
  obtain ⟨j, hj, e⟩ := List.getElem_of_mem hu
  have hlen := h.len
  have hj2 : j / 2 < ts.length := by omega
  obtain ⟨q, cap, h1, h2, _⟩ := h.get (j / 2) _ (List.getElem?_eq_getElem hj2)
  by_cases hp : j % 2 = 0
  · rw [show j / 2 * 2 = j by omega, List.getElem?_eq_getElem hj, e] at h1
    injection h1 with h1; rw [h1]; rfl
  · rw [show j / 2 * 2 + 1 = j by omega, List.getElem?_eq_getElem hj, e] at h2
    injection h2 with h2; rw [h2]; rfl
theorem row_src {W : World} {base : Nat} {e : TypeId} {size k c : Nat} {q : Option Addr} {xs : List Value} (h : W.ownsRow base e size (.slice q k c) k xs) : k ≠ 0 → ∃ ad, q = some ad ∧ ∀ j u, xs[j]? = some u → W.cell? (ad.add j) = some u := fun hk => by
  obtain ⟨g, cap, cur, e, _⟩ := row_form h (by omega)
  injection e with e1 _ _
  subst e1
  exact ⟨_, rfl, fun j u hu => h.cells rfl j u hu⟩
section
variable {S : Nat → Prop} {w0 : World} {pn po pd n : Nat} {nh : Hd} {qn : Option Addr} {nn cn : Nat} {d : Int} {q : Option Addr} {k c : Nat} {xs : List Value} {ts : List Ar}
abbrev someL (pn po pd : Nat) (nh : Hd) (qn : Option Addr) (nn cn : Nat) (d : Int) (q : Option Addr) (k c : Nat) : List (Nat × Obj) := [(po, trO q k c), (pn, ndO nh qn nn cn), (pd, u8O d)]
abbrev someR (q : Option Addr) (k c : Nat) (xs : List Value) : List OwnR := [⟨24, 2, .slice q k c, k, xs⟩]
/-- What the closure leaves. -/
def SomeD (S : Nat → Prop) (w0 : World) (pn po pd n : Nat) (nh : Hd) (qn : Option Addr) (nn cn : Nat) (d : Int) (ts : List Ar) (w' : World) : Prop :=
  ∃ q c xs, RInv S w0 (someL pn po pd nh qn nn cn d q ts.length c) (someR q ts.length c xs) w' ∧ TreesIn w' (Own n w') xs ts
theorem some_end {W3 : World} {g : Nat} {ob : Obj} {q3 : Option Addr} {k3 c3 : Nat} {xs3 : List Value} {ts3 : List Ar} (hI : RInv S w0 ((g, ob) :: someL pn po pd nh qn nn cn d q k c) (someR q3 k3 c3 xs3) W3) (hpo : w0.heap.size ≤ po ∨ S po) (hne : pn ≠ po ∧ pd ≠ po)
    (hX : TreesIn W3 (Own n W3) xs3 ts3) (hk : k3 = ts3.length) : SomeD S w0 pn po pd n nh qn nn cn d ts3 (W3.setCell ⟨po, 0, none⟩ (.slice q3 k3 c3)) := by
  subst hk
  have h1 := hI.subL (L' := someL pn po pd nh qn nn cn d q k c) (fun x hx => List.mem_cons_of_mem _ hx)
  have hh := h1.at (g := po) List.mem_cons_self
  have h2 := h1.setCell (i := 0) (.slice q3 ts3.length c3) hpo (by simp [hne.1, hne.2])
  refine ⟨q3, c3, xs3, h2, hX.other (grown_setCell _ _ _ _) fun g cur t e h => ?_⟩
  injection e with e
  subst e
  rw [hh] at h
  injection h with h
  injection h with _ h
  subst h
  exact ⟨by decide, by decide⟩
/-- Trees are put behind others. -/
theorem some_app {w W2 W3 : World} {m : Nat} {v : Value} {xs2 : List Value} {us : List Ar} {k' : Nat} (hX : TreesIn w (Own n w) xs ts) (hb : Below w.heap.size w W2) (h2 : TreesIn W2 (Own m W2) xs2 us) (hm : n ≤ m) (ho : W2.ownsRow 0 24 2 v k' xs) (hg : W2.grownBy W3 v.ownBlock) :
    TreesIn W3 (Own n W3) (xs ++ xs2) (ts ++ us) :=
  ((hX.own hb (Nat.le_refl _)).app (h2.turn fun b t ho _ => ⟨rfl, ho.mono hm⟩)).other hg fun g cur t e hh => by
    have := row_type ho g cur t e hh
    subst this
    exact ⟨by decide, by decide⟩
set_option maxHeartbeats 4000000 in
theorem some1_same (y : Xp) (hok : okX y = true) (hz : y.size ≤ 100000) (p : Option Addr) (cap : Nat) (w : World) (hv : NodesAt w (Own n w) p (lay y 0)) (hT : KidsT w) (hI : RInv S w0 (someL pn po pd nh qn nn cn d q ts.length c) (someR q ts.length c xs) w) (hX : TreesIn w (Own n w) xs ts)
    (hpo : w0.heap.size ≤ po ∨ S po) (hne : pn ≠ po ∧ pd ≠ po) (hb : ts.length + y.kids.length ≤ 200000) (hn : n ≤ w.heap.size) (hc : y.hd.kind = nh.kind) :
    Calls Tryd.prog 97 #[arV p y.size cap ((y.size : Int) - 1), .pointer (some ⟨pn, 0, none⟩), .pointer (some ⟨po, 0, none⟩), .pointer (some ⟨pd, 0, none⟩)] w fun e w' => e = .returned (.tuple #[]) ∧ SomeD S w0 pn po pd n nh qn nn cn d (ts ++ y.kids.map clean) w' := by
  have hr : RightP ⟨lay y 0, (y.size : Int) - 1⟩ := clean_right hok
  have hs : sits (lay y 0) y ((y.size : Int) - 1) := sits_clean y
  have Hr := Lib.hid hr
  have Hs := Lib.hid hs
  have Hv := Lib.hid hv
  have HT := Lib.hid hT
  have HX := Lib.hid hX
  have Hsm := Lib.hid (small_one hz)
  have hla := clean_len y
  have Hla := Lib.hid hla
  have hI0 := hI.alloc (arO p y.size cap ((y.size : Int) - 1))
  have hkd : (y.hd.kind == nh.kind) = true := by simp [hc]
  have Hc := Lib.hid hc
  clear hr hs hv hT hX hla hI hc
  have hroot := root_yes (lay y 0) y ((y.size : Int) - 1) p cap Hsm.out Hr.out Hs.out
  rw [lay_len] at hroot
  have hkids := kids_yes (lay y 0) y ((y.size : Int) - 1) p cap Hsm.out Hr.out Hs.out hz
  rw [lay_len] at hkids
  have hfk := field_kind y.hd none 0 0
  have Hroot := Lib.hid hroot
  have Hkids := Lib.hid hkids
  clear hroot hkids
  go_enter Tryd.func97, Tryd.ntmps97
  go_wp2_with (first | (go_at_call 31; refine (Hroot.out _ (Own n w) (Hv.out.below ((Below.refl _ _).alloc (Nat.le_refl _) _)) (HT.out.keep ((Below.refl _ _).alloc (Nat.le_refl _) _))).mono ?_; rintro e W1 ⟨rfl, hb1⟩; have hI1 := hI0.call hb1; have hbw := ((Below.refl w.heap.size w).alloc (Nat.le_refl _) (arO p y.size cap ((y.size : Int) - 1))).trans (hb1.mono (by simp)); have c1 := (nd_cells hI1 (List.mem_cons_of_mem _ (List.mem_cons_of_mem _ List.mem_cons_self))).1))
  have hbx := box_cells hI1 List.mem_cons_self
  have hpc := hI1.cell (g := po) (j := 0) (v := .slice q ts.length c) (List.mem_cons_of_mem _ List.mem_cons_self) rfl
  have hbn : n ≤ W1.drew.heap.size := Nat.le_trans hn hbw.size
  clear hb1
  obtain ⟨hbx0, hbx1⟩ := hbx
  go_region_law (first | (refine step_app treeT (by rfl) (.tmp 18) (.tmp 20) (by rfl) q2 y.kids.length c2 xs2 (by rfl) (by rfl) (by rw [hx2.len, List.length_map]) (row_src ho2) hx2.one hI2 (by unfold maxLen; omega) (by omega) ?_; intro v3 W3 hI3 hg3 hb3; obtain ⟨q3, c3, rfl, _, _⟩ := row_slice hI3.own1; have hpc3 := hI3.cell (g := po) (j := 0) (v := .slice q ts.length c) (List.mem_cons_of_mem _ List.mem_cons_self) rfl; have hpf3 := hI3.free (g := po) (j := 0) (List.mem_cons_of_mem _ List.mem_cons_self)) | (go_simp; go_at_call 29; refine (Hkids.out _ (Own n w) (Hv.out.below hbw.drew) (HT.out.keep hbw.drew)).mono ?_; rintro e W2 ⟨v2, xs2, rfl, ho2, hx2, hb2⟩; obtain ⟨q2, c2, rfl, _, _⟩ := row_slice ho2; have hI2 := hI1.drew.call hb2; have hpc2 := hI2.cell (g := po) (j := 0) (v := .slice q ts.length c) (List.mem_cons_of_mem _ List.mem_cons_self) rfl))
  all_goals
    go_wp2
    go_end0
    exact ⟨rfl, some_end hI3 hpo hne (some_app HX.out (hbw.drew.trans (hb2.mono hbw.size)) hx2 hbn hI2.own1 hg3) (by rw [List.length_append, List.length_map])⟩
set_option maxHeartbeats 4000000 in
theorem some1_drop (y : Xp) (hok : okX y = true) (hz : y.size ≤ 100000) (p : Option Addr) (cap : Nat) (w : World) (hv : NodesAt w (Own n w) p (lay y 0)) (hT : KidsT w) (hI : RInv S w0 (someL pn po pd nh qn nn cn d q ts.length c) (someR q ts.length c xs) w) (hX : TreesIn w (Own n w) xs ts)
     (hc : y.hd.kind ≠ nh.kind) (hc2 : y.hd.kind = d) :
    Calls Tryd.prog 97 #[arV p y.size cap ((y.size : Int) - 1), .pointer (some ⟨pn, 0, none⟩), .pointer (some ⟨po, 0, none⟩), .pointer (some ⟨pd, 0, none⟩)] w fun e w' => e = .returned (.tuple #[]) ∧ SomeD S w0 pn po pd n nh qn nn cn d ts w' := by
  have hr : RightP ⟨lay y 0, (y.size : Int) - 1⟩ := clean_right hok
  have hs : sits (lay y 0) y ((y.size : Int) - 1) := sits_clean y
  have Hr := Lib.hid hr
  have Hs := Lib.hid hs
  have Hv := Lib.hid hv
  have HT := Lib.hid hT
  have HX := Lib.hid hX
  have Hsm := Lib.hid (small_one hz)
  have hI0 := hI.alloc (arO p y.size cap ((y.size : Int) - 1))
  have hkd : (y.hd.kind == nh.kind) = false := by simp [hc]
  have hkd2 : (y.hd.kind == d) = true := by simp [hc2]
  have Hc := Lib.hid hc
  have Hc2 := Lib.hid hc2
  clear hr hs hv hT hX hI hc hc2
  have hroot := root_yes (lay y 0) y ((y.size : Int) - 1) p cap Hsm.out Hr.out Hs.out
  rw [lay_len] at hroot
  have hfk := field_kind y.hd none 0 0
  have Hroot := Lib.hid hroot
  clear hroot
  go_enter Tryd.func97, Tryd.ntmps97
  go_wp2_with (first | (go_at_call 31; refine (Hroot.out _ (Own n w) (Hv.out.below ((Below.refl _ _).alloc (Nat.le_refl _) _)) (HT.out.keep ((Below.refl _ _).alloc (Nat.le_refl _) _))).mono ?_; rintro e W1 ⟨rfl, hb1⟩; have hI1 := hI0.call hb1; have hbw := ((Below.refl w.heap.size w).alloc (Nat.le_refl _) (arO p y.size cap ((y.size : Int) - 1))).trans (hb1.mono (by simp)); have c1 := (nd_cells hI1 (List.mem_cons_of_mem _ (List.mem_cons_of_mem _ List.mem_cons_self))).1; obtain ⟨hbx0, hbx1⟩ := box_cells hI1 List.mem_cons_self; have hpc := hI1.cell (g := po) (j := 0) (v := .slice q ts.length c) (List.mem_cons_of_mem _ List.mem_cons_self) rfl; have hpd := hI1.cell (g := pd) (j := 0) (v := .int .u8 d) (List.mem_cons_of_mem _ (List.mem_cons_of_mem _ (List.mem_cons_of_mem _ List.mem_cons_self))) rfl))
  go_end0
  exact ⟨rfl, q, c, xs, hI1.subL (fun x hx => List.mem_cons_of_mem _ hx), HX.out.own hbw (Nat.le_refl _)⟩
set_option maxHeartbeats 4000000 in
theorem some1_keep (y : Xp) (hok : okX y = true) (hz : y.size ≤ 100000) (p : Option Addr) (cap : Nat) (w : World) (hv : NodesAt w (Own n w) p (lay y 0)) (hT : KidsT w) (hI : RInv S w0 (someL pn po pd nh qn nn cn d q ts.length c) (someR q ts.length c xs) w) (hX : TreesIn w (Own n w) xs ts)
    (hpo : w0.heap.size ≤ po ∨ S po) (hne : pn ≠ po ∧ pd ≠ po) (hb : ts.length + y.kids.length ≤ 200000) (hn : n ≤ w.heap.size) (hc : y.hd.kind ≠ nh.kind) (hc2 : y.hd.kind ≠ d) :
    Calls Tryd.prog 97 #[arV p y.size cap ((y.size : Int) - 1), .pointer (some ⟨pn, 0, none⟩), .pointer (some ⟨po, 0, none⟩), .pointer (some ⟨pd, 0, none⟩)] w fun e w' => e = .returned (.tuple #[]) ∧ SomeD S w0 pn po pd n nh qn nn cn d (ts ++ [clean y]) w' := by
  have hr : RightP ⟨lay y 0, (y.size : Int) - 1⟩ := clean_right hok
  have hs : sits (lay y 0) y ((y.size : Int) - 1) := sits_clean y
  have Hr := Lib.hid hr
  have Hs := Lib.hid hs
  have Hv := Lib.hid hv
  have HT := Lib.hid hT
  have HX := Lib.hid hX
  have Hsm := Lib.hid (small_one hz)
  have hI0 := hI.alloc (arO p y.size cap ((y.size : Int) - 1))
  have hkd : (y.hd.kind == nh.kind) = false := by simp [hc]
  have hkd2 : (y.hd.kind == d) = false := by simp [hc2]
  have Hc := Lib.hid hc
  have Hc2 := Lib.hid hc2
  clear hr hs hv hT hX hI hc hc2
  have hroot := root_yes (lay y 0) y ((y.size : Int) - 1) p cap Hsm.out Hr.out Hs.out
  rw [lay_len] at hroot
  have hfk := field_kind y.hd none 0 0
  have Hroot := Lib.hid hroot
  clear hroot
  go_enter Tryd.func97, Tryd.ntmps97
  go_wp2_with (first | (go_at_call 31; refine (Hroot.out _ (Own n w) (Hv.out.below ((Below.refl _ _).alloc (Nat.le_refl _) _)) (HT.out.keep ((Below.refl _ _).alloc (Nat.le_refl _) _))).mono ?_; rintro e W1 ⟨rfl, hb1⟩; have hI1 := hI0.call hb1; have hbw := ((Below.refl w.heap.size w).alloc (Nat.le_refl _) (arO p y.size cap ((y.size : Int) - 1))).trans (hb1.mono (by simp)); have c1 := (nd_cells hI1 (List.mem_cons_of_mem _ (List.mem_cons_of_mem _ List.mem_cons_self))).1; obtain ⟨hbx0, hbx1⟩ := box_cells hI1 List.mem_cons_self; have hpc := hI1.cell (g := po) (j := 0) (v := .slice q ts.length c) (List.mem_cons_of_mem _ List.mem_cons_self) rfl; have hpd := hI1.cell (g := pd) (j := 0) (v := .int .u8 d) (List.mem_cons_of_mem _ (List.mem_cons_of_mem _ (List.mem_cons_of_mem _ List.mem_cons_self))) rfl) | (at_builtin; refine app_newB treeT rfl (.tmp 10) (.tmp 12) rfl _ rfl rfl rfl (by simp [Value.oneCell']) hI1 (by unfold maxLen; omega) (by omega) ?_; intro v3 W3 hI3 hg3 hb3; obtain ⟨q3, c3, rfl, _, _⟩ := row_slice hI3.own1; have hpc3 := hI3.cell (g := po) (j := 0) (v := .slice q ts.length c) (List.mem_cons_of_mem _ List.mem_cons_self) rfl; have hpf3 := hI3.free (g := po) (j := 0) (List.mem_cons_of_mem _ List.mem_cons_self)))
  go_end0
  exact ⟨rfl, some_end hI3 hpo hne ((HX.out.own hbw (Nat.le_refl _)).put hI1.own1 (Hv.out.own hbw (Nat.le_refl _)) (Nat.le_refl _) hg3) (by rw [List.length_append]; rfl)⟩
/-- The closure of expr.some. -/
theorem some1_any (y : Xp) (hok : okX y = true) (hz : y.size ≤ 100000) (p : Option Addr) (cap : Nat) (w : World) (hv : NodesAt w (Own n w) p (lay y 0)) (hT : KidsT w) (hI : RInv S w0 (someL pn po pd nh qn nn cn d q ts.length c) (someR q ts.length c xs) w) (hX : TreesIn w (Own n w) xs ts)
    (hpo : w0.heap.size ≤ po ∨ S po) (hne : pn ≠ po ∧ pd ≠ po) (hb : ts.length + y.kids.length ≤ 200000) (hn : n ≤ w.heap.size) :
    Calls Tryd.prog 97 #[arV p y.size cap ((y.size : Int) - 1), .pointer (some ⟨pn, 0, none⟩), .pointer (some ⟨po, 0, none⟩), .pointer (some ⟨pd, 0, none⟩)] w fun e w' => e = .returned (.tuple #[]) ∧ SomeD S w0 pn po pd n nh qn nn cn d (ts ++ (openG nh.kind d y).map clean) w' := by
  by_cases hc : y.hd.kind = nh.kind
  · have := some1_same y hok hz p cap w hv hT hI hX hpo hne hb hn hc
    unfold openG
    rw [if_pos hc]
    exact this
  · by_cases hc2 : y.hd.kind = d
    · have := some1_drop y hok hz p cap w hv hT hI hX hc hc2
      unfold openG
      rw [if_neg hc, if_pos hc2, List.map_nil, List.append_nil]
      exact this
    · have := some1_keep y hok hz p cap w hv hT hI hX hpo hne hb hn hc hc2
      unfold openG
      rw [if_neg hc, if_neg hc2]
      exact this
end
end Go.Proofs.YtcenjpaiehidjaaDoor

/- Contract of expr.some. -/
namespace Go.Proofs.YtcenjpaiehidjaaDoor
open Go.RowKit
set_option maxRecDepth 100000

theorem GetsT.mono {n m : Nat} {W : World} {e : Ending} {o : Option Xp} (h : GetsT n W e o) (hm : m ≤ n) : GetsT m W e o := by
  cases o with
  | none => exact h
  | some x => obtain ⟨v, h1, h2⟩ := h; exact ⟨v, h1, h2.mono fun b t ho => ho.mono hm⟩
theorem flat_snoc {f : Xp → List Xp} {ks : List Xp} {k : Nat} {y : Xp} (h : ks[k]? = some y) : (ks.take (k + 1)).flatMap f = (ks.take k).flatMap f ++ f y := by
  obtain ⟨hk, e⟩ := List.getElem?_eq_some_iff.1 h
  rw [List.take_succ_eq_append_getElem hk, e, List.flatMap_append]
  simp
theorem openG_size (nk d : Int) (t : Xp) : sizeL (openG nk d t) ≤ t.size := by
  unfold openG
  split
  · have := kids_size t; omega
  · split
    · rw [sizeL_nil]; omega
    · rw [sizeL_cons, sizeL_nil]; omega
theorem flat_len (nk d : Int) (l : List Xp) : (l.flatMap (openG nk d)).length ≤ sizeL l ∧ sizeL (l.flatMap (openG nk d)) ≤ sizeL l := by
  have h1 := flat_size (openG_size nk d) l
  have h2 := sizeL_le_len (l.flatMap (openG nk d))
  omega
theorem openG_ok {nk d : Int} {l : List Xp} (h : ∀ k ∈ l, okX k = true) : ∀ k ∈ l.flatMap (openG nk d), okX k = true := by
  intro k hk
  obtain ⟨t, ht, hk⟩ := List.mem_flatMap.1 hk
  unfold openG at hk
  split at hk
  · exact ok_kids (h t ht) k hk
  · split at hk
    · cases hk
    · obtain rfl := List.mem_singleton.1 hk; exact h _ ht
/-- What a walk from a later world has left, told from the first one. -/
theorem RInv.back {w W5 W : World} {S : Nat → Prop} {L0 L' L : List (Nat × Obj)} {R : List OwnR} (hA : RInv noS w L0 [] W5) (hI : RInv S W5 L R W) (hS : ∀ g, S g → w.heap.size ≤ g) (hL : ∀ p ∈ L', p ∈ L0 ∧ ¬ S p.1) : RInv noS w (L' ++ L) R W := by
  have hlt : ∀ p ∈ L', p.1 < W5.heap.size := fun p hp => lt_of_heap (hA.blk p (hL p hp).1)
  refine ⟨hA.off.trans hI.off fun g hg hs => ?_, fun p hp => ?_, hI.own, fun r hr g hg => ?_, fun r hr p hp => ?_, hI.apart⟩
  · have := hS g hs; omega
  · rcases List.mem_append.1 hp with hp | hp
    · exact (hI.off.block p.1 (hlt p hp) (hL p hp).2).trans (hA.blk p (hL p hp).1)
    · exact hI.blk p hp
  · have := hA.size
    rcases hI.new r hr g hg with h | h
    · exact .inl (by omega)
    · exact .inl (hS g h)
  · rcases List.mem_append.1 hp with hp | hp
    · intro e
      rcases hI.new r hr _ e with h | h
      · have := hlt p hp; omega
      · exact (hL p hp).2 h
    · exact hI.apartL r hr p hp
/-- A store into a variable that holds a tree. -/
theorem nodes_tree {W W' : World} {n g : Nat} {cur : Array Value} {q : Option Addr} {ns : List Nd} (h : NodesAt W (Own n W) q ns) (hg : W.grownBy W' (some g)) (hh : W.heap[g]? = some (.cells cur 24 (0, 0))) : NodesAt W' (Own n W') q ns :=
  h.other hg fun g' cur' t e h' => by
    injection e with e
    subst e
    rw [hh] at h'
    injection h' with h'
    injection h' with _ h'
    subst h'
    exact ⟨by decide, by decide⟩
/-- A tree is stored into a variable of the call's own, cell by cell. -/
theorem put_tree {w W : World} {S : Nat → Prop} {L : List (Nat × Obj)} {R : List OwnR} {g m : Nat} {p0 : Option Addr} {n0 c0 : Nat} {r0 : Int} {p : Option Addr} {k c : Nat} {r : Int} {q : Option Addr} {ns : List Nd} (hI : RInv S w ((g, arO p0 n0 c0 r0) :: L) R W) (hg : w.heap.size ≤ g ∨ S g) (hn : ∀ x ∈ L, x.1 ≠ g) (hq : NodesAt W (Own m W) q ns) :
    RInv S w ((g, arO p k c r) :: L) R ((W.setCell ⟨g, 0, none⟩ (.slice p k c)).setCell ⟨g, 1, none⟩ (.int .i64 r)) ∧ NodesAt ((W.setCell ⟨g, 0, none⟩ (.slice p k c)).setCell ⟨g, 1, none⟩ (.int .i64 r)) (Own m ((W.setCell ⟨g, 0, none⟩ (.slice p k c)).setCell ⟨g, 1, none⟩ (.int .i64 r))) q ns := by
  have h1 := hI.setCell (i := 0) (.slice p k c) hg hn
  have h2 := h1.setCell (i := 1) (.int .i64 r) hg hn
  exact ⟨h2, nodes_tree (nodes_tree hq (grown_setCell _ _ _ _) (hI.at List.mem_cons_self)) (grown_setCell _ _ _ _) (h1.at List.mem_cons_self)⟩
abbrev fSome (pn po pd : Nat) : Value := .func (.func 97) #[] #[.pointer (some ⟨pn, 0, none⟩), .pointer (some ⟨po, 0, none⟩), .pointer (some ⟨pd, 0, none⟩)]
set_option maxHeartbeats 8000000 in
theorem some_any (nh : Hd) (hd : HdOk nh) (hk45 : nh.kind = 4 ∨ nh.kind = 5) (hf : fitsB nh 2 = true) (qk : Option Addr) (nk ck : Nat) (d : Int) (ks : List Xp) (hok : ∀ k ∈ ks, okX k = true) (hz : sizeL ks ≤ 99999) (p : Option Addr) (cap : Nat) (z : Xp) (pz : Option Addr) (cz : Nat) (n : Nat) (w : World)
    (hN : TreesAt w (Own n w) p (ks.map clean)) (hZ : NodesAt w (Own n w) pz (lay z 0)) (hT : KidsT w) (hn : n ≤ w.heap.size) :
    Calls Tryd.prog 92 #[ndV nh qk nk ck, .slice p ks.length cap, .int .u8 d, arV pz z.size cz ((z.size : Int) - 1)] w fun e w' => GetsT n w' e (some (shut nh z (ks.flatMap (openG nh.kind d)))) ∧ Below w.heap.size w w' := by
  have hl := sizeL_le_len ks
  obtain ⟨W5, hW5⟩ : ∃ W5, W5 = ((((w.alloc (ndO nh qk nk ck)).alloc (u8O d)).alloc (arO pz z.size cz ((z.size : Int) - 1))).alloc (arO none 0 0 0)).alloc (trO none 0 0) := ⟨_, rfl⟩
  have hA := (((((RInv.start noS w).alloc (ndO nh qk nk ck)).alloc (u8O d)).alloc (arO pz z.size cz ((z.size : Int) - 1))).alloc (arO none 0 0 0)).alloc (trO none 0 0)
  simp only [World.size_alloc] at hA
  rw [← hW5] at hA
  have hb5 := hA.below
  have hs5 : W5.heap.size = w.heap.size + 1 + 1 + 1 + 1 + 1 := by rw [hW5]; simp only [World.size_alloc]
  have HI5 : Hid (SomeD (fun b => b = w.heap.size + 1 + 1 + 1 + 1) W5 w.heap.size (w.heap.size + 1 + 1 + 1 + 1) (w.heap.size + 1) n nh qk nk ck d [] W5) :=
    Lib.hid ⟨none, 0, [], ((hA.restart _).subL (fun x hx => by simp only [List.mem_cons, List.not_mem_nil, or_false] at hx ⊢; rcases hx with h | h | h <;> subst h <;> simp)).nil _ _, TreesIn.nil _ _⟩
  have HA := Lib.hid hA
  have Hs5 := Lib.hid hs5
  have HW5 := Lib.hid hW5
  clear hA hs5
  have HN := Lib.hid hN
  have HZ := Lib.hid hZ
  have HT := Lib.hid hT
  have Hd := Lib.hid hd
  have Hok := Lib.hid hok
  have Hf := Lib.hid hf
  have Hk := Lib.hid hk45
  clear hN hZ hT hd hok hf hk45 hW5
  go_enter Tryd.func92, Tryd.ntmps92
  go_wp2
  rw [← HW5.out]
  go_loopw [17] (fun iv wr => ∃ j : Nat, j ≤ ks.length ∧ iv = .int .i64 j ∧ SomeD (fun b => b = w.heap.size + 1 + 1 + 1 + 1) W5 w.heap.size (w.heap.size + 1 + 1 + 1 + 1) (w.heap.size + 1) n nh qk nk ck d (((ks.take j).flatMap (openG nh.kind d)).map clean) wr) (fun iv _ => ks.length - (intOf iv).toNat)
  case atStart => exact ⟨0, by omega, rfl, HI5.out⟩
  case round =>
    clear HI5
    obtain ⟨j, hj, rfl, hD⟩ := hrel
    by_cases hlt : j < ks.length
    · obtain ⟨y, hy⟩ : ∃ y, ks[j]? = some y := ⟨_, List.getElem?_eq_getElem hlt⟩
      have hym := List.mem_of_getElem? hy
      have hyz := size_le_of_mem hym
      obtain ⟨b, o, rfl, hbo, hc⟩ := HN.out (by intro h; have := congrArg List.length h; simp at this; rw [this] at hlt; exact absurd hlt (by simp))
      obtain ⟨q, c, h1, h2, h3⟩ := hc j (clean y) (by rw [List.getElem?_map, hy]; rfl)
      rw [clean_len] at h1
      obtain ⟨qD, cD, xsD, hI, hX⟩ := hD
      have hoff : ∀ b', b' < w.heap.size → wr.heap[b']? = w.heap[b']? := fun b' hb' => (hI.off.block b' (by rw [Hs5.out]; omega) (by omega)).trans (hb5.block b' hb')
      have c0 : wr.cell? ⟨b, o + j * 2, none⟩ = some (.slice q y.size c) := (World.cell?_of_block (a := ⟨b, o + j * 2, none⟩) (hoff b hbo.lt)).trans h1
      have c1 : wr.cell? ⟨b, o + j * 2 + 1, none⟩ = some (.int .i64 ((y.size : Int) - 1)) := (World.cell?_of_block (a := ⟨b, o + j * 2 + 1, none⟩) (hoff b hbo.lt)).trans h2
      have H3 : Hid (NodesAt wr (Own n wr) q (lay y 0)) := Lib.hid (h3.turn fun b' t ho hlt' => ⟨hoff b' hlt', by obtain ⟨ha, cur, hcur⟩ := ho; exact ⟨ha, cur, (hoff b' hlt').trans hcur⟩⟩)
      have HTr : Hid (KidsT wr) := Lib.hid (HT.out.keep ⟨(hI.off.os).trans hb5.os, hI.off.tape.trans hb5.tape, hI.off.output.trans hb5.output, Nat.le_trans hb5.size hI.off.size, hoff⟩)
      have Hy := Lib.hid hy
      have Hokk := Lib.hid (Hok.out y hym)
      have HI := Lib.hid hI
      have HX := Lib.hid hX
      have hfl := (flat_len nh.kind d (ks.take j)).1
      have htk := sizeL_take ks j
      have hyk := sizeL_le_len y.kids
      have hyk2 := kids_size y
      clear hc h1 h2 h3 hy hym hI hX hoff
      go_wp2_with (first | (go_at_call 97; refine (some1_any y Hokk.out (by omega) q c _ (H3.out.own ((Below.refl _ _).alloc (Nat.le_refl _) _) (Nat.le_refl _)) (HTr.out.keep ((Below.refl _ _).alloc (Nat.le_refl _) _)) ((HI.out.alloc (arO q y.size c ((y.size : Int) - 1))).subL (fun x hx => List.mem_cons_of_mem _ hx)) (HX.out.own ((Below.refl _ _).alloc (Nat.le_refl _) _) (Nat.le_refl _)) (.inr rfl) (by omega) (by rw [List.length_map]; omega) (by rw [World.size_alloc]; have := hb5.size; have := HI.out.size; omega)).mono ?_; rintro e W6 ⟨rfl, hD6⟩))
      go_roundw
      case rel => exact ⟨j + 1, by omega, by go_num, by rw [flat_snoc Hy.out, List.map_append]; exact hD6⟩
      case measure => simp [intOf]; omega
    · obtain rfl : j = ks.length := by omega
      rw [List.take_length] at hD
      have hfl := flat_len nh.kind d ks
      have hoo := openG_ok (nk := nh.kind) (d := d) Hok.out
      obtain ⟨out, ho⟩ : ∃ out, out = ks.flatMap (openG nh.kind d) := ⟨_, rfl⟩
      rw [← ho] at hD hfl hoo
      have Ho := Lib.hid ho
      have Hoo := Lib.hid hoo
      obtain ⟨q, c, xs, hI, hX⟩ := hD
      rw [List.length_map] at hI
      have hB := RInv.back (L' := [(w.heap.size + 1 + 1 + 1, arO none 0 0 0), (w.heap.size + 1 + 1, arO pz z.size cz ((z.size : Int) - 1))]) HA.out hI (fun g h => by omega) (fun x hx => by simp only [List.mem_cons, List.not_mem_nil, or_false] at hx; rcases hx with h | h <;> subst h; exact ⟨List.mem_cons_of_mem _ List.mem_cons_self, by simp⟩; exact ⟨List.mem_cons_of_mem _ (List.mem_cons_of_mem _ List.mem_cons_self), by simp⟩)
      simp only [List.cons_append, List.nil_append, someL] at hB
      have HX := Lib.hid hX
      clear ho hoo hI hX
      obtain ⟨z0, z1⟩ := box_cells hB (List.mem_cons_of_mem _ List.mem_cons_self)
      have hoc := hB.cell (g := w.heap.size + 1 + 1 + 1 + 1) (j := 0) (v := .slice q out.length c) (List.mem_cons_of_mem _ (List.mem_cons_of_mem _ List.mem_cons_self)) rfl
      match out with
      | [] =>
        go_wp2_with (first | (refine rinv_row rfl _ _ _ rfl (w.heap.size + 1 + 1 + 1) #[.slice none 0 0, .int .i64 0] #[.slice pz z.size cz, .int .i64 ((z.size : Int) - 1)] 24 rfl rfl (by simp [Value.oneCell']) szTree rfl hB (.inl (by omega)) (fun x hx => by simp only [List.mem_cons, List.not_mem_nil, or_false] at hx; rcases hx with h | h | h | h <;> subst h <;> simp only <;> omega) ?_; intro W9 hI9 hg9; obtain ⟨d0, d1⟩ := box_cells hI9 List.mem_cons_self))
        refine bodyPost_ret (v := .tuple #[arV pz z.size cz ((z.size : Int) - 1), .bool true]) (by simp [results, Tryd.results92, go_sem, d0, d1]) rfl ⟨?_, hI9.below⟩
        rw [← Ho.out]
        exact ⟨_, rfl, tree_of (HZ.out.own hI9.below (Nat.le_refl _))⟩
      | [a] =>
        obtain ⟨g, c', cur, he, _⟩ := row_form hB.own1 (by simp)
        injection he with e1 _ e3
        subst e1 e3
        obtain ⟨qa, ca, h1, h2, h3⟩ := HX.out.get 0 (clean a) rfl
        rw [clean_len] at h1
        have r0 : wr.cell? ⟨g, 0, none⟩ = some (.slice qa a.size ca) := row_cell hB.own1 rfl h1
        have r1 : wr.cell? ⟨g, 1, none⟩ = some (.int .i64 ((a.size : Int) - 1)) := row_cell hB.own1 rfl h2
        have H3 := Lib.hid h3
        clear h1 h2 h3
        go_wp2_with (first | (refine rinv_row rfl _ _ _ rfl (w.heap.size + 1 + 1 + 1) #[.slice none 0 0, .int .i64 0] #[.slice qa a.size ca, .int .i64 ((a.size : Int) - 1)] 24 rfl rfl (by simp [Value.oneCell']) szTree rfl hB (.inl (by omega)) (fun x hx => by simp only [List.mem_cons, List.not_mem_nil, or_false] at hx; rcases hx with h | h | h | h <;> subst h <;> simp only <;> omega) ?_; intro W9 hI9 hg9; obtain ⟨d0, d1⟩ := box_cells hI9 List.mem_cons_self))
        refine bodyPost_ret (v := .tuple #[arV qa a.size ca ((a.size : Int) - 1), .bool true]) (by simp [results, Tryd.results92, go_sem, d0, d1]) rfl ⟨?_, hI9.below⟩
        rw [← Ho.out]
        exact ⟨_, rfl, tree_of (nodes_tree H3.out hg9 (hB.at List.mem_cons_self))⟩
      | a :: b :: l =>
        obtain ⟨p2, c2, he, hts⟩ := (HX.out).at (base := 0) (v := .slice q (a :: b :: l).length c) (by rw [List.length_map]; exact hB.own1) (fun g hg => by have := (hB.new _ List.mem_cons_self g hg).elim id False.elim; omega)
        injection he with e1 _ e3
        subst e1 e3
        have Hts := Lib.hid hts
        have hle : 2 ≤ (a :: b :: l).length := by simp
        have Hof := Lib.hid (of_yes nh Hd.out qk nk ck (a :: b :: l) ((a :: b :: l).map clean) q c (small_clean (by omega)) (readL_clean Hoo.out) (by rw [List.length_map]; exact fits_more Hk.out Hf.out hle) (by omega) wr (Own n wr) Hts.out (HT.out.keep hB.below))
        have hof := Hof.out
        rw [List.length_map] at hof
        replace hof := Lib.hid hof
        have hno0 : (((a :: b :: l).length : Int) == 0) = false := by simp; omega
        have hno1 : (((a :: b :: l).length : Int) == 1) = false := by simp; omega
        obtain ⟨m, hm⟩ : ∃ m, m = (a :: b :: l).length := ⟨_, rfl⟩
        rw [← hm] at hB hoc hof hno0 hno1
        have hBm := hB.own1
        obtain ⟨e0, e1, e2, e3, e4, e5, e6, e7, e8⟩ := nd_cells hB (List.mem_cons_of_mem _ (List.mem_cons_of_mem _ (List.mem_cons_of_mem _ List.mem_cons_self)))
        clear hts hm hle hBm
        go_wp2_with (first | (go_at_call 90; refine hof.out.mono ?_; rintro e W7 ⟨⟨v7, rfl, p7, c7, rfl, hp7⟩, hb7⟩; have hB7 := hB.call hb7; clear e0 e1 e2 e3 e4 e5 e6 e7 e8 hoc z0 z1) | (refine rinv_row rfl _ _ _ rfl (w.heap.size + 1 + 1 + 1) #[.slice none 0 0, .int .i64 0] #[.slice p7 (clean (.node nh (a :: b :: l))).nodes.length c7, .int .i64 (clean (.node nh (a :: b :: l))).root] 24 rfl rfl (by simp [Value.oneCell']) szTree rfl hB7 (.inl (by omega)) (fun x hx => by simp only [List.mem_cons, List.not_mem_nil, or_false] at hx; rcases hx with h | h | h | h <;> subst h <;> simp only <;> omega) ?_; intro W9 hI9 hg9; obtain ⟨d0, d1⟩ := box_cells hI9 List.mem_cons_self))
        refine bodyPost_ret (v := .tuple #[arV p7 (clean (.node nh (a :: b :: l))).nodes.length c7 (clean (.node nh (a :: b :: l))).root, .bool true]) (by simp [results, Tryd.results92, go_sem, d0, d1]) rfl ⟨?_, hI9.below⟩
        rw [← Ho.out]
        exact ⟨_, rfl, p7, c7, rfl, nodes_tree (hp7.mono fun b' t ho' => ho'.mono (Nat.le_trans hn hB.size)) hg9 (hB7.at List.mem_cons_self)⟩
end Go.Proofs.YtcenjpaiehidjaaDoor
