/- Contracts of slices.Equal of ints, of the closure of tree.Same, and of slices.EqualFunc with it. -/
import Derived.Test.YtcenjpaiehidjaaDoorJ8
import Derived.BigQuiet
import Derived.Test.YtcenjpaiehidjaaDoorJ10
import Derived.Test.YtcenjpaiehidjaaDoorJ9
import Derived.Deep.RegionHeldLaw
import Derived.Test.YtcenjpaiehidjaaDoorJ18
set_option linter.unusedSimpArgs false
set_option linter.unusedVariables false
namespace Go.Proofs.YtcenjpaiehidjaaDoor
open Go.RowKit
set_option maxRecDepth 100000

theorem take_eq_succ {α : Type} {xs ys : List α} {k : Nat} {x : α} (h : xs.take k = ys.take k) (hx : xs[k]? = some x) (hy : ys[k]? = some x) : xs.take (k + 1) = ys.take (k + 1) := by
  rw [List.take_add_one, List.take_add_one, h, hx, hy]
set_option maxHeartbeats 4000000 in
/-- slices.Equal, of rows of ints. -/
theorem eqI_any (xs ys : List Int) (hx : xs.length ≤ 100000) (hy : ys.length ≤ 100000) (p q : Option Addr) (c d : Nat) (w : World) (F G : Nat → TypeId → Prop) (hA : IntsAt w F p xs) (hB : IntsAt w G q ys) :
    Calls Tryd.prog 40 #[.slice p xs.length c, .slice q ys.length d] w fun e w' => e = .returned (.bool (decide (xs = ys))) ∧ Below w.heap.size w w' := by
  obtain ⟨n, hn⟩ : ∃ n, xs.length = n := ⟨_, rfl⟩
  obtain ⟨m, hm⟩ : ∃ m, ys.length = m := ⟨_, rfl⟩
  rw [hn] at hx ⊢
  rw [hm] at hy ⊢
  have Hn := Lib.hid hn
  have Hm := Lib.hid hm
  have HA := Lib.hid hA
  have HB := Lib.hid hB
  clear hn hm hA hB
  obtain ⟨r, hr⟩ : ∃ r, decide (xs = ys) = r := ⟨_, rfl⟩
  rw [hr]
  have Hr := Lib.hid hr
  clear hr
  have HI := Lib.hid (RInv.start noS w)
  go_enter Tryd.func40, Tryd.ntmps40
  by_cases hnm : n = m
  · subst hnm
    go_wp2
    go_loopw [13] (fun iv wr => ∃ k : Nat, k ≤ n ∧ iv = .int .i64 k ∧ Hid (xs.take k = ys.take k) ∧ Hid (RInv noS w [] [] wr)) (fun iv _ => n - (intOf iv).toNat)
    case atStart => exact ⟨0, by omega, rfl, Lib.hid rfl, HI⟩
    case round =>
      clear HI
      obtain ⟨wm, rfl⟩ : ∃ wm : World, wm = wr := ⟨_, rfl⟩
      obtain ⟨k, hk, rfl, hT, HI⟩ := hrel
      by_cases hlt : k < n
      · obtain ⟨x, hxk⟩ : ∃ x, xs[k]? = some x := ⟨_, List.getElem?_eq_getElem (by rw [Hn.out]; exact hlt)⟩
        obtain ⟨y, hyk⟩ : ∃ y, ys[k]? = some y := ⟨_, List.getElem?_eq_getElem (by rw [Hm.out]; exact hlt)⟩
        obtain ⟨b1, o1, rfl, _, h1⟩ := HA.out (by intro h; rw [h] at hxk; simp at hxk)
        obtain ⟨b2, o2, rfl, _, h2⟩ := HB.out (by intro h; rw [h] at hyk; simp at hyk)
        have c1 := (HI.out.below.cell (p := ⟨b1, o1 + k, none⟩) (block_lt_of_cell (h1 k x hxk))).trans (h1 k x hxk)
        have c2 := (HI.out.below.cell (p := ⟨b2, o2 + k, none⟩) (block_lt_of_cell (h2 k y hyk))).trans (h2 k y hyk)
        have Hx := Lib.hid hxk
        have Hy := Lib.hid hyk
        clear h1 h2 hxk hyk
        by_cases he : x = y
        · subst he
          go_wp2
          go_quiet (fail)
          go_wp2
          go_roundw
          case rel => exact ⟨k + 1, by omega, by go_num, Lib.hid (take_eq_succ hT.out Hx.out Hy.out), Lib.hid (HI.out.drewN _)⟩
          case measure => simp [intOf]; omega
        · have hne : (x != y) = true := by simpa using he
          have He := Lib.hid he
          clear he
          go_wp2
          go_quiet (fail)
          go_wp2
          obtain rfl : r = false := by
            rw [← Hr.out]
            refine decide_eq_false fun e => He.out ?_
            have h3 := Hx.out
            rw [e, Hy.out] at h3
            exact (Option.some.inj h3).symm
          exact bodyPost_ret (v := .bool false) (by simp [results, Tryd.results40, go_sem]) rfl ⟨rfl, (HI.out.drewN _).below⟩
      · go_wp2
        obtain rfl : r = true := by
          rw [← Hr.out]
          refine decide_eq_true ?_
          have h3 := hT.out
          rwa [List.take_of_length_le (by rw [Hn.out]; omega), List.take_of_length_le (by rw [Hm.out]; omega)] at h3
        exact bodyPost_ret (v := .bool true) (by simp [results, Tryd.results40, go_sem]) rfl ⟨rfl, HI.out.below⟩
  · have hne : ((n : Int) != (m : Int)) = true := by simp; omega
    go_wp2
    obtain rfl : r = false := by
      rw [← Hr.out]
      refine decide_eq_false fun e => hnm ?_
      rw [← Hn.out, ← Hm.out, e]
    exact bodyPost_ret (v := .bool false) (by simp [results, Tryd.results40, go_sem]) rfl ⟨rfl, HI.out.below⟩

/-- A node's head, field by field. -/
theorem hd_ext {a b : Hd} (h1 : a.kind = b.kind) (h2 : a.set = b.set) (h3 : a.text = b.text) (h4 : a.lo = b.lo) (h5 : a.hi = b.hi) : a = b := by
  cases a; cases b; simp_all
theorem set_eqB {a b : Nat} (ha : a < 2 ^ 256) (hb : b < 2 ^ 256) : (w64 a 0 == w64 b 0 && (w64 a 1 == w64 b 1 && (w64 a 2 == w64 b 2 && w64 a 3 == w64 b 3))) = decide (a = b) := by
  by_cases h : a = b
  · subst h; simp
  · rw [decide_eq_false h]
    apply Bool.eq_false_iff.2
    intro hc
    simp only [Bool.and_eq_true, beq_iff_eq] at hc
    exact h (words_ext ha hb hc.1 hc.2.1 hc.2.2.1 hc.2.2.2)
set_option maxHeartbeats 8000000 in
/-- What tree.Same compares nodes by. -/
theorem sameN_any (a b : Nd) (ha : HdOk a.hd) (hb : HdOk b.hd) (hka : a.kids.length ≤ 100000) (hkb : b.kids.length ≤ 100000) (qa : Option Addr) (ca : Nat) (qb : Option Addr) (cb : Nat) (w : World) (F G : Nat → TypeId → Prop) (hA : IntsAt w F qa a.kids) (hB : IntsAt w G qb b.kids) :
    Calls Tryd.prog 39 #[ndV a.hd qa a.kids.length ca, ndV b.hd qb b.kids.length cb] w fun e w' => e = .returned (.bool (decide (a = b))) ∧ Below w.heap.size w w' := by
  have hI := ((RInv.start noS w).alloc (ndO a.hd qa a.kids.length ca)).alloc (ndO b.hd qb b.kids.length cb)
  rw [World.size_alloc] at hI
  have hC := eqI_any a.kids b.kids hka hkb qa qb ca cb _ F G (hA.below hI.below) (hB.below hI.below)
  have hset := set_eqB ha.set hb.set
  obtain ⟨x0, x1, x2, x3, x4, x5, x6, x7, x8⟩ := nd_cells (g := w.heap.size) hI (List.mem_cons_of_mem _ List.mem_cons_self)
  obtain ⟨y0, y1, y2, y3, y4, y5, y6, y7, y8⟩ := nd_cells (g := w.heap.size + 1) hI List.mem_cons_self
  obtain ⟨s, hs⟩ : ∃ s, decide (a.hd.set = b.hd.set) = s := ⟨_, rfl⟩
  rw [hs] at hset
  obtain ⟨t, ht⟩ : ∃ t, decide (a.kids = b.kids) = t := ⟨_, rfl⟩
  rw [ht] at hC
  have HC := Lib.hid hC
  obtain ⟨r, hr⟩ : ∃ r, decide (a = b) = r := ⟨_, rfl⟩
  rw [hr]
  have Hr := Lib.hid hr
  have Hs := Lib.hid hs
  have Ht := Lib.hid ht
  have hbel := hI.below
  have HI := Lib.hid hI
  clear hr hs ht hC hA hB ha hb hI
  go_enter Tryd.func39, Tryd.ntmps39
  by_cases k1 : a.hd.kind = b.hd.kind
  · have q1 : (a.hd.kind == b.hd.kind) = true := by simpa using k1
    have K1 := Lib.hid k1
    clear k1
    cases s with
    | true =>
      by_cases k3 : a.hd.text = b.hd.text
      · have K3 := Lib.hid k3
        have q3 : (strOf a.hd.text).toList = (strOf b.hd.text).toList := by rw [k3]
        clear k3
        by_cases k4 : a.hd.lo = b.hd.lo
        · have K4 := Lib.hid k4
          have q4 : (a.hd.lo == b.hd.lo) = true := by simpa using k4
          clear k4
          by_cases k5 : a.hd.hi = b.hd.hi
          · have K5 := Lib.hid k5
            have q5 : (a.hd.hi == b.hd.hi) = true := by simpa using k5
            clear k5
            go_wp2_with (first | (go_at_call 40; refine (HC.out).mono ?_; rintro e W1 ⟨rfl, hb1⟩; have hI1 := HI.out.call hb1))
            obtain rfl : r = t := by
              rw [← Hr.out, ← Ht.out]
              apply decide_eq_decide.2
              refine ⟨fun e => by rw [e], fun e => ?_⟩
              have h := hd_ext K1.out (of_decide_eq_true Hs.out) K3.out K4.out K5.out
              cases a; cases b
              simp only at h e
              rw [h, e]
            exact bodyPost_ret (v := .bool r) (by simp [results, Tryd.results39, go_sem]) rfl ⟨rfl, hI1.below⟩
          · have q5 : (a.hd.hi == b.hd.hi) = false := by simpa using k5
            have K5 := Lib.hid k5
            clear k5
            go_wp2
            obtain rfl : r = false := by
              rw [← Hr.out]
              exact decide_eq_false fun e => K5.out (by rw [e])
            exact bodyPost_ret (v := .bool false) (by simp [results, Tryd.results39, go_sem]) rfl ⟨rfl, hbel⟩
        · have q4 : (a.hd.lo == b.hd.lo) = false := by simpa using k4
          have K4 := Lib.hid k4
          clear k4
          go_wp2
          obtain rfl : r = false := by
            rw [← Hr.out]
            exact decide_eq_false fun e => K4.out (by rw [e])
          exact bodyPost_ret (v := .bool false) (by simp [results, Tryd.results39, go_sem]) rfl ⟨rfl, hbel⟩
      · have K3 := Lib.hid k3
        have q3 : ¬ (strOf a.hd.text).toList = (strOf b.hd.text).toList := by rw [strOf_list, strOf_list]; exact k3
        clear k3
        go_wp2
        obtain rfl : r = false := by
          rw [← Hr.out]
          exact decide_eq_false fun e => K3.out (by rw [e])
        exact bodyPost_ret (v := .bool false) (by simp [results, Tryd.results39, go_sem]) rfl ⟨rfl, hbel⟩
    | false =>
      go_wp2
      obtain rfl : r = false := by
        rw [← Hr.out]
        exact decide_eq_false fun e => of_decide_eq_false Hs.out (by rw [e])
      exact bodyPost_ret (v := .bool false) (by simp [results, Tryd.results39, go_sem]) rfl ⟨rfl, hbel⟩
  · have q1 : (a.hd.kind == b.hd.kind) = false := by simpa using k1
    have K1 := Lib.hid k1
    clear k1
    go_wp2
    obtain rfl : r = false := by
      rw [← Hr.out]
      exact decide_eq_false fun e => K1.out (by rw [e])
    exact bodyPost_ret (v := .bool false) (by simp [results, Tryd.results39, go_sem]) rfl ⟨rfl, hbel⟩

set_option maxHeartbeats 8000000 in
/-- slices.EqualFunc, of two rows of nodes, by tree.Same's own function. -/
theorem eqf_any (l1 l2 : List Nd) (hS1 : Small l1) (hS2 : Small l2) (p q : Option Addr) (c d : Nat) (w : World) (F G : Nat → TypeId → Prop) (hA : NodesAt w F p l1) (hB : NodesAt w G q l2) :
    Calls Tryd.prog 37 #[.slice p l1.length c, .slice q l2.length d, .func (.func 39) #[] #[]] w fun e w' => e = .returned (.bool (decide (l1 = l2))) ∧ Below w.heap.size w w' := by
  have hl1 := hS1.len
  have hl2 := hS2.len
  obtain ⟨n, hn⟩ : ∃ n, l1.length = n := ⟨_, rfl⟩
  obtain ⟨m, hm⟩ : ∃ m, l2.length = m := ⟨_, rfl⟩
  rw [hn] at hl1 ⊢
  rw [hm] at hl2 ⊢
  have Hn := Lib.hid hn
  have Hm := Lib.hid hm
  have HA := Lib.hid hA
  have HB := Lib.hid hB
  have HS1 := Lib.hid hS1
  have HS2 := Lib.hid hS2
  clear hn hm hA hB hS1 hS2
  obtain ⟨r, hr⟩ : ∃ r, decide (l1 = l2) = r := ⟨_, rfl⟩
  rw [hr]
  have Hr := Lib.hid hr
  clear hr
  have HI := Lib.hid (RInv.start noS w)
  go_enter Tryd.func37, Tryd.ntmps37
  by_cases hnm : n = m
  · subst hnm
    go_wp2
    go_loopw [17] (fun iv wr => ∃ k : Nat, k ≤ n ∧ iv = .int .i64 k ∧ Hid (l1.take k = l2.take k) ∧ Hid (RInv noS w [] [] wr)) (fun iv _ => n - (intOf iv).toNat)
    case atStart => exact ⟨0, by omega, rfl, Lib.hid rfl, HI⟩
    case round =>
      clear HI
      obtain ⟨wo, rfl⟩ : ∃ wo : World, wo = wr := ⟨_, rfl⟩
      obtain ⟨k, hk, rfl, hT, HI⟩ := hrel
      by_cases hlt : k < n
      · obtain ⟨x, hxk⟩ : ∃ x, l1[k]? = some x := ⟨_, List.getElem?_eq_getElem (by rw [Hn.out]; exact hlt)⟩
        obtain ⟨y, hyk⟩ : ∃ y, l2[k]? = some y := ⟨_, List.getElem?_eq_getElem (by rw [Hm.out]; exact hlt)⟩
        obtain ⟨b1, o1, rfl, _, h1⟩ := HA.out (by intro h; rw [h] at hxk; simp at hxk)
        obtain ⟨b2, o2, rfl, _, h2⟩ := HB.out (by intro h; rw [h] at hyk; simp at hyk)
        obtain ⟨qa, ca, hda, hra, hka⟩ := h1 k x hxk
        obtain ⟨qb, cb, hdb, hrb, hkb⟩ := h2 k y hyk
        have hI2 := ((HI.out.restart noS).alloc (ndO x.hd qa x.kids.length ca)).alloc (ndO y.hd qb y.kids.length cb)
        rw [World.size_alloc] at hI2
        have Hra := Lib.hid (rangeAt_keep hra (HI.out.below.block b1 (block_lt_of_cell (hra 0 _ rfl))))
        have hbB := (HI.out.alloc (ndO x.hd qa x.kids.length ca)).below
        have Hrb := Lib.hid (rangeAt_keep hrb (hbB.block b2 (block_lt_of_cell (hrb 0 _ rfl))))
        have hC := sameN_any x y hda hdb (HS1.out.kids x (List.mem_of_getElem? hxk)) (HS2.out.kids y (List.mem_of_getElem? hyk)) qa ca qb cb _ F G (hka.below ((HI.out.alloc (ndO x.hd qa x.kids.length ca)).alloc (ndO y.hd qb y.kids.length cb)).below) (hkb.below ((HI.out.alloc (ndO x.hd qa x.kids.length ca)).alloc (ndO y.hd qb y.kids.length cb)).below)
        obtain ⟨t, ht⟩ : ∃ t, decide (x = y) = t := ⟨_, rfl⟩
        rw [ht] at hC
        have HC := Lib.hid hC
        have Ht := Lib.hid ht
        have Hx := Lib.hid hxk
        have Hy := Lib.hid hyk
        have HI2 := Lib.hid hI2
        clear h1 h2 hxk hyk hda hra hka hdb hrb hkb hbB hC ht hI2
        cases t with
        | true =>
          go_wp2_with (first
            | (go_at_call 39; refine (HC.out).mono ?_; rintro e W3 ⟨rfl, hb3⟩; have hI3 := HI2.out.call hb3)
            | (refine load_own rfl _ rfl (wo.heap.size + 1) rfl y.hd qb y.kids.length cb (HI2.out.at List.mem_cons_self) ?_)
            | (refine load_own rfl _ rfl wo.heap.size rfl x.hd qa x.kids.length ca (HI2.out.at (List.mem_cons_of_mem _ List.mem_cons_self)) ?_)
            | (refine load_node rfl _ rfl b2 (o2 + k * 9) rfl y.hd qb y.kids.length cb Hrb.out ?_)
            | (refine load_node rfl _ rfl b1 (o1 + k * 9) rfl x.hd qa x.kids.length ca Hra.out ?_))
          go_roundw
          case rel =>
            obtain rfl : x = y := of_decide_eq_true Ht.out
            exact ⟨k + 1, by omega, by go_num, Lib.hid (take_eq_succ hT.out Hx.out Hy.out), Lib.hid (HI.out.call hI3.below)⟩
          case measure => simp [intOf]; omega
        | false =>
          go_wp2_with (first
            | (go_at_call 39; refine (HC.out).mono ?_; rintro e W3 ⟨rfl, hb3⟩; have hI3 := HI2.out.call hb3)
            | (refine load_own rfl _ rfl (wo.heap.size + 1) rfl y.hd qb y.kids.length cb (HI2.out.at List.mem_cons_self) ?_)
            | (refine load_own rfl _ rfl wo.heap.size rfl x.hd qa x.kids.length ca (HI2.out.at (List.mem_cons_of_mem _ List.mem_cons_self)) ?_)
            | (refine load_node rfl _ rfl b2 (o2 + k * 9) rfl y.hd qb y.kids.length cb Hrb.out ?_)
            | (refine load_node rfl _ rfl b1 (o1 + k * 9) rfl x.hd qa x.kids.length ca Hra.out ?_))
          obtain rfl : r = false := by
            rw [← Hr.out]
            refine decide_eq_false fun e => of_decide_eq_false Ht.out ?_
            have h3 := Hx.out
            rw [e, Hy.out] at h3
            exact (Option.some.inj h3).symm
          exact bodyPost_ret (v := .bool false) (by simp [results, Tryd.results37, go_sem]) rfl ⟨rfl, (HI.out.call hI3.below).below⟩
      · go_wp2
        obtain rfl : r = true := by
          rw [← Hr.out]
          refine decide_eq_true ?_
          have h3 := hT.out
          rwa [List.take_of_length_le (by rw [Hn.out]; omega), List.take_of_length_le (by rw [Hm.out]; omega)] at h3
        exact bodyPost_ret (v := .bool true) (by simp [results, Tryd.results37, go_sem]) rfl ⟨rfl, HI.out.below⟩
  · have hne : ((n : Int) != (m : Int)) = true := by simp; omega
    go_wp2
    obtain rfl : r = false := by
      rw [← Hr.out]
      refine decide_eq_false fun e => hnm ?_
      rw [← Hn.out, ← Hm.out, e]
    exact bodyPost_ret (v := .bool false) (by simp [results, Tryd.results37, go_sem]) rfl ⟨rfl, HI.out.below⟩
end Go.Proofs.YtcenjpaiehidjaaDoor

/- Contracts of tree.Same and of expr.Normal, of trees that are right. -/
namespace Go.Proofs.YtcenjpaiehidjaaDoor
open Go.RowKit
set_option maxRecDepth 100000

theorem lay_eq_iff {x y : Xp} : lay x 0 = lay y 0 ↔ x = y := by
  refine ⟨fun h => ?_, fun h => by rw [h]⟩
  have hl := congrArg List.length h
  rw [lay_len, lay_len] at hl
  refine clean_inj ?_
  unfold clean
  rw [h, hl]
set_option maxHeartbeats 8000000 in
/-- tree.Same, of two trees that are right. -/
theorem same_any (ns : List Nd) (x : Xp) (root : Int) (p : Option Addr) (cap : Nat) (hS : Small ns) (hR : RightP ⟨ns, root⟩) (hx : sits ns x root) (hxz : x.size = ns.length) (us : List Nd) (y : Xp) (ru : Int) (q : Option Addr) (c : Nat) (hU : Small us) (hRu : RightP ⟨us, ru⟩) (hy : sits us y ru) (hyz : y.size = us.length) (r : Bool) (hr : r = true ↔ x = y) (w : World) (F G : Nat → TypeId → Prop) (hN : NodesAt w F p ns) (hM : NodesAt w G q us) (hT : KidsT w) :
    Calls Tryd.prog 18 #[arV p ns.length cap root, arV q us.length c ru] w fun e w' => e = .returned (.bool r) ∧ Below w.heap.size w w' := by
  have hl := hS.len
  have hlu := hU.len
  have hI := ((RInv.start noS w).alloc (arO p ns.length cap root)).alloc (arO q us.length c ru)
  rw [World.size_alloc] at hI
  have hSx : Small (lay x 0) := small_one (y := x) (by omega)
  have hSy : Small (lay y 0) := small_one (y := y) (by omega)
  have hLx := lay_len x 0
  have hLy := lay_len y 0
  have hr2 : decide (lay x 0 = lay y 0) = r := Bool.eq_iff_iff.2 (by rw [decide_eq_true_iff, lay_eq_iff]; exact hr.symm)
  have hne : ns.length ≠ us.length → r = false := fun h => Bool.eq_false_iff.2 fun e => h (by rw [← hxz, ← hyz, hr.1 e])
  have CP1 : Hid (∀ W, Below w.heap.size w W → Calls Tryd.prog 38 #[.slice none 0 0, arV p ns.length cap root, .int .i64 root] W fun e w' => (∃ q c, e = .returned (.slice q (lay x 0).length c) ∧ NodesAt w' (fun _ _ => True) q (lay x 0)) ∧ Below W.heap.size W w') := Lib.hid fun W hb => (put_none ns x root p cap root hS (by omega) hx hR.down' W F (hN.below hb)).mono fun e w' ⟨q, c, h1, h2, h3⟩ => ⟨⟨q, c, by rw [h1, hLx], h2.mono fun _ _ _ => trivial⟩, h3⟩
  have CP2 : Hid (∀ W, Below w.heap.size w W → Calls Tryd.prog 38 #[.slice none 0 0, arV q us.length c ru, .int .i64 ru] W fun e w' => (∃ q c, e = .returned (.slice q (lay y 0).length c) ∧ NodesAt w' (fun _ _ => True) q (lay y 0)) ∧ Below W.heap.size W w') := Lib.hid fun W hb => (put_none us y ru q c ru hU (by omega) hy hRu.down' W G (hM.below hb)).mono fun e w' ⟨q, c, h1, h2, h3⟩ => ⟨⟨q, c, by rw [h1, hLy], h2.mono fun _ _ _ => trivial⟩, h3⟩
  have CR1 : Hid (∀ W, Below w.heap.size w W → Calls Tryd.prog 15 #[arV p ns.length cap root] W fun e w' => e = .returned (.bool true) ∧ Below W.heap.size W w') := Lib.hid fun W hb => right_true ns root p cap hS W F (hN.below hb) (hT.keep hb) hR
  have CR2 : Hid (∀ W, Below w.heap.size w W → Calls Tryd.prog 15 #[arV q us.length c ru] W fun e w' => e = .returned (.bool true) ∧ Below W.heap.size W w') := Lib.hid fun W hb => right_true us ru q c hU W G (hM.below hb) (hT.keep hb) hRu
  obtain ⟨L1, hL1⟩ : ∃ L, lay x 0 = L := ⟨_, rfl⟩
  obtain ⟨L2, hL2⟩ : ∃ L, lay y 0 = L := ⟨_, rfl⟩
  rw [hL1] at CP1 hSx hr2
  rw [hL2] at CP2 hSy hr2
  have CE := Lib.hid (fun (p1 p2 : Option Addr) (c1 c2 : Nat) (W : World) (F G : Nat → TypeId → Prop) (h1 : NodesAt W F p1 L1) (h2 : NodesAt W G p2 L2) => eqf_any L1 L2 hSx hSy p1 p2 c1 c2 W F G h1 h2)
  rw [hr2] at CE
  obtain ⟨t0, t1⟩ := box_cells hI (List.mem_cons_of_mem _ List.mem_cons_self)
  obtain ⟨s0, s1⟩ := box_cells hI List.mem_cons_self
  have Hne := Lib.hid hne
  clear hS hR hx hxz hU hRu hy hyz hN hM hT hSx hSy hLx hLy hr hr2 hne hL1 hL2
  go_enter Tryd.func18, Tryd.ntmps18
  by_cases hlen : ns.length = us.length
  · have hq : ((ns.length : Int) != (us.length : Int)) = false := by simp [hlen]
    have Hlen := Lib.hid hlen
    clear hlen
    go_wp2_with (first
      | (go_at_call 15; have _k := hI1; refine (CR2.out _ hI1.below).mono ?_; rintro e W2 ⟨rfl, hb2⟩; have hI2 := hI1.call hb2; have hI3 := hI2.drew; clear t0 t1 s0 s1; obtain ⟨t0, t1⟩ := box_cells hI3 (List.mem_cons_of_mem _ List.mem_cons_self); obtain ⟨s0, s1⟩ := box_cells hI3 List.mem_cons_self)
      | (go_at_call 15; refine (CR1.out _ hI.below).mono ?_; rintro e W1 ⟨rfl, hb1⟩; have hI1 := hI.call hb1; clear t0 t1 s0 s1; obtain ⟨t0, t1⟩ := box_cells hI1 (List.mem_cons_of_mem _ List.mem_cons_self); obtain ⟨s0, s1⟩ := box_cells hI1 List.mem_cons_self))
    go_region_held_law (fun w' => w'.cell? ⟨w.heap.size, 0, none⟩ = some (.slice p ns.length cap) ∧ w'.cell? ⟨w.heap.size, 1, none⟩ = some (.int .i64 root) ∧ w'.cell? ⟨w.heap.size + 1, 0, none⟩ = some (.slice q us.length c) ∧ w'.cell? ⟨w.heap.size + 1, 1, none⟩ = some (.int .i64 ru))
      (exact ⟨(box_cells hI3 (List.mem_cons_of_mem _ List.mem_cons_self)).1, (box_cells hI3 (List.mem_cons_of_mem _ List.mem_cons_self)).2, (box_cells hI3 List.mem_cons_self).1, (box_cells hI3 List.mem_cons_self).2⟩)
      (first
        | (go_at_call 37; refine (CE.out p4 p5 c4 c5 _ _ _ h4 h5).mono ?_; rintro e W6 ⟨rfl, hb6⟩; replace hI3 := hI3.call hb6)
        | (go_at_call 38; have _k := h4; refine (CP2.out _ hI3.below).mono ?_; rintro e W5 ⟨⟨p5, c5, rfl, h5⟩, hb5⟩; replace hI3 := hI3.call hb5; replace h4 := h4.below hb5)
        | (go_at_call 38; refine (CP1.out _ hI3.below).mono ?_; rintro e W4 ⟨⟨p4, c4, rfl, h4⟩, hb4⟩; replace hI3 := hI3.call hb4))
    all_goals
      go_wp2
      exact bodyPost_ret (v := .bool r) (by simp [results, Tryd.results18, go_sem]) rfl ⟨rfl, hI3.below⟩
  · have hq : ((ns.length : Int) != (us.length : Int)) = true := by simp; omega
    obtain rfl := Hne.out hlen
    clear hlen
    have hbel := hI.below
    go_wp2
    exact bodyPost_ret (v := .bool false) (by simp [results, Tryd.results18, go_sem]) rfl ⟨rfl, hbel⟩
set_option maxHeartbeats 4000000 in
/-- expr.Normal, of a tree that is right. -/
theorem normal_any (ns : List Nd) (x : Xp) (root : Int) (p : Option Addr) (cap : Nat) (hS : Small ns) (hR : RightP ⟨ns, root⟩) (hx : sits ns x root) (hxz : x.size = ns.length) (hok : okX x = true) (r : Bool) (hr : r = true ↔ norm x = x) (w : World) (F : Nat → TypeId → Prop) (hN : NodesAt w F p ns) (hT : Tabs w) :
    Calls Tryd.prog 16 #[arV p ns.length cap root] w fun e w' => e = .returned (.bool r) ∧ Below w.heap.size w w' := by
  have hl := hS.len
  have hI := (RInv.start noS w).alloc (arO p ns.length cap root)
  have hno := norm_good x hok
  have hnz := norm_size x
  have hsz : (norm x).size = (clean (norm x)).nodes.length := by rw [clean_len]
  have CM : Hid (∀ W, Below w.heap.size w W → Calls Tryd.prog 17 #[arV p ns.length cap root] W fun e w' => (∃ p c, e = .returned (.tuple #[arV p (clean (norm x)).nodes.length c (clean (norm x)).root, .bool true]) ∧ NodesAt w' (fun _ _ => True) p (clean (norm x)).nodes) ∧ Below W.heap.size W w') := Lib.hid fun W hb => (make_yes ns x root p cap hS hR hx (by omega) W F (hN.below hb) (hT.keep hb)).mono fun e w' ⟨⟨v, h1, p', c', h2, h3⟩, h4⟩ => ⟨⟨p', c', by rw [h1, h2], h3.mono fun _ _ _ => trivial⟩, h4⟩
  have CS : Hid (∀ W, Below w.heap.size w W → ∀ p' c', NodesAt W (fun _ _ => True) p' (clean (norm x)).nodes → Calls Tryd.prog 18 #[arV p' (clean (norm x)).nodes.length c' (clean (norm x)).root, arV p ns.length cap root] W fun e w' => e = .returned (.bool r) ∧ Below W.heap.size W w') := Lib.hid fun W hb p' c' hp => by
    exact same_any (clean (norm x)).nodes (norm x) (clean (norm x)).root p' c' (small_one (by omega)) (clean_right hno.1) (sits_clean _) hsz ns x root p cap hS hR hx hxz r hr W _ F hp (hN.below hb) (hT.keep hb).kids
  obtain ⟨T, hTT⟩ : ∃ T, clean (norm x) = T := ⟨_, rfl⟩
  rw [hTT] at CM CS
  obtain ⟨t0, t1⟩ := box_cells hI List.mem_cons_self
  clear hS hR hx hxz hok hN hT hno hnz hsz hr hTT
  go_enter Tryd.func16, Tryd.ntmps16
  go_wp2_with (first
    | (go_at_call 18; refine (CS.out _ hI2.below p1 c1 h1).mono ?_; rintro e W2 ⟨rfl, hb2⟩; have hI3 := hI2.call hb2)
    | (go_at_call 17; refine (CM.out _ hI.below).mono ?_; rintro e W1 ⟨⟨p1, c1, rfl, h1⟩, hb1⟩; have hI2 := (hI.call hb1).alloc (arO p1 T.nodes.length c1 T.root); replace h1 := h1.below ((Below.refl _ _).alloc (Nat.le_refl _) (arO p1 T.nodes.length c1 T.root)); clear t0 t1; obtain ⟨t0, t1⟩ := box_cells hI2 (List.mem_cons_of_mem _ List.mem_cons_self); obtain ⟨s0, s1⟩ := box_cells hI2 List.mem_cons_self))
  exact bodyPost_ret (v := .bool r) (by simp [results, Tryd.results16, go_sem]) rfl ⟨rfl, hI3.below⟩
end Go.Proofs.YtcenjpaiehidjaaDoor

/- What the calls of bonsailaw18.PathPut come to, at named arenas. -/
namespace Go.Proofs.YtcenjpaiehidjaaDoor
open Go.RowKit
set_option maxRecDepth 100000

/-- All that PathPut asks where there is such a path. -/
structure PF (ns : List Nd) (root : Int) (us : List Nd) (ru : Int) (pl : List Int) (n k : Nat) (TZ TB TN TH TW : Ar) (bB bN : Bool) : Prop where
  c1 : ∀ (w : World) (F G : Nat → TypeId → Prop) (p : Option Addr) (cap : Nat) (q : Option Addr) (c : Nat), NodesAt w F p ns → IntsAt w G q pl → Tabs w →
    Calls Tryd.prog 9 #[arV p ns.length cap root, .slice q n c] w fun e w' => GetsQ w.heap.size w' e TZ true ∧ Below w.heap.size w w'
  c2 : ∀ (w : World) (F G K : Nat → TypeId → Prop) (p : Option Addr) (cap : Nat) (q : Option Addr) (c : Nat) (pu : Option Addr) (cu : Nat), NodesAt w F p ns → IntsAt w G q pl → NodesAt w K pu us → Tabs w →
    Calls Tryd.prog 11 #[arV p ns.length cap root, .slice q n c, arV pu us.length cu ru] w fun e w' => GetsQ w.heap.size w' e TB bB ∧ Below w.heap.size w w'
  c3 : ∀ (w : World) (K : Nat → TypeId → Prop) (pu : Option Addr) (cu : Nat), NodesAt w K pu us → Tabs w →
    Calls Tryd.prog 15 #[arV pu us.length cu ru] w fun e w' => e = .returned (.bool bB) ∧ Below w.heap.size w w'
  c4 : bB = true → ∀ (w : World) (K : Nat → TypeId → Prop) (pu : Option Addr) (cu : Nat), NodesAt w K pu TB.nodes → Tabs w →
    Calls Tryd.prog 16 #[arV pu TB.nodes.length cu TB.root] w fun e w' => e = .returned (.bool true) ∧ Below w.heap.size w w'
  c5 : ∀ (w : World) (F G K : Nat → TypeId → Prop) (p : Option Addr) (cap : Nat) (q : Option Addr) (c : Nat) (pu : Option Addr) (cu : Nat), NodesAt w F p ns → IntsAt w G q pl → NodesAt w K pu TZ.nodes → Tabs w →
    Calls Tryd.prog 11 #[arV p ns.length cap root, .slice q n c, arV pu TZ.nodes.length cu TZ.root] w fun e w' => GetsQ w.heap.size w' e TN true ∧ Below w.heap.size w w'
  c6 : ∀ (w : World) (F : Nat → TypeId → Prop) (p : Option Addr) (cap : Nat), NodesAt w F p ns → Tabs w →
    Calls Tryd.prog 17 #[arV p ns.length cap root] w fun e w' => GetsQ w.heap.size w' e TN true ∧ Below w.heap.size w w'
  sN : Small TN.nodes
  sB : Small TB.nodes
  c8 : ∀ (w : World) (F : Nat → TypeId → Prop) (p : Option Addr) (cap : Nat), NodesAt w F p ns → Tabs w →
    Calls Tryd.prog 16 #[arV p ns.length cap root] w fun e w' => e = .returned (.bool bN) ∧ Below w.heap.size w w'
  c9 : ∀ (w : World) (F K : Nat → TypeId → Prop) (p : Option Addr) (cap : Nat) (pu : Option Addr) (cu : Nat), NodesAt w F p ns → NodesAt w K pu TN.nodes → Tabs w →
    Calls Tryd.prog 18 #[arV pu TN.nodes.length cu TN.root, arV p ns.length cap root] w fun e w' => e = .returned (.bool bN) ∧ Below w.heap.size w w'
  c10 : ∀ (w : World) (F G : Nat → TypeId → Prop) (p : Option Addr) (cap : Nat) (q : Option Addr) (c : Nat), NodesAt w F p ns → IntsAt w G q (pl.take k) → Tabs w →
    Calls Tryd.prog 9 #[arV p ns.length cap root, .slice q k c] w fun e w' => GetsQ w.heap.size w' e TH true ∧ Below w.heap.size w w'
  c11 : ∀ (w : World) (F G K : Nat → TypeId → Prop) (p : Option Addr) (cap : Nat) (q : Option Addr) (c : Nat) (pu : Option Addr) (cu : Nat), NodesAt w F p TH.nodes → IntsAt w G q (pl.drop k) → NodesAt w K pu us → Tabs w →
    Calls Tryd.prog 11 #[arV p TH.nodes.length cap TH.root, .slice q (n - k) c, arV pu us.length cu ru] w fun e w' => GetsQ w.heap.size w' e TW bB ∧ Below w.heap.size w w'
  c12 : bB = true → ∀ (w : World) (F G K : Nat → TypeId → Prop) (p : Option Addr) (cap : Nat) (q : Option Addr) (c : Nat) (pu : Option Addr) (cu : Nat), NodesAt w F p ns → IntsAt w G q (pl.take k) → NodesAt w K pu TW.nodes → Tabs w →
    Calls Tryd.prog 11 #[arV p ns.length cap root, .slice q k c, arV pu TW.nodes.length cu TW.root] w fun e w' => GetsQ w.heap.size w' e TB true ∧ Below w.heap.size w w'

theorem bool_of (p : Prop) : ∃ b : Bool, b = true ↔ p := by
  by_cases h : p
  · exact ⟨true, by simp [h]⟩
  · exact ⟨false, by simp [h]⟩
theorem pf_any (ns : List Nd) (root : Int) (us : List Nd) (ru : Int) (pl : List Int) (hS : Small ns) (hU : Small us) (n k : Nat) (hn : pl.length = n) (hpl : n ≤ 10000) (hk : k ≤ n) (hz : ns.length + us.length ≤ 9999) (hR : RightP ⟨ns, root⟩) (x z : Xp) (hx : sits ns x root) (hok : okX x = true) (hxz : x.size = ns.length) (hg : getX x pl = some z) :
    ∃ TZ TB TN TH TW bB bN, PF ns root us ru pl n k TZ TB TN TH TW bB bN := by
  subst hn
  have hzok := getX_ok hok hg
  have hpz := z.size_pos
  obtain ⟨h, hh, hgh⟩ : ∃ h, getX x (pl.take k) = some h ∧ getX h (pl.drop k) = some z := by
    have e := getX_app (pl.take k) (pl.drop k) x
    rw [List.take_append_drop, hg] at e
    cases hc : getX x (pl.take k) with
    | none => rw [hc] at e; simp at e
    | some h => rw [hc] at e; exact ⟨h, rfl, e.symm⟩
  have hhok := getX_ok hok hh
  have hno := norm_good x hok
  have hnz := norm_size x
  obtain ⟨bN, hbN⟩ := bool_of (norm x = x)
  have htl : (pl.take k).length = k := by rw [List.length_take]; omega
  have hdl : (pl.drop k).length = pl.length - k := List.length_drop ..
  have C1 : ∀ (w : World) (F G : Nat → TypeId → Prop) (p : Option Addr) (cap : Nat) (q : Option Addr) (c : Nat), NodesAt w F p ns → IntsAt w G q pl → Tabs w →
      Calls Tryd.prog 9 #[arV p ns.length cap root, .slice q pl.length c] w fun e w' => GetsQ w.heap.size w' e (clean z) true ∧ Below w.heap.size w w' := fun w F G p cap q c hN hQ hT => by
    have e := at_any ns x root p cap hS hR hx (by omega) pl (by omega) q c w F G hN hQ hT.kids
    rw [hg] at e
    exact e.mono fun e w' h => ⟨gets_q h.1 rfl rfl, h.2⟩
  have C5 : ∀ (w : World) (F G K : Nat → TypeId → Prop) (p : Option Addr) (cap : Nat) (q : Option Addr) (c : Nat) (pu : Option Addr) (cu : Nat), NodesAt w F p ns → IntsAt w G q pl → NodesAt w K pu (clean z).nodes → Tabs w →
      Calls Tryd.prog 11 #[arV p ns.length cap root, .slice q pl.length c, arV pu (clean z).nodes.length cu (clean z).root] w fun e w' => GetsQ w.heap.size w' e (clean (norm x)) true ∧ Below w.heap.size w w' := fun w F G K p cap q c pu cu hN hQ hNu hT => by
    have e := put_yes ns x root p cap hS hR hx (clean z).nodes z (clean z).root pu cu (small_one (by omega)) (clean_right hzok.1) (sits_clean _) (by omega) pl (by omega) z hg q c w F G K hN hNu hQ hT
    rw [setX_same hg] at e
    exact e.mono fun e w' h => ⟨gets_q h.1 rfl rfl, h.2⟩
  have C6 : ∀ (w : World) (F : Nat → TypeId → Prop) (p : Option Addr) (cap : Nat), NodesAt w F p ns → Tabs w →
      Calls Tryd.prog 17 #[arV p ns.length cap root] w fun e w' => GetsQ w.heap.size w' e (clean (norm x)) true ∧ Below w.heap.size w w' := fun w F p cap hN hT =>
    (make_yes ns x root p cap hS hR hx (by omega) w F hN hT).mono fun e w' h => ⟨gets_q (A := some (norm x)) h.1 rfl rfl, h.2⟩
  have C8 : ∀ (w : World) (F : Nat → TypeId → Prop) (p : Option Addr) (cap : Nat), NodesAt w F p ns → Tabs w →
      Calls Tryd.prog 16 #[arV p ns.length cap root] w fun e w' => e = .returned (.bool bN) ∧ Below w.heap.size w w' := fun w F p cap hN hT =>
    normal_any ns x root p cap hS hR hx hxz hok bN hbN w F hN hT
  have C9 : ∀ (w : World) (F K : Nat → TypeId → Prop) (p : Option Addr) (cap : Nat) (pu : Option Addr) (cu : Nat), NodesAt w F p ns → NodesAt w K pu (clean (norm x)).nodes → Tabs w →
      Calls Tryd.prog 18 #[arV pu (clean (norm x)).nodes.length cu (clean (norm x)).root, arV p ns.length cap root] w fun e w' => e = .returned (.bool bN) ∧ Below w.heap.size w w' := fun w F K p cap pu cu hN hNu hT =>
    same_any (clean (norm x)).nodes (norm x) (clean (norm x)).root pu cu (small_one (by omega)) (clean_right hno.1) (sits_clean _) (by rw [clean_len]) ns x root p cap hS hR hx hxz bN hbN w K F hNu hN hT.kids
  have C10 : ∀ (w : World) (F G : Nat → TypeId → Prop) (p : Option Addr) (cap : Nat) (q : Option Addr) (c : Nat), NodesAt w F p ns → IntsAt w G q (pl.take k) → Tabs w →
      Calls Tryd.prog 9 #[arV p ns.length cap root, .slice q k c] w fun e w' => GetsQ w.heap.size w' e (clean h) true ∧ Below w.heap.size w w' := fun w F G p cap q c hN hQ hT => by
    have e := at_any ns x root p cap hS hR hx (by omega) (pl.take k) (by omega) q c w F G hN hQ hT.kids
    rw [hh, htl] at e
    exact e.mono fun e w' h => ⟨gets_q h.1 rfl rfl, h.2⟩
  by_cases hRu : RightP ⟨us, ru⟩
  · obtain ⟨u, hu, huok, huz⟩ := hRu.tree
    simp only at hu huz
    have hpu := u.size_pos
    have hsx := setX_ok huok hok hg
    have hsn := norm_size (setX x pl u)
    have hsg := norm_good _ hsx.1
    have hsh := setX_ok huok hhok.1 hgh
    have hshn := norm_size (setX h (pl.drop k) u)
    have hshg := norm_good _ hsh.1
    refine ⟨clean z, clean (norm (setX x pl u)), clean (norm x), clean h, clean (norm (setX h (pl.drop k) u)), true, bN, C1, fun w F G K p cap q c pu cu hN hQ hNu hT => ?_, fun w K pu cu hNu hT => ?_, fun _ w K pu cu hNu hT => ?_, C5, C6, small_one (by omega), small_one (by omega), C8, C9, C10, fun w F G K p cap q c pu cu hN hQ hNu hT => ?_, fun _ w F G K p cap q c pu cu hN hQ hNu hT => ?_⟩
    · exact (put_yes ns x root p cap hS hR hx us u ru pu cu hU hRu hu (by omega) pl (by omega) z hg q c w F G K hN hNu hQ hT).mono fun e w' h => ⟨gets_q (A := some (norm (setX x pl u))) h.1 rfl rfl, h.2⟩
    · exact right_true us ru pu cu hU w K hNu hT.kids hRu
    · exact normal_any _ (norm (setX x pl u)) _ pu cu (small_one (by omega)) (clean_right hsg.1) (sits_clean _) (by rw [clean_len]) hsg.1 true (by simp [norm_norm hsx.1]) w K hNu hT
    · have e := put_yes (clean h).nodes h (clean h).root p cap (small_one (by omega)) (clean_right hhok.1) (sits_clean _) us u ru pu cu hU hRu hu (by omega) (pl.drop k) (by omega) z hgh q c w F G K hN hNu hQ hT
      rw [hdl] at e
      exact e.mono fun e w' h => ⟨gets_q h.1 rfl rfl, h.2⟩
    · have e := put_yes ns x root p cap hS hR hx (clean (norm (setX h (pl.drop k) u))).nodes _ (clean (norm (setX h (pl.drop k) u))).root pu cu (small_one (by omega)) (clean_right hshg.1) (sits_clean _) (by omega) (pl.take k) (by omega) h hh q c w F G K hN hNu hQ hT
      rw [norm_set hsh.1 hok hh, ← setX_app hh, List.take_append_drop, htl] at e
      exact e.mono fun e w' h => ⟨gets_q h.1 rfl rfl, h.2⟩
  · refine ⟨clean z, arOf none, clean (norm x), clean h, arOf none, false, bN, C1, fun w F G K p cap q c pu cu hN hQ hNu hT => ?_, fun w K pu cu hNu hT => ?_, (fun e => Bool.noConfusion e), C5, C6, small_one (by omega), small_of _ (by simp), C8, C9, C10, fun w F G K p cap q c pu cu hN hQ hNu hT => ?_, (fun e => Bool.noConfusion e)⟩
    · exact (put_none_right ns x root p cap hS hR hx us ru pu cu hU hRu (by omega) pl (by omega) z hg q c w F G K hN hNu hQ hT).mono fun e w' h => ⟨gets_q (A := none) h.1 rfl rfl, h.2⟩
    · exact right_false us ru pu cu hU w K hNu hT.kids hRu
    · have e := put_none_right (clean h).nodes h (clean h).root p cap (small_one (by omega)) (clean_right hhok.1) (sits_clean _) us ru pu cu hU hRu (by omega) (pl.drop k) (by omega) z hgh q c w F G K hN hNu hQ hT
      rw [hdl] at e
      exact e.mono fun e w' h => ⟨gets_q (A := none) h.1 rfl rfl, h.2⟩
/-- What PathPut asks where there is no such path. -/
structure PN (ns : List Nd) (root : Int) (us : List Nd) (ru : Int) (pl : List Int) (n : Nat) (N : Ar) : Prop where
  c1 : ∀ (w : World) (F G : Nat → TypeId → Prop) (p : Option Addr) (cap : Nat) (q : Option Addr) (c : Nat), NodesAt w F p ns → IntsAt w G q pl → Tabs w →
    Calls Tryd.prog 9 #[arV p ns.length cap root, .slice q n c] w fun e w' => GetsQ w.heap.size w' e N false ∧ Below w.heap.size w w'
  c2 : ∀ (w : World) (F G K : Nat → TypeId → Prop) (p : Option Addr) (cap : Nat) (q : Option Addr) (c : Nat) (pu : Option Addr) (cu : Nat), NodesAt w F p ns → IntsAt w G q pl → NodesAt w K pu us → Tabs w →
    Calls Tryd.prog 11 #[arV p ns.length cap root, .slice q n c, arV pu us.length cu ru] w fun e w' => GetsQ w.heap.size w' e N false ∧ Below w.heap.size w w'
theorem pn_any (ns : List Nd) (root : Int) (us : List Nd) (ru : Int) (pl : List Int) (hS : Small ns) (n : Nat) (hn : pl.length = n) (hpl : n ≤ 10000) (hz : ns.length ≤ 9999) (h : ∀ x, RightP ⟨ns, root⟩ → sits ns x root → x.size = ns.length → getX x pl = none) : PN ns root us ru pl n (arOf none) := by
  subst hn
  by_cases hR : RightP ⟨ns, root⟩
  · obtain ⟨x, hx, hok, hxz⟩ := hR.tree
    simp only at hx hxz
    have hg := h x hR hx hxz
    refine ⟨fun w F G p cap q c hN hQ hT => ?_, fun w F G K p cap q c pu cu hN hQ hNu hT => ?_⟩
    · have e := at_any ns x root p cap hS hR hx (by omega) pl (by omega) q c w F G hN hQ hT.kids
      rw [hg] at e
      exact e.mono fun e w' h => ⟨gets_q h.1 rfl rfl, h.2⟩
    · refine (put_no_path ns root p cap us ru pu cu pl.length q c w fun W hb => ?_).mono fun e w' h => ⟨gets_q (A := none) h.1 rfl rfl, h.2⟩
      have e := node_any ns x root p cap hS hR hx pl (by omega) q c W F G (hN.below hb) (hQ.below hb) (hT.kids.keep hb)
      rw [hg] at e
      exact e
  · refine ⟨fun w F G p cap q c hN hQ hT => ?_, fun w F G K p cap q c pu cu hN hQ hNu hT => ?_⟩
    · exact (at_bad ns root p cap hS hR pl q c w F hN hT.kids).mono fun e w' h => ⟨gets_q (A := none) h.1 rfl rfl, h.2⟩
    · exact (put_no_path ns root p cap us ru pu cu pl.length q c w fun W hb => node_bad ns root p cap hS hR pl q c W F (hN.below hb) (hT.kids.keep hb)).mono fun e w' h => ⟨gets_q (A := none) h.1 rfl rfl, h.2⟩
end Go.Proofs.YtcenjpaiehidjaaDoor
