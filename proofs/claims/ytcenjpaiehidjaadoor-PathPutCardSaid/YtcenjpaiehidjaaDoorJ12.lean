/- What path.Put is proved by: again at any node; what lies where. -/
import Derived.Test.YtcenjpaiehidjaaDoorJ11
set_option linter.unusedSimpArgs false
set_option linter.unusedVariables false
namespace Go.Proofs.YtcenjpaiehidjaaDoor
open Go.RowKit
set_option maxRecDepth 100000

theorem plain_hd {h : Hd} (hp : plainB h = true) : h.set = 0 ∧ h.text = [] ∧ h.lo = 0 ∧ h.hi = 0 := by
  unfold plainB at hp
  simp only [Bool.and_eq_true, beq_iff_eq] at hp
  exact ⟨hp.1.1.1, hp.1.1.2, hp.1.2, hp.2⟩
/-- A node that fits, and has kids. -/
theorem fits_form {h : Hd} {n : Nat} (hf : fitsB h n = true) (hn : 0 < n) :
    h = ⟨4, 0, [], 0, 0⟩ ∨ h = ⟨5, 0, [], 0, 0⟩ ∨ (∃ lo hi, h = ⟨6, 0, [], lo, hi⟩ ∧ n = 1) ∨ (h = ⟨7, 0, [], 0, 0⟩ ∧ n = 1) ∨ (h = ⟨8, 0, [], 0, 0⟩ ∧ n = 1) ∨ (∃ s, h = ⟨9, 0, s, 0, 0⟩ ∧ n = 1) := by
  obtain ⟨k, s, t, lo, hi⟩ := h
  have hf' := hf
  unfold fitsB at hf
  simp only at hf
  by_cases h0 : k = 0
  · rw [if_pos h0] at hf; simp at hf; omega
  rw [if_neg h0] at hf
  by_cases h1 : k = 1
  · rw [if_pos h1] at hf; simp at hf; omega
  rw [if_neg h1] at hf
  by_cases h2 : k = 2
  · rw [if_pos h2] at hf; simp at hf; omega
  rw [if_neg h2] at hf
  by_cases h3 : k = 3
  · rw [if_pos h3] at hf; simp at hf; omega
  rw [if_neg h3] at hf
  by_cases h4 : k = 4 ∨ k = 5
  · rw [if_pos h4] at hf
    rw [Bool.and_eq_true] at hf
    obtain ⟨a, b, c, d⟩ := plain_hd hf.1
    simp only at a b c d
    subst a b c d
    rcases h4 with rfl | rfl
    · exact .inl rfl
    · exact .inr (.inl rfl)
  rw [if_neg h4] at hf
  by_cases h6 : k = 6
  · rw [if_pos h6] at hf
    simp only [Bool.and_eq_true, beq_iff_eq] at hf
    obtain ⟨⟨⟨⟨⟨a, b⟩, c⟩, _⟩, _⟩, _⟩ := hf
    subst a b c h6
    exact .inr (.inr (.inl ⟨lo, hi, rfl, rfl⟩))
  rw [if_neg h6] at hf
  by_cases h7 : k = 7 ∨ k = 8
  · rw [if_pos h7] at hf
    rw [Bool.and_eq_true, beq_iff_eq] at hf
    obtain ⟨a, b, c, d⟩ := plain_hd hf.1
    simp only at a b c d
    subst a b c d
    rcases h7 with rfl | rfl
    · exact .inr (.inr (.inr (.inl ⟨rfl, hf.2⟩)))
    · exact .inr (.inr (.inr (.inr (.inl ⟨rfl, hf.2⟩))))
  rw [if_neg h7] at hf
  by_cases h9 : k = 9
  · rw [if_pos h9] at hf
    simp only [Bool.and_eq_true, beq_iff_eq] at hf
    obtain ⟨⟨⟨⟨a, b⟩, c⟩, d⟩, _⟩ := hf
    subst a b c d h9
    exact .inr (.inr (.inr (.inr (.inr ⟨t, rfl, rfl⟩))))
  rw [if_neg h9] at hf
  cases hf
/-- path.again. -/
theorem again_any (h : Hd) (ks : List Xp) (hok : ∀ k ∈ ks, okX k = true) (hz : sizeL ks ≤ 99999) (hf : fitsB h ks.length = true) (hn : 0 < ks.length) (p : Option Addr) (cap : Nat) (w : World) (F : Nat → TypeId → Prop) (hN : TreesAt w F p (ks.map clean)) (hT : Tabs w) :
    Calls Tryd.prog 30 #[ndV h none 0 0, .slice p ks.length cap] w fun e w' => GetsT w.heap.size w' e (some (join h (ks.map norm))) ∧ Below w.heap.size w w' := by
  have one : ks.length = 1 → ∃ y, ks = [y] := fun h1 => by
    match ks, h1 with
    | [y], _ => exact ⟨y, rfl⟩
  have hs : ∀ y, sizeL [y] = y.size := fun y => by rw [sizeL_cons, sizeL_nil]; rfl
  rcases fits_form hf hn with rfl | rfl | ⟨lo, hi, rfl, h1⟩ | ⟨rfl, h1⟩ | ⟨rfl, h1⟩ | ⟨s, rfl, h1⟩
  · exact again_seq ks hok hz p cap w F hN hT
  · exact again_choice ks hok hz p cap w F hN hT
  · obtain ⟨y, rfl⟩ := one h1
    exact again_rep lo hi y (hok y (by simp)) (by rw [← hs]; exact hz) hf p cap w F hN hT
  · obtain ⟨y, rfl⟩ := one h1
    exact again_and y (hok y (by simp)) (by rw [← hs]; exact hz) p cap w F hN hT
  · obtain ⟨y, rfl⟩ := one h1
    exact again_not y (hok y (by simp)) (by rw [← hs]; exact hz) p cap w F hN hT
  · obtain ⟨y, rfl⟩ := one h1
    exact again_cap s y (hok y (by simp)) (by rw [← hs]; exact hz) hf p cap w F hN hT

/-! ### Trees that were there, or lie in blocks of the call's own -/
def Wide (n : Nat) (W : World) (b : Nat) (t : TypeId) : Prop := b < n ∨ Own n W b t
section
variable {W W' : World} {n : Nat} {q : Option Addr} {ns : List Nd} {xs : List Value} {ts : List Ar}
theorem wide_turn {b : Nat} {t : TypeId} (h : Wide n W b t) (hk : W'.heap[b]? = W.heap[b]?) : Wide n W' b t := by
  rcases h with h | ⟨h1, cur, h2⟩
  · exact .inl h
  · exact .inr ⟨h1, cur, hk.trans h2⟩
theorem nodes_wide (h : NodesAt W (Wide n W) q ns) (hb : Below W.heap.size W W') : NodesAt W' (Wide n W') q ns := h.turn fun b _ ho hlt => ⟨hb.block b hlt, wide_turn ho (hb.block b hlt)⟩
theorem trees_wide (h : TreesIn W (Wide n W) xs ts) (hb : Below W.heap.size W W') : TreesIn W' (Wide n W') xs ts := h.turn fun b _ ho hlt => ⟨hb.block b hlt, wide_turn ho (hb.block b hlt)⟩
theorem nodes_wide_row (h : NodesAt W (Wide n W) q ns) {row : Option Nat} (hg : W.grownBy W' row) (hr : ∀ g cur t, row = some g → W.heap[g]? = some (.cells cur t (0, 0)) → t ≠ 56 ∧ t ≠ 3) (hn : ∀ g, row = some g → n ≤ g) : NodesAt W' (Wide n W') q ns :=
  h.types.turn fun b t ⟨ho, ht⟩ hlt => by
    have hk : W'.heap[b]? = W.heap[b]? := hg.block b hlt (fun e => by
      rcases ho with ho | ⟨h1, cur, h2⟩
      · have := hn b e.symm; omega
      · obtain ⟨ha, hb⟩ := hr b cur t e.symm h2
        rcases ht with ht | ht
        · exact ha ht
        · exact hb ht)
    exact ⟨hk, wide_turn ho hk⟩
theorem trees_wide_row (h : TreesIn W (Wide n W) xs ts) {row : Option Nat} (hg : W.grownBy W' row) (hr : ∀ g cur t, row = some g → W.heap[g]? = some (.cells cur t (0, 0)) → t ≠ 56 ∧ t ≠ 3) (hn : ∀ g, row = some g → n ≤ g) : TreesIn W' (Wide n W') xs ts :=
  ⟨h.len, fun j T hj => by
    obtain ⟨q, cap, h1, h2, h3⟩ := h.get j T hj
    exact ⟨q, cap, h1, h2, nodes_wide_row h3 hg hr hn⟩⟩
theorem row_tree {base k : Nat} {v : Value} (h : W.ownsRow base 24 2 v k xs) : ∀ g cur t, v.ownBlock = some g → W.heap[g]? = some (.cells cur t (0, 0)) → t ≠ 56 ∧ t ≠ 3 := fun g cur t e hh => by
  have := row_type h g cur t e hh
  subst this
  exact ⟨by decide, by decide⟩
theorem box_tree {g : Nat} {cur : Array Value} (hh : W.heap[g]? = some (.cells cur 24 (0, 0))) : ∀ g' cur' t, some g = some g' → W.heap[g']? = some (.cells cur' t (0, 0)) → t ≠ 56 ∧ t ≠ 3 := fun g' cur' t e h' => by
  injection e with e
  subst e
  rw [hh] at h'
  injection h' with h'
  injection h' with _ h'
  subst h'
  exact ⟨by decide, by decide⟩
/-- One tree of a row is another one. -/
theorem TreesIn.set {F : Nat → TypeId → Prop} (h : TreesIn W F xs ts) {j : Nat} {T : Ar} {c : Nat} (hq : NodesAt W F q T.nodes) : TreesIn W F ((xs.set (j * 2) (.slice q T.nodes.length c)).set (j * 2 + 1) (.int .i64 T.root)) (ts.set j T) := by
  refine ⟨by simp [h.len], fun i T' hi => ?_⟩
  rw [List.getElem?_set] at hi
  by_cases hij : j = i
  · subst hij
    rw [if_pos rfl] at hi
    split at hi
    · next hlt =>
      injection hi with hi
      subst hi
      have hl := h.len
      refine ⟨q, c, ?_, ?_, hq⟩
      · rw [List.getElem?_set_ne (by omega), List.getElem?_set_self (by omega)]
      · rw [List.getElem?_set_self (by simp; omega)]
    · cases hi
  · rw [if_neg hij] at hi
    obtain ⟨q', c', h1, h2, h3⟩ := h.get i T' hi
    refine ⟨q', c', ?_, ?_, h3⟩
    · rw [List.getElem?_set_ne (by omega), List.getElem?_set_ne (by omega)]; exact h1
    · rw [List.getElem?_set_ne (by omega), List.getElem?_set_ne (by omega)]; exact h2
end
/-- A row of trees as a slice of trees, wherever they lie. -/
theorem TreesIn.atF {W : World} {F F' : Nat → TypeId → Prop} {base : Nat} {v : Value} {xs : List Value} {ts : List Ar} (h : TreesIn W F xs ts) (ho : W.ownsRow base 24 2 v ts.length xs) (hg : ∀ g, v.ownBlock = some g → F' g 24) (hF : ∀ b t, F b t → (t = 56 ∨ t = 3) → F' b t) :
    ∃ p cap, v = .slice p ts.length cap ∧ TreesAt W F' p ts := by
  by_cases h0 : ts.length = 0
  · obtain ⟨q, cap, rfl, _⟩ := row_slice ho
    exact ⟨q, cap, rfl, fun hne => absurd (List.eq_nil_of_length_eq_zero h0) hne⟩
  · obtain ⟨g, cap, cur, rfl, hb, hh, _⟩ := row_form ho (by omega)
    refine ⟨_, cap, rfl, fun _ => ⟨g, 0, rfl, hg g rfl, fun j T hj => ?_⟩⟩
    obtain ⟨q, cap', h1, h2, h3⟩ := h.get j T hj
    refine ⟨q, cap', ?_, ?_, h3.types.mono fun b t ⟨ha, hb⟩ => hF b t ha hb⟩
    · rw [Nat.zero_add]; exact row_cell ho rfl h1
    · rw [Nat.zero_add]; exact row_cell ho rfl h2
theorem TreesAt.take {W : World} {F : Nat → TypeId → Prop} {p : Option Addr} {ts : List Ar} {m : Nat} (h : TreesAt W F p (ts.take (m + 1))) : TreesAt W F p (ts.take m) := fun hne => by
  have hne' : ts.take (m + 1) ≠ [] := fun e => hne (by
    cases ts with
    | nil => simp
    | cons a l => simp at e)
  obtain ⟨b, o, e, hb, hc⟩ := h hne'
  refine ⟨b, o, e, hb, fun j T hj => ?_⟩
  rw [List.getElem?_take] at hj
  split at hj
  · exact hc j T (by rw [List.getElem?_take, if_pos (by omega)]; exact hj)
  · cases hj
/-- An element of the first row is stored anew. -/
theorem RInv.stored {S : Nat → Prop} {w W : World} {L : List (Nat × Obj)} {R : List OwnR} {e : TypeId} {size g k cap : Nat} {xs : List Value} (h : RInv S w L (⟨e, size, .slice (some ⟨g, 0, none⟩) k cap, k, xs⟩ :: R) W) (j : Nat) (u : Value) :
    RInv S w L (⟨e, size, .slice (some ⟨g, 0, none⟩) k cap, k, xs.set j u⟩ :: R) (W.setCell ⟨g, j, none⟩ u) := by
  obtain ⟨h1, h2⟩ := h.own1.stored j u
  exact h.grow (r' := ⟨e, size, .slice (some ⟨g, 0, none⟩) k cap, k, xs.set j u⟩) h2 h1 (.inl rfl)
/-- 'make([]T, 0, n)'. -/
theorem make_row {P : Program} {t e : TypeId} {z : Value} {size bytes : Nat} {S : Nat → Prop} {w W : World} {L : List (Nat × Obj)} {R : List OwnR} {ops : Array Oper} {rest : List Oper} {o : Oper} {a : Act} {Q : Exit → Act → World → Prop} (hT : ElemT P t e z size bytes) (hgd : o.guard = none) (l c : Operand) (ho : o.op = Op.makeSlice t l c)
    (n : Nat) (hl : a.eval l = .int .i64 0) (hc : a.eval c = .int .i64 (n : Int)) (hb : bytes * n ≤ 281474976710656) (h63 : n ≤ maxLen) (hI : RInv S w L R W)
    (hk : ∀ W', RInv S w L (⟨e, size, .slice (some ⟨W.heap.size, 0, none⟩) 0 n, 0, []⟩ :: R) W' → Below W.heap.size W W' → wpList P ops Q rest (a.put o.dst (.slice (some ⟨W.heap.size, 0, none⟩) 0 n)) W') : wpList P ops Q (o :: rest) a W := by
  obtain ⟨i, hi, hz, hsz, hby⟩ := info_parts hT.info
  refine wpList_make_own W hgd l c t ho W.heap.size e i z size hT.slice hi hz hsz .i64 .i64 n n hl hc rfl (by rw [hby]; exact hb) h63 (Nat.le_refl _) fun W' h1 h2 => ?_
  have hbel : Below W.heap.size W W' := ⟨h2.os, h2.tape, h2.output, h2.size, fun k hk => h2.block k hk (by intro h; cases h)⟩
  exact hk W' (hI.got hbel h1) hbel
/-- The trees along a path. -/
def ChainT (x : Xp) (pl : List Int) (ts : List Ar) : Prop := ∀ (j : Nat) T, ts[j]? = some T → ∃ y, getX x (pl.take j) = some y ∧ RightP T ∧ sits T.nodes y T.root ∧ Small T.nodes
theorem getX_take {x z : Xp} {pl : List Int} (h : getX x pl = some z) (k : Nat) : ∃ y, getX x (pl.take k) = some y ∧ getX y (pl.drop k) = some z := by
  have h1 : getX x (pl.take k ++ pl.drop k) = some z := by rw [List.take_append_drop]; exact h
  rw [getX_app] at h1
  cases hy : getX x (pl.take k) with
  | none => rw [hy] at h1; cases h1
  | some y => rw [hy] at h1; exact ⟨y, rfl, h1⟩
theorem getX_next {x z y : Xp} {pl : List Int} (h : getX x pl = some z) {k : Nat} {c : Int} (hc : pl[k]? = some c) (hy : getX x (pl.take k) = some y) : ∃ a, kidX y.kids c = some a ∧ getX x (pl.take (k + 1)) = some a := by
  obtain ⟨hk, e⟩ := List.getElem?_eq_some_iff.1 hc
  obtain ⟨a, ha, _⟩ := getX_take h (k + 1)
  have h1 := ha
  rw [List.take_succ_eq_append_getElem hk, e, getX_snoc c hy] at h1
  exact ⟨a, h1, ha⟩
end Go.Proofs.YtcenjpaiehidjaaDoor

/- Contract of path.Put. -/
namespace Go.Proofs.YtcenjpaiehidjaaDoor
open Go.RowKit
set_option maxRecDepth 100000

theorem chain_snoc {x a : Xp} {pl : List Int} {ts : List Ar} {T T' : Ar} {k : Nat} (h : ChainT x pl (ts ++ [T])) (hk : ts.length = k) (ha : getX x (pl.take (k + 1)) = some a) (hr : RightP T') (hs : sits T'.nodes a T'.root) (hm : Small T'.nodes) : ChainT x pl ((ts ++ [T]) ++ [T']) := by
  intro j U hj
  by_cases hlt : j < (ts ++ [T]).length
  · rw [List.getElem?_append_left hlt] at hj
    exact h j U hj
  · have hj2 : j = k + 1 := by
      have := (List.getElem?_eq_some_iff.1 hj).1
      simp at this hlt
      omega
    subst hj2
    rw [List.getElem?_append_right (by simp; omega)] at hj
    have : k + 1 - (ts ++ [T]).length = 0 := by simp; omega
    rw [this] at hj
    injection hj with hj
    subst hj
    exact ⟨a, ha, hr, hs, hm⟩
/-- The relation of the first loop, but for what the walk itself must see. -/
structure DownI (n : Nat) (x : Xp) (pl : List Int) (k : Nat) (xs : List Value) (ts : List Ar) (q : Option Addr) (T : Ar) (W : World) : Prop where
  len : ts.length = k
  row : TreesIn W (Wide n W) xs ts
  here : NodesAt W (Wide n W) q T.nodes
  chain : ChainT x pl (ts ++ [T])
theorem DownI.last {n : Nat} {x : Xp} {pl : List Int} {k : Nat} {xs : List Value} {ts : List Ar} {q : Option Addr} {T : Ar} {W : World} (h : DownI n x pl k xs ts q T W) : ∃ y, getX x (pl.take k) = some y ∧ RightP T ∧ sits T.nodes y T.root ∧ Small T.nodes :=
  h.chain k T (by rw [← h.len, List.getElem?_append_right (Nat.le_refl _), Nat.sub_self]; rfl)
/-- What is put together on the way up. -/
def UpI (x : Xp) (pl : List Int) (u : Xp) (m : Nat) (X : Xp) : Prop := ∃ xm, getX x (pl.take m) = some xm ∧ X = norm (setX xm (pl.drop m) u)
set_option maxHeartbeats 8000000 in
/-- path.Put, where there is such a path, and what is put is right. -/
theorem put_yes (ns : List Nd) (x : Xp) (root : Int) (p : Option Addr) (cap : Nat) (hS : Small ns) (hR : RightP ⟨ns, root⟩) (hx : sits ns x root) (ns2 : List Nd) (u : Xp) (root2 : Int) (p2 : Option Addr) (cap2 : Nat) (hS2 : Small ns2) (hR2 : RightP ⟨ns2, root2⟩) (hu : sits ns2 u root2)
    (hz : x.size + u.size ≤ 99999) (pl : List Int) (hpl : pl.length ≤ 100000) (z : Xp) (hg : getX x pl = some z) (q : Option Addr) (c : Nat) (w : World) (F G H : Nat → TypeId → Prop) (hN : NodesAt w F p ns) (hN2 : NodesAt w H p2 ns2) (hQ : IntsAt w G q pl) (hT : Tabs w) :
    Calls Tryd.prog 11 #[arV p ns.length cap root, .slice q pl.length c, arV p2 ns2.length cap2 root2] w fun e w' => GetsT w.heap.size w' e (some (norm (setX x pl u))) ∧ Below w.heap.size w w' := by
  have hok := ok_of_fits hR.fits x hx
  have hoku := ok_of_fits hR2.fits u hu
  have hnu := norm_size u
  have HN : Hid (NodesAt w (fun b _ => b < w.heap.size) p ns) := Lib.hid (hN.turn fun b _ _ hlt => ⟨rfl, hlt⟩)
  have HQ := Lib.hid hQ
  have HT := Lib.hid hT
  have Hok := Lib.hid hok
  have Hoku := Lib.hid hoku
  have Hg := Lib.hid hg
  have HR := Lib.hid hR
  have Hx := Lib.hid hx
  have HS := Lib.hid hS
  have Hnode := Lib.hid (node_any ns x root p cap hS hR hx pl hpl q c)
  have Hmk := Lib.hid (make_yes ns2 u root2 p2 cap2 hS2 hR2 hu (by omega))
  have HN2 := Lib.hid hN2
  have hI := (((RInv.start noS w).alloc (arO p ns.length cap root)).alloc (arO p2 ns2.length cap2 root2)).alloc (arO none 0 0 0)
  simp only [World.size_alloc] at hI
  clear hN hN2 hQ hT hok hoku hg hR hx hS hR2 hu hS2
  go_enter Tryd.func11, Tryd.ntmps11
  go_wp2_with (first | (go_at_call 25; refine (Hnode.out _ _ G (HN.out.below hI.below) (HQ.out.below hI.below) (HT.out.keep hI.below).kids).mono ?_; rw [Hg.out]; rintro e W1 ⟨⟨i, rfl, _⟩, hb1⟩; have hI1 := hI.call hb1; clear hb1; obtain ⟨b0, b1⟩ := box_cells hI1 (List.mem_cons_of_mem _ List.mem_cons_self)) | (go_at_call 17; refine (Hmk.out _ _ (HN2.out.below hI1.below) (HT.out.keep hI1.below)).mono ?_; rintro e W2 ⟨⟨v, rfl, p3, c3, rfl, hp3⟩, hb2⟩; have hsz1 := hI1.size; have hI2 := (hI1.call hb2).subL (L' := [(w.heap.size + 1, arO p2 ns2.length cap2 root2), (w.heap.size, arO p ns.length cap root), (w.heap.size + 1 + 1, arO none 0 0 0)]) (fun x hx => by simp only [List.mem_cons, List.not_mem_nil, or_false] at hx ⊢; rcases hx with h | h | h <;> subst h <;> simp); have Hp3 := Lib.hid (hp3.mono (G := Own w.heap.size W2) fun b t ho => ho.mono hsz1); clear hb2 b0 b1 hp3 hsz1) | (refine rinv_row rfl _ _ _ rfl (w.heap.size + 1) #[.slice p2 ns2.length cap2, .int .i64 root2] #[.slice p3 (clean (norm u)).nodes.length c3, .int .i64 (clean (norm u)).root] 24 rfl rfl (by simp [Value.oneCell']) szTree rfl hI2 (.inl (by omega)) (by simp) ?_; intro W3 hI3 hg3; have Hp4 := Lib.hid (nodes_tree Hp3.out hg3 (hI2.at List.mem_cons_self))) | (refine make_row treeT rfl (.const (.int .i64 0)) (.tmp 32) rfl pl.length rfl rfl (by omega) (by unfold maxLen; omega) hI3 ?_; intro W4 hI4 hb4))
  have HI5 := Lib.hid (hI4.subL (L' := [(w.heap.size, arO p ns.length cap root), (w.heap.size + 1, arO p3 (clean (norm u)).nodes.length c3 (clean (norm u)).root), (w.heap.size + 1 + 1, arO none 0 0 0)]) (fun x hx => by simp only [List.mem_cons, List.not_mem_nil, or_false] at hx ⊢; rcases hx with h | h | h <;> subst h <;> simp))
  have HD5 : Hid (DownI w.heap.size x pl 0 [] [] p ⟨ns, root⟩ W4) := Lib.hid ⟨rfl, TreesIn.nil _ _, HN.out.turn fun b _ hb hlt => ⟨hI4.below.block b hb, .inl hb⟩, fun j T hj => by
    match j, hj with
    | 0, hj =>
      simp at hj
      subst hj
      exact ⟨x, getX_nil x, HR.out, Hx.out, HS.out⟩⟩
  have Hp5 := Lib.hid (Hp4.out.own hb4 (Nat.le_refl _))
  have HTw : Hid (∀ W, Below w.heap.size w W → Tabs W) := Lib.hid fun W hb => HT.out.keep hb
  have Hcl : Hid ((clean (norm u)).nodes.length = (norm u).size) := Lib.hid (clean_len _)
  clear hI hI1 hI2 hI3 hI4 hg3 hb4 Hp4 Hp3
  go_loopw [11, 36] (fun va iv wr => ∃ (k : Nat) (xs : List Value) (ts : List Ar) (q1 : Option Addr) (c1 : Nat) (T : Ar), k ≤ pl.length ∧ iv = .int .i64 k ∧
      RInv noS w [(w.heap.size, arO q1 T.nodes.length c1 T.root), (w.heap.size + 1, arO p3 (clean (norm u)).nodes.length c3 (clean (norm u)).root), (w.heap.size + 1 + 1, arO none 0 0 0)] [⟨24, 2, va, k, xs⟩] wr ∧
      Hid (DownI w.heap.size x pl k xs ts q1 T wr) ∧ Hid (NodesAt wr (Own w.heap.size wr) p3 (lay (norm u) 0))) (fun _ iv _ => pl.length - (intOf iv).toNat)
  case atStart => exact ⟨0, [], [], p, cap, ⟨ns, root⟩, by omega, rfl, HI5.out, HD5, Hp5⟩
  case round =>
    clear HI5 HD5 Hp5
    obtain ⟨wo, rfl⟩ : ∃ wo : World, wo = wr := ⟨_, rfl⟩
    obtain ⟨k, xs, ts, q1, c1, T, hk, rfl, hI, hD, hP⟩ := hrel
    by_cases hlt : k < pl.length
    · obtain ⟨c', hc'⟩ : ∃ c', pl[k]? = some c' := ⟨_, List.getElem?_eq_getElem hlt⟩
      obtain ⟨bq, oq, rfl, _, hqc⟩ := HQ.out (by intro h; rw [h] at hlt; exact absurd hlt (by simp))
      have hck := (hI.below.cell (p := ⟨bq, oq + k, none⟩) (block_lt_of_cell (hqc k c' hc'))).trans (hqc k c' hc')
      obtain ⟨y, hy, hRT, hsT, hmT⟩ := hD.out.last
      obtain ⟨a, hka, hya⟩ := getX_next Hg.out hc' hy
      obtain ⟨h0, hcl, hca, hma⟩ := kidX_mem hka
      obtain ⟨cn, rfl⟩ := Int.eq_ofNat_of_zero_le h0
      rw [Int.toNat_natCast] at hcl hca
      have hyx := getX_ok Hok.out hy
      have hyk := kids_size y
      have hkl := sizeL_le_len y.kids
      have haz := size_le_of_mem hma
      have hak := ok_kids hyx.1 a hma
      have hyz := hyx.2
      obtain ⟨t0, t1⟩ := box_cells hI List.mem_cons_self
      have Hkids := Lib.hid (kids_yes T.nodes y T.root q1 c1 hmT hRT hsT (by omega))
      have Hca := Lib.hid hca
      have Hya := Lib.hid hya
      have Hak := Lib.hid hak
      have Hc' := Lib.hid hc'
      clear hqc hc' hy hRT hsT hmT hka hya hca hma hyx hak h0
      go_wp2_with (first | (at_builtin; refine app_newB treeT rfl (.tmp 40) (.tmp 42) rfl _ rfl rfl rfl (by simp [Value.oneCell']) hI (by unfold maxLen; omega) (by omega) ?_; intro v1 W1 hI1 hg1 hb1; clear t0 t1; obtain ⟨t0, t1⟩ := box_cells hI1 List.mem_cons_self; have Hh1 := Lib.hid (nodes_wide_row hD.out.here hg1 (row_tree hI.own1) (fun g hg => (hI.new _ List.mem_cons_self g hg).elim id False.elim)); have Hr1 := Lib.hid (trees_wide_row (hD.out.row.push (cap := c1) hD.out.here) hg1 (row_tree hI.own1) (fun g hg => (hI.new _ List.mem_cons_self g hg).elim id False.elim)); have Hq1 := Lib.hid (hP.out.other hg1 (row_tree hI.own1))) | (go_at_call 29; refine (Hkids.out _ _ Hh1.out (HTw.out _ hI1.below).kids).mono ?_; rintro e W2 ⟨v2, xs2, rfl, ho2, hx2, hb2⟩; obtain ⟨g2, cap2', cur2, rfl, _⟩ := row_form ho2 (by omega); obtain ⟨qa, ca, h1, h2, h3⟩ := hx2.get cn (clean a) (by rw [List.getElem?_map, Hca.out]; rfl); have k0 := row_cell ho2 rfl h1; have k1 := row_cell ho2 rfl h2; have hI2 := hI1.call hb2; have Hh2 := Lib.hid h3; have Hr2 := Lib.hid (trees_wide Hr1.out hb2); have Hq2 := Lib.hid (Hq1.out.own hb2 (Nat.le_refl _)); have hsz1 := hI1.size; clear h1 h2 h3 ho2 hx2 hb2 t0 t1) | (refine rinv_row rfl _ _ _ rfl w.heap.size #[.slice q1 T.nodes.length c1, .int .i64 T.root] #[.slice qa (clean a).nodes.length ca, .int .i64 (clean a).root] 24 rfl rfl (by simp [Value.oneCell']) szTree rfl hI2 (.inl (by omega)) (fun x hx => by simp only [List.mem_cons, List.not_mem_nil, or_false] at hx; rcases hx with h | h <;> subst h <;> simp only <;> omega) ?_; intro W3 hI3 hg3))
      have hbt := box_tree (hI2.at (g := w.heap.size) List.mem_cons_self)
      have hge : ∀ g, some w.heap.size = some g → w.heap.size ≤ g := fun g e => by injection e with e; omega
      go_roundw
      case rel => exact ⟨k + 1, _, ts ++ [T], qa, ca, clean a, by omega, by go_num, hI3, Lib.hid ⟨by rw [List.length_append, hD.out.len]; rfl, trees_wide_row Hr2.out hg3 hbt hge, nodes_wide_row (Hh2.out.mono fun b t ho => .inr (ho.mono hsz1)) hg3 hbt hge,
        chain_snoc hD.out.chain hD.out.len Hya.out (clean_right Hak.out) (sits_clean a) (small_one (by omega))⟩, Lib.hid (nodes_tree Hq2.out hg3 (hI2.at List.mem_cons_self))⟩
      case measure => simp [intOf]; omega
    · obtain rfl : k = pl.length := by omega
      obtain ⟨qa, ca, rfl, hcaa, _⟩ := row_slice hI.own1
      have hTA : Hid (TreesAt wo (fun b _ => b ≠ w.heap.size + 1) qa (ts.take pl.length)) := Lib.hid (by
        have hh := hI.at (g := w.heap.size + 1) (List.mem_cons_of_mem _ List.mem_cons_self)
        obtain ⟨q', c', he, h1⟩ := hD.out.row.atF (F' := fun b _ => b ≠ w.heap.size + 1) (by rw [hD.out.len]; exact hI.own1) (fun g hg e => hI.apartL _ List.mem_cons_self _ (List.mem_cons_of_mem _ List.mem_cons_self) (by rw [hg, e])) (fun b t hb ht e => by
          subst e
          rcases hb with hb | ⟨_, cur, hb⟩
          · omega
          · rw [hh] at hb
            injection hb with hb
            injection hb with _ hb
            subst hb
            rcases ht with ht | ht <;> exact absurd ht (by decide))
        injection he with e1 _ _
        subst e1
        rw [← hD.out.len, List.take_length]
        exact h1)
      have hlen := hD.out.len
      have Hch := Lib.hid hD.out.chain
      have Hlen := Lib.hid hlen
      have HI6 := Lib.hid (hI.subL (L' := [(w.heap.size + 1, arO p3 (clean (norm u)).nodes.length c3 (clean (norm u)).root), (w.heap.size + 1 + 1, arO none 0 0 0)]) (fun x hx => List.mem_cons_of_mem _ hx) |>.subR (R' := []) (List.nil_sublist _))
      have HUp : Hid (UpI x pl u pl.length (norm u)) := Lib.hid ⟨z, by rw [List.take_length]; exact Hg.out, by rw [List.drop_length, setX_nil]⟩
      have hI6 := HI6.out
      rw [Hcl.out] at hI6
      replace HI6 := Lib.hid hI6
      have hpx := norm_size u
      clear hlen hI hD hI6
      go_wp2
      go_loopw [10, 11, 14] (fun okv av nv wr => ∃ (m : Nat) (qa : Option Addr) (cA : Nat) (q5 : Option Addr) (c5 : Nat) (X : Xp), m ≤ pl.length ∧ m ≤ cA ∧ okv = .bool true ∧ av = .slice qa m cA ∧ nv = .int .i64 m ∧
        RInv noS w [(w.heap.size + 1, arO q5 X.size c5 ((X.size : Int) - 1)), (w.heap.size + 1 + 1, arO none 0 0 0)] [] wr ∧ Hid (UpI x pl u m X) ∧ Hid (TreesAt wr (fun b _ => b ≠ w.heap.size + 1) qa (ts.take m)) ∧ Hid (NodesAt wr (Own w.heap.size wr) q5 (lay X 0))) (fun _ _ nv _ => (intOf nv).toNat)
      case atStart => exact ⟨pl.length, qa, ca, p3, c3, norm u, Nat.le_refl _, hcaa, rfl, rfl, rfl, HI6.out, HUp, hTA, hP⟩
      case round =>
        clear HI6 HUp hTA hP
        obtain ⟨w1, rfl⟩ : ∃ w1 : World, w1 = wr := ⟨_, rfl⟩
        obtain ⟨m, qb, cA, q5, c5, X, hm, hmc, rfl, rfl, rfl, hJ, hU, hTB, hX⟩ := hrel
        match m, hm, hmc, hJ, hU, hTB with
        | 0, hm, hmc, hJ, hU, hTB =>
          obtain ⟨x0, x1⟩ := box_cells hJ List.mem_cons_self
          go_wp2_with (first | (refine rinv_row rfl _ _ _ rfl (w.heap.size + 1 + 1) #[.slice none 0 0, .int .i64 0] #[.slice q5 X.size c5, .int .i64 ((X.size : Int) - 1)] 24 rfl rfl (by simp [Value.oneCell']) szTree rfl (hJ.subL (L' := [(w.heap.size + 1 + 1, arO none 0 0 0)]) (fun x hx => by simp only [List.mem_cons, List.not_mem_nil, or_false] at hx; subst hx; exact List.mem_cons_of_mem _ List.mem_cons_self)) (.inl (by omega)) (by simp) ?_; intro W3 hI3 hg3; obtain ⟨d0, d1⟩ := box_cells hI3 List.mem_cons_self))
          refine bodyPost_ret (v := .tuple #[arV q5 X.size c5 ((X.size : Int) - 1), .bool true]) (by simp [results, Tryd.results11, go_sem, d0, d1]) rfl ⟨?_, hI3.below⟩
          obtain ⟨xm, h1, h2⟩ := hU.out
          rw [List.take_zero, getX_nil] at h1
          injection h1 with h1
          subst h1
          rw [List.drop_zero] at h2
          rw [← h2]
          exact ⟨_, rfl, tree_of (nodes_tree hX.out hg3 (hJ.at (g := w.heap.size + 1 + 1) (List.mem_cons_of_mem _ List.mem_cons_self)))⟩
        | m + 1, hm, hmc, hJ, hU, hTB =>
          obtain ⟨c', hc'⟩ : ∃ c', pl[m]? = some c' := ⟨_, List.getElem?_eq_getElem (by omega)⟩
          obtain ⟨bq, oq, rfl, _, hqc⟩ := HQ.out (by intro h; rw [h] at hm; exact absurd hm (by simp))
          have hck := (hJ.below.cell (p := ⟨bq, oq + m, none⟩) (block_lt_of_cell (hqc m c' hc'))).trans (hqc m c' hc')
          obtain ⟨T1, hT1⟩ : ∃ T1, ts[m]? = some T1 := ⟨_, List.getElem?_eq_getElem (by have := Hlen.out; omega)⟩
          obtain ⟨y, hy, hRT, hsT, hmT⟩ := Hch.out m T1 (by rw [List.getElem?_append_left (by have := Hlen.out; omega)]; exact hT1)
          obtain ⟨a, hka, hya⟩ := getX_next Hg.out hc' hy
          obtain ⟨xm, hxm, hX0⟩ := hU.out
          rw [hya] at hxm
          injection hxm with hxm
          subst hxm
          obtain ⟨z2, _, hz2⟩ := getX_take Hg.out (m + 1)
          have hz3 : getX a (pl.drop (m + 1)) = some z := by
            obtain ⟨y2, h1, h2⟩ := getX_take Hg.out (m + 1)
            rw [hya] at h1
            injection h1 with h1
            subst h1
            exact h2
          obtain ⟨h0, hcl, hca, hma⟩ := kidX_mem hka
          obtain ⟨cn, rfl⟩ := Int.eq_ofNat_of_zero_le h0
          rw [Int.toNat_natCast] at hcl hca
          have hyx := getX_ok Hok.out hy
          have hyk := kids_size y
          have hkl := sizeL_le_len y.kids
          have haz := size_le_of_mem hma
          have hyz := hyx.2
          have hak := ok_kids hyx.1 a hma
          have hset := setX_ok Hoku.out hak hz3
          have hXz : X.size ≤ a.size + u.size := by rw [hX0]; exact Nat.le_trans (norm_size _) hset.2
          have hXok : okX X = true := by rw [hX0]; exact (norm_good _ hset.1).1
          have hjoin : join y.hd ((y.kids.set cn X).map norm) = norm (setX y ((cn : Int) :: pl.drop (m + 1)) u) := by rw [hX0]; exact join_set Hoku.out hyx.1 hka hz3
          have hdrop : pl.drop m = (cn : Int) :: pl.drop (m + 1) := by
            obtain ⟨hk, e⟩ := List.getElem?_eq_some_iff.1 hc'
            rw [List.drop_eq_getElem_cons hk, e]
          have hsl := sizeL_set (y := X) hca
          obtain ⟨b, o, rfl, hbn, hcc⟩ := hTB.out (by intro h; have h2 := congrArg List.length h; rw [List.length_take] at h2; simp only [List.length_nil] at h2; have := Hlen.out; omega)
          obtain ⟨q1, c1, h1, h2, h3⟩ := hcc m T1 (by rw [List.getElem?_take, if_pos (by omega)]; exact hT1)
          have Hkids := Lib.hid (kids_yes T1.nodes y T1.root q1 c1 hmT hRT hsT (by omega))
          have Hroot := Lib.hid (root_yes T1.nodes y T1.root q1 c1 hmT hRT hsT)
          have Hagain := Lib.hid (again_any y.hd (y.kids.set cn X) (fun k hk => by
            rcases List.mem_or_eq_of_mem_set hk with h | h
            · exact ok_kids hyx.1 k h
            · rw [h]; exact hXok) (by omega) (by rw [List.length_set]; exact ok_fits hyx.1) (by rw [List.length_set]; omega))
          have H3 := Lib.hid h3
          have Hca := Lib.hid hca
          have Hjoin := Lib.hid hjoin
          have Hdrop := Lib.hid hdrop
          have Hy := Lib.hid hy
          have hbl := block_lt_of_cell h1
          have hIb := hJ.alloc (arO q1 T1.nodes.length c1 T1.root)
          obtain ⟨x0, x1⟩ := box_cells hJ List.mem_cons_self
          have hwm : IntKind.i64.wrap (m : Int) = (m : Int) := IntWalk.i64_in _ (by omega)
          clear hqc hc' hy hRT hsT hmT hka hya hX0 hz2 hz3 hca hma hyx hak hset hXok hjoin hdrop h3 hcc h0 hT1 hU
          go_wp2_with (first | (go_at_call 29; refine (Hkids.out _ _ (H3.out.below ((Below.refl _ _).alloc (Nat.le_refl _) _)) (HTw.out _ hIb.below).kids).mono ?_; rintro e W2 ⟨v2, xs2, rfl, ho2, hx2, hb2⟩; obtain ⟨g2, cap2', cur2, rfl, _⟩ := row_form ho2 (by omega); have hI2 := hIb.got hb2 ho2))
          have hck2 : W2.cell? ⟨bq, oq + m, none⟩ = some (.int .i64 (cn : Int)) := by
            have hlt1 := block_lt_of_cell hck
            rw [hb2.cell (p := ⟨bq, oq + m, none⟩) (by rw [World.size_alloc]; show bq < _; have : bq < w1.heap.size := hlt1; omega)]
            rw [World.cell?_of_block (w := w1) (a := ⟨bq, oq + m, none⟩) (Below.heap_alloc w1 _ bq hlt1)]
            exact hck
          obtain ⟨x2, x3⟩ := box_cells hI2 (List.mem_cons_of_mem _ List.mem_cons_self)
          obtain ⟨qd, cd, e1, e2, _⟩ := hx2.get cn (clean a) (by rw [List.getElem?_map, Hca.out]; rfl)
          have k0 := row_cell hI2.own1 rfl e1
          have k1 := row_cell hI2.own1 rfl e2
          have f0 : W2.frozen? ⟨g2, cn * 2, none⟩ = false := hI2.own1.frozenAt _
          have f1 : W2.frozen? ⟨g2, cn * 2 + 1, none⟩ = false := hI2.own1.frozenAt _
          have hm0 : (0 : Int) ≤ (m : Int) := by omega
          have hm1 : (m : Int) < (pl.length : Int) := by omega
          have hc0 : (0 : Int) ≤ (cn : Int) := by omega
          have hc1 : (cn : Int) < (y.kids.length : Int) := by omega
          have HI2 := Lib.hid hI2
          have Hx2 := Lib.hid hx2
          have Hb2 := Lib.hid hb2
          have hg2w : w1.heap.size ≤ g2 := by have := (ho2.lt g2 rfl).1; rw [World.size_alloc] at this; omega
          clear ho2 hx2 hb2 e1 e2 hck x0 x1 hI2
          go_still_tail 8, (by kernel_rfl)
          obtain ⟨W3, hW3⟩ : ∃ W3, W3 = W2.drew := ⟨_, rfl⟩
          change wpList _ _ _ _ _ W2.drew
          rw [← hW3]
          have hI3 := HI2.out.drew
          rw [← hW3] at hI3
          have k0' : W3.cell? ⟨g2, cn * 2, none⟩ = some (.slice qd (clean a).nodes.length cd) := by rw [hW3]; exact k0
          have k1' : W3.cell? ⟨g2, cn * 2 + 1, none⟩ = some (.int .i64 (clean a).root) := by rw [hW3]; exact k1
          have f0' : W3.frozen? ⟨g2, cn * 2, none⟩ = false := hI3.own1.frozenAt _
          have f1' : W3.frozen? ⟨g2, cn * 2 + 1, none⟩ = false := hI3.own1.frozenAt _
          have HI3 := Lib.hid hI3
          have hI4 := (hI3.stored (cn * 2) (.slice q5 X.size c5)).stored (cn * 2 + 1) (.int .i64 ((X.size : Int) - 1))
          have hb4 : Below w1.heap.size w1 ((W3.setCell ⟨g2, cn * 2, none⟩ (.slice q5 X.size c5)).setCell ⟨g2, cn * 2 + 1, none⟩ (.int .i64 ((X.size : Int) - 1))) := by
            rw [hW3]
            exact (((((Below.refl _ _).alloc (Nat.le_refl _) _).trans (Hb2.out.mono (by rw [World.size_alloc]; omega))).drew).setCell hg2w _).setCell hg2w _
          have hx4 : TreesIn ((W3.setCell ⟨g2, cn * 2, none⟩ (.slice q5 X.size c5)).setCell ⟨g2, cn * 2 + 1, none⟩ (.int .i64 ((X.size : Int) - 1))) (Own w.heap.size ((W3.setCell ⟨g2, cn * 2, none⟩ (.slice q5 X.size c5)).setCell ⟨g2, cn * 2 + 1, none⟩ (.int .i64 ((X.size : Int) - 1)))) ((xs2.set (cn * 2) (.slice q5 X.size c5)).set (cn * 2 + 1) (.int .i64 ((X.size : Int) - 1))) ((y.kids.set cn X).map clean) := by
            have h1 : TreesIn W3 (Own w.heap.size W3) xs2 (y.kids.map clean) := by
              rw [hW3]
              exact Hx2.out.turn fun b' t ho _ => ⟨rfl, by have := hJ.size; obtain ⟨ha, cur, hcur⟩ := ho; exact ⟨by rw [World.size_alloc] at ha; omega, cur, hcur⟩⟩
            have h2 := (h1.other (grown_setCell W3 g2 (cn * 2) (.slice q5 X.size c5)) (row_tree hI3.own1)).other (grown_setCell _ g2 (cn * 2 + 1) (.int .i64 ((X.size : Int) - 1))) (row_tree (hI3.stored (cn * 2) (.slice q5 X.size c5)).own1)
            have h3 := h2.set (j := cn) (T := clean X) (c := c5) (hX.out.own hb4 (Nat.le_refl _))
            rw [clean_len, ← List.map_set] at h3
            exact h3
          obtain ⟨qe, ce, he, hts⟩ := hx4.at (by rw [List.length_map, List.length_set]; exact hI4.own1) (fun g hg => (hI4.new _ List.mem_cons_self g hg).elim id False.elim)
          rw [List.length_map, List.length_set] at he
          injection he with he1 _ he3
          subst he1 he3
          obtain ⟨t0, t1⟩ := box_cells hI4 List.mem_cons_self
          have Hts := Lib.hid hts
          have Hb4 := Lib.hid hb4
          have Hagain2 := Hagain.out
          rw [List.length_set] at Hagain2
          obtain ⟨r, hr⟩ : ∃ r, r = join y.hd ((y.kids.set cn X).map norm) := ⟨_, rfl⟩
          rw [← hr] at Hagain2
          have Hr := Lib.hid hr
          replace Hagain2 := Lib.hid Hagain2
          have HI4 := Lib.hid hI4
          clear hW3 k0 k1 f0 f1 x2 x3 hck2 hI3 hm0 hm1 hc0 hc1 hwm hx4 hts hb4 hr hI4
          go_wp2_with (first | (go_at_call 31; refine (Hroot.out _ _ (H3.out.below Hb4.out) (HTw.out _ HI4.out.below).kids).mono ?_; rintro e W5 ⟨rfl, hb5⟩; have hI5 := HI4.out.call hb5) | (go_at_call 30; refine (Hagain2.out _ _ _ _ (Hts.out.own hb5 (Nat.le_refl _)) (HTw.out _ hI5.below)).mono ?_; rintro e W6 ⟨⟨v6, rfl, p6, c6, rfl, hp6⟩, hb6⟩; have hsz5 := hI5.size; have hI6 := (hI5.call hb6).subL (L' := [(w.heap.size + 1, arO q5 X.size c5 ((X.size : Int) - 1)), (w.heap.size + 1 + 1, arO none 0 0 0)]) (fun x hx => List.mem_cons_of_mem _ hx)) | (refine rinv_row rfl _ _ _ rfl (w.heap.size + 1) #[.slice q5 X.size c5, .int .i64 ((X.size : Int) - 1)] #[.slice p6 (clean r).nodes.length c6, .int .i64 (clean r).root] 24 rfl rfl (by simp [Value.oneCell']) szTree rfl hI6 (.inl (by omega)) (by simp) ?_; intro W7 hI7 hg7))
          have hcr := clean_len r
          rw [hcr] at hI7
          have hsz1 := hJ.size
          have hb17 : ∀ b', b' < w1.heap.size → b' ≠ w.heap.size + 1 → W7.heap[b']? = w1.heap[b']? := fun b' hlt' hne' => by
            rw [hg7.block b' (by have := Hb4.out.size; have := hb5.size; have := hb6.size; omega) (fun e => hne' (by injection e)), hb6.block b' (by have := Hb4.out.size; have := hb5.size; omega), hb5.block b' (by have := Hb4.out.size; omega), Hb4.out.block b' hlt']
          go_roundw
          case rel => exact ⟨m, some ⟨b, o, none⟩, m, p6, c6, r, by omega, Nat.le_refl _, rfl, rfl, rfl, hI7.subR (List.nil_sublist _), Lib.hid ⟨y, Hy.out, by rw [Hr.out, Hjoin.out, Hdrop.out]⟩, Lib.hid (hTB.out.take.turn fun b' t hne' hlt' => ⟨hb17 b' hlt' hne', hne'⟩), Lib.hid (nodes_tree (hp6.mono fun b' t ho => ho.mono hsz5) hg7 (hI6.at List.mem_cons_self))⟩
          case measure => simp [intOf]
end Go.Proofs.YtcenjpaiehidjaaDoor

/- Contract of path.Put, where it says no. -/
namespace Go.Proofs.YtcenjpaiehidjaaDoor
open Go.RowKit
set_option maxRecDepth 100000

set_option maxHeartbeats 8000000 in
/-- path.Put, where what is put is not right. -/
theorem put_none_right (ns : List Nd) (x : Xp) (root : Int) (p : Option Addr) (cap : Nat) (hS : Small ns) (hR : RightP ⟨ns, root⟩) (hx : sits ns x root) (ns2 : List Nd) (root2 : Int) (p2 : Option Addr) (cap2 : Nat) (hS2 : Small ns2) (hR2 : ¬ RightP ⟨ns2, root2⟩)
    (hz : x.size ≤ 99999) (pl : List Int) (hpl : pl.length ≤ 100000) (z : Xp) (hg : getX x pl = some z) (q : Option Addr) (c : Nat) (w : World) (F G H : Nat → TypeId → Prop) (hN : NodesAt w F p ns) (hN2 : NodesAt w H p2 ns2) (hQ : IntsAt w G q pl) (hT : Tabs w) :
    Calls Tryd.prog 11 #[arV p ns.length cap root, .slice q pl.length c, arV p2 ns2.length cap2 root2] w fun e w' => GetsT w.heap.size w' e none ∧ Below w.heap.size w w' := by
  have hok := ok_of_fits hR.fits x hx
  have HN : Hid (NodesAt w (fun b _ => b < w.heap.size) p ns) := Lib.hid (hN.turn fun b _ _ hlt => ⟨rfl, hlt⟩)
  have HQ := Lib.hid hQ
  have HT := Lib.hid hT
  have Hok := Lib.hid hok
  have Hg := Lib.hid hg
  have HR := Lib.hid hR
  have Hx := Lib.hid hx
  have HS := Lib.hid hS
  have Hnode := Lib.hid (node_any ns x root p cap hS hR hx pl hpl q c)
  have Hmk := Lib.hid (make_no ns2 root2 p2 cap2 hS2 hR2)
  have HN2 := Lib.hid hN2
  have hI := (((RInv.start noS w).alloc (arO p ns.length cap root)).alloc (arO p2 ns2.length cap2 root2)).alloc (arO none 0 0 0)
  simp only [World.size_alloc] at hI
  clear hN hN2 hQ hT hok hg hR hx hS hR2 hS2
  go_enter Tryd.func11, Tryd.ntmps11
  go_wp2_with (first | (go_at_call 25; refine (Hnode.out _ _ G (HN.out.below hI.below) (HQ.out.below hI.below) (HT.out.keep hI.below).kids).mono ?_; rw [Hg.out]; rintro e W1 ⟨⟨i, rfl, _⟩, hb1⟩; have hI1 := hI.call hb1; clear hb1; obtain ⟨b0, b1⟩ := box_cells hI1 (List.mem_cons_of_mem _ List.mem_cons_self)) | (go_at_call 17; refine (Hmk.out _ _ (HN2.out.below hI1.below) (HT.out.keep hI1.below)).mono ?_; rintro e W2 ⟨rfl, hb2⟩; have hI2 := (hI1.call hb2).subL (L' := [(w.heap.size + 1, arO p2 ns2.length cap2 root2), (w.heap.size, arO p ns.length cap root), (w.heap.size + 1 + 1, arO none 0 0 0)]) (fun x hx => by simp only [List.mem_cons, List.not_mem_nil, or_false] at hx ⊢; rcases hx with h | h | h <;> subst h <;> simp); clear hb2 b0 b1) | (refine rinv_row rfl _ _ _ rfl (w.heap.size + 1) #[.slice p2 ns2.length cap2, .int .i64 root2] #[.slice none 0 0, .int .i64 0] 24 rfl rfl (by simp [Value.oneCell']) szTree rfl hI2 (.inl (by omega)) (by simp) ?_; intro W3 hI3 hg3) | (refine make_row treeT rfl (.const (.int .i64 0)) (.tmp 32) rfl pl.length rfl rfl (by omega) (by unfold maxLen; omega) hI3 ?_; intro W4 hI4 hb4))
  have HI5 := Lib.hid (hI4.subL (L' := [(w.heap.size, arO p ns.length cap root), (w.heap.size + 1, arO none 0 0 0), (w.heap.size + 1 + 1, arO none 0 0 0)]) (fun x hx => by simp only [List.mem_cons, List.not_mem_nil, or_false] at hx ⊢; rcases hx with h | h | h <;> subst h <;> simp))
  have HD5 : Hid (DownI w.heap.size x pl 0 [] [] p ⟨ns, root⟩ W4) := Lib.hid ⟨rfl, TreesIn.nil _ _, HN.out.turn fun b _ hb hlt => ⟨hI4.below.block b hb, .inl hb⟩, fun j T hj => by
    match j, hj with
    | 0, hj =>
      simp at hj
      subst hj
      exact ⟨x, getX_nil x, HR.out, Hx.out, HS.out⟩⟩
  have HTw : Hid (∀ W, Below w.heap.size w W → Tabs W) := Lib.hid fun W hb => HT.out.keep hb
  clear hI hI1 hI2 hI3 hI4 hg3 hb4
  go_loopw [11, 36] (fun va iv wr => ∃ (k : Nat) (xs : List Value) (ts : List Ar) (q1 : Option Addr) (c1 : Nat) (T : Ar), k ≤ pl.length ∧ iv = .int .i64 k ∧
      RInv noS w [(w.heap.size, arO q1 T.nodes.length c1 T.root), (w.heap.size + 1, arO none 0 0 0), (w.heap.size + 1 + 1, arO none 0 0 0)] [⟨24, 2, va, k, xs⟩] wr ∧
      Hid (DownI w.heap.size x pl k xs ts q1 T wr)) (fun _ iv _ => pl.length - (intOf iv).toNat)
  case atStart => exact ⟨0, [], [], p, cap, ⟨ns, root⟩, by omega, rfl, HI5.out, HD5⟩
  case round =>
    clear HI5 HD5
    obtain ⟨wo, rfl⟩ : ∃ wo : World, wo = wr := ⟨_, rfl⟩
    obtain ⟨k, xs, ts, q1, c1, T, hk, rfl, hI, hD⟩ := hrel
    by_cases hlt : k < pl.length
    · obtain ⟨c', hc'⟩ : ∃ c', pl[k]? = some c' := ⟨_, List.getElem?_eq_getElem hlt⟩
      obtain ⟨bq, oq, rfl, _, hqc⟩ := HQ.out (by intro h; rw [h] at hlt; exact absurd hlt (by simp))
      have hck := (hI.below.cell (p := ⟨bq, oq + k, none⟩) (block_lt_of_cell (hqc k c' hc'))).trans (hqc k c' hc')
      obtain ⟨y, hy, hRT, hsT, hmT⟩ := hD.out.last
      obtain ⟨a, hka, hya⟩ := getX_next Hg.out hc' hy
      obtain ⟨h0, hcl, hca, hma⟩ := kidX_mem hka
      obtain ⟨cn, rfl⟩ := Int.eq_ofNat_of_zero_le h0
      rw [Int.toNat_natCast] at hcl hca
      have hyx := getX_ok Hok.out hy
      have hyk := kids_size y
      have hkl := sizeL_le_len y.kids
      have haz := size_le_of_mem hma
      have hak := ok_kids hyx.1 a hma
      have hyz := hyx.2
      obtain ⟨t0, t1⟩ := box_cells hI List.mem_cons_self
      have Hkids := Lib.hid (kids_yes T.nodes y T.root q1 c1 hmT hRT hsT (by omega))
      have Hca := Lib.hid hca
      have Hya := Lib.hid hya
      have Hak := Lib.hid hak
      have Hc' := Lib.hid hc'
      clear hqc hc' hy hRT hsT hmT hka hya hca hma hyx hak h0
      go_wp2_with (first | (at_builtin; refine app_newB treeT rfl (.tmp 40) (.tmp 42) rfl _ rfl rfl rfl (by simp [Value.oneCell']) hI (by unfold maxLen; omega) (by omega) ?_; intro v1 W1 hI1 hg1 hb1; clear t0 t1; obtain ⟨t0, t1⟩ := box_cells hI1 List.mem_cons_self; have Hh1 := Lib.hid (nodes_wide_row hD.out.here hg1 (row_tree hI.own1) (fun g hg => (hI.new _ List.mem_cons_self g hg).elim id False.elim)); have Hr1 := Lib.hid (trees_wide_row (hD.out.row.push (cap := c1) hD.out.here) hg1 (row_tree hI.own1) (fun g hg => (hI.new _ List.mem_cons_self g hg).elim id False.elim))) | (go_at_call 29; refine (Hkids.out _ _ Hh1.out (HTw.out _ hI1.below).kids).mono ?_; rintro e W2 ⟨v2, xs2, rfl, ho2, hx2, hb2⟩; obtain ⟨g2, cap2', cur2, rfl, _⟩ := row_form ho2 (by omega); obtain ⟨qa, ca, h1, h2, h3⟩ := hx2.get cn (clean a) (by rw [List.getElem?_map, Hca.out]; rfl); have k0 := row_cell ho2 rfl h1; have k1 := row_cell ho2 rfl h2; have hI2 := hI1.call hb2; have Hh2 := Lib.hid h3; have Hr2 := Lib.hid (trees_wide Hr1.out hb2); have hsz1 := hI1.size; clear h1 h2 h3 ho2 hx2 hb2 t0 t1) | (refine rinv_row rfl _ _ _ rfl w.heap.size #[.slice q1 T.nodes.length c1, .int .i64 T.root] #[.slice qa (clean a).nodes.length ca, .int .i64 (clean a).root] 24 rfl rfl (by simp [Value.oneCell']) szTree rfl hI2 (.inl (by omega)) (fun x hx => by simp only [List.mem_cons, List.not_mem_nil, or_false] at hx; rcases hx with h | h <;> subst h <;> simp only <;> omega) ?_; intro W3 hI3 hg3))
      have hbt := box_tree (hI2.at (g := w.heap.size) List.mem_cons_self)
      have hge : ∀ g, some w.heap.size = some g → w.heap.size ≤ g := fun g e => by injection e with e; omega
      go_roundw
      case rel => exact ⟨k + 1, _, ts ++ [T], qa, ca, clean a, by omega, by go_num, hI3, Lib.hid ⟨by rw [List.length_append, hD.out.len]; rfl, trees_wide_row Hr2.out hg3 hbt hge, nodes_wide_row (Hh2.out.mono fun b t ho => .inr (ho.mono hsz1)) hg3 hbt hge,
        chain_snoc hD.out.chain hD.out.len Hya.out (clean_right Hak.out) (sits_clean a) (small_one (by omega))⟩⟩
      case measure => simp [intOf]; omega
    · obtain rfl : k = pl.length := by omega
      obtain ⟨qa, ca, rfl, hcaa, _⟩ := row_slice hI.own1
      have HI6 := Lib.hid (hI.subL (L' := [(w.heap.size + 1, arO none 0 0 0), (w.heap.size + 1 + 1, arO none 0 0 0)]) (fun x hx => List.mem_cons_of_mem _ hx))
      obtain ⟨x0, x1⟩ := box_cells HI6.out List.mem_cons_self
      clear hI hD
      go_wp2
      refine wp_loop_rounds 1 ?_
      rw [rounds_succ]
      go_wp2_with (first | (refine rinv_row rfl _ _ _ rfl (w.heap.size + 1 + 1) #[.slice none 0 0, .int .i64 0] #[.slice none 0 0, .int .i64 0] 24 rfl rfl (by simp [Value.oneCell']) szTree rfl (HI6.out.subL (L' := [(w.heap.size + 1 + 1, arO none 0 0 0)]) (fun x hx => by simp only [List.mem_cons, List.not_mem_nil, or_false] at hx; subst hx; exact List.mem_cons_of_mem _ List.mem_cons_self)) (.inl (by omega)) (by simp) ?_; intro W3 hI3 hg3; obtain ⟨d0, d1⟩ := box_cells hI3 List.mem_cons_self))
      all_goals exact bodyPost_ret (v := .tuple #[arV none 0 0 0, .bool false]) (by simp [results, Tryd.results11, go_sem, d0, d1]) rfl ⟨rfl, hI3.below⟩
set_option maxHeartbeats 8000000 in
/-- path.Put, where there is no such path. -/
theorem put_no_path (ns : List Nd) (root : Int) (p : Option Addr) (cap : Nat) (ns2 : List Nd) (root2 : Int) (p2 : Option Addr) (cap2 : Nat) (n : Nat) (q : Option Addr) (c : Nat) (w : World) 
    (hnode : ∀ W : World, Below w.heap.size w W → Calls Tryd.prog 25 #[arV p ns.length cap root, .slice q n c] W fun e w' => NodeR ns e none ∧ Below W.heap.size W w') :
    Calls Tryd.prog 11 #[arV p ns.length cap root, .slice q n c, arV p2 ns2.length cap2 root2] w fun e w' => GetsT w.heap.size w' e none ∧ Below w.heap.size w w' := by
  have Hnode := Lib.hid hnode
  have hI := (((RInv.start noS w).alloc (arO p ns.length cap root)).alloc (arO p2 ns2.length cap2 root2)).alloc (arO none 0 0 0)
  simp only [World.size_alloc] at hI
  clear hnode
  go_enter Tryd.func11, Tryd.ntmps11
  go_wp2_with (first | (go_at_call 25; refine (Hnode.out _ hI.below).mono ?_; rintro e W1 ⟨rfl, hb1⟩; have hI1 := hI.call hb1; clear hb1) | (refine rinv_row rfl _ _ _ rfl (w.heap.size + 1 + 1) #[.slice none 0 0, .int .i64 0] #[.slice none 0 0, .int .i64 0] 24 rfl rfl (by simp [Value.oneCell']) szTree rfl hI1 (.inl (by omega)) (fun x hx => by simp only [List.mem_cons, List.not_mem_nil, or_false] at hx; rcases hx with h | h <;> subst h <;> simp only <;> omega) ?_; intro W3 hI3 hg3; obtain ⟨d0, d1⟩ := box_cells hI3 List.mem_cons_self))
  exact bodyPost_ret (v := .tuple #[arV none 0 0 0, .bool false]) (by simp [results, Tryd.results11, go_sem, d0, d1]) rfl ⟨rfl, hI3.below⟩
end Go.Proofs.YtcenjpaiehidjaaDoor
