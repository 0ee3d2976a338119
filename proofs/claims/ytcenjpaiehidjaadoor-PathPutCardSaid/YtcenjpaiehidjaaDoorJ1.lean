/- Trees and the arenas that hold them: plain, no program. -/
import Derived.WalkKit
import Derived.Laws.BitsAllLaws
import Derived.Laws.Tables
import Derived.Laws.CopyOwn
import Derived.Lib.Hide
import Derived.WalkSmall
import Derived.OwnWalk
import Derived.Laws.BytesString
set_option linter.unusedSimpArgs false
set_option linter.unusedVariables false
namespace Go.Proofs.YtcenjpaiehidjaaDoor

/-- What a node is, but for its kids. -/
structure Hd where
  kind : Int
  set : Nat
  text : List UInt8
  lo : Int
  hi : Int
  deriving DecidableEq
structure Nd where
  hd : Hd
  kids : List Int
  deriving DecidableEq
structure Ar where
  nodes : List Nd
  root : Int
  deriving DecidableEq
inductive Xp where
  | node (h : Hd) (ks : List Xp)

def Xp.hd : Xp → Hd | .node h _ => h
def Xp.kids : Xp → List Xp | .node _ ks => ks
theorem Xp.eta : ∀ x : Xp, Xp.node x.hd x.kids = x | .node _ _ => rfl

/-- Induction over trees. -/
theorem Xp.ind {P : Xp → Prop} (h : ∀ hd ks, (∀ k ∈ ks, P k) → P (.node hd ks)) : ∀ x, P x
  | .node hd ks => h hd ks fun k _ => Xp.ind h k

 mutual
def Xp.size : Xp → Nat | .node _ ks => sizeL ks + 1
def sizeL : List Xp → Nat | [] => 0 | k :: ks => k.size + sizeL ks
 end
theorem Xp.size_node (h : Hd) (ks : List Xp) : (Xp.node h ks).size = sizeL ks + 1 := by rw [Xp.size]
theorem sizeL_nil : sizeL [] = 0 := by rw [sizeL]
theorem sizeL_cons (k : Xp) (ks : List Xp) : sizeL (k :: ks) = k.size + sizeL ks := by rw [sizeL]
theorem Xp.size_pos (x : Xp) : 0 < x.size := by cases x; rw [Xp.size_node]; omega
theorem sizeL_app (l m : List Xp) : sizeL (l ++ m) = sizeL l + sizeL m := by
  induction l with
  | nil => simp [sizeL_nil]
  | cons k l ih => rw [List.cons_append, sizeL_cons, sizeL_cons, ih]; omega
theorem sizeL_le_len (l : List Xp) : l.length ≤ sizeL l := by
  induction l with
  | nil => simp
  | cons k l ih => rw [sizeL_cons]; have := k.size_pos; simp; omega
theorem size_le_of_mem {l : List Xp} {k : Xp} (h : k ∈ l) : k.size ≤ sizeL l := by
  induction l with
  | nil => cases h
  | cons a l ih =>
    rw [sizeL_cons]
    rcases List.mem_cons.1 h with rfl | h
    · omega
    · have := ih h; omega

/-- Where the kids' roots lie, if they lie one behind the other from off on. -/
def rootsL : List Xp → Nat → List Int
  | [], _ => []
  | k :: ks, off => (((off + k.size : Nat) : Int) - 1) :: rootsL ks (off + k.size)
 mutual
/-- A tree's nodes, kids first, the row's first one being number off. -/
def lay : Xp → Nat → List Nd
  | .node h ks, off => layL ks off ++ [⟨h, rootsL ks off⟩]
def layL : List Xp → Nat → List Nd
  | [], _ => []
  | k :: ks, off => lay k off ++ layL ks (off + k.size)
 end
theorem lay_node (h : Hd) (ks : List Xp) (off : Nat) : lay (.node h ks) off = layL ks off ++ [⟨h, rootsL ks off⟩] := by rw [lay]
theorem layL_nil (off : Nat) : layL [] off = [] := by rw [layL]
theorem layL_cons (k : Xp) (ks : List Xp) (off : Nat) : layL (k :: ks) off = lay k off ++ layL ks (off + k.size) := by rw [layL]
theorem rootsL_cons (k : Xp) (ks : List Xp) (off : Nat) : rootsL (k :: ks) off = (((off + k.size : Nat) : Int) - 1) :: rootsL ks (off + k.size) := rfl
theorem rootsL_len (ks : List Xp) : ∀ off, (rootsL ks off).length = ks.length := by
  induction ks with
  | nil => intro off; rfl
  | cons k ks ih => intro off; rw [rootsL_cons, List.length_cons, List.length_cons, ih]
theorem layL_len_of (ks : List Xp) (h : ∀ k ∈ ks, ∀ off, (lay k off).length = k.size) : ∀ off, (layL ks off).length = sizeL ks := by
  induction ks with
  | nil => intro off; rw [layL_nil, sizeL_nil]; rfl
  | cons k ks ih => intro off; rw [layL_cons, sizeL_cons, List.length_append, h k (List.mem_cons_self ..), ih (fun a ha => h a (List.mem_cons_of_mem _ ha))]
theorem lay_len (x : Xp) : ∀ off, (lay x off).length = x.size := by
  induction x using Xp.ind with
  | h hd ks ih => intro off; rw [lay_node, Xp.size_node, List.length_append, layL_len_of ks ih]; rfl
theorem layL_len (ks : List Xp) (off : Nat) : (layL ks off).length = sizeL ks := layL_len_of ks (fun k _ => lay_len k) off
theorem layL_app (l m : List Xp) : ∀ off, layL (l ++ m) off = layL l off ++ layL m (off + sizeL l) := by
  induction l with
  | nil => intro off; rw [layL_nil, sizeL_nil]; rfl
  | cons k l ih => intro off; rw [List.cons_append, layL_cons, layL_cons, ih, sizeL_cons, List.append_assoc, Nat.add_assoc]
theorem rootsL_app (l m : List Xp) : ∀ off, rootsL (l ++ m) off = rootsL l off ++ rootsL m (off + sizeL l) := by
  induction l with
  | nil => intro off; rw [sizeL_nil]; rfl
  | cons k l ih => intro off; rw [List.cons_append, rootsL_cons, rootsL_cons, ih, sizeL_cons, List.cons_append, Nat.add_assoc]
/-- A tree's arena, kids first. -/
def clean (x : Xp) : Ar := ⟨lay x 0, (x.size : Int) - 1⟩

/-! ### What an arena holds at a node -/
 mutual
def sits (ns : List Nd) : Xp → Int → Prop
  | .node h ks, i => ∃ l, 0 ≤ i ∧ ns[i.toNat]? = some ⟨h, l⟩ ∧ sitsL ns ks l
def sitsL (ns : List Nd) : List Xp → List Int → Prop
  | [], l => l = []
  | k :: ks, l => ∃ a m, l = a :: m ∧ sits ns k a ∧ sitsL ns ks m
 end
theorem sits_node (ns : List Nd) (h : Hd) (ks : List Xp) (i : Int) : sits ns (.node h ks) i ↔ ∃ l, 0 ≤ i ∧ ns[i.toNat]? = some ⟨h, l⟩ ∧ sitsL ns ks l := by rw [sits]
theorem sitsL_nil (ns : List Nd) (l : List Int) : sitsL ns [] l ↔ l = [] := by rw [sitsL]
theorem sitsL_cons (ns : List Nd) (k : Xp) (ks : List Xp) (l : List Int) : sitsL ns (k :: ks) l ↔ ∃ a m, l = a :: m ∧ sits ns k a ∧ sitsL ns ks m := by rw [sitsL]
theorem sitsL_cc {ns : List Nd} {k : Xp} {ks : List Xp} {a : Int} {m : List Int} : sitsL ns (k :: ks) (a :: m) ↔ sits ns k a ∧ sitsL ns ks m := by
  rw [sitsL_cons]
  constructor
  · rintro ⟨b, n, h, h1, h2⟩; injection h with e1 e2; subst e1; subst e2; exact ⟨h1, h2⟩
  · rintro ⟨h1, h2⟩; exact ⟨a, m, rfl, h1, h2⟩
theorem sitsL_len {ns : List Nd} : ∀ {ks : List Xp} {l : List Int}, sitsL ns ks l → l.length = ks.length
  | [], l, h => by rw [(sitsL_nil _ _).1 h]; rfl
  | k :: ks, l, h => by obtain ⟨a, m, rfl, _, h2⟩ := (sitsL_cons _ _ _ _).1 h; rw [List.length_cons, List.length_cons, sitsL_len h2]
theorem sitsL_app {ns : List Nd} {ks ks' : List Xp} : ∀ {l l' : List Int}, sitsL ns ks l → sitsL ns ks' l' → sitsL ns (ks ++ ks') (l ++ l') := by
  induction ks with
  | nil => intro l l' h h'; rw [(sitsL_nil _ _).1 h]; exact h'
  | cons k ks ih => intro l l' h h'; obtain ⟨a, m, rfl, h1, h2⟩ := (sitsL_cons _ _ _ _).1 h; exact sitsL_cc.2 ⟨h1, ih h2 h'⟩
theorem sitsL_part {ns : List Nd} {ks' : List Xp} {l' : List Int} : ∀ {ks : List Xp} {l : List Int}, l.length = ks.length → sitsL ns (ks ++ ks') (l ++ l') → sitsL ns ks l ∧ sitsL ns ks' l'
  | [], [], _, h => ⟨(sitsL_nil _ _).2 rfl, h⟩
  | k :: ks, a :: l, hl, h => by
    obtain ⟨h1, h2⟩ := sitsL_cc.1 (show sitsL ns (k :: (ks ++ ks')) (a :: (l ++ l')) from h)
    obtain ⟨h3, h4⟩ := sitsL_part (by simpa using hl) h2
    exact ⟨sitsL_cc.2 ⟨h1, h3⟩, h4⟩
theorem sitsL_get {ns : List Nd} : ∀ {ks : List Xp} {l : List Int} {j : Nat} {k : Xp}, sitsL ns ks l → ks[j]? = some k → ∃ a, l[j]? = some a ∧ sits ns k a
  | [], _, _, _, _, h => by simp at h
  | k :: ks, l, j, k', h, hk => by
    obtain ⟨a, m, rfl, h1, h2⟩ := (sitsL_cons _ _ _ _).1 h
    cases j with
    | zero => simp at hk; subst hk; exact ⟨a, rfl, h1⟩
    | succ j => simp at hk; simpa using sitsL_get h2 hk
theorem sitsL_mem {ns : List Nd} {ks : List Xp} {l : List Int} {a : Int} (h : sitsL ns ks l) (ha : a ∈ l) : ∃ k ∈ ks, sits ns k a := by
  obtain ⟨j, hj, e⟩ := List.getElem_of_mem ha
  have hk : ks[j]? = some (ks[j]'(by rw [← sitsL_len h]; exact hj)) := List.getElem?_eq_getElem _
  obtain ⟨b, hb, hs⟩ := sitsL_get h hk
  rw [List.getElem?_eq_getElem hj] at hb
  injection hb with hb
  subst e; subst hb
  exact ⟨_, List.getElem_mem _, hs⟩
theorem sits_nonneg {ns : List Nd} {x : Xp} {i : Int} (h : sits ns x i) : 0 ≤ i := by cases x; obtain ⟨_, h, _⟩ := (sits_node _ _ _ _).1 h; exact h
theorem sits_lt {ns : List Nd} {x : Xp} {i : Int} (h : sits ns x i) : i.toNat < ns.length := by
  cases x; obtain ⟨_, _, h, _⟩ := (sits_node _ _ _ _).1 h
  exact (List.getElem?_eq_some_iff.1 h).1
/-- One tree sits at a place. -/
theorem sits_one {ns : List Nd} (x : Xp) : ∀ {y : Xp} {i : Int}, sits ns x i → sits ns y i → x = y := by
  induction x using Xp.ind with
  | h hd ks ih =>
    intro y i hx hy
    cases y with
    | node hd' ks' =>
      obtain ⟨l, _, e, hl⟩ := (sits_node _ _ _ _).1 hx
      obtain ⟨l', _, e', hl'⟩ := (sits_node _ _ _ _).1 hy
      rw [e] at e'; injection e' with e'; injection e' with e1 e2; subst e1; subst e2
      congr 1
      have hlen : ks.length = ks'.length := by rw [← sitsL_len hl, ← sitsL_len hl']
      apply List.ext_getElem? 
      intro j
      by_cases hj : j < ks.length
      · have h1 : ks[j]? = some ks[j] := List.getElem?_eq_getElem hj
        have h2 : ks'[j]? = some (ks'[j]'(by omega)) := List.getElem?_eq_getElem (by omega)
        obtain ⟨a, ha, s1⟩ := sitsL_get hl h1
        obtain ⟨b, hb, s2⟩ := sitsL_get hl' h2
        rw [ha] at hb; injection hb with hb; subst hb
        rw [h1, h2, ih _ (List.getElem_mem _) s1 s2]
      · rw [List.getElem?_eq_none (by omega), List.getElem?_eq_none (by omega)]
theorem sitsL_app_of {ns : List Nd} (ms : List Nd) (ks : List Xp) (h : ∀ k ∈ ks, ∀ {i : Int}, sits ns k i → sits (ns ++ ms) k i) : ∀ {l : List Int}, sitsL ns ks l → sitsL (ns ++ ms) ks l := by
  induction ks with
  | nil => intro l hl; exact (sitsL_nil _ _).2 ((sitsL_nil _ _).1 hl)
  | cons k ks ih =>
    intro l hl
    obtain ⟨a, m, rfl, h1, h2⟩ := (sitsL_cons _ _ _ _).1 hl
    exact sitsL_cc.2 ⟨h k (List.mem_cons_self ..) h1, ih (fun a ha => h a (List.mem_cons_of_mem _ ha)) h2⟩
theorem sits_app {ns : List Nd} (ms : List Nd) (x : Xp) : ∀ {i : Int}, sits ns x i → sits (ns ++ ms) x i := by
  induction x using Xp.ind with
  | h hd ks ih =>
    intro i h
    obtain ⟨l, h0, e, hl⟩ := (sits_node _ _ _ _).1 h
    refine (sits_node _ _ _ _).2 ⟨l, h0, ?_, sitsL_app_of ms ks ih hl⟩
    rw [List.getElem?_append_left (List.getElem?_eq_some_iff.1 e).1]; exact e
theorem sitsL_more {ns : List Nd} (ms : List Nd) {ks : List Xp} {l : List Int} (h : sitsL ns ks l) : sitsL (ns ++ ms) ks l := sitsL_app_of ms ks (fun k _ => sits_app ms k) h
/-- A tree that is laid sits where it was laid. -/
theorem sitsL_lay_of (ks : List Xp) (h : ∀ k ∈ ks, ∀ (pre : List Nd), sits (pre ++ lay k pre.length) k ((pre.length + k.size : Nat) - 1 : Int)) : ∀ (pre : List Nd), sitsL (pre ++ layL ks pre.length) ks (rootsL ks pre.length) := by
  induction ks with
  | nil => intro pre; exact (sitsL_nil _ _).2 rfl
  | cons k ks ih =>
    intro pre
    rw [layL_cons, rootsL_cons, ← List.append_assoc]
    have h1 := h k (List.mem_cons_self ..) pre
    have h2 := ih (fun a ha => h a (List.mem_cons_of_mem _ ha)) (pre ++ lay k pre.length)
    rw [List.length_append, lay_len] at h2
    exact sitsL_cc.2 ⟨sits_app _ _ h1, h2⟩
theorem sits_lay (x : Xp) : ∀ (pre : List Nd), sits (pre ++ lay x pre.length) x ((pre.length + x.size : Nat) - 1 : Int) := by
  induction x using Xp.ind with
  | h hd ks ih =>
    intro pre
    have hL := sitsL_lay_of ks ih pre
    refine (sits_node _ _ _ _).2 ⟨rootsL ks pre.length, ?_, ?_, ?_⟩
    · have := Xp.size_pos (.node hd ks); omega
    · rw [lay_node, ← List.append_assoc, Xp.size_node]
      have e : (((pre.length + (sizeL ks + 1) : Nat) : Int) - 1).toNat = (pre ++ layL ks pre.length).length := by rw [List.length_append, layL_len]; omega
      rw [e, List.getElem?_append_right (Nat.le_refl _)]
      simp
    · rw [lay_node, ← List.append_assoc]
      exact sitsL_more _ hL
theorem sitsL_lay (ks : List Xp) (pre : List Nd) : sitsL (pre ++ layL ks pre.length) ks (rootsL ks pre.length) := sitsL_lay_of ks (fun k _ => sits_lay k) pre
theorem sits_clean (x : Xp) : sits (clean x).nodes x (clean x).root := by
  have h := sits_lay x []
  simpa [clean] using h
theorem clean_inj {x y : Xp} (h : clean x = clean y) : x = y := by
  have h1 := sits_clean x
  rw [h] at h1
  exact sits_one x h1 (sits_clean y)

/-! ### Right arenas -/
def kidsAll (ns : List Nd) : List Int := ns.flatMap Nd.kids
def kidsAt (ns : List Nd) (i : Int) : List Int := ((ns[i.toNat]?).map Nd.kids).getD []
def hdAt (ns : List Nd) (i : Int) : Hd := ((ns[i.toNat]?).map Nd.hd).getD ⟨0, 0, [], 0, 0⟩
/-- No kid stands twice, and kids stand ahead. -/
structure Down (ns : List Nd) : Prop where
  down : ∀ (i : Nat) nd, ns[i]? = some nd → ∀ k ∈ nd.kids, 0 ≤ k ∧ k < i
  once : (kidsAll ns).Nodup
theorem kidsAt_some {ns : List Nd} {i : Nat} {nd : Nd} (h : ns[i]? = some nd) : kidsAt ns i = nd.kids := by simp [kidsAt, h]
theorem kidsAt_get {ns : List Nd} {i : Int} {h : Hd} {l : List Int} (e : ns[i.toNat]? = some ⟨h, l⟩) : kidsAt ns i = l := by simp [kidsAt, e]
theorem hdAt_get {ns : List Nd} {i : Int} {h : Hd} {l : List Int} (e : ns[i.toNat]? = some ⟨h, l⟩) : hdAt ns i = h := by simp [hdAt, e]
theorem kidsAt_lt {ns : List Nd} (h : Down ns) {i k : Int} (hk : k ∈ kidsAt ns i) : 0 ≤ k ∧ k < i.toNat := by
  unfold kidsAt at hk
  cases e : ns[i.toNat]? with
  | none => simp [e] at hk
  | some nd => simp [e] at hk; exact h.down _ nd e k hk
theorem mem_kidsAll {ns : List Nd} {k : Int} : k ∈ kidsAll ns ↔ ∃ i : Nat, k ∈ kidsAt ns i := by
  unfold kidsAll
  rw [List.mem_flatMap]
  constructor
  · rintro ⟨nd, h, hk⟩
    obtain ⟨i, hi, e⟩ := List.getElem_of_mem h
    exact ⟨i, by rw [kidsAt_some (by rw [List.getElem?_eq_getElem hi, e])]; exact hk⟩
  · rintro ⟨i, hk⟩
    unfold kidsAt at hk
    rw [Int.toNat_natCast] at hk
    cases e : ns[i]? with
    | none => simp [e] at hk
    | some nd => simp [e] at hk; exact ⟨nd, List.mem_of_getElem? e, hk⟩
theorem flat_once {α : Type} {L : List (List α)} : L.flatten.Nodup → ∀ {i j : Nat} {a b : List α} {x : α}, L[i]? = some a → L[j]? = some b → x ∈ a → x ∈ b → i = j := by
  induction L with
  | nil => intro _ i j a b x h; simp at h
  | cons c L ih =>
    intro h i j a b x ha hb hx hy
    rw [List.flatten_cons, List.nodup_append] at h
    cases i with
    | zero => cases j with
      | zero => rfl
      | succ j =>
        simp at ha hb; subst ha
        exact absurd rfl (h.2.2 x hx x (List.mem_flatten.2 ⟨b, List.mem_of_getElem? hb, hy⟩))
    | succ i => cases j with
      | zero =>
        simp at ha hb; subst hb
        exact absurd rfl (h.2.2 x hy x (List.mem_flatten.2 ⟨a, List.mem_of_getElem? ha, hx⟩))
      | succ j => simp at ha hb; rw [ih h.2.1 ha hb hx hy]
theorem flat_nodup {α : Type} {L : List (List α)} (h : L.flatten.Nodup) {a : List α} (ha : a ∈ L) : a.Nodup := by
  induction L with
  | nil => cases ha
  | cons c L ih =>
    rw [List.flatten_cons, List.nodup_append] at h
    rcases List.mem_cons.1 ha with rfl | ha
    · exact h.1
    · exact ih h.2.1 ha
/-- A node has one parent. -/
theorem one_parent {ns : List Nd} (h : Down ns) {i j : Int} {k : Int} (hi : 0 ≤ i) (hj : 0 ≤ j) (h1 : k ∈ kidsAt ns i) (h2 : k ∈ kidsAt ns j) : i = j := by
  unfold kidsAt at h1 h2
  cases e : ns[i.toNat]? with
  | none => simp [e] at h1
  | some nd => cases e' : ns[j.toNat]? with
    | none => simp [e'] at h2
    | some nd' =>
      simp [e] at h1; simp [e'] at h2
      have ho := h.once
      unfold kidsAll at ho
      rw [List.flatMap_def] at ho
      have := flat_once ho (i := i.toNat) (j := j.toNat) (a := nd.kids) (b := nd'.kids) (by simp [e]) (by simp [e']) h1 h2
      omega
theorem kids_nodup {ns : List Nd} (h : Down ns) (i : Int) : (kidsAt ns i).Nodup := by
  unfold kidsAt
  cases e : ns[i.toNat]? with
  | none => simp
  | some nd =>
    have ho := h.once
    unfold kidsAll at ho
    rw [List.flatMap_def] at ho
    exact flat_nodup ho (List.mem_map.2 ⟨nd, List.mem_of_getElem? e, rfl⟩)

/-! ### The row of what stands at a node, kids first -/
 mutual
def post (ns : List Nd) : Xp → Int → List Int
  | .node _ ks, i => postL ns ks (kidsAt ns i) ++ [i]
def postL (ns : List Nd) : List Xp → List Int → List Int
  | [], _ => []
  | _ :: _, [] => []
  | k :: ks, a :: l => post ns k a ++ postL ns ks l
 end
theorem post_node (ns : List Nd) (h : Hd) (ks : List Xp) (i : Int) : post ns (.node h ks) i = postL ns ks (kidsAt ns i) ++ [i] := by rw [post]
theorem postL_nil (ns : List Nd) (l : List Int) : postL ns [] l = [] := by rw [postL]
theorem postL_cons (ns : List Nd) (k : Xp) (ks : List Xp) (a : Int) (l : List Int) : postL ns (k :: ks) (a :: l) = post ns k a ++ postL ns ks l := by rw [postL]
theorem postL_app (ns : List Nd) (ms : List Xp) (m : List Int) : ∀ (ks : List Xp) (l : List Int), l.length = ks.length → postL ns (ks ++ ms) (l ++ m) = postL ns ks l ++ postL ns ms m
  | [], [], _ => by rw [postL_nil]; rfl
  | k :: ks, a :: l, h => by rw [List.cons_append, List.cons_append, postL_cons, postL_cons, postL_app ns ms m ks l (by simpa using h), List.append_assoc]
theorem post_len {ns : List Nd} (x : Xp) : ∀ {i : Int}, sits ns x i → (post ns x i).length = x.size := by
  induction x using Xp.ind with
  | h hd ks ih =>
    intro i h
    obtain ⟨l, _, e, hl⟩ := (sits_node _ _ _ _).1 h
    rw [post_node, kidsAt_get e, Xp.size_node, List.length_append]
    congr 1
    clear h e
    induction ks generalizing l with
    | nil => rw [postL_nil, sizeL_nil]; rfl
    | cons k ks ih2 =>
      obtain ⟨a, m, rfl, h1, h2⟩ := (sitsL_cons _ _ _ _).1 hl
      rw [postL_cons, sizeL_cons, List.length_append, ih k (List.mem_cons_self ..) h1, ih2 (fun a ha => ih a (List.mem_cons_of_mem _ ha)) _ h2]
theorem postL_len {ns : List Nd} {ks : List Xp} : ∀ {l : List Int}, sitsL ns ks l → (postL ns ks l).length = sizeL ks := by
  induction ks with
  | nil => intro l _; rw [postL_nil, sizeL_nil]; rfl
  | cons k ks ih =>
    intro l h
    obtain ⟨a, m, rfl, h1, h2⟩ := (sitsL_cons _ _ _ _).1 h
    rw [postL_cons, sizeL_cons, List.length_append, post_len k h1, ih h2]
theorem mem_postL {ns : List Nd} {j : Int} : ∀ {ks : List Xp} {l : List Int}, j ∈ postL ns ks l → ∃ (n : Nat) (k : Xp) (a : Int), ks[n]? = some k ∧ l[n]? = some a ∧ j ∈ post ns k a
  | [], _, h => by rw [postL_nil] at h; cases h
  | _ :: _, [], h => by rw [postL] at h; cases h
  | k :: ks, a :: l, h => by
    rw [postL_cons] at h
    rcases List.mem_append.1 h with h | h
    · exact ⟨0, k, a, rfl, rfl, h⟩
    · obtain ⟨n, k', a', h1, h2, h3⟩ := mem_postL h
      exact ⟨n + 1, k', a', h1, h2, h3⟩
theorem postL_mem {ns : List Nd} {j : Int} : ∀ {ks : List Xp} {l : List Int} {n : Nat} {k : Xp} {a : Int}, ks[n]? = some k → l[n]? = some a → j ∈ post ns k a → j ∈ postL ns ks l
  | [], _, _, _, _, h, _, _ => by simp at h
  | _ :: _, [], _, _, _, _, h, _ => by simp at h
  | k :: ks, a :: l, 0, k', a', h1, h2, h3 => by simp at h1 h2; subst h1; subst h2; rw [postL_cons]; exact List.mem_append_left _ h3
  | k :: ks, a :: l, n + 1, k', a', h1, h2, h3 => by rw [postL_cons]; exact List.mem_append_right _ (postL_mem (by simpa using h1) (by simpa using h2) h3)
theorem self_post (ns : List Nd) (x : Xp) (i : Int) : i ∈ post ns x i := by cases x; rw [post_node]; simp
/-- What is in a row is no more than its node, and sits there. -/
theorem post_le {ns : List Nd} (hd : Down ns) (x : Xp) : ∀ {i j : Int}, sits ns x i → j ∈ post ns x i → 0 ≤ j ∧ j ≤ i ∧ ∃ y, sits ns y j := by
  induction x using Xp.ind with
  | h h0 ks ih =>
    intro i j h hj
    obtain ⟨l, h0, e, hl⟩ := (sits_node _ _ _ _).1 h
    rw [post_node, kidsAt_get e] at hj
    rcases List.mem_append.1 hj with hj | hj
    · obtain ⟨n, k, a, h1, h2, h3⟩ := mem_postL hj
      obtain ⟨b, hb, hs⟩ := sitsL_get hl h1
      rw [h2] at hb; injection hb with hb; subst hb
      have := ih k (List.mem_of_getElem? h1) hs h3
      have hk := hd.down _ _ e a (List.mem_of_getElem? h2)
      exact ⟨this.1, by omega, this.2.2⟩
    · simp at hj; subst hj; exact ⟨h0, Int.le_refl _, _, h⟩
/-- It is the node itself, or a kid of one that is in it. -/
theorem post_up {ns : List Nd} (x : Xp) : ∀ {i j : Int}, sits ns x i → j ∈ post ns x i → j = i ∨ ∃ p ∈ post ns x i, 0 ≤ p ∧ j ∈ kidsAt ns p := by
  induction x using Xp.ind with
  | h h0 ks ih =>
    intro i j h hj
    obtain ⟨l, h0, e, hl⟩ := (sits_node _ _ _ _).1 h
    rw [post_node, kidsAt_get e] at hj ⊢
    rcases List.mem_append.1 hj with hj | hj
    · obtain ⟨n, k, a, h1, h2, h3⟩ := mem_postL hj
      obtain ⟨b, hb, hs⟩ := sitsL_get hl h1
      rw [h2] at hb; injection hb with hb; subst hb
      rcases ih k (List.mem_of_getElem? h1) hs h3 with rfl | ⟨p, hp, hp0, hjp⟩
      · exact .inr ⟨i, by simp, h0, by rw [kidsAt_get e]; exact List.mem_of_getElem? h2⟩
      · exact .inr ⟨p, List.mem_append_left _ (postL_mem h1 h2 hp), hp0, hjp⟩
    · simp at hj; exact .inl hj
/-- With a node its kids are in it. -/
theorem post_down {ns : List Nd} (x : Xp) : ∀ {i p j : Int}, sits ns x i → p ∈ post ns x i → j ∈ kidsAt ns p → j ∈ post ns x i := by
  induction x using Xp.ind with
  | h h0 ks ih =>
    intro i p j h hp hj
    obtain ⟨l, h0, e, hl⟩ := (sits_node _ _ _ _).1 h
    rw [post_node, kidsAt_get e] at hp ⊢
    rcases List.mem_append.1 hp with hp | hp
    · obtain ⟨n, k, a, h1, h2, h3⟩ := mem_postL hp
      obtain ⟨b, hb, hs⟩ := sitsL_get hl h1
      rw [h2] at hb; injection hb with hb; subst hb
      exact List.mem_append_left _ (postL_mem h1 h2 (ih k (List.mem_of_getElem? h1) hs h3 hj))
    · simp at hp; subst hp
      rw [kidsAt_get e] at hj
      obtain ⟨n, hn, e2⟩ := List.getElem_of_mem hj
      have hn2 : n < ks.length := by rw [← sitsL_len hl]; exact hn
      exact List.mem_append_left _ (postL_mem (List.getElem?_eq_getElem hn2) (by rw [List.getElem?_eq_getElem hn, e2]) (self_post _ _ _))
/-- What stands at two kids of one node has no node in common. -/
theorem post_apart {ns : List Nd} (hd : Down ns) {i a b : Int} {x y : Xp} (hi : 0 ≤ i) (ha : a ∈ kidsAt ns i) (hb : b ∈ kidsAt ns i) (hab : a ≠ b) (hx : sits ns x a) (hy : sits ns y b) :
    ∀ (n : Nat) (j : Int), i - j ≤ n → j ∈ post ns x a → j ∈ post ns y b → False
  | n, j, hn, h1, h2 => by
    have hai := kidsAt_lt hd ha
    have hbi := kidsAt_lt hd hb
    have l1 := post_le hd x hx h1
    have l2 := post_le hd y hy h2
    rcases post_up x hx h1 with rfl | ⟨p, hp, hp0, hjp⟩
    · rcases post_up y hy h2 with rfl | ⟨q, hq, hq0, hjq⟩
      · exact hab rfl
      · have e := one_parent hd hi hq0 ha hjq
        subst e
        have := post_le hd y hy hq
        omega
    · rcases post_up y hy h2 with rfl | ⟨q, hq, hq0, hjq⟩
      · have e := one_parent hd hi hp0 hb hjp
        subst e
        have := post_le hd x hx hp
        omega
      · have e := one_parent hd hp0 hq0 hjp hjq
        subst e
        have hlt := kidsAt_lt hd hjp
        match n, hn with
        | 0, hn => omega
        | n + 1, hn => exact post_apart hd hi ha hb hab hx hy n p (by omega) hp hq
theorem postL_nodup_of {ns : List Nd} : ∀ {ks : List Xp} {l : List Int}, sitsL ns ks l → (∀ (n : Nat) k a, ks[n]? = some k → l[n]? = some a → (post ns k a).Nodup) →
    (∀ (n m : Nat) k k' a a', n ≠ m → ks[n]? = some k → ks[m]? = some k' → l[n]? = some a → l[m]? = some a' → ∀ j, j ∈ post ns k a → j ∈ post ns k' a' → False) → (postL ns ks l).Nodup
  | [], l, _, _, _ => by rw [postL_nil]; exact List.nodup_nil
  | k :: ks, l, h, h1, h2 => by
    obtain ⟨a, m, rfl, s1, s2⟩ := (sitsL_cons _ _ _ _).1 h
    rw [postL_cons, List.nodup_append]
    refine ⟨h1 0 k a rfl rfl, postL_nodup_of s2 (fun n k a e1 e2 => h1 (n + 1) k a e1 e2) (fun n m k k' a a' hnm e1 e2 e3 e4 => h2 (n + 1) (m + 1) k k' a a' (by omega) e1 e2 e3 e4), ?_⟩
    intro p hp q hq hpq
    subst hpq
    obtain ⟨n, k', a', e1, e2, hq⟩ := mem_postL hq
    exact h2 0 (n + 1) k k' a a' (by omega) rfl e1 rfl e2 p hp hq
theorem nodup_get {α : Type} {l : List α} (h : l.Nodup) {n m : Nat} {a : α} (h1 : l[n]? = some a) (h2 : l[m]? = some a) : n = m := by
  have hn := (List.getElem?_eq_some_iff.1 h1).1
  exact (List.getElem?_inj hn h).1 (by rw [h1, h2])
/-- No node is twice in a row. -/
theorem post_nodup {ns : List Nd} (hd : Down ns) (x : Xp) : ∀ {i : Int}, sits ns x i → (post ns x i).Nodup := by
  induction x using Xp.ind with
  | h hh ks ih =>
    intro i h
    obtain ⟨l, h0, e, hl⟩ := (sits_node _ _ _ _).1 h
    have ek := kidsAt_get e
    rw [post_node, ek, List.nodup_append]
    refine ⟨postL_nodup_of hl ?_ ?_, by simp, ?_⟩
    · intro n k a e1 e2
      obtain ⟨b, hb, hs⟩ := sitsL_get hl e1
      rw [e2] at hb; injection hb with hb; subst hb
      exact ih k (List.mem_of_getElem? e1) hs
    · intro n m k k' a a' hnm e1 e2 e3 e4 j
      obtain ⟨b, hb, hs⟩ := sitsL_get hl e1
      rw [e3] at hb; injection hb with hb; subst hb
      obtain ⟨b', hb', hs'⟩ := sitsL_get hl e2
      rw [e4] at hb'; injection hb' with hb'; subst hb'
      have hab : a ≠ a' := by
        intro haa; subst haa
        have hn := kids_nodup hd i
        rw [ek] at hn
        exact hnm (nodup_get hn e3 e4)
      exact post_apart hd h0 (by rw [ek]; exact List.mem_of_getElem? e3) (by rw [ek]; exact List.mem_of_getElem? e4) hab hs hs' (i - j).toNat j (by omega)
    · intro p hp q hq hpq
      simp at hq; subst hq; subst hpq
      obtain ⟨n, k, a, e1, e2, hq⟩ := mem_postL hp
      obtain ⟨b, hb, hs⟩ := sitsL_get hl e1
      rw [e2] at hb; injection hb with hb; subst hb
      have h1 := post_le hd k hs hq
      have h2 := hd.down _ _ e a (List.mem_of_getElem? e2)
      omega
/-- In an arena whose kids stand ahead a tree sits at each node. -/
theorem sits_any {ns : List Nd} (hd : ∀ (i : Nat) nd, ns[i]? = some nd → ∀ k ∈ nd.kids, 0 ≤ k ∧ k < i) : ∀ (n : Nat) (i : Nat), i < n → i < ns.length → ∃ x, sits ns x i
  | 0, i, h, _ => by omega
  | n + 1, i, _, h => by
    have e : ns[i]? = some ns[i] := List.getElem?_eq_getElem h
    have hk := hd i _ e
    generalize hnd : ns[i] = nd at *
    have key : ∀ l : List Int, (∀ k ∈ l, 0 ≤ k ∧ k < i) → ∃ ks, sitsL ns ks l := by
      intro l
      induction l with
      | nil => intro _; exact ⟨[], (sitsL_nil _ _).2 rfl⟩
      | cons a l ih =>
        intro hl
        obtain ⟨ks, h2⟩ := ih (fun k hk => hl k (List.mem_cons_of_mem _ hk))
        have ha := hl a (List.mem_cons_self ..)
        obtain ⟨x, h1⟩ := sits_any hd n a.toNat (by omega) (by omega)
        rw [Int.toNat_of_nonneg ha.1] at h1
        exact ⟨x :: ks, sitsL_cc.2 ⟨h1, h2⟩⟩
    obtain ⟨ks, hks⟩ := key nd.kids hk
    exact ⟨.node nd.hd ks, (sits_node _ _ _ _).2 ⟨nd.kids, by omega, by simpa using e, hks⟩⟩

/-! ### Nodes are put behind others, one by one -/
structure PutS where
  place : Int → Int
  out : List Nd
def putStep (ns : List Nd) (s : PutS) (i : Int) : PutS := ⟨fun j => if j = i then s.out.length else s.place j, s.out ++ [⟨hdAt ns i, (kidsAt ns i).map s.place⟩]⟩
def putAll (ns : List Nd) (s : PutS) (l : List Int) : PutS := l.foldl (putStep ns) s
theorem putAll_app (ns : List Nd) (s : PutS) (l m : List Int) : putAll ns s (l ++ m) = putAll ns (putAll ns s l) m := List.foldl_append ..
theorem putAll_one (ns : List Nd) (s : PutS) (i : Int) : putAll ns s [i] = putStep ns s i := rfl
theorem putAll_other (ns : List Nd) : ∀ (l : List Int) (s : PutS) (j : Int), j ∉ l → (putAll ns s l).place j = s.place j
  | [], _, _, _ => rfl
  | a :: l, s, j, h => by
    have h1 := putAll_other ns l (putStep ns s a) j (fun h' => h (List.mem_cons_of_mem _ h'))
    show (putAll ns (putStep ns s a) l).place j = _
    rw [h1]
    show (if j = a then _ else _) = _
    rw [if_neg (fun e => h (by rw [e]; exact List.mem_cons_self ..))]
theorem putAll_L_of {ns : List Nd} : ∀ {ks : List Xp} {l : List Int}, sitsL ns ks l → (postL ns ks l).Nodup →
    (∀ k ∈ ks, ∀ (i : Int) (s : PutS), sits ns k i → (post ns k i).Nodup → (putAll ns s (post ns k i)).out = s.out ++ lay k s.out.length ∧ (putAll ns s (post ns k i)).place i = ((s.out.length + k.size : Nat) : Int) - 1) →
    ∀ s : PutS, (putAll ns s (postL ns ks l)).out = s.out ++ layL ks s.out.length ∧ l.map (putAll ns s (postL ns ks l)).place = rootsL ks s.out.length
  | [], l, h, _, _, s => by rw [(sitsL_nil _ _).1 h, postL_nil, layL_nil]; exact ⟨(List.append_nil _).symm, rfl⟩
  | k :: ks, l, h, hn, hk, s => by
    obtain ⟨a, m, rfl, s1, s2⟩ := (sitsL_cons _ _ _ _).1 h
    rw [postL_cons] at hn ⊢
    have hn' := List.nodup_append.1 hn
    rw [putAll_app]
    obtain ⟨e1, e2⟩ := hk k (List.mem_cons_self ..) a s s1 hn'.1
    obtain ⟨e3, e4⟩ := putAll_L_of s2 hn'.2.1 (fun k' hk' => hk k' (List.mem_cons_of_mem _ hk')) (putAll ns s (post ns k a))
    rw [e1, List.length_append, lay_len] at e3 e4
    refine ⟨by rw [e3, layL_cons, List.append_assoc], ?_⟩
    rw [List.map_cons, e4, rootsL_cons, putAll_other _ _ _ _ (fun h' => hn'.2.2 a (self_post ns k a) a h' rfl), e2]
theorem putAll_tree {ns : List Nd} (x : Xp) : ∀ (i : Int) (s : PutS), sits ns x i → (post ns x i).Nodup → (putAll ns s (post ns x i)).out = s.out ++ lay x s.out.length ∧ (putAll ns s (post ns x i)).place i = ((s.out.length + x.size : Nat) : Int) - 1 := by
  induction x using Xp.ind with
  | h hh ks ih =>
    intro i s h hn
    obtain ⟨l, h0, e, hl⟩ := (sits_node _ _ _ _).1 h
    rw [post_node, kidsAt_get e] at hn ⊢
    have hn' := List.nodup_append.1 hn
    obtain ⟨e1, e2⟩ := putAll_L_of hl hn'.1 (fun k hk i s => ih k hk i s) s
    rw [putAll_app, putAll_one]
    constructor
    · show (putAll ns s (postL ns ks l)).out ++ [⟨hdAt ns i, (kidsAt ns i).map _⟩] = _
      rw [hdAt_get e, kidsAt_get e, e2, e1, lay_node, List.append_assoc]
    · show (if i = i then (((putAll ns s (postL ns ks l)).out.length : Nat) : Int) else _) = _
      rw [if_pos rfl, e1, List.length_append, layL_len, Xp.size_node]; omega
/-- What is put of a row is the tree, clean. -/
theorem putAll_lay {ns : List Nd} (hd : Down ns) {x : Xp} {i : Int} (h : sits ns x i) (s : PutS) : (putAll ns s (post ns x i)).out = s.out ++ lay x s.out.length := (putAll_tree x i s h (post_nodup hd x h)).1

/-! ### Which nodes may be -/
def letB (b : UInt8) : Bool := b == 95 || (97 ≤ b && b ≤ 122) || (65 ≤ b && b ≤ 90)
def digB (b : UInt8) : Bool := 48 ≤ b && b ≤ 57
def mayL : List UInt8 → Bool
  | [] => false
  | b :: l => letB b && decide (l.length < 32) && l.all fun c => letB c || digB c
def plainB (h : Hd) : Bool := h.set == 0 && h.text == [] && h.lo == 0 && h.hi == 0
/-- Does a node with n kids fit? -/
def fitsB (h : Hd) (n : Nat) : Bool :=
  if h.kind = 0 then plainB h && n == 0
  else if h.kind = 1 then h.text == [] && h.lo == 0 && h.hi == 0 && n == 0
  else if h.kind = 2 then h.set == 0 && h.lo == 0 && h.hi == 0 && n == 0 && decide (1 ≤ h.text.length) && decide (h.text.length ≤ 255)
  else if h.kind = 3 then h.set == 0 && h.lo == 0 && h.hi == 0 && n == 0 && mayL h.text
  else if h.kind = 4 ∨ h.kind = 5 then plainB h && decide (2 ≤ n)
  else if h.kind = 6 then h.set == 0 && h.text == [] && n == 1 && decide (0 ≤ h.lo) && decide (h.lo ≤ 99) && (h.hi == -1 || decide (h.lo ≤ h.hi) && decide (h.hi ≤ 99))
  else if h.kind = 7 ∨ h.kind = 8 then plainB h && n == 1
  else if h.kind = 9 then h.set == 0 && h.lo == 0 && h.hi == 0 && n == 1 && mayL h.text
  else false
 mutual
def okX : Xp → Bool | .node h ks => fitsB h ks.length && okL ks
def okL : List Xp → Bool | [] => true | k :: ks => okX k && okL ks
 end
theorem okX_node (h : Hd) (ks : List Xp) : okX (.node h ks) = (fitsB h ks.length && okL ks) := by rw [okX]
theorem okL_iff {ks : List Xp} : okL ks = true ↔ ∀ k ∈ ks, okX k = true := by
  induction ks with
  | nil => rw [okL]; simp
  | cons k ks ih => rw [okL, Bool.and_eq_true, ih]; simp
theorem okX_iff {h : Hd} {ks : List Xp} : okX (.node h ks) = true ↔ fitsB h ks.length = true ∧ ∀ k ∈ ks, okX k = true := by rw [okX_node, Bool.and_eq_true, okL_iff]

/-- An arena is right. -/
structure RightP (T : Ar) : Prop where
  some : 0 < T.nodes.length
  root : T.root = (T.nodes.length : Int) - 1
  fits : ∀ (i : Nat) nd, T.nodes[i]? = Option.some nd → fitsB nd.hd nd.kids.length = true
  down : ∀ (i : Nat) nd, T.nodes[i]? = Option.some nd → ∀ k ∈ nd.kids, 0 ≤ k ∧ k < i
  once : ∀ j : Int, (kidsAll T.nodes).count j ≤ 1
  all : ∀ j : Nat, j + 1 < T.nodes.length → 0 < (kidsAll T.nodes).count (j : Int)
theorem nodup_of_count {α : Type} [DecidableEq α] {l : List α} (h : ∀ a, l.count a ≤ 1) : l.Nodup := by
  induction l with
  | nil => exact List.nodup_nil
  | cons b l ih =>
    refine List.nodup_cons.2 ⟨fun hb => ?_, ih fun a => ?_⟩
    · have := h b
      rw [List.count_cons_self] at this
      have h2 := List.count_pos_iff.2 hb
      omega
    · have := h a
      rw [List.count_cons] at this
      omega
theorem RightP.down' {T : Ar} (h : RightP T) : Down T.nodes := ⟨h.down, nodup_of_count h.once⟩
/-- So many numbers below n, none twice. -/
theorem nodup_below : ∀ (n : Nat) (l : List Int), l.Nodup → (∀ a ∈ l, 0 ≤ a ∧ a < n) → l.length ≤ n ∧ ((∀ a : Nat, a < n → (a : Int) ∈ l) → l.length = n)
  | 0, l, _, h => by
    cases l with
    | nil => exact ⟨Nat.le_refl _, fun _ => rfl⟩
    | cons a l => have := h a (List.mem_cons_self ..); omega
  | n + 1, l, hn, h => by
    by_cases hm : (n : Int) ∈ l
    · have hl := List.length_erase_of_mem hm
      have hpos : 0 < l.length := List.length_pos_of_mem hm
      have he := hn.erase (n : Int)
      have ih := nodup_below n (l.erase (n : Int)) he (fun a ha => by
        have h1 := h a (List.mem_of_mem_erase ha)
        have h2 : a ≠ n := fun e => by subst e; exact (List.Nodup.not_mem_erase hn) ha
        omega)
      refine ⟨by omega, fun hall => ?_⟩
      have := ih.2 (fun a ha => (List.mem_erase_of_ne (by omega)).2 (hall a (by omega)))
      omega
    · have ih := nodup_below n l hn (fun a ha => by
        have h1 := h a ha
        have h2 : a ≠ n := fun e => by subst e; exact hm ha
        omega)
      exact ⟨by omega, fun hall => absurd (hall n (by omega)) hm⟩
theorem ok_of_fits {ns : List Nd} (hf : ∀ (i : Nat) nd, ns[i]? = some nd → fitsB nd.hd nd.kids.length = true) (x : Xp) : ∀ {i : Int}, sits ns x i → okX x = true := by
  induction x using Xp.ind with
  | h hd ks ih =>
    intro i h
    obtain ⟨l, _, e, hl⟩ := (sits_node _ _ _ _).1 h
    refine okX_iff.2 ⟨?_, fun k hk => ?_⟩
    · have := hf _ _ e; rw [← sitsL_len hl]; exact this
    · obtain ⟨n, hn, e1⟩ := List.getElem_of_mem hk
      obtain ⟨a, _, hs⟩ := sitsL_get hl (List.getElem?_eq_getElem hn)
      rw [e1] at hs
      exact ih k hk hs
/-- An arena that is right holds one tree, of as many nodes. -/
theorem RightP.tree {T : Ar} (h : RightP T) : ∃ x, sits T.nodes x T.root ∧ okX x = true ∧ x.size = T.nodes.length := by
  have hs := h.some
  obtain ⟨x, hx⟩ := sits_any h.down T.nodes.length (T.nodes.length - 1) (by omega) (by omega)
  have er : ((T.nodes.length - 1 : Nat) : Int) = T.root := by rw [h.root]; omega
  rw [er] at hx
  refine ⟨x, hx, ok_of_fits h.fits x hx, ?_⟩
  rw [← post_len x hx]
  have hb := nodup_below T.nodes.length _ (post_nodup h.down' x hx) (fun a ha => by
    have := post_le h.down' x hx ha
    have := h.root
    omega)
  refine hb.2 ?_
  have key : ∀ (d : Nat) (a : Nat), T.nodes.length - a ≤ d → a < T.nodes.length → (a : Int) ∈ post T.nodes x T.root := by
    intro d
    induction d with
    | zero => intro a h1 h2; omega
    | succ d ih =>
      intro a h1 h2
      by_cases hr : a + 1 < T.nodes.length
      · obtain ⟨p, hp⟩ := mem_kidsAll.1 (List.count_pos_iff.1 (h.all a hr))
        have hlt := kidsAt_lt h.down' hp
        have hpl : p < T.nodes.length := by
          unfold kidsAt at hp
          cases e : T.nodes[((p : Nat) : Int).toNat]? with
          | none => rw [e] at hp; simp at hp
          | some nd => have := (List.getElem?_eq_some_iff.1 e).1; simpa using this
        rw [Int.toNat_natCast] at hlt
        exact post_down x hx (ih p (by omega) hpl) hp
      · have e : (a : Int) = T.root := by rw [h.root]; omega
        rw [e]; exact self_post _ _ _
  exact fun a ha => key _ a (Nat.le_refl _) ha
theorem RightP.sub {T : Ar} (h : RightP T) (i : Nat) (hi : i < T.nodes.length) : ∃ x, sits T.nodes x i ∧ okX x = true ∧ x.size ≤ T.nodes.length := by
  obtain ⟨x, hx⟩ := sits_any h.down T.nodes.length i (by omega) hi
  refine ⟨x, hx, ok_of_fits h.fits x hx, ?_⟩
  rw [← post_len x hx]
  exact (nodup_below T.nodes.length _ (post_nodup h.down' x hx) (fun a ha => by have := post_le h.down' x hx ha; omega)).1

/-! ### A clean arena is right -/
theorem kidsAll_app (a b : List Nd) : kidsAll (a ++ b) = kidsAll a ++ kidsAll b := List.flatMap_append
theorem count_lay_of {ks : List Xp} (h : ∀ k ∈ ks, ∀ (off : Nat) (j : Int), (kidsAll (lay k off)).count j = if (off : Int) ≤ j ∧ j + 1 < off + k.size then 1 else 0) :
    ∀ (off : Nat) (j : Int), (kidsAll (layL ks off)).count j + (rootsL ks off).count j = if (off : Int) ≤ j ∧ j < off + sizeL ks then 1 else 0 := by
  induction ks with
  | nil =>
    intro off j
    rw [layL_nil, sizeL_nil]
    show 0 + 0 = _
    rw [if_neg (by omega)]
  | cons k ks ih =>
    intro off j
    have h1 := h k (List.mem_cons_self ..) off j
    have h2 := ih (fun a ha => h a (List.mem_cons_of_mem _ ha)) (off + k.size) j
    have hp := k.size_pos
    rw [layL_cons, rootsL_cons, kidsAll_app, List.count_append, List.count_cons, sizeL_cons]
    generalize (kidsAll (lay k off)).count j = A at h1 ⊢
    generalize (kidsAll (layL ks (off + k.size))).count j = B at h2 ⊢
    generalize (rootsL ks (off + k.size)).count j = C at h2 ⊢
    simp only [beq_iff_eq]
    generalize k.size = K at *
    generalize sizeL ks = S at *
    split at h1 <;> split at h2 <;> split <;> split <;> omega
theorem count_lay (x : Xp) : ∀ (off : Nat) (j : Int), (kidsAll (lay x off)).count j = if (off : Int) ≤ j ∧ j + 1 < off + x.size then 1 else 0 := by
  induction x using Xp.ind with
  | h hd ks ih =>
    intro off j
    have h1 := count_lay_of ih off j
    rw [lay_node, kidsAll_app, List.count_append, Xp.size_node]
    show _ + (([⟨hd, rootsL ks off⟩] : List Nd).flatMap Nd.kids).count j = _
    rw [show ([⟨hd, rootsL ks off⟩] : List Nd).flatMap Nd.kids = rootsL ks off by simp, h1]
    by_cases c : (off : Int) ≤ j ∧ j < off + sizeL ks
    · rw [if_pos c, if_pos (by omega)]
    · rw [if_neg c, if_neg (by omega)]
theorem rootsL_mem {ks : List Xp} : ∀ {off : Nat} {k : Int}, k ∈ rootsL ks off → (off : Int) ≤ k ∧ k < off + sizeL ks := by
  induction ks with
  | nil => intro off k h; cases h
  | cons a ks ih =>
    intro off k h
    rw [rootsL_cons] at h
    rw [sizeL_cons]
    have hp := a.size_pos
    rcases List.mem_cons.1 h with rfl | h
    · omega
    · have := ih h; omega
theorem lay_down_of {ks : List Xp} (h : ∀ k ∈ ks, okX k = true → ∀ (off i : Nat) nd, (lay k off)[i]? = some nd → fitsB nd.hd nd.kids.length = true ∧ ∀ a ∈ nd.kids, (off : Int) ≤ a ∧ a < off + i) (hok : ∀ k ∈ ks, okX k = true) :
    ∀ (off i : Nat) nd, (layL ks off)[i]? = some nd → fitsB nd.hd nd.kids.length = true ∧ ∀ a ∈ nd.kids, (off : Int) ≤ a ∧ a < off + i := by
  induction ks with
  | nil => intro off i nd e; rw [layL_nil] at e; simp at e
  | cons k ks ih =>
    intro off i nd e
    rw [layL_cons] at e
    by_cases hi : i < k.size
    · rw [List.getElem?_append_left (by rw [lay_len]; exact hi)] at e
      exact h k (List.mem_cons_self ..) (hok k (List.mem_cons_self ..)) off i nd e
    · rw [List.getElem?_append_right (by rw [lay_len]; omega), lay_len] at e
      have := ih (fun a ha => h a (List.mem_cons_of_mem _ ha)) (fun a ha => hok a (List.mem_cons_of_mem _ ha)) _ _ _ e
      exact ⟨this.1, fun a ha => by have := this.2 a ha; omega⟩
theorem lay_down (x : Xp) : okX x = true → ∀ (off i : Nat) nd, (lay x off)[i]? = some nd → fitsB nd.hd nd.kids.length = true ∧ ∀ a ∈ nd.kids, (off : Int) ≤ a ∧ a < off + i := by
  induction x using Xp.ind with
  | h hd ks ih =>
    intro hok off i nd e
    obtain ⟨hf, hk⟩ := okX_iff.1 hok
    rw [lay_node] at e
    by_cases hi : i < sizeL ks
    · rw [List.getElem?_append_left (by rw [layL_len]; exact hi)] at e
      exact lay_down_of ih hk off i nd e
    · rw [List.getElem?_append_right (by rw [layL_len]; omega), layL_len] at e
      have h0 : i = sizeL ks := by
        have := (List.getElem?_eq_some_iff.1 e).1
        simp at this; omega
      rw [h0, Nat.sub_self] at e
      simp at e
      subst e
      refine ⟨by rw [rootsL_len]; exact hf, fun a ha => ?_⟩
      have := rootsL_mem ha
      omega
theorem clean_right {x : Xp} (h : okX x = true) : RightP (clean x) := by
  have hp := x.size_pos
  refine ⟨by simp [clean, lay_len]; exact hp, by simp [clean, lay_len], fun i nd e => (lay_down x h 0 i nd e).1, fun i nd e k hk => ?_, fun j => ?_, fun j hj => ?_⟩
  · have := (lay_down x h 0 i nd e).2 k hk
    omega
  · rw [show (clean x).nodes = lay x 0 from rfl, count_lay]
    split <;> omega
  · rw [show (clean x).nodes = lay x 0 from rfl, lay_len] at hj
    rw [show (clean x).nodes = lay x 0 from rfl, count_lay, if_pos (by omega)]
    omega
theorem clean_right_iff {x : Xp} : RightP (clean x) ↔ okX x = true := ⟨fun h => ok_of_fits h.fits x (sits_clean x), clean_right⟩

/-! ### Normal trees -/
def emptyX : Xp := .node ⟨0, 0, [], 0, 0⟩ []
def noneX : Xp := .node ⟨1, 0, [], 0, 0⟩ []
/-- What becomes of a part: of a Seq (4), of a Choice (5). -/
def openS (t : Xp) : List Xp := if t.hd.kind = 4 then t.kids else if t.hd.kind = 0 then [] else [t]
def openC (t : Xp) : List Xp := if t.hd.kind = 5 then t.kids else [t]
def shut (h : Hd) (none : Xp) : List Xp → Xp
  | [] => none
  | [a] => a
  | a :: b :: l => .node h (a :: b :: l)
/-- A node, of parts that are normal. -/
def join (h : Hd) (l : List Xp) : Xp :=
  if h.kind = 4 then shut h emptyX (l.flatMap openS)
  else if h.kind = 5 then shut h noneX (l.flatMap openC)
  else .node h l
 mutual
def norm : Xp → Xp | .node h ks => join h (normL ks)
def normL : List Xp → List Xp | [] => [] | k :: ks => norm k :: normL ks
 end
theorem normL_eq (ks : List Xp) : normL ks = ks.map norm := by
  induction ks with
  | nil => rw [normL]; rfl
  | cons k ks ih => rw [normL, ih]; rfl
theorem norm_node (h : Hd) (ks : List Xp) : norm (.node h ks) = join h (ks.map norm) := by rw [norm, normL_eq]
/-- May a kid stand at such a node? -/
def nextB (h : Hd) (k : Xp) : Prop := (h.kind = 4 → k.hd.kind ≠ 4 ∧ k.hd.kind ≠ 0) ∧ (h.kind = 5 → k.hd.kind ≠ 5)
 mutual
def nrm : Xp → Prop | .node h ks => nrmL h ks
def nrmL (h : Hd) : List Xp → Prop | [] => True | k :: ks => (nextB h k ∧ nrm k) ∧ nrmL h ks
 end
theorem nrmL_iff {h : Hd} {ks : List Xp} : nrmL h ks ↔ ∀ k ∈ ks, nextB h k ∧ nrm k := by
  induction ks with
  | nil => rw [nrmL]; simp
  | cons k ks ih => rw [nrmL, ih]; simp
theorem nrm_iff {h : Hd} {ks : List Xp} : nrm (.node h ks) ↔ ∀ k ∈ ks, nextB h k ∧ nrm k := by rw [nrm, nrmL_iff]
theorem nrm_kids {x : Xp} (h : nrm x) : ∀ k ∈ x.kids, nextB x.hd k ∧ nrm k := by cases x; exact nrm_iff.1 h
theorem ok_kids {x : Xp} (h : okX x = true) : ∀ k ∈ x.kids, okX k = true := by cases x; exact (okX_iff.1 h).2
theorem ok_fits {x : Xp} (h : okX x = true) : fitsB x.hd x.kids.length = true := by cases x; exact (okX_iff.1 h).1
theorem emptyX_ok : okX emptyX = true := by rw [emptyX, okX_node, okL]; decide
theorem noneX_ok : okX noneX = true := by rw [noneX, okX_node, okL]; decide
theorem emptyX_nrm : nrm emptyX := nrm_iff.2 (by simp)
theorem noneX_nrm : nrm noneX := nrm_iff.2 (by simp)
theorem fits_more {h : Hd} {n m : Nat} (hk : h.kind = 4 ∨ h.kind = 5) (hf : fitsB h n = true) (hm : 2 ≤ m) : fitsB h m = true := by
  unfold fitsB at hf ⊢
  rcases hk with hk | hk <;> simp [hk, hm] at hf ⊢ <;> exact hf.1
theorem fits_seq {h : Hd} {n : Nat} (hk : h.kind = 4 ∨ h.kind = 5) (hf : fitsB h n = true) : 2 ≤ n := by
  unfold fitsB at hf
  rcases hk with hk | hk <;> simp [hk] at hf <;> exact hf.2
theorem openS_good {t : Xp} (ht : okX t = true ∧ nrm t) : ∀ k ∈ openS t, okX k = true ∧ nrm k ∧ k.hd.kind ≠ 4 ∧ k.hd.kind ≠ 0 := by
  intro k hk
  unfold openS at hk
  split at hk
  · next h4 => have := nrm_kids ht.2 k hk; exact ⟨ok_kids ht.1 k hk, this.2, this.1.1 h4⟩
  · split at hk
    · cases hk
    · simp at hk; subst hk; exact ⟨ht.1, ht.2, by assumption, by assumption⟩
theorem openC_good {t : Xp} (ht : okX t = true ∧ nrm t) : ∀ k ∈ openC t, okX k = true ∧ nrm k ∧ k.hd.kind ≠ 5 := by
  intro k hk
  unfold openC at hk
  split at hk
  · next h4 => have := nrm_kids ht.2 k hk; exact ⟨ok_kids ht.1 k hk, this.2, this.1.2 h4⟩
  · simp at hk; subst hk; exact ⟨ht.1, ht.2, by assumption⟩
theorem shut_good {h : Hd} {none : Xp} {l : List Xp} (hk : h.kind = 4 ∨ h.kind = 5) (hf : fitsB h 2 = true) (h0 : okX none = true ∧ nrm none) (hl : ∀ k ∈ l, okX k = true ∧ nrm k ∧ nextB h k) : okX (shut h none l) = true ∧ nrm (shut h none l) := by
  match l with
  | [] => exact h0
  | [a] => exact ⟨(hl a (by simp)).1, (hl a (by simp)).2.1⟩
  | a :: b :: l => exact ⟨okX_iff.2 ⟨fits_more hk hf (by simp), fun k hk => (hl k hk).1⟩, nrm_iff.2 fun k hk => ⟨(hl k hk).2.2, (hl k hk).2.1⟩⟩
/-- Of parts that are normal comes a normal tree. -/
theorem join_good {h : Hd} {l : List Xp} (hf : fitsB h l.length = true ∨ (h.kind = 4 ∨ h.kind = 5) ∧ fitsB h 2 = true) (hl : ∀ k ∈ l, okX k = true ∧ nrm k) : okX (join h l) = true ∧ nrm (join h l) := by
  unfold join
  have h2 : (h.kind = 4 ∨ h.kind = 5) → fitsB h 2 = true := fun hk => by
    rcases hf with hf | hf
    · exact fits_more hk hf (Nat.le_refl _)
    · exact hf.2
  split
  · next h4 =>
    refine shut_good (.inl h4) (h2 (.inl h4)) ⟨emptyX_ok, emptyX_nrm⟩ fun k hk => ?_
    obtain ⟨t, ht, hk⟩ := List.mem_flatMap.1 hk
    have := openS_good (hl t ht) k hk
    exact ⟨this.1, this.2.1, fun _ => this.2.2, fun h5 => by omega⟩
  · split
    · next h4 h5 =>
      refine shut_good (.inr h5) (h2 (.inr h5)) ⟨noneX_ok, noneX_nrm⟩ fun k hk => ?_
      obtain ⟨t, ht, hk⟩ := List.mem_flatMap.1 hk
      have := openC_good (hl t ht) k hk
      exact ⟨this.1, this.2.1, fun h => absurd h h4, fun _ => this.2.2⟩
    · next h4 h5 =>
      have hf' : fitsB h l.length = true := by
        rcases hf with hf | hf
        · exact hf
        · rcases hf.1 with h | h
          · exact absurd h h4
          · exact absurd h h5
      exact ⟨okX_iff.2 ⟨hf', fun k hk => (hl k hk).1⟩, nrm_iff.2 fun k hk => ⟨⟨fun h => absurd h h4, fun h => absurd h h5⟩, (hl k hk).2⟩⟩
theorem norm_good (x : Xp) : okX x = true → okX (norm x) = true ∧ nrm (norm x) := by
  induction x using Xp.ind with
  | h hd ks ih =>
    intro hok
    obtain ⟨hf, hk⟩ := okX_iff.1 hok
    rw [norm_node]
    refine join_good (.inl (by rw [List.length_map]; exact hf)) fun k hk' => ?_
    obtain ⟨a, ha, rfl⟩ := List.mem_map.1 hk'
    exact ih a ha (hk a ha)
theorem flat_self {l : List Xp} {f : Xp → List Xp} (h : ∀ k ∈ l, f k = [k]) : l.flatMap f = l := by
  induction l with
  | nil => rfl
  | cons a l ih => rw [List.flatMap_cons, h a (List.mem_cons_self ..), ih fun k hk => h k (List.mem_cons_of_mem _ hk)]; rfl
theorem join_self {h : Hd} {l : List Xp} (hf : fitsB h l.length = true) (hl : ∀ k ∈ l, nextB h k) : join h l = .node h l := by
  unfold join
  have hs : ∀ none, (h.kind = 4 ∨ h.kind = 5) → shut h none l = .node h l := fun none hk => by
    have := fits_seq hk hf
    match l, this with
    | a :: b :: l, _ => rfl
  split
  · next h4 =>
    rw [flat_self fun k hk => by have := (hl k hk).1 h4; unfold openS; rw [if_neg this.1, if_neg this.2]]
    exact hs _ (.inl h4)
  · split
    · next h5 =>
      rw [flat_self fun k hk => by have := (hl k hk).2 h5; unfold openC; rw [if_neg this]]
      exact hs _ (.inr h5)
    · rfl
theorem norm_self (x : Xp) : okX x = true → nrm x → norm x = x := by
  induction x using Xp.ind with
  | h hd ks ih =>
    intro hok hn
    obtain ⟨hf, hk⟩ := okX_iff.1 hok
    have hn := nrm_iff.1 hn
    rw [norm_node, show ks.map norm = ks from ?_]
    · exact join_self hf fun k hk => (hn k hk).1
    · conv => rhs; rw [← List.map_id ks]
      exact List.map_congr_left fun k hk' => ih k hk' (hk k hk') (hn k hk').2
theorem norm_norm {x : Xp} (h : okX x = true) : norm (norm x) = norm x := norm_self _ (norm_good x h).1 (norm_good x h).2
theorem shut_size (h : Hd) (none : Xp) (l : List Xp) (h1 : none.size = 1) : (shut h none l).size ≤ sizeL l + 1 := by
  match l with
  | [] => rw [shut, h1]; omega
  | [a] => rw [shut, sizeL_cons, sizeL_nil]; omega
  | a :: b :: l => rw [shut, Xp.size_node]; omega
theorem kids_size (x : Xp) : sizeL x.kids + 1 = x.size := by cases x; rw [Xp.size_node]; rfl
theorem flat_size {f : Xp → List Xp} (h : ∀ t, sizeL (f t) ≤ t.size) (l : List Xp) : sizeL (l.flatMap f) ≤ sizeL l := by
  induction l with
  | nil => simp [sizeL_nil]
  | cons a l ih => rw [List.flatMap_cons, sizeL_app, sizeL_cons]; have := h a; omega
theorem openS_size (t : Xp) : sizeL (openS t) ≤ t.size := by
  have := kids_size t
  unfold openS
  split
  · omega
  · split
    · rw [sizeL_nil]; omega
    · rw [sizeL_cons, sizeL_nil]; omega
theorem openC_size (t : Xp) : sizeL (openC t) ≤ t.size := by
  have := kids_size t
  unfold openC
  split
  · omega
  · rw [sizeL_cons, sizeL_nil]; omega
theorem join_size (h : Hd) (l : List Xp) : (join h l).size ≤ sizeL l + 1 := by
  have e1 : emptyX.size = 1 := by rw [emptyX, Xp.size_node, sizeL_nil]
  have e2 : noneX.size = 1 := by rw [noneX, Xp.size_node, sizeL_nil]
  unfold join
  split
  · exact Nat.le_trans (shut_size _ _ _ e1) (Nat.succ_le_succ (flat_size openS_size l))
  · split
    · exact Nat.le_trans (shut_size _ _ _ e2) (Nat.succ_le_succ (flat_size openC_size l))
    · rw [Xp.size_node]; omega
theorem norm_size (x : Xp) : (norm x).size ≤ x.size := by
  induction x using Xp.ind with
  | h hd ks ih =>
    rw [norm_node, Xp.size_node]
    refine Nat.le_trans (join_size _ _) (Nat.succ_le_succ ?_)
    induction ks with
    | nil => exact Nat.le_refl _
    | cons k ks ih2 => rw [List.map_cons, sizeL_cons, sizeL_cons]; exact Nat.add_le_add (ih k (List.mem_cons_self ..)) (ih2 fun a ha => ih a (List.mem_cons_of_mem _ ha))

/-! ### Paths -/
def kidX (ks : List Xp) (k : Int) : Option Xp := if 0 ≤ k then ks[k.toNat]? else none
def getX : Xp → List Int → Option Xp
  | x, [] => some x
  | .node _ ks, k :: p => match kidX ks k with | some y => getX y p | none => none
/-- The tree with another one at a path, not made normal. -/
def setX : Xp → List Int → Xp → Xp
  | _, [], y => y
  | .node h ks, k :: p, y => match kidX ks k with | some z => .node h (ks.set k.toNat (setX z p y)) | none => .node h ks
theorem getX_nil (x : Xp) : getX x [] = some x := by cases x; rfl
theorem getX_cons (x : Xp) (k : Int) (p : List Int) : getX x (k :: p) = (kidX x.kids k).bind fun y => getX y p := by
  cases x with | node hd ks => rw [getX]; show _ = (kidX ks k).bind _; cases kidX ks k <;> rfl
theorem setX_nil (x y : Xp) : setX x [] y = y := by cases x; rfl
theorem setX_cons {x z : Xp} {k : Int} {p : List Int} (y : Xp) (h : kidX x.kids k = some z) : setX x (k :: p) y = .node x.hd (x.kids.set k.toNat (setX z p y)) := by
  cases x with
  | node hd ks => rw [setX]; show (match kidX ks k with | some z => _ | none => _) = _; rw [show kidX ks k = some z from h]; rfl
theorem getX_app (p q : List Int) : ∀ x, getX x (p ++ q) = (getX x p).bind fun y => getX y q := by
  induction p with
  | nil => intro x; rw [getX_nil]; rfl
  | cons k p ih =>
    intro x
    rw [List.cons_append, getX_cons, getX_cons]
    cases kidX x.kids k with
    | none => rfl
    | some y => exact ih y
theorem kidX_mem {ks : List Xp} {k : Int} {z : Xp} (h : kidX ks k = some z) : 0 ≤ k ∧ k.toNat < ks.length ∧ ks[k.toNat]? = some z ∧ z ∈ ks := by
  unfold kidX at h
  split at h
  · exact ⟨by assumption, (List.getElem?_eq_some_iff.1 h).1, h, List.mem_of_getElem? h⟩
  · cases h
theorem getX_ok {p : List Int} : ∀ {x y : Xp}, okX x = true → getX x p = some y → okX y = true ∧ y.size ≤ x.size := by
  induction p with
  | nil => intro x y h e; rw [getX_nil] at e; injection e with e; subst e; exact ⟨h, Nat.le_refl _⟩
  | cons k p ih =>
    intro x y h e
    rw [getX_cons] at e
    cases hk : kidX x.kids k with
    | none => rw [hk] at e; cases e
    | some z =>
      rw [hk] at e
      have hm := (kidX_mem hk).2.2.2
      have := ih (ok_kids h z hm) e
      have h1 := size_le_of_mem hm
      have h2 := kids_size x
      exact ⟨this.1, by omega⟩
theorem getX_nrm {p : List Int} : ∀ {x y : Xp}, nrm x → getX x p = some y → nrm y := by
  induction p with
  | nil => intro x y h e; rw [getX_nil] at e; injection e with e; subst e; exact h
  | cons k p ih =>
    intro x y h e
    rw [getX_cons] at e
    cases hk : kidX x.kids k with
    | none => rw [hk] at e; cases e
    | some z => rw [hk] at e; exact ih (nrm_kids h z (kidX_mem hk).2.2.2).2 e
theorem sizeL_set {ks : List Xp} {n : Nat} {z y : Xp} (h : ks[n]? = some z) : sizeL (ks.set n y) + z.size = sizeL ks + y.size := by
  induction ks generalizing n with
  | nil => simp at h
  | cons a ks ih =>
    cases n with
    | zero => simp at h; subst h; rw [List.set_cons_zero, sizeL_cons, sizeL_cons]; omega
    | succ n => simp at h; rw [List.set_cons_succ, sizeL_cons, sizeL_cons]; have := ih h; omega
theorem setX_ok {p : List Int} {y : Xp} (hy : okX y = true) : ∀ {x z : Xp}, okX x = true → getX x p = some z → okX (setX x p y) = true ∧ (setX x p y).size ≤ x.size + y.size := by
  induction p with
  | nil => intro x z _ _; rw [setX_nil]; exact ⟨hy, by omega⟩
  | cons k p ih =>
    intro x z h e
    rw [getX_cons] at e
    cases hk : kidX x.kids k with
    | none => rw [hk] at e; cases e
    | some a =>
      rw [hk] at e
      obtain ⟨h0, hl, hg, hm⟩ := kidX_mem hk
      have h1 := ih (ok_kids h a hm) e
      rw [setX_cons y hk]
      constructor
      · refine okX_iff.2 ⟨by rw [List.length_set]; exact ok_fits h, fun b hb => ?_⟩
        rcases List.mem_or_eq_of_mem_set hb with hb | rfl
        · exact ok_kids h b hb
        · exact h1.1
      · rw [Xp.size_node]
        have h2 := sizeL_set (y := setX a p y) hg
        have h3 := kids_size x
        omega
/-- What is made normal within is made normal at all. -/
theorem norm_set {p : List Int} {y : Xp} (hy : okX y = true) : ∀ {x z : Xp}, okX x = true → getX x p = some z → norm (setX x p (norm y)) = norm (setX x p y) := by
  induction p with
  | nil => intro x z _ _; rw [setX_nil, setX_nil]; exact norm_norm hy
  | cons k p ih =>
    intro x z h e
    rw [getX_cons] at e
    cases hk : kidX x.kids k with
    | none => rw [hk] at e; cases e
    | some a =>
      rw [hk] at e
      obtain ⟨h0, hl, hg, hm⟩ := kidX_mem hk
      rw [setX_cons _ hk, setX_cons _ hk, norm_node, norm_node, List.map_set, List.map_set, ih (ok_kids h a hm) e]
theorem setX_app {p q : List Int} {y : Xp} : ∀ {x z : Xp}, getX x p = some z → setX x (p ++ q) y = setX x p (setX z q y) := by
  induction p with
  | nil => intro x z e; rw [getX_nil] at e; injection e with e; subst e; rw [setX_nil]; rfl
  | cons k p ih =>
    intro x z e
    rw [getX_cons] at e
    cases hk : kidX x.kids k with
    | none => rw [hk] at e; cases e
    | some a => rw [hk] at e; rw [List.cons_append, setX_cons _ hk, setX_cons _ hk, ih e]
theorem setX_same {p : List Int} : ∀ {x z : Xp}, getX x p = some z → setX x p z = x := by
  induction p with
  | nil => intro x z e; rw [getX_nil] at e; injection e with e; subst e; rw [setX_nil]
  | cons k p ih =>
    intro x z e
    rw [getX_cons] at e
    cases hk : kidX x.kids k with
    | none => rw [hk] at e; cases e
    | some a =>
      rw [hk] at e
      obtain ⟨h0, hl, hg, hm⟩ := kidX_mem hk
      rw [setX_cons _ hk, ih e]
      have : x.kids.set k.toNat a = x.kids := by
        apply List.ext_getElem?
        intro j
        rw [List.getElem?_set]
        split
        · next h => subst h; first | exact hg.symm | (split; · exact hg.symm
                                                      · omega)
        · rfl
      rw [this, Xp.eta]
/-- One step of what the program does: a node of kids that are made normal, one of them put anew. -/
theorem join_set {x a : Xp} {k : Int} {p : List Int} {y z : Xp} (hy : okX y = true) (hok : okX x = true) (hk : kidX x.kids k = some a) (e : getX a p = some z) :
    join x.hd ((x.kids.set k.toNat (norm (setX a p y))).map norm) = norm (setX x (k :: p) y) := by
  obtain ⟨h0, hl, hg, hm⟩ := kidX_mem hk
  have h1 := (setX_ok hy (ok_kids hok a hm) e).1
  rw [setX_cons _ hk, norm_node, List.map_set, List.map_set, norm_norm h1]
end Go.Proofs.YtcenjpaiehidjaaDoor

/- Sets of bytes as numbers below 2^256, and their four words: plain arithmetic, no program. -/
namespace Go.Proofs.YtcenjpaiehidjaaDoor
open Go.RowKit

/-- The word i of a set. -/
def w64 (s i : Nat) : Int := ((s / 2 ^ (64 * i) % 2 ^ 64 : Nat) : Int)
/-- A set as a value. -/
abbrev setV (s : Nat) : Value := .agg #[.int .u64 (w64 s 0), .int .u64 (w64 s 1), .int .u64 (w64 s 2), .int .u64 (w64 s 3)]
abbrev setC (s : Nat) : Obj := .cells #[.int .u64 (w64 s 0), .int .u64 (w64 s 1), .int .u64 (w64 s 2), .int .u64 (w64 s 3)] 54
def full : Nat := 2 ^ 256 - 1

theorem w64_nonneg (s i : Nat) : 0 ≤ w64 s i := by unfold w64; omega
theorem w64_lt (s i : Nat) : w64 s i < 18446744073709551616 := by unfold w64; omega
theorem w64_bit (s i j : Nat) (hj : j < 64) : (w64 s i).toNat.testBit j = s.testBit (64 * i + j) := by
  unfold w64
  rw [Int.toNat_natCast, Nat.testBit_mod_two_pow, Nat.testBit_div_two_pow, decide_eq_true hj, Bool.true_and, Nat.add_comm]
theorem lt_bit {s : Nat} (hs : s < 2 ^ 256) (i : Nat) (h : 256 ≤ i) : s.testBit i = false :=
  Nat.testBit_lt_two_pow (Nat.lt_of_lt_of_le hs (Nat.pow_le_pow_right (by decide) h))
/-- Two sets of the same bytes are one. -/
theorem set_ext {s t : Nat} (hs : s < 2 ^ 256) (ht : t < 2 ^ 256) (h : ∀ i, i < 256 → s.testBit i = t.testBit i) : s = t := by
  apply Nat.eq_of_testBit_eq
  intro i
  by_cases hi : i < 256
  · exact h i hi
  · rw [lt_bit hs i (by omega), lt_bit ht i (by omega)]
theorem words_ext {s t : Nat} (hs : s < 2 ^ 256) (ht : t < 2 ^ 256) (h0 : w64 s 0 = w64 t 0) (h1 : w64 s 1 = w64 t 1) (h2 : w64 s 2 = w64 t 2) (h3 : w64 s 3 = w64 t 3) : s = t := by
  apply set_ext hs ht
  intro i hi
  have key : ∀ k, w64 s k = w64 t k → ∀ j, j < 64 → s.testBit (64 * k + j) = t.testBit (64 * k + j) := fun k hk j hj => by rw [← w64_bit s k j hj, ← w64_bit t k j hj, hk]
  have e : i = 64 * (i / 64) + i % 64 := by omega
  rw [e]
  have hm : i % 64 < 64 := by omega
  have hq : i / 64 = 0 ∨ i / 64 = 1 ∨ i / 64 = 2 ∨ i / 64 = 3 := by omega
  rcases hq with hq | hq | hq | hq <;> rw [hq]
  · exact key 0 h0 _ hm
  · exact key 1 h1 _ hm
  · exact key 2 h2 _ hm
  · exact key 3 h3 _ hm
theorem setV_inj {s t : Nat} (hs : s < 2 ^ 256) (ht : t < 2 ^ 256) : setV s = setV t ↔ s = t := by
  constructor
  · intro h
    injection h with h
    simp only [Array.mk.injEq, List.cons.injEq, Value.int.injEq, true_and, and_true] at h
    exact words_ext hs ht h.1 h.2.1 h.2.2.1 h.2.2.2
  · rintro rfl; rfl
/-- A word is known by its bits. -/
theorem word_eq {x : Nat} (hx : x < 2 ^ 64) (s i : Nat) (h : ∀ j, j < 64 → x.testBit j = s.testBit (64 * i + j)) : (x : Int) = w64 s i := by
  unfold w64
  congr 1
  apply Nat.eq_of_testBit_eq
  intro j
  rw [Nat.testBit_mod_two_pow, Nat.testBit_div_two_pow]
  by_cases hj : j < 64
  · rw [h j hj, decide_eq_true hj, Bool.true_and, Nat.add_comm]
  · rw [Nat.testBit_lt_two_pow (Nat.lt_of_lt_of_le hx (Nat.pow_le_pow_right (by decide) (by omega))), decide_eq_false hj, Bool.false_and]
theorem w64_natlt (s i : Nat) : (w64 s i).toNat < 2 ^ 64 := by unfold w64; omega
theorem w64_cast (s i : Nat) : ((w64 s i).toNat : Int) = w64 s i := Int.toNat_of_nonneg (w64_nonneg s i)

theorem w64_or (a b i : Nat) : bits .or .u64 (w64 a i) (w64 b i) = w64 (a ||| b) i := by
  rw [u64_or _ _ (w64_nonneg _ _) (w64_lt _ _) (w64_nonneg _ _) (w64_lt _ _)]
  exact word_eq (Nat.or_lt_two_pow (w64_natlt _ _) (w64_natlt _ _)) _ _ fun j hj => by rw [Nat.testBit_or, w64_bit _ _ _ hj, w64_bit _ _ _ hj, Nat.testBit_or]
theorem w64_and (a b i : Nat) : bits .and .u64 (w64 a i) (w64 b i) = w64 (a &&& b) i := by
  rw [u64_and _ _ (w64_nonneg _ _) (w64_lt _ _) (w64_nonneg _ _) (w64_lt _ _)]
  exact word_eq (Nat.and_lt_two_pow _ (w64_natlt _ _)) _ _ fun j hj => by rw [Nat.testBit_and, w64_bit _ _ _ hj, w64_bit _ _ _ hj, Nat.testBit_and]
theorem mask_bit (x j : Nat) (hx : x < 2 ^ 64) (hj : j < 64) : (18446744073709551615 - x).testBit j = !x.testBit j := by
  have h := Nat.testBit_two_pow_sub_succ hx j
  rw [decide_eq_true hj, Bool.true_and] at h
  rw [← h]
  congr 1
  omega
theorem full_bit (j : Nat) : full.testBit j = decide (j < 256) := Nat.testBit_two_pow_sub_one 256 j
theorem w64_andNot (a b i : Nat) (hi : i < 4) : bits .andNot .u64 (w64 a i) (w64 b i) = w64 (a &&& (b ^^^ full)) i := by
  rw [u64_andNot _ _ (w64_nonneg _ _) (w64_lt _ _) (w64_nonneg _ _) (w64_lt _ _)]
  exact word_eq (Nat.and_lt_two_pow _ (by omega)) _ _ fun j hj => by
    rw [Nat.testBit_and, w64_bit _ _ _ hj, mask_bit _ _ (w64_natlt _ _) hj, w64_bit _ _ _ hj, Nat.testBit_and, Nat.testBit_xor, full_bit, decide_eq_true (show 64 * i + j < 256 by omega), Bool.xor_true]
theorem w64_not (a i : Nat) (hi : i < 4) : 18446744073709551615 - w64 a i = w64 (a ^^^ full) i := by
  have h : ((18446744073709551615 - (w64 a i).toNat : Nat) : Int) = w64 (a ^^^ full) i :=
    word_eq (by omega) _ _ fun j hj => by rw [mask_bit _ _ (w64_natlt _ _) hj, w64_bit _ _ _ hj, Nat.testBit_xor, full_bit, decide_eq_true (show 64 * i + j < 256 by omega), Bool.xor_true]
  have := w64_lt a i
  have := w64_cast a i
  omega

/-- A byte is in a set: as the program asks, and as the reference asks. -/
theorem shift_mod (s i : Nat) (b : Int) (h0 : 0 ≤ b) (h : b / 64 = i) : w64 s i / 2 ^ (b % 64).toNat % 2 = if s.testBit b.toNat then 1 else 0 := by
  obtain ⟨n, rfl⟩ := Int.eq_ofNat_of_zero_le h0
  have e1 : ((n : Int) % 64).toNat = n % 64 := by omega
  have e2 : n / 64 = i := by omega
  have e3 : n = 64 * i + n % 64 := by omega
  have hb := w64_bit s i (n % 64) (by omega)
  rw [← e3] at hb
  rw [e1, Int.toNat_natCast, ← hb, ← w64_cast s i, Int.toNat_natCast, Nat.testBit_eq_decide_div_mod_eq]
  generalize (w64 s i).toNat = x
  have hc : ((x : Int) / 2 ^ (n % 64) % 2) = ((x / 2 ^ (n % 64) % 2 : Nat) : Int) := by simp
  rw [hc]
  rcases Nat.mod_two_eq_zero_or_one (x / 2 ^ (n % 64)) with h | h <;> simp [h]
theorem and_one (x : Int) (h0 : 0 ≤ x) (h1 : x < 18446744073709551616) : bits .and .u64 x 1 = x % 2 := by
  rw [u64_and _ _ h0 h1 (by decide) (by decide)]
  show ((x.toNat &&& 1 : Nat) : Int) = _
  rw [nat_mask1]
  omega
theorem shift_lt (s i n : Nat) : 0 ≤ w64 s i / 2 ^ n ∧ w64 s i / 2 ^ n < 18446744073709551616 := by
  have h0 := w64_nonneg s i
  have h1 := w64_lt s i
  have hp : (0 : Int) < 2 ^ n := Int.pow_pos (by decide)
  exact ⟨Int.ediv_nonneg h0 (Int.le_of_lt hp), Int.lt_of_le_of_lt (Int.ediv_le_self _ h0) h1⟩
theorem has_prog (s i : Nat) (b : Int) (h0 : 0 ≤ b) (h : b / 64 = i) : (bits .and .u64 (w64 s i / 2 ^ (b % 64).toNat) 1 == 1) = s.testBit b.toNat := by
  have hl := shift_lt s i (b % 64).toNat
  rw [and_one _ hl.1 hl.2, shift_mod s i b h0 h]
  cases s.testBit b.toNat <;> rfl
theorem has_ref (s i : Nat) (b : Int) (h0 : 0 ≤ b) (h : b / 64 = i) : (w64 s i / 2 ^ (b % 64).toNat % 2 == 1) = s.testBit b.toNat := by
  rw [shift_mod s i b h0 h]
  cases s.testBit b.toNat <;> rfl

/-- The bit of a byte. -/
def bitOf (b : Int) : Nat := 2 ^ b.toNat
theorem bitOf_bit (b : Int) (j : Nat) : (bitOf b).testBit j = decide (b.toNat = j) := Nat.testBit_two_pow
theorem bitOf_lt (b : Int) (h : b < 256) : bitOf b < 2 ^ 256 := Nat.pow_lt_pow_right (by decide) (by omega)
theorem w64_same (s t i : Nat) (h : ∀ j, j < 64 → s.testBit (64 * i + j) = t.testBit (64 * i + j)) : w64 s i = w64 t i := by
  rw [← w64_cast s i]
  exact word_eq (w64_natlt s i) t i fun j hj => by rw [w64_bit s i j hj]; exact h j hj
theorem w64_or_other (s i : Nat) (b : Int) (h0 : 0 ≤ b) (h : b / 64 ≠ i) : w64 (s ||| bitOf b) i = w64 s i := by
  apply w64_same
  intro j hj
  rw [Nat.testBit_or, bitOf_bit, decide_eq_false (by omega), Bool.or_false]
theorem w64_bitOf (i : Nat) (b : Int) (h0 : 0 ≤ b) (h : b / 64 = i) : (2 : Int) ^ (b % 64).toNat = w64 (bitOf b) i := by
  have e : ((2 ^ (b % 64).toNat : Nat) : Int) = w64 (bitOf b) i := word_eq (Nat.pow_lt_pow_right (by decide) (by omega)) _ _ fun j hj => by
    rw [Nat.testBit_two_pow, bitOf_bit]
    by_cases hh : (b % 64).toNat = j
    · rw [decide_eq_true hh, decide_eq_true (by omega)]
    · rw [decide_eq_false hh, decide_eq_false (by omega)]
  rw [← e]
  simp
theorem w64_or_bit (s i : Nat) (b : Int) (h0 : 0 ≤ b) (h : b / 64 = i) : bits .or .u64 (w64 s i) (2 ^ (b % 64).toNat) = w64 (s ||| bitOf b) i := by
  rw [w64_bitOf i b h0 h, w64_or]
/-- Where a bit is not set, adding it is laying it. -/
theorem add_or (x k : Nat) (h : x.testBit k = false) : x + 2 ^ k = x ||| 2 ^ k := by
  have hd : x &&& 2 ^ k = 0 := by
    apply Nat.eq_of_testBit_eq
    intro j
    rw [Nat.testBit_and, Nat.testBit_two_pow, Nat.zero_testBit]
    by_cases hj : k = j
    · subst hj; rw [h, Bool.false_and]
    · rw [decide_eq_false hj, Bool.and_false]
  have hl : x < 2 ^ (x + k + 1) ∧ 2 ^ k < 2 ^ (x + k + 1) := ⟨Nat.lt_of_lt_of_le Nat.lt_two_pow_self (Nat.pow_le_pow_right (by decide) (by omega)), Nat.pow_lt_pow_right (by decide) (by omega)⟩
  have hs : x + 2 ^ k < 2 ^ (x + k + 1) := by
    have h1 : x < 2 ^ (x + k) := Nat.lt_of_lt_of_le Nat.lt_two_pow_self (Nat.pow_le_pow_right (by decide) (by omega))
    have h2 : 2 ^ k ≤ 2 ^ (x + k) := Nat.pow_le_pow_right (by decide) (by omega)
    rw [Nat.pow_succ]
    omega
  have := congrArg BitVec.toNat (BitVec.add_eq_or_of_and_eq_zero (BitVec.ofNat (x + k + 1) x) (BitVec.ofNat (x + k + 1) (2 ^ k)) (BitVec.eq_of_toNat_eq (by
    rw [BitVec.toNat_and, BitVec.toNat_ofNat, BitVec.toNat_ofNat, Nat.mod_eq_of_lt hl.1, Nat.mod_eq_of_lt hl.2, hd]; simp)))
  rw [BitVec.toNat_add, BitVec.toNat_or, BitVec.toNat_ofNat, BitVec.toNat_ofNat, Nat.mod_eq_of_lt hl.1, Nat.mod_eq_of_lt hl.2, Nat.mod_eq_of_lt hs] at this
  exact this
theorem w64_add_bit (s i : Nat) (b : Int) (h0 : 0 ≤ b) (h : b / 64 = i) (hn : s.testBit b.toNat = false) : w64 s i + 2 ^ (b % 64).toNat = w64 (s ||| bitOf b) i := by
  have hb := w64_bit s i (b % 64).toNat (by omega)
  rw [show 64 * i + (b % 64).toNat = b.toNat from by omega, hn] at hb
  rw [← w64_or_bit s i b h0 h]
  have hp : (2 : Int) ^ (b % 64).toNat = ((2 ^ (b % 64).toNat : Nat) : Int) := by simp
  have hp1 : 2 ^ (b % 64).toNat < 2 ^ 64 := Nat.pow_lt_pow_right (by decide) (by omega)
  rw [hp, u64_or _ _ (w64_nonneg _ _) (w64_lt _ _) (Int.natCast_nonneg _) (by omega), Int.toNat_natCast, ← add_or _ _ hb]
  have := w64_cast s i
  omega
theorem or_self_bit (s : Nat) (b : Int) (hn : s.testBit b.toNat = true) : s ||| bitOf b = s := by
  apply Nat.eq_of_testBit_eq
  intro j
  rw [Nat.testBit_or, bitOf_bit]
  by_cases hj : b.toNat = j
  · subst hj; rw [hn, Bool.true_or]
  · rw [decide_eq_false hj, Bool.or_false]
theorem or_bit_lt (s : Nat) (b : Int) (hs : s < 2 ^ 256) (h : b < 256) : s ||| bitOf b < 2 ^ 256 := Nat.or_lt_two_pow hs (bitOf_lt b h)

/-- The set of the bytes of which p holds. -/
def upTo (p : Nat → Bool) : Nat → Nat
  | 0 => 0
  | k + 1 => if p k then upTo p k ||| 2 ^ k else upTo p k
def ofPred (p : Nat → Bool) : Nat := upTo p 256
theorem upTo_bit (p : Nat → Bool) (k j : Nat) : (upTo p k).testBit j = (decide (j < k) && p j) := by
  induction k with
  | zero => simp [upTo]
  | succ k ih =>
    unfold upTo
    by_cases hk : j = k
    · subst hk
      by_cases hp : p j = true
      · rw [if_pos hp, Nat.testBit_or, Nat.testBit_two_pow_self, Bool.or_true, hp]; simp
      · rw [if_neg hp, ih]; simp [hp]
    · have e : decide (j < k + 1) = decide (j < k) := by rw [decide_eq_decide]; omega
      by_cases hp : p k = true
      · rw [if_pos hp, Nat.testBit_or, ih, Nat.testBit_two_pow, decide_eq_false (show ¬ k = j from fun h => hk h.symm), Bool.or_false, e]
      · rw [if_neg hp, ih, e]
theorem upTo_lt (p : Nat → Bool) (k : Nat) : upTo p k < 2 ^ k := by
  induction k with
  | zero => simp [upTo]
  | succ k ih =>
    unfold upTo
    have h1 : 2 ^ k < 2 ^ (k + 1) := Nat.pow_lt_pow_right (by decide) (by omega)
    split
    · exact Nat.or_lt_two_pow (Nat.lt_trans ih h1) h1
    · exact Nat.lt_trans ih h1
theorem ofPred_bit (p : Nat → Bool) (j : Nat) : (ofPred p).testBit j = (decide (j < 256) && p j) := upTo_bit p 256 j
theorem ofPred_lt (p : Nat → Bool) : ofPred p < 2 ^ 256 := upTo_lt p 256
theorem eq_ofPred {s : Nat} (hs : s < 2 ^ 256) {p : Nat → Bool} (h : ∀ i, i < 256 → s.testBit i = p i) : s = ofPred p :=
  set_ext hs (ofPred_lt p) fun i hi => by rw [h i hi, ofPred_bit, decide_eq_true hi, Bool.true_and]
end Go.Proofs.YtcenjpaiehidjaaDoor

/- What a walk carries of the world: some blocks whole, and that all below a number is as it was. -/
namespace Go.Proofs.YtcenjpaiehidjaaDoor
open Go.RowKit

theorem bcell {W w1 : World} (hb : Below W.heap.size W w1) : (∀ b o, b < W.heap.size → w1.cell? ⟨b, o, none⟩ = W.cell? ⟨b, o, none⟩) ∧ (∀ b o, b < W.heap.size → w1.frozen? ⟨b, o, none⟩ = W.frozen? ⟨b, o, none⟩) :=
  ⟨fun b o h => hb.cell (p := ⟨b, o, none⟩) h, fun b o h => hb.frozen (p := ⟨b, o, none⟩) h⟩
theorem ret_int {k : IntKind} {a b : Int} (h : a = b) : Ending.returned (.int k a) = .returned (.int k b) := by rw [h]
theorem ret_bool {a b : Bool} (h : a = b) : Ending.returned (.bool a) = .returned (.bool b) := by rw [h]

/-- The blocks of L hold what L says; below n all is as it was in w. -/
structure Inv (n : Nat) (w : World) (L : List (Nat × Obj)) (W : World) : Prop where
  below : Below n w W
  size : n ≤ W.heap.size
  blk : ∀ p ∈ L, W.heap[p.1]? = some p.2
theorem lt_of_heap {w : World} {b : Nat} {o : Obj} (h : w.heap[b]? = some o) : b < w.heap.size := by
  rw [Array.getElem?_eq_some_iff] at h; exact h.1
theorem Inv.start (w : World) : Inv w.heap.size w [] w := ⟨Below.refl _ _, Nat.le_refl _, fun _ h => by cases h⟩
theorem Inv.call {n : Nat} {w W W1 : World} {L : List (Nat × Obj)} (h : Inv n w L W) (hb : Below W.heap.size W W1) : Inv n w L W1 :=
  ⟨h.below.trans (hb.mono h.size), Nat.le_trans h.size hb.size, fun p hp => (hb.block _ (lt_of_heap (h.blk p hp))).trans (h.blk p hp)⟩
theorem Inv.drew {n : Nat} {w W : World} {L : List (Nat × Obj)} (h : Inv n w L W) : Inv n w L W.drew := ⟨h.below.drew, h.size, h.blk⟩
theorem Inv.drewN {n : Nat} {w W : World} {L : List (Nat × Obj)} (h : Inv n w L W) (m : Nat) : Inv n w L (W.drewN m) := ⟨below_drewN h.below _, h.size, h.blk⟩
theorem Inv.alloc {n : Nat} {w W : World} {L : List (Nat × Obj)} (h : Inv n w L W) (o : Obj) : Inv n w ((W.heap.size, o) :: L) (W.alloc o) :=
  ⟨h.below.alloc h.size o, by rw [World.size_alloc]; exact Nat.le_succ_of_le h.size, fun p hp => by
    rcases List.mem_cons.1 hp with rfl | hp
    · exact heap_alloc_new W o
    · exact (Below.heap_alloc W o _ (lt_of_heap (h.blk p hp))).trans (h.blk p hp)⟩
theorem Inv.sub {n : Nat} {w W : World} {L L' : List (Nat × Obj)} (h : Inv n w L W) (hL : ∀ p ∈ L', p ∈ L) : Inv n w L' W := ⟨h.below, h.size, fun p hp => h.blk p (hL p hp)⟩
/-- One block is turned: the first of the list. -/
theorem Inv.turn {n : Nat} {w W W1 : World} {L : List (Nat × Obj)} {g : Nat} {o o' : Obj} (h : Inv n w ((g, o) :: L) W) (hg : n ≤ g) (hn : ∀ p ∈ L, p.1 ≠ g) (h1 : W1.heap[g]? = some o') (h2 : ∀ k, k ≠ g → W1.heap[k]? = W.heap[k]?)
    (h3 : W1.heap.size = W.heap.size) (h4 : Below n w W → Below n w W1) : Inv n w ((g, o') :: L) W1 :=
  ⟨h4 h.below, by rw [h3]; exact h.size, fun p hp => by
    rcases List.mem_cons.1 hp with rfl | hp
    · exact h1
    · rw [h2 _ (hn p hp)]; exact h.blk p (List.mem_cons_of_mem _ hp)⟩
theorem Inv.at {n : Nat} {w W : World} {L : List (Nat × Obj)} {g : Nat} {o : Obj} (h : Inv n w L W) (hp : (g, o) ∈ L) : W.heap[g]? = some o := h.blk _ hp
theorem Inv.cell {n : Nat} {w W : World} {L : List (Nat × Obj)} {g j : Nat} {cs : Array Value} {t : TypeId} {fr : Nat × Nat} {v : Value} (h : Inv n w L W) (hp : (g, .cells cs t fr) ∈ L) (hv : cs[j]? = some v) : W.cell? ⟨g, j, none⟩ = some v :=
  (cell_of_row _ _ _ _ _ _ (h.at hp)).trans hv
theorem Inv.free {n : Nat} {w W : World} {L : List (Nat × Obj)} {g j : Nat} {cs : Array Value} {t : TypeId} (h : Inv n w L W) (hp : (g, .cells cs t (0, 0)) ∈ L) : W.frozen? ⟨g, j, none⟩ = false := frozen_of_row _ _ _ _ _ (h.at hp)
end Go.Proofs.YtcenjpaiehidjaaDoor

/- Inv, and one slice that the call itself has made and appends to. -/
namespace Go.Proofs.YtcenjpaiehidjaaDoor
open Go.RowKit

theorem addr_add (g j : Nat) : (⟨g, 0, none⟩ : Addr).add j = ⟨g, j, none⟩ := by unfold Addr.add; split <;> simp_all
/-- A type's row of the table. -/
structure ElemT (P : Program) (t e : TypeId) (z : Value) (size bytes : Nat) : Prop where
  slice : P.underlying t = some (.slice e)
  info : (P.info? e).map (fun i => (i.zero, i.size, i.bytes)) = some (some z, size, bytes)
  cells : z.cells.size = size
  pos : 0 < size

/-- The blocks of L lie below 'base'; the slice v owns the cells xs at or above it. -/
structure OInv (n : Nat) (w : World) (L : List (Nat × Obj)) (base : Nat) (e : TypeId) (size : Nat) (v : Value) (k : Nat) (xs : List Value) (W : World) : Prop where
  inv : Inv n w L W
  nb : n ≤ base
  hbase : base ≤ W.heap.size
  low : ∀ p ∈ L, p.1 < base
  own : W.ownsRow base e size v k xs
variable {n base k : Nat} {w W W1 : World} {L : List (Nat × Obj)} {e : TypeId} {size : Nat} {v : Value} {xs : List Value}
theorem ownsRow_below (h : W.ownsRow base e size v k xs) (hb : Below W.heap.size W W1) : W1.ownsRow base e size v k xs := by
  obtain ⟨h1, h2⟩ := h
  refine ⟨h1, h2.imp id ?_⟩
  rintro ⟨g, cap, cur, rfl, hg, hh, h3⟩
  exact ⟨g, cap, cur, rfl, hg, (hb.block g (lt_of_heap hh)).trans hh, h3⟩
theorem OInv.start (h : Inv n w L W) (hn : n ≤ W.heap.size) (hl : ∀ p ∈ L, p.1 < W.heap.size) : OInv n w L W.heap.size e size (.slice none 0 0) 0 [] W := ⟨h, hn, Nat.le_refl _, hl, World.ownsRow_nil _ _ _ _⟩
theorem OInv.call (h : OInv n w L base e size v k xs W) (hb : Below W.heap.size W W1) : OInv n w L base e size v k xs W1 :=
  ⟨h.inv.call hb, h.nb, Nat.le_trans h.hbase hb.size, h.low, ownsRow_below h.own hb⟩
theorem OInv.drew (h : OInv n w L base e size v k xs W) : OInv n w L base e size v k xs W.drew := ⟨h.inv.drew, h.nb, h.hbase, h.low, h.own⟩
theorem OInv.at {g : Nat} {o : Obj} (h : OInv n w L base e size v k xs W) (hp : (g, o) ∈ L) : W.heap[g]? = some o := h.inv.at hp
/-- 'out = append(out, x)': x lies in a new block of its own. -/
theorem app_one {P : Program} {t : TypeId} {z : Value} {bytes : Nat} {ops : Array Oper} {rest : List Oper} {o : Oper} {a : Act} {Q : Exit → Act → World → Prop} (hT : ElemT P t e z size bytes) (hgd : o.guard = none) (s x : Operand)
    (ho : o.op = .call { callee := .builtin .append, args := #[s, x], argTypes := #[t, t] }) (news : Array Value) (hs : a.eval s = v) (hx : a.eval x = .slice (some ⟨W.heap.size, 0, none⟩) 1 1) (hl : news.size = size) (h1 : news.all (·.oneCell') = true)
    (h : OInv n w L base e size v k xs W) (h63 : k + 1 ≤ maxLen) (hby : (k + 1) * bytes ≤ 140737488355328)
    (hk : ∀ v' W', OInv n w L base e size v' (k + 1) (xs ++ news.toList) W' → wpList P ops Q rest (a.put o.dst v') W') :
    wpList P ops Q (o :: rest) a (W.alloc (.cells news e)) := by
  obtain ⟨i, hi, hz, hsz, hb⟩ := info_parts hT.info
  have hnew : (W.alloc (.cells news e)).heap[W.heap.size]? = some (.cells news e) := heap_alloc_new W _
  refine wpList_append_own _ hgd s x t ho base e i z size bytes hT.slice hi hz hsz hb hT.cells hT.pos v k xs hs (ownsRow_below h.own ((Below.refl _ _).alloc (Nat.le_refl _) _)) ⟨W.heap.size, 0, none⟩ 1 1 news.toList hx (by simp [hl]) ?_ ?_ h63 hby (by rw [World.size_alloc]; exact Nat.le_succ_of_le h.hbase) ?_
  · intro j u hj
    rw [addr_add, cell_of_row _ _ _ _ _ _ hnew]
    simpa using hj
  · intro u hu
    exact (Array.all_eq_true_iff_forall_mem.1 h1) u (by simpa using hu)
  · intro v' W' hown hgr _
    have hrow : ∀ g, v.ownBlock = some g → base ≤ g := by
      intro g hg
      rcases h.own.2 with ⟨rfl, _⟩ | ⟨g', cap, cur, rfl, hb', _⟩
      · cases hg
      · cases hg; exact hb'
    have hI : Inv n w L (W.alloc (.cells news e)) := (h.inv.alloc _).sub fun p hp => List.mem_cons_of_mem _ hp
    refine hk v' W' ⟨⟨hI.below.grown hgr hI.size (fun g hg => Nat.le_trans h.nb (hrow g hg)), Nat.le_trans hI.size hgr.size, fun p hp => ?_⟩, h.nb, Nat.le_trans (Nat.le_trans h.hbase (by rw [World.size_alloc]; omega)) hgr.size, h.low, hown⟩
    rw [hgr.block p.1 (lt_of_heap (hI.blk p hp)) (fun hh => by have := hrow p.1 hh.symm; have := h.low p hp; omega)]
    exact hI.blk p hp

theorem foldl_push (bs : List UInt8) : ∀ r : ByteArray, (bs.map fun b : UInt8 => (b.toNat : Int)).foldl (fun r n => r.push (UInt8.ofNat n.toNat)) r = ⟨(r.data.toList ++ bs).toArray⟩ := by
  induction bs with
  | nil => intro r; simp
  | cons b bs ih =>
    intro r
    rw [List.map_cons, List.foldl_cons, ih]
    simp [ByteArray.push]
/-- 'string(b)' of a slice of bytes that the call owns. -/
theorem run_conv_str {P : Program} {t u e' : TypeId} (ht : P.underlying t = some (.slice e')) (hu : P.underlying u = some .string) (he : P.underlying e' = some (.int .u8)) {base : Nat} (bs : List UInt8) (hown : W.ownsRow base e 1 v k (bs.map fun b => .int .u8 (b.toNat : Int))) :
    (convert t u v).run P W = .ok (.string ⟨bs.toArray⟩) W := by
  obtain ⟨hlen, h2⟩ := hown
  rcases h2 with ⟨rfl, rfl⟩ | ⟨g, cap, cur, rfl, hg, hh, hc1, hc2, hc3, hc4⟩
  · have : bs = [] := by cases bs <;> simp_all
    subst this
    simp [convert, Sem.run_bind, run_underlying ht, run_underlying hu, run_underlying he, Conv.bytesToString, Sem.run_pure]
    rfl
  · have hl : (loadCells ⟨g, 0, none⟩ k).run P W = .ok ((bs.map fun b : UInt8 => (b.toNat : Int)).map (Value.int .u8)).toArray W := by
      have hk : k = (cur.toList.take (k * 1)).length := by rw [hc4, hlen, Nat.mul_one]
      have := run_loadCells_list (P := P) W ⟨g, 0, none⟩ (cur.toList.take (k * 1)) (fun j u hj => by
        rw [addr_add, cell_of_row _ _ _ _ _ _ hh]
        rw [List.getElem?_take] at hj
        split at hj
        · simpa using hj
        · cases hj)
      rw [← hk, hc4] at this
      rw [this]
      simp [Function.comp_def]
    have := run_bytesToString (P := P) W ⟨g, 0, none⟩ k cap _ hl
    rw [foldl_push] at this
    simp only [convert, Sem.run_bind, run_underlying ht, run_underlying hu, run_underlying he, Result.andThen_ok, this]
    simp
/-- 'string(b)' of a slice of bytes that the call owns. -/
theorem conv_str {P : Program} {t u e' : TypeId} {ops : Array Oper} {rest : List Oper} {o : Oper} {a : Act} {Q : Exit → Act → World → Prop} (ht : P.underlying t = some (.slice e')) (hu : P.underlying u = some .string) (he : P.underlying e' = some (.int .u8))
    (hgd : Region.wanted o (yielded ops a.tmps) = true) (x : Operand) (ho : o.op = .convert t u x) (hx : a.eval x = v) {base : Nat} (bs : List UInt8) (hown : W.ownsRow base e 1 v k (bs.map fun b => .int .u8 (b.toNat : Int)))
    (h : wpList P ops Q rest (a.put o.dst (.string ⟨bs.toArray⟩)) W) : wpList P ops Q (o :: rest) a W := by
  rw [wpList, if_pos hgd]
  refine .inl ?_
  have hr := run_conv_str (P := P) ht hu he bs hown
  unfold Oper.wp execOp
  simp only [ho, hx, Sem.run_bind, hr, Result.andThen_ok, Sem.run_pure]
  exact h
end Go.Proofs.YtcenjpaiehidjaaDoor
