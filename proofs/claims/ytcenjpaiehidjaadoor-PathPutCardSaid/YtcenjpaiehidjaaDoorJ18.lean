/- Contract of bonsailaw18.long, of a grammar without rules: where it says no, all is small. -/
import Derived.Test.YtcenjpaiehidjaaDoorJ8
import Derived.BigQuiet
import Derived.Test.YtcenjpaiehidjaaDoorJ17
import Derived.Deep.RegionHeldLaw
set_option linter.unusedSimpArgs false
set_option linter.unusedVariables false
namespace Go.Proofs.YtcenjpaiehidjaaDoor
open Go.RowKit
set_option maxRecDepth 100000

/-- A slice of slices of ints: how long each is. -/
def LensAt (W : World) (p : Option Addr) (pls : List (List Int)) : Prop :=
  pls ≠ [] → ∃ b o, p = some ⟨b, o, none⟩ ∧ ∀ (j : Nat) pl, pls[j]? = some pl → ∃ q c, W.cell? ⟨b, o + j, none⟩ = some (.slice q pl.length c)
def FewN (ns : List Nd) : Prop := ∀ nd ∈ ns, nd.kids.length < 1500
def FewT (ts : List Ar) : Prop := ∀ T ∈ ts, T.nodes.length < 1500 ∧ FewN T.nodes
def FewP (pls : List (List Int)) : Prop := ∀ pl ∈ pls, pl.length < 1500
theorem FewN.snoc {ns : List Nd} {k : Nat} {nd : Nd} (h : FewN (ns.take k)) (hnd : ns[k]? = some nd) (hl : nd.kids.length < 1500) : FewN (ns.take (k + 1)) := fun x hx => by
  rw [List.take_add_one, hnd] at hx
  rcases List.mem_append.1 hx with hx | hx
  · exact h x hx
  · obtain rfl : x = nd := by simpa using hx
    exact hl
theorem FewT.snoc {ts : List Ar} {k : Nat} {T : Ar} (h : FewT (ts.take k)) (hT : ts[k]? = some T) (hl : T.nodes.length < 1500) (hn : FewN T.nodes) : FewT (ts.take (k + 1)) := fun x hx => by
  rw [List.take_add_one, hT] at hx
  rcases List.mem_append.1 hx with hx | hx
  · exact h x hx
  · obtain rfl : x = T := by simpa using hx
    exact ⟨hl, hn⟩
theorem FewP.snoc {ps : List (List Int)} {k : Nat} {p : List Int} (h : FewP (ps.take k)) (hp : ps[k]? = some p) (hl : p.length < 1500) : FewP (ps.take (k + 1)) := fun x hx => by
  rw [List.take_add_one, hp] at hx
  rcases List.mem_append.1 hx with hx | hx
  · exact h x hx
  · obtain rfl : x = p := by simpa using hx
    exact hl
abbrev grO : Obj := .cells #[.slice none 0 0] 29

set_option maxHeartbeats 8000000 in
theorem long_none (ts : List Ar) (hts : ts.length ≤ 1000) (pls : List (List Int)) (hpls : pls.length ≤ 1000) (p : Option Addr) (cap : Nat) (pp : Option Addr) (cp : Nat) (w : World) (F : Nat → TypeId → Prop) (hN : TreesAt w F p ts) (hP : LensAt w pp pls) :
    Calls Tryd.prog 6 #[.agg #[.slice none 0 0], .slice p ts.length cap, .slice pp pls.length cp] w fun e w' => (∃ b, e = .returned (.bool b) ∧ (b = false → FewT ts ∧ FewP pls)) ∧ Below w.heap.size w w' := by
  have HN := Lib.hid hN
  have HP := Lib.hid hP
  have hI := (RInv.start noS w).alloc grO
  have g0 : (w.alloc grO).cell? ⟨w.heap.size, 0, none⟩ = some (.slice none 0 0) := hI.cell List.mem_cons_self rfl
  have hb := hI.below
  clear hN hP
  go_enter Tryd.func6, Tryd.ntmps6
  go_wp2
  go_loop [1, 7, 8] (fun v1 nv iv => v1 = .slice p ts.length cap ∧ nv = .int .i64 0 ∧ iv = .int .i64 0) (fun _ _ _ => 0)
  case atStart => exact ⟨rfl, rfl, rfl⟩
  case round =>
    obtain ⟨rfl, rfl, rfl⟩ := hrel
    go_wp2
    go_loop [7, 9] (fun nv iv => ∃ (m i : Nat), i ≤ pls.length ∧ m < 5000 ∧ nv = .int .i64 m ∧ iv = .int .i64 i ∧ Hid (m < 1500 → FewP (pls.take i))) (fun _ iv => pls.length - (intOf iv).toNat)
    case atStart => exact ⟨0, 0, by omega, by omega, rfl, rfl, Lib.hid fun _ x hx => by simp at hx⟩
    case round =>
      obtain ⟨m, i, hi, hm5, rfl, rfl, hF⟩ := hrel
      have hend : i < pls.length → m < 1500 ∨ Hid (m < 1500 → FewP pls) := fun _ => by
        by_cases h : m < 1500
        · exact .inl h
        · exact .inr (Lib.hid fun h2 => absurd h2 h)
      have hend2 : ¬ i < pls.length → Hid (m < 1500 → FewP pls) := fun h => Lib.hid fun h2 => by
        have h3 := hF.out h2
        rwa [List.take_of_length_le (by omega)] at h3
      rcases (show (i < pls.length ∧ m < 1500) ∨ (i < pls.length ∧ ¬ m < 1500 ∧ Hid (m < 1500 → FewP pls)) ∨ (¬ i < pls.length ∧ Hid (m < 1500 → FewP pls)) by
        by_cases h1 : i < pls.length
        · rcases hend h1 with h | h
          · exact .inl ⟨h1, h⟩
          · by_cases h2 : m < 1500
            · exact .inl ⟨h1, h2⟩
            · exact .inr (.inl ⟨h1, h2, h⟩)
        · exact .inr (.inr ⟨h1, hend2 h1⟩)) with ⟨hlt, hm⟩ | ⟨hlt, hm, hE⟩ | ⟨hlt, hE⟩
      · clear hend hend2
        obtain ⟨pl, hpl⟩ : ∃ pl, pls[i]? = some pl := ⟨_, List.getElem?_eq_getElem hlt⟩
        obtain ⟨bp, op, rfl, hpc⟩ := HP.out (by intro h; rw [h] at hlt; exact absurd hlt (by simp))
        obtain ⟨q, c, hc⟩ := hpc i pl hpl
        have hck := (hb.cell (p := ⟨bp, op + i, none⟩) (block_lt_of_cell hc)).trans hc
        have Hpl := Lib.hid hpl
        clear hpc hc hpl
        go_wp2
        have e1 : min (1500 : Int) (pl.length : Int) = ((min 1500 pl.length : Nat) : Int) := by omega
        rw [e1]
        refine ⟨⟨m + min 1500 pl.length, i + 1, by omega, by omega, rfl, rfl, Lib.hid fun h => (hF.out (by omega)).snoc Hpl.out (by omega)⟩, ?_⟩
        simp [intOf]; omega
      all_goals
        clear hend hend2 hF
        have HI0 := Lib.hid hI
        clear g0 hb
        go_wp2
        go_loopw [7, 10] (fun nv iv wr => ∃ (m i : Nat), i ≤ ts.length ∧ m < 5000 ∧ nv = .int .i64 m ∧ iv = .int .i64 i ∧ Hid (m < 1500 → FewT (ts.take i) ∧ FewP pls) ∧ Hid (RInv noS w [(w.heap.size, grO)] [] wr)) (fun _ iv _ => ts.length - (intOf iv).toNat)
        case atStart => exact ⟨m, 0, by omega, hm5, rfl, rfl, Lib.hid fun h => ⟨fun _ hx => by simp at hx, hE.out h⟩, HI0⟩
        case round =>
          clear HI0 hE hm5 hI
          obtain ⟨wo, rfl⟩ : ∃ wo : World, wo = wr := ⟨_, rfl⟩
          obtain ⟨m3, i3, hi3, hm3, rfl, rfl, hF3, HI⟩ := hrel
          by_cases hlt3 : i3 < ts.length
          · by_cases hq3 : m3 < 1500
            · obtain ⟨T, hT⟩ : ∃ T, ts[i3]? = some T := ⟨_, List.getElem?_eq_getElem hlt3⟩
              obtain ⟨b, o, rfl, _, htc⟩ := HN.out (by intro h; rw [h] at hlt3; exact absurd hlt3 (by simp))
              obtain ⟨q, c, hc0, hc1, hns⟩ := htc i3 T hT
              have HT := Lib.hid hT
              have Hc0 := Lib.hid hc0
              have Hns := Lib.hid hns
              clear hc1 hns hT hc0 htc
              go_wp2
              go_loopw [7, 11] (fun nv kv wr => ∃ (m k : Nat), k ≤ T.nodes.length ∧ k ≤ m ∧ m < 5000 ∧ nv = .int .i64 m ∧ kv = .int .i64 k ∧ Hid (m < 1500 → (FewT (ts.take i3) ∧ FewP pls) ∧ FewN (T.nodes.take k)) ∧ Hid (RInv noS w [(w.heap.size, grO)] [] wr)) (fun _ kv _ => T.nodes.length - (intOf kv).toNat)
              case atStart => exact ⟨m3 + 1, 0, by omega, by omega, by omega, by go_num, rfl, Lib.hid fun h => ⟨hF3.out (by omega), fun _ hx => by simp at hx⟩, HI⟩
              case round =>
                clear hF3 HI hm3 hq3
                obtain ⟨wm, rfl⟩ : ∃ wm : World, wm = wr := ⟨_, rfl⟩
                obtain ⟨m4, k, hk4, hkm, hm4, rfl, rfl, hF4, HI⟩ := hrel
                have t0 : wm.cell? ⟨b, o + i3 * 2, none⟩ = some (.slice q T.nodes.length c) := (HI.out.below.cell (p := ⟨b, o + i3 * 2, none⟩) (block_lt_of_cell Hc0.out)).trans Hc0.out
                by_cases hlt4 : k < T.nodes.length
                · by_cases hq4 : m4 < 1500
                  · obtain ⟨nd, hnd⟩ : ∃ nd, T.nodes[k]? = some nd := ⟨_, List.getElem?_eq_getElem hlt4⟩
                    obtain ⟨b2, o2, rfl, _, hcc⟩ := Hns.out (by intro h; rw [h] at hlt4; exact absurd hlt4 (by simp))
                    obtain ⟨qk, ck, hdok, hr, _⟩ := hcc k nd hnd
                    have c5 : wm.cell? ⟨b2, o2 + k * 9 + 5, none⟩ = some (.string (strOf nd.hd.text)) := (HI.out.below.cell (p := ⟨b2, o2 + k * 9 + 5, none⟩) (block_lt_of_cell (hr 5 _ rfl))).trans (hr 5 _ rfl)
                    have c8 : wm.cell? ⟨b2, o2 + k * 9 + 8, none⟩ = some (.slice qk nd.kids.length ck) := (HI.out.below.cell (p := ⟨b2, o2 + k * 9 + 8, none⟩) (block_lt_of_cell (hr 8 _ rfl))).trans (hr 8 _ rfl)
                    have Hnd := Lib.hid hnd
                    clear hcc hr hnd hdok
                    go_wp2
                    go_quiet (fail)
                    have e1 : min (1500 : Int) (nd.kids.length : Int) = ((min 1500 nd.kids.length : Nat) : Int) := by omega
                    have e2 : min (1500 : Int) ((strOf nd.hd.text).size : Int) / 20 = ((min 1500 (strOf nd.hd.text).size / 20 : Nat) : Int) := by omega
                    rw [e1, e2]
                    go_wp2
                    go_roundw
                    case rel =>
                      refine ⟨m4 + 1 + min 1500 nd.kids.length + min 1500 (strOf nd.hd.text).size / 20, k + 1, by omega, by omega, by omega, by go_num, by go_num, Lib.hid fun h => ?_, Lib.hid (HI.out.drewN _)⟩
                      obtain ⟨h1, h2⟩ := hF4.out (by omega)
                      exact ⟨h1, h2.snoc Hnd.out (by omega)⟩
                    case measure => simp [intOf]; omega
                  · go_wp2
                    go_roundw
                    case rel => exact ⟨m4, i3 + 1, by omega, hm4, rfl, by go_num, Lib.hid fun h => absurd h hq4, HI⟩
                    case measure => simp [intOf]; omega
                · go_wp2
                  go_roundw
                  case rel =>
                    refine ⟨m4, i3 + 1, by omega, hm4, rfl, by go_num, Lib.hid fun h => ?_, HI⟩
                    obtain ⟨⟨h1, h2⟩, h3⟩ := hF4.out h
                    rw [List.take_of_length_le (by omega)] at h3
                    exact ⟨h1.snoc HT.out (by omega) h3, h2⟩
                  case measure => simp [intOf]; omega
            · go_wp2
              exact bodyPost_ret (v := .bool true) (by simp [results, Tryd.results6, go_sem]; try omega) rfl ⟨⟨true, rfl, by simp⟩, HI.out.below⟩
          · by_cases hq3 : m3 < 1500
            · go_wp2
              refine bodyPost_ret (v := .bool false) (by simp [results, Tryd.results6, go_sem]; try omega) rfl ⟨⟨false, rfl, fun _ => ?_⟩, HI.out.below⟩
              obtain ⟨h1, h2⟩ := hF3.out hq3
              rw [List.take_of_length_le (by omega)] at h1
              exact ⟨h1, h2⟩
            · go_wp2
              exact bodyPost_ret (v := .bool true) (by simp [results, Tryd.results6, go_sem]; try omega) rfl ⟨⟨true, rfl, by simp⟩, HI.out.below⟩
end Go.Proofs.YtcenjpaiehidjaaDoor

/- The examples of bonsailaw18: the tree some() is made. -/
namespace Go.Proofs.YtcenjpaiehidjaaDoor
open Go.RowKit
set_option maxRecDepth 100000

/-! ### The trees of the examples -/
def leafX (k : Int) (l : List UInt8) : Xp := .node ⟨k, 0, l, 0, 0⟩ []
def ruleX (c : UInt8) : Xp := .node ⟨3, 0, [c], 0, 0⟩ []
def textX (c : UInt8) : Xp := .node ⟨2, 0, [c], 0, 0⟩ []
def choX : Xp := .node ⟨5, 0, [], 0, 0⟩ [ruleX 120, ruleX 121]
def someX : Xp := .node ⟨4, 0, [], 0, 0⟩ [textX 97, choX]
def pqX : Xp := .node ⟨4, 0, [], 0, 0⟩ [ruleX 112, ruleX 113]
def pqcX : Xp := .node ⟨4, 0, [], 0, 0⟩ [ruleX 112, ruleX 113, choX]
theorem ok_rule {c : UInt8} (h : letB c = true) : okX (ruleX c) = true := by
  have : fitsB ⟨3, 0, [c], 0, 0⟩ 0 = true := by
    simp [fitsB, mayL, h]
  exact okX_iff.2 ⟨this, by simp⟩

/-- Trees that lie in one new block. -/
def treeC (l : List (Option Addr × Nat × Ar)) : List Value := l.flatMap fun x => [.slice x.1 x.2.2.nodes.length x.2.1, .int .i64 x.2.2.root]
theorem treeC_get : ∀ (l : List (Option Addr × Nat × Ar)) (j : Nat) x, l[j]? = some x → (treeC l)[j * 2]? = some (.slice x.1 x.2.2.nodes.length x.2.1) ∧ (treeC l)[j * 2 + 1]? = some (.int .i64 x.2.2.root)
  | [], j, x, h => by simp at h
  | y :: l, 0, x, h => by
    obtain rfl : y = x := by simpa using h
    exact ⟨rfl, rfl⟩
  | y :: l, j + 1, x, h => by
    have h2 := treeC_get l j x (by simpa using h)
    have e : treeC (y :: l) = [.slice y.1 y.2.2.nodes.length y.2.1, .int .i64 y.2.2.root] ++ treeC l := rfl
    rw [e, List.getElem?_append_right (by simp; omega), List.getElem?_append_right (by simp; omega)]
    rw [show (j + 1) * 2 - [Value.slice y.1 y.2.2.nodes.length y.2.1, .int .i64 y.2.2.root].length = j * 2 by simp; omega, show (j + 1) * 2 + 1 - [Value.slice y.1 y.2.2.nodes.length y.2.1, .int .i64 y.2.2.root].length = j * 2 + 1 by simp; omega]
    exact h2
theorem trees_row {W : World} {g : Nat} {F : Nat → TypeId → Prop} (l : List (Option Addr × Nat × Ar)) (hg : W.heap[g]? = some (.cells (treeC l).toArray 24 (0, 0))) (h : ∀ x ∈ l, NodesAt W F x.1 x.2.2.nodes) : TreesAt W (fun _ _ => True) (some ⟨g, 0, none⟩) (l.map fun x => x.2.2) := fun _ => by
  refine ⟨g, 0, rfl, trivial, fun j T hj => ?_⟩
  rw [List.getElem?_map] at hj
  cases hx : l[j]? with
  | none => rw [hx] at hj; simp at hj
  | some x =>
    rw [hx] at hj
    obtain rfl : x.2.2 = T := by simpa using hj
    obtain ⟨h1, h2⟩ := treeC_get l j x hx
    refine ⟨x.1, x.2.1, ?_, ?_, (h x (List.mem_of_getElem? hx)).mono fun _ _ _ => trivial⟩
    · rw [cell_of_row _ _ _ _ _ _ hg, List.getElem?_toArray, Nat.zero_add]; exact h1
    · rw [cell_of_row _ _ _ _ _ _ hg, List.getElem?_toArray, Nat.zero_add]; exact h2
theorem ints_row {W : World} {g : Nat} (l : List Int) (hg : W.heap[g]? = some (.cells (intC l).toArray 3 (0, 0))) : IntsAt W (fun _ _ => True) (some ⟨g, 0, none⟩) l := fun _ => by
  refine ⟨g, 0, rfl, trivial, fun j k hj => ?_⟩
  rw [cell_of_row _ _ _ _ _ _ hg, List.getElem?_toArray, Nat.zero_add]
  simp [intC, hj]
theorem NodesAt.lay {W : World} {F : Nat → TypeId → Prop} {p : Option Addr} {ns : List Nd} (h : NodesAt W F p ns) (o : Obj) : NodesAt (W.alloc o) F p ns := h.below ((Below.refl _ _).alloc (Nat.le_refl _) o)

/-- A tree of its own, by its arena. -/
def GivesO (n : Nat) (w' : World) (e : Ending) (T : Ar) : Prop := ∃ p cap, e = .returned (arV p T.nodes.length cap T.root) ∧ NodesAt w' (Own n w') p T.nodes
theorem gives_o {n : Nat} {w' : World} {e : Ending} {x : Xp} {T : Ar} (h : GivesT n w' e x) (hT : clean x = T) : GivesO n w' e T := by
  subst hT
  obtain ⟨v, rfl, p, cap, rfl, hp⟩ := h
  exact ⟨p, cap, rfl, hp⟩
theorem ruleO (c : UInt8) (T : Ar) (hT : clean (ruleX c) = T) (W : World) : Calls Tryd.prog 24 #[.string ⟨#[c]⟩] W fun e w' => GivesO W.heap.size w' e T ∧ Below W.heap.size W w' :=
  (ruleT_any [c] W).mono fun _ _ h => ⟨gives_o h.1 hT, h.2⟩
theorem textO (c : UInt8) (T : Ar) (hT : clean (textX c) = T) (W : World) : Calls Tryd.prog 43 #[.string ⟨#[c]⟩] W fun e w' => GivesO W.heap.size w' e T ∧ Below W.heap.size W w' :=
  (textT_any [c] W).mono fun _ _ h => ⟨gives_o h.1 hT, h.2⟩
/-- bonsailaw18.of, of a Seq or a Choice, of parts by their arenas. -/
theorem ofO (k : Int) (hk : k = 4 ∨ k = 5) (ks : List Xp) (hok : ∀ x ∈ ks, okX x = true) (h2 : 2 ≤ ks.length) (hz : sizeL ks ≤ 99999) (Ts : List Ar) (hTs : ks.map clean = Ts) (T : Ar) (hT : clean (.node ⟨k, 0, [], 0, 0⟩ ks) = T) (n : Nat) (hn : ks.length = n) (p : Option Addr) (cap : Nat) (W : World) (F : Nat → TypeId → Prop) (hN : TreesAt W F p Ts) :
    Calls Tryd.prog 23 #[.agg #[.int .u8 k, .int .u64 0, .int .u64 0, .int .u64 0, .int .u64 0, .string ⟨#[]⟩, .int .i64 0, .int .i64 0, .slice none 0 0], .slice p n cap] W fun e w' => GivesO W.heap.size w' e T ∧ Below W.heap.size W w' := by
  subst hTs hn
  have hf : fitsB ⟨k, 0, [], 0, 0⟩ ks.length = true := by
    rcases hk with rfl | rfl <;> simp [fitsB, plainB] <;> omega
  have h := lawof_any ⟨k, 0, [], 0, 0⟩ (HdOk.mk' (by omega) (by decide)) none 0 0 ks hok hf hz p cap W F hN
  rw [ndZ_eq] at h
  exact h.mono fun _ _ h => ⟨gives_o h.1 hT, h.2⟩

abbrev two2 (p1 : Option Addr) (c1 : Nat) (T1 : Ar) (p2 : Option Addr) (c2 : Nat) (T2 : Ar) : Obj := .cells #[.slice p1 T1.nodes.length c1, .int .i64 T1.root, .slice p2 T2.nodes.length c2, .int .i64 T2.root] 24
theorem trees2 {W : World} {F G : Nat → TypeId → Prop} {p1 p2 : Option Addr} {c1 c2 : Nat} {T1 T2 : Ar} (h1 : NodesAt W F p1 T1.nodes) (h2 : NodesAt W G p2 T2.nodes) : TreesAt (W.alloc (two2 p1 c1 T1 p2 c2 T2)) (fun _ _ => True) (some ⟨W.heap.size, 0, none⟩) [T1, T2] := by
  have h := trees_row (W := W.alloc (two2 p1 c1 T1 p2 c2 T2)) (g := W.heap.size) (F := fun _ _ => True) [(p1, c1, T1), (p2, c2, T2)] (heap_alloc_new W _) (by
    intro x hx
    simp only [List.mem_cons, List.not_mem_nil, or_false] at hx
    rcases hx with rfl | rfl
    · exact (h1.mono fun _ _ _ => trivial).lay _
    · exact (h2.mono fun _ _ _ => trivial).lay _)
  exact h
abbrev three3 (p1 : Option Addr) (c1 : Nat) (T1 : Ar) (p2 : Option Addr) (c2 : Nat) (T2 : Ar) (p3 : Option Addr) (c3 : Nat) (T3 : Ar) : Obj := .cells #[.slice p1 T1.nodes.length c1, .int .i64 T1.root, .slice p2 T2.nodes.length c2, .int .i64 T2.root, .slice p3 T3.nodes.length c3, .int .i64 T3.root] 24
theorem trees3 {W : World} {F G K : Nat → TypeId → Prop} {p1 p2 p3 : Option Addr} {c1 c2 c3 : Nat} {T1 T2 T3 : Ar} (h1 : NodesAt W F p1 T1.nodes) (h2 : NodesAt W G p2 T2.nodes) (h3 : NodesAt W K p3 T3.nodes) : TreesAt (W.alloc (three3 p1 c1 T1 p2 c2 T2 p3 c3 T3)) (fun _ _ => True) (some ⟨W.heap.size, 0, none⟩) [T1, T2, T3] := by
  have h := trees_row (W := W.alloc (three3 p1 c1 T1 p2 c2 T2 p3 c3 T3)) (g := W.heap.size) (F := fun _ _ => True) [(p1, c1, T1), (p2, c2, T2), (p3, c3, T3)] (heap_alloc_new W _) (by
    intro x hx
    simp only [List.mem_cons, List.not_mem_nil, or_false] at hx
    rcases hx with rfl | rfl | rfl
    · exact (h1.mono fun _ _ _ => trivial).lay _
    · exact (h2.mono fun _ _ _ => trivial).lay _
    · exact (h3.mono fun _ _ _ => trivial).lay _)
  exact h

set_option maxHeartbeats 4000000 in
theorem lawsome_any (T : Ar) (hT : clean someX = T) (w : World) : Calls Tryd.prog 21 #[] w fun e w' => GivesO w.heap.size w' e T ∧ Below w.heap.size w w' := by
  have hI := (RInv.start noS w).alloc (arO none 0 0 0)
  obtain ⟨T1, hT1⟩ : ∃ T, clean (textX 97) = T := ⟨_, rfl⟩
  obtain ⟨T2, hT2⟩ : ∃ T, clean (ruleX 120) = T := ⟨_, rfl⟩
  obtain ⟨T3, hT3⟩ : ∃ T, clean (ruleX 121) = T := ⟨_, rfl⟩
  obtain ⟨T4, hT4⟩ : ∃ T, clean choX = T := ⟨_, rfl⟩
  have ok2 : okX (ruleX 120) = true := ok_rule (by decide)
  have ok3 : okX (ruleX 121) = true := ok_rule (by decide)
  have ok4 : okX choX = true := okX_iff.2 ⟨by decide, by intro k hk; simp only [List.mem_cons, List.not_mem_nil, or_false] at hk; rcases hk with rfl | rfl; exact ok2; exact ok3⟩
  have ok1 : okX (textX 97) = true := okX_iff.2 ⟨by decide, by simp⟩
  have z4 : sizeL [textX 97, choX] ≤ 99999 := by simp [sizeL_cons, choX, textX, ruleX, Xp.size, sizeL]
  have z3 : sizeL [ruleX 120, ruleX 121] ≤ 99999 := by simp [sizeL_cons, ruleX, Xp.size, sizeL]
  have C1 := Lib.hid (textO 97 T1 hT1)
  have C2 := Lib.hid (ruleO 120 T2 hT2)
  have C3 := Lib.hid (ruleO 121 T3 hT3)
  have C4 := Lib.hid (ofO 5 (.inr rfl) [ruleX 120, ruleX 121] (by intro k hk; simp only [List.mem_cons, List.not_mem_nil, or_false] at hk; rcases hk with rfl | rfl; exact ok2; exact ok3) (by decide) z3 [T2, T3] (by rw [List.map_cons, List.map_cons, hT2, hT3, List.map_nil]) T4 hT4 2 rfl)
  have C5 := Lib.hid (ofO 4 (.inl rfl) [textX 97, choX] (by intro k hk; simp only [List.mem_cons, List.not_mem_nil, or_false] at hk; rcases hk with rfl | rfl; exact ok1; exact ok4) (by decide) z4 [T1, T4] (by rw [List.map_cons, List.map_cons, hT1, hT4, List.map_nil]) T hT 2 rfl)
  clear hT hT1 hT2 hT3 hT4 ok1 ok2 ok3 ok4 z3 z4
  go_enter Tryd.func21, Tryd.ntmps21
  go_wp2_with (first
    | (go_at_call 43; refine (C1.out _).mono ?_; rintro e W1 ⟨⟨p1, c1, rfl, h1⟩, hb1⟩; have hI1 := hI.call hb1)
    | (go_at_call 24; have _k := hb2; refine (C3.out _).mono ?_; rintro e W3 ⟨⟨p3, c3, rfl, h3⟩, hb3⟩; have hI3 := (hI2.call hb3).alloc (two2 p2 c2 T2 p3 c3 T3); have q1 := NodesAt.lay ((h1.below hb2).below hb3) (two2 p2 c2 T2 p3 c3 T3); have hU3 := trees2 (c1 := c2) (c2 := c3) (h2.below hb3) h3)
    | (go_at_call 24; refine (C2.out _).mono ?_; rintro e W2 ⟨⟨p2, c2, rfl, h2⟩, hb2⟩; have hI2 := hI1.call hb2)
    | (go_at_call 23; refine (C5.out _ _ _ _ hU4).mono ?_; rintro e W5 ⟨⟨p5, c5, rfl, h5⟩, hb5⟩; have hI5 := (hI4.subL (L' := [(w.heap.size, arO none 0 0 0)]) (by simp)).call hb5)
    | (go_at_call 23; refine (C4.out _ _ _ _ hU3).mono ?_; rintro e W4 ⟨⟨p4, c4, rfl, h4⟩, hb4⟩; have hI4 := ((hI3.subL (L' := [(w.heap.size, arO none 0 0 0)]) (by simp)).call hb4).alloc (two2 p1 c1 T1 p4 c4 T4); have hU4 := trees2 (c1 := c1) (c2 := c4) (q1.below hb4) h4)
    | (refine rinv_row rfl _ _ _ rfl w.heap.size #[.slice none 0 0, .int .i64 0] #[.slice p5 T.nodes.length c5, .int .i64 T.root] 24 rfl rfl (by simp [Value.oneCell']) szTree rfl hI5 (.inl (by omega)) (by simp) ?_; intro W9 hI9 hg9; obtain ⟨d0, d1⟩ := box_cells hI9 List.mem_cons_self))
  have k3 := hI4.size
  exact bodyPost_ret (v := arV p5 T.nodes.length c5 T.root) (by simp [results, Tryd.results21, go_sem, d0, d1]) rfl ⟨⟨p5, c5, rfl, h5.turn (own_low hg9 (lt_of_heap (hI4.at (List.mem_cons_of_mem _ List.mem_cons_self))) k3)⟩, hI9.below⟩
end Go.Proofs.YtcenjpaiehidjaaDoor

/- The examples of bonsailaw18, function by function, at opaque arenas. -/
namespace Go.Proofs.YtcenjpaiehidjaaDoor
open Go.RowKit
set_option maxRecDepth 100000

def GetsQ (n : Nat) (w' : World) (e : Ending) (T : Ar) (b : Bool) : Prop := ∃ p cap, e = .returned (.tuple #[arV p T.nodes.length cap T.root, .bool b]) ∧ NodesAt w' (Own n w') p T.nodes
theorem gets_q {n : Nat} {w' : World} {e : Ending} {A : Option Xp} {T : Ar} {b : Bool} (h : GetsT n w' e A) (hT : arOf A = T) (hb : A.isSome = b) : GetsQ n w' e T b := by
  subst hT hb
  obtain ⟨p, cap, rfl, hp⟩ := gets_a h
  exact ⟨p, cap, rfl, hp⟩
theorem ok_some : okX someX = true := by
  have ok2 : okX (ruleX 120) = true := ok_rule (by decide)
  have ok3 : okX (ruleX 121) = true := ok_rule (by decide)
  have ok4 : okX choX = true := okX_iff.2 ⟨by decide, by intro k hk; simp only [List.mem_cons, List.not_mem_nil, or_false] at hk; rcases hk with rfl | rfl; exact ok2; exact ok3⟩
  have ok1 : okX (textX 97) = true := okX_iff.2 ⟨by decide, by simp⟩
  exact okX_iff.2 ⟨by decide, by intro k hk; simp only [List.mem_cons, List.not_mem_nil, or_false] at hk; rcases hk with rfl | rfl; exact ok1; exact ok4⟩
theorem size_some : someX.size = 5 := by simp [someX, choX, textX, ruleX, Xp.size, sizeL]
theorem get10 : getX someX [1, 0] = some (ruleX 120) := by simp [someX, choX, getX, kidX]
theorem get2 : getX someX [2] = none := by simp [someX, choX, getX, kidX]
theorem get1 : getX someX [1] = some choX := by simp [someX, choX, getX, kidX]
theorem get0 : getX someX [0] = some (textX 97) := by simp [someX, choX, getX, kidX]
theorem put_e : norm (setX someX [0] emptyX) = choX := by rfl
theorem put_pq : norm (setX someX [0] pqX) = pqcX := by rfl
theorem small_clean1 {x : Xp} (h : x.size ≤ 100000) : Small (clean x).nodes := small_one h
/-- path.At, of the examples' tree. -/
theorem atO (pl : List Int) (A : Option Xp) (hA : getX someX pl = A) (S T : Ar) (hS : clean someX = S) (hT : arOf A = T) (b : Bool) (hb : A.isSome = b) (hpl : pl.length ≤ 100000) (n : Nat) (hn : pl.length = n) (p : Option Addr) (cap : Nat) (q : Option Addr) (c : Nat) (W : World) (F G : Nat → TypeId → Prop) (hN : NodesAt W F p S.nodes) (hQ : IntsAt W G q pl) (hT2 : Tabs W) :
    Calls Tryd.prog 9 #[arV p S.nodes.length cap S.root, .slice q n c] W fun e w' => GetsQ W.heap.size w' e T b ∧ Below W.heap.size W w' := by
  subst hS hn
  have hz := size_some
  have k := at_any (clean someX).nodes someX (clean someX).root p cap (small_clean1 (by omega)) (clean_right ok_some) (sits_clean _) (by omega) pl hpl q c W F G hN hQ hT2.kids
  rw [hA] at k
  exact k.mono fun e w' h => ⟨gets_q h.1 hT hb, h.2⟩
/-- path.Put, of the examples' tree, of one that is right. -/
theorem putO (u R : Xp) (hu : okX u = true) (huz : u.size ≤ 1000) (hR : norm (setX someX [0] u) = R) (S U T : Ar) (hS : clean someX = S) (hU : clean u = U) (hT : clean R = T) (p : Option Addr) (cap : Nat) (q : Option Addr) (c : Nat) (pu : Option Addr) (cu : Nat) (W : World) (F G K : Nat → TypeId → Prop) (hN : NodesAt W F p S.nodes) (hQ : IntsAt W G q [0]) (hNu : NodesAt W K pu U.nodes) (hT2 : Tabs W) :
    Calls Tryd.prog 11 #[arV p S.nodes.length cap S.root, .slice q 1 c, arV pu U.nodes.length cu U.root] W fun e w' => GetsQ W.heap.size w' e T true ∧ Below W.heap.size W w' := by
  subst hS hU
  have hz := size_some
  have k := put_yes (clean someX).nodes someX (clean someX).root p cap (small_clean1 (by omega)) (clean_right ok_some) (sits_clean _) (clean u).nodes u (clean u).root pu cu (small_clean1 (by omega)) (clean_right hu) (sits_clean _) (by omega) [0] (by decide) (textX 97) get0 q c W F G K hN hNu hQ hT2
  rw [hR] at k
  exact k.mono fun e w' h => ⟨gets_q h.1 hT rfl, h.2⟩
theorem emptyO (T : Ar) (hT : clean emptyX = T) (W : World) : Calls Tryd.prog 22 #[] W fun e w' => GivesO W.heap.size w' e T ∧ Below W.heap.size W w' :=
  (emptyT_any W).mono fun _ _ h => ⟨gives_o h.1 hT, h.2⟩
/-- bonsairef04.Exact, of one arena twice. -/
theorem exactO (T : Ar) (hS : Small T.nodes) (p : Option Addr) (cap : Nat) (p' : Option Addr) (cap' : Nat) (W : World) (F G : Nat → TypeId → Prop) (hN : NodesAt W F p T.nodes) (hM : NodesAt W G p' T.nodes) :
    Calls Tryd.prog 13 #[arV p T.nodes.length cap T.root, arV p' T.nodes.length cap' T.root] W fun e w' => e = .returned (.bool true) ∧ Below W.heap.size W w' :=
  rexact_same T.nodes T.root hS p cap p' cap' W F G hN hM
abbrev intsO (l : List Int) : Obj := .cells (intC l).toArray 3
theorem ints1 (a : Int) (W : World) : IntsAt (W.alloc (.cells #[.int .i64 a] 3)) (fun _ _ => True) (some ⟨W.heap.size, 0, none⟩) [a] := ints_row [a] (heap_alloc_new W _)
theorem ints2 (a b : Int) (W : World) : IntsAt (W.alloc (.cells #[.int .i64 a, .int .i64 b] 3)) (fun _ _ => True) (some ⟨W.heap.size, 0, none⟩) [a, b] := ints_row [a, b] (heap_alloc_new W _)
/-- Trees that stay where they lie. -/
def Keeps (W : World) (l : List (Option Addr × Ar)) : Prop := ∀ x ∈ l, NodesAt W (fun _ _ => True) x.1 x.2.nodes
theorem Keeps.nil (W : World) : Keeps W [] := fun x hx => by simp at hx
theorem Keeps.cons {W : World} {l : List (Option Addr × Ar)} {F : Nat → TypeId → Prop} {p : Option Addr} {T : Ar} (h : NodesAt W F p T.nodes) (hl : Keeps W l) : Keeps W ((p, T) :: l) := fun x hx => by
  rcases List.mem_cons.1 hx with rfl | hx
  · exact h.mono fun _ _ _ => trivial
  · exact hl x hx
theorem Keeps.call {W W' : World} {l : List (Option Addr × Ar)} (h : Keeps W l) (hb : Below W.heap.size W W') : Keeps W' l := fun x hx => (h x hx).below hb
theorem Keeps.lay {W : World} {l : List (Option Addr × Ar)} (h : Keeps W l) (o : Obj) : Keeps (W.alloc o) l := h.call ((Below.refl _ _).alloc (Nat.le_refl _) o)
theorem Keeps.drew {W : World} {l : List (Option Addr × Ar)} (h : Keeps W l) : Keeps W.drew l := fun x hx => h x hx
end Go.Proofs.YtcenjpaiehidjaaDoor

/- bonsailaw18.works: the examples are as they are told. -/
namespace Go.Proofs.YtcenjpaiehidjaaDoor
open Go.RowKit
set_option maxRecDepth 100000

set_option maxHeartbeats 16000000 in
theorem works_any (w : World) (hTb : Tabs w) : Calls Tryd.prog 7 #[] w fun e w' => e = .returned (.bool true) ∧ Below w.heap.size w w' := by
  obtain ⟨S, hS⟩ : ∃ T, clean someX = T := ⟨_, rfl⟩
  obtain ⟨X, hX⟩ : ∃ T, clean (ruleX 120) = T := ⟨_, rfl⟩
  obtain ⟨N, hN⟩ : ∃ T, arOf none = T := ⟨_, rfl⟩
  obtain ⟨C, hC⟩ : ∃ T, clean choX = T := ⟨_, rfl⟩
  obtain ⟨E, hE⟩ : ∃ T, clean emptyX = T := ⟨_, rfl⟩
  obtain ⟨U1, hU1⟩ : ∃ T, clean (ruleX 112) = T := ⟨_, rfl⟩
  obtain ⟨U2, hU2⟩ : ∃ T, clean (ruleX 113) = T := ⟨_, rfl⟩
  obtain ⟨V, hV⟩ : ∃ T, clean pqX = T := ⟨_, rfl⟩
  obtain ⟨D, hD⟩ : ∃ T, clean pqcX = T := ⟨_, rfl⟩
  have okp : okX (ruleX 112) = true := ok_rule (by decide)
  have okq : okX (ruleX 113) = true := ok_rule (by decide)
  have ok2 : okX (ruleX 120) = true := ok_rule (by decide)
  have ok3 : okX (ruleX 121) = true := ok_rule (by decide)
  have okc : okX choX = true := okX_iff.2 ⟨by decide, by intro k hk; simp only [List.mem_cons, List.not_mem_nil, or_false] at hk; rcases hk with rfl | rfl; exact ok2; exact ok3⟩
  have okpq : okX pqX = true := okX_iff.2 ⟨by decide, by intro k hk; simp only [List.mem_cons, List.not_mem_nil, or_false] at hk; rcases hk with rfl | rfl; exact okp; exact okq⟩
  have CS := Lib.hid (lawsome_any S hS)
  have CA1 := Lib.hid (atO [1, 0] _ get10 S X hS hX true rfl (by decide) 2 rfl)
  have CA2 := Lib.hid (atO [2] _ get2 S N hS hN false rfl (by decide) 1 rfl)
  have CA3 := Lib.hid (atO [1] _ get1 S C hS hC true rfl (by decide) 1 rfl)
  have CE := Lib.hid (emptyO E hE)
  have CP1 := Lib.hid (putO emptyX choX (by decide) (by decide) put_e S E C hS hE hC)
  have CR1 := Lib.hid (ruleO 112 U1 hU1)
  have CR2 := Lib.hid (ruleO 113 U2 hU2)
  have CX := Lib.hid (ruleO 120 X hX)
  have CO := Lib.hid (ofO 4 (.inl rfl) [ruleX 112, ruleX 113] (by intro k hk; simp only [List.mem_cons, List.not_mem_nil, or_false] at hk; rcases hk with rfl | rfl; exact okp; exact okq) (by decide) (by decide) [U1, U2] (by rw [List.map_cons, List.map_cons, hU1, hU2, List.map_nil]) V hV 2 rfl)
  have CO3 := Lib.hid (ofO 4 (.inl rfl) [ruleX 112, ruleX 113, choX] (by intro k hk; simp only [List.mem_cons, List.not_mem_nil, or_false] at hk; rcases hk with rfl | rfl | rfl; exact okp; exact okq; exact okc) (by decide) (by decide) [U1, U2, C] (by rw [List.map_cons, List.map_cons, List.map_cons, hU1, hU2, hC, List.map_nil]) D hD 3 rfl)
  have CP2 := Lib.hid (putO pqX pqcX okpq (by decide) put_pq S V D hS hV hD)
  have SX : Hid (Small X.nodes) := Lib.hid (hX ▸ small_clean1 (by decide))
  have SC : Hid (Small C.nodes) := Lib.hid (hC ▸ small_clean1 (by decide))
  have SD : Hid (Small D.nodes) := Lib.hid (hD ▸ small_clean1 (by decide))
  have HT := Lib.hid hTb
  clear hS hX hN hC hE hU1 hU2 hV hD okp okq ok2 ok3 okc okpq hTb
  have hI := RInv.start noS w
  have hK := Keeps.nil w
  go_enter Tryd.func7, Tryd.ntmps7
  go_wp2_with (first
    | (go_at_call 11; refine (CP2.out p10 c10 _ _ p13 c13 _ _ _ _ (h10.below hb13) (hQ10.below hb13) h13 (HT.out.keep hI13.below)).mono ?_; rintro e W14 ⟨⟨p14, c14, rfl, h14⟩, hb14⟩; have hI14 := ((hI13.subL (L' := [(W9.heap.size, arO p9 C.nodes.length c9 C.root), (W6.heap.size, arO p6 C.nodes.length c6 C.root), (W2.heap.size, arO p2 X.nodes.length c2 X.root)]) (by simp)).call hb14).alloc (arO p14 D.nodes.length c14 D.root); have hK14 := ((hK13.call hb14).cons h14).lay (arO p14 D.nodes.length c14 D.root))
    | (go_at_call 23; refine (CO.out _ _ _ _ hU12).mono ?_; rintro e W13 ⟨⟨p13, c13, rfl, h13⟩, hb13⟩; have hI13 := hI12.call hb13; have hK13 := hK12.call hb13)
    | (go_at_call 24; have _k := hb11; refine (CR2.out _).mono ?_; rintro e W12 ⟨⟨p12, c12, rfl, h12⟩, hb12⟩; have hI12 := (hI11.call hb12).alloc (two2 p11 c11 U1 p12 c12 U2); have hK12 := (hK11.call hb12).lay (two2 p11 c11 U1 p12 c12 U2); have hU12 := trees2 (c1 := c11) (c2 := c12) (h11.below hb12) h12; replace h10 := ((h10.below hb11).below hb12).lay (two2 p11 c11 U1 p12 c12 U2); replace hQ10 := ((hQ10.below hb11).below hb12).below ((Below.refl _ _).alloc (Nat.le_refl _) (two2 p11 c11 U1 p12 c12 U2)))
    | (go_at_call 24; refine (CR1.out _).mono ?_; rintro e W11 ⟨⟨p11, c11, rfl, h11⟩, hb11⟩; have hI11 := hI10.call hb11; have hK11 := hK10.call hb11)
    | (go_at_call 21; refine (CS.out _).mono ?_; rintro e W10 ⟨⟨p10, c10, rfl, h10⟩, hb10⟩; have hI10 := (hI9.call hb10).alloc (.cells #[.int .i64 0] 3); have hK10 := (hK9.call hb10).lay (.cells #[.int .i64 0] 3); have hQ10 := ints1 0 W10; replace h10 := h10.lay (.cells #[.int .i64 0] 3))
    | (go_at_call 11; refine (CP1.out p7 c7 _ _ p8 c8 _ _ _ _ (h7.below hb8) (hQ7.below hb8) h8 (HT.out.keep hI8.below)).mono ?_; rintro e W9 ⟨⟨p9, c9, rfl, h9⟩, hb9⟩; have hI9 := ((hI8.subL (L' := [(W6.heap.size, arO p6 C.nodes.length c6 C.root), (W2.heap.size, arO p2 X.nodes.length c2 X.root)]) (by simp)).call hb9).alloc (arO p9 C.nodes.length c9 C.root); have hK9 := ((hK8.call hb9).cons h9).lay (arO p9 C.nodes.length c9 C.root))
    | (go_at_call 22; refine (CE.out _).mono ?_; rintro e W8 ⟨⟨p8, c8, rfl, h8⟩, hb8⟩; have hI8 := hI7.call hb8; have hK8 := hK7.call hb8)
    | (go_at_call 21; refine (CS.out _).mono ?_; rintro e W7 ⟨⟨p7, c7, rfl, h7⟩, hb7⟩; have hI7 := (hI6.call hb7).alloc (.cells #[.int .i64 0] 3); have hK7 := (hK6.call hb7).lay (.cells #[.int .i64 0] 3); have hQ7 := ints1 0 W7; replace h7 := h7.lay (.cells #[.int .i64 0] 3))
    | (go_at_call 9; refine (CA3.out p5 c5 _ _ _ _ _ h5 hQ5 (HT.out.keep hI5.below)).mono ?_; rintro e W6 ⟨⟨p6, c6, rfl, h6⟩, hb6⟩; have hI6 := ((hI5.subL (L' := [(W2.heap.size, arO p2 X.nodes.length c2 X.root)]) (by simp)).call hb6).alloc (arO p6 C.nodes.length c6 C.root); have hK6 := ((hK5.call hb6).cons h6).lay (arO p6 C.nodes.length c6 C.root))
    | (go_at_call 21; refine (CS.out _).mono ?_; rintro e W5 ⟨⟨p5, c5, rfl, h5⟩, hb5⟩; have hI5 := (hI4.call hb5).alloc (.cells #[.int .i64 1] 3); have hK5 := (hK4.call hb5).lay (.cells #[.int .i64 1] 3); have hQ5 := ints1 1 W5; replace h5 := h5.lay (.cells #[.int .i64 1] 3))
    | (go_at_call 9; refine (CA2.out p3 c3 _ _ _ _ _ h3 hQ3 (HT.out.keep hI3.below)).mono ?_; rintro e W4 ⟨⟨p4, c4, rfl, h4⟩, hb4⟩; have hI4 := ((hI3.subL (L' := [(W2.heap.size, arO p2 X.nodes.length c2 X.root)]) (by simp)).call hb4).alloc (arO p4 N.nodes.length c4 N.root); have hK4 := (hK3.call hb4).lay (arO p4 N.nodes.length c4 N.root))
    | (go_at_call 21; refine (CS.out _).mono ?_; rintro e W3 ⟨⟨p3, c3, rfl, h3⟩, hb3⟩; have hI3 := (hI2.call hb3).alloc (.cells #[.int .i64 2] 3); have hK3 := (hK2.call hb3).lay (.cells #[.int .i64 2] 3); have hQ3 := ints1 2 W3; replace h3 := h3.lay (.cells #[.int .i64 2] 3))
    | (go_at_call 9; refine (CA1.out p1 c1 _ _ _ _ _ h1 hQ1 (HT.out.keep hI1.below)).mono ?_; rintro e W2 ⟨⟨p2, c2, rfl, h2⟩, hb2⟩; have hI2 := ((hI1.subL (L' := []) (by simp)).call hb2).alloc (arO p2 X.nodes.length c2 X.root); have hK2 := ((hK1.call hb2).cons h2).lay (arO p2 X.nodes.length c2 X.root))
    | (go_at_call 21; refine (CS.out _).mono ?_; rintro e W1 ⟨⟨p1, c1, rfl, h1⟩, hb1⟩; have hI1 := (hI.call hb1).alloc (.cells #[.int .i64 1, .int .i64 0] 3); have hK1 := (hK.call hb1).lay (.cells #[.int .i64 1, .int .i64 0] 3); have hQ1 := ints2 1 0 W1; replace h1 := h1.lay (.cells #[.int .i64 1, .int .i64 0] 3)))
  have hI1 := hI14.drew
  have hK1 := hK14.drew
  go_region_held_law (fun w' => w'.cell? ⟨W2.heap.size, 0, none⟩ = some (.slice p2 X.nodes.length c2) ∧ w'.cell? ⟨W2.heap.size, 1, none⟩ = some (.int .i64 X.root) ∧ w'.cell? ⟨W6.heap.size, 0, none⟩ = some (.slice p6 C.nodes.length c6) ∧ w'.cell? ⟨W6.heap.size, 1, none⟩ = some (.int .i64 C.root) ∧ w'.cell? ⟨W9.heap.size, 0, none⟩ = some (.slice p9 C.nodes.length c9) ∧ w'.cell? ⟨W9.heap.size, 1, none⟩ = some (.int .i64 C.root) ∧ w'.cell? ⟨W14.heap.size, 0, none⟩ = some (.slice p14 D.nodes.length c14) ∧ w'.cell? ⟨W14.heap.size, 1, none⟩ = some (.int .i64 D.root))
    (first | exact ⟨(box_cells hI1 (List.mem_cons_of_mem _ (List.mem_cons_of_mem _ (List.mem_cons_of_mem _ List.mem_cons_self)))).1, (box_cells hI1 (List.mem_cons_of_mem _ (List.mem_cons_of_mem _ (List.mem_cons_of_mem _ List.mem_cons_self)))).2, (box_cells hI1 (List.mem_cons_of_mem _ (List.mem_cons_of_mem _ List.mem_cons_self))).1, (box_cells hI1 (List.mem_cons_of_mem _ (List.mem_cons_of_mem _ List.mem_cons_self))).2, (box_cells hI1 (List.mem_cons_of_mem _ List.mem_cons_self)).1, (box_cells hI1 (List.mem_cons_of_mem _ List.mem_cons_self)).2, (box_cells hI1 List.mem_cons_self).1, (box_cells hI1 List.mem_cons_self).2⟩ | exact ⟨(box_cells (hI1.alloc (three3 p18 c18 U1 p19 c19 U2 p6 c6 C)) (List.mem_cons_of_mem _ (List.mem_cons_of_mem _ (List.mem_cons_of_mem _ (List.mem_cons_of_mem _ List.mem_cons_self))))).1, (box_cells (hI1.alloc (three3 p18 c18 U1 p19 c19 U2 p6 c6 C)) (List.mem_cons_of_mem _ (List.mem_cons_of_mem _ (List.mem_cons_of_mem _ (List.mem_cons_of_mem _ List.mem_cons_self))))).2, (box_cells (hI1.alloc (three3 p18 c18 U1 p19 c19 U2 p6 c6 C)) (List.mem_cons_of_mem _ (List.mem_cons_of_mem _ (List.mem_cons_of_mem _ List.mem_cons_self)))).1, (box_cells (hI1.alloc (three3 p18 c18 U1 p19 c19 U2 p6 c6 C)) (List.mem_cons_of_mem _ (List.mem_cons_of_mem _ (List.mem_cons_of_mem _ List.mem_cons_self)))).2, (box_cells (hI1.alloc (three3 p18 c18 U1 p19 c19 U2 p6 c6 C)) (List.mem_cons_of_mem _ (List.mem_cons_of_mem _ List.mem_cons_self))).1, (box_cells (hI1.alloc (three3 p18 c18 U1 p19 c19 U2 p6 c6 C)) (List.mem_cons_of_mem _ (List.mem_cons_of_mem _ List.mem_cons_self))).2, (box_cells (hI1.alloc (three3 p18 c18 U1 p19 c19 U2 p6 c6 C)) (List.mem_cons_of_mem _ List.mem_cons_self)).1, (box_cells (hI1.alloc (three3 p18 c18 U1 p19 c19 U2 p6 c6 C)) (List.mem_cons_of_mem _ List.mem_cons_self)).2⟩)
    (first
    | (go_at_call 13; refine (exactO D SD.out p14 c14 p20 c20 _ _ _ (hK1 (p14, D) List.mem_cons_self) h20).mono ?_; rintro e W21 ⟨rfl, hb21⟩; replace hI1 := hI1.call hb21; replace hK1 := hK1.call hb21)
    | (go_at_call 23; refine (CO3.out _ _ _ _ hU19).mono ?_; rintro e W20 ⟨⟨p20, c20, rfl, h20⟩, hb20⟩; replace hI1 := ((hI1.alloc (three3 p18 c18 U1 p19 c19 U2 p6 c6 C)).call hb20).subL (L' := [(W14.heap.size, arO p14 D.nodes.length c14 D.root), (W9.heap.size, arO p9 C.nodes.length c9 C.root), (W6.heap.size, arO p6 C.nodes.length c6 C.root), (W2.heap.size, arO p2 X.nodes.length c2 X.root)]) (fun p hp => List.mem_cons_of_mem _ hp); replace hK1 := (hK1.lay (three3 p18 c18 U1 p19 c19 U2 p6 c6 C)).call hb20)
    | (go_at_call 24; have _k := hb18; refine (CR2.out _).mono ?_; rintro e W19 ⟨⟨p19, c19, rfl, h19⟩, hb19⟩; replace hI1 := hI1.call hb19; replace hK1 := hK1.call hb19; have hU19 := trees3 (c1 := c18) (c2 := c19) (c3 := c6) (h18.below hb19) h19 (hK1 (p6, C) (List.mem_cons_of_mem _ (List.mem_cons_of_mem _ List.mem_cons_self))))
    | (go_at_call 24; have _k := hb17; refine (CR1.out _).mono ?_; rintro e W18 ⟨⟨p18, c18, rfl, h18⟩, hb18⟩; replace hI1 := hI1.call hb18; replace hK1 := hK1.call hb18)
    | (go_at_call 13; have _k := hb16; refine (exactO C SC.out p9 c9 p6 c6 _ _ _ (hK1 (p9, C) (List.mem_cons_of_mem _ List.mem_cons_self)) (hK1 (p6, C) (List.mem_cons_of_mem _ (List.mem_cons_of_mem _ List.mem_cons_self)))).mono ?_; rintro e W17 ⟨rfl, hb17⟩; replace hI1 := hI1.call hb17; replace hK1 := hK1.call hb17)
    | (go_at_call 13; refine (exactO X SX.out p2 c2 p15 c15 _ _ _ (hK1 (p2, X) (List.mem_cons_of_mem _ (List.mem_cons_of_mem _ (List.mem_cons_of_mem _ List.mem_cons_self)))) h15).mono ?_; rintro e W16 ⟨rfl, hb16⟩; replace hI1 := hI1.call hb16; replace hK1 := hK1.call hb16)
    | (go_at_call 24; refine (CX.out _).mono ?_; rintro e W15 ⟨⟨p15, c15, rfl, h15⟩, hb15⟩; replace hI1 := hI1.call hb15; replace hK1 := hK1.call hb15))
  all_goals
    go_wp2
    exact bodyPost_ret (v := .bool true) (by simp [results, Tryd.results7, go_sem]) rfl ⟨rfl, hI1.below⟩
end Go.Proofs.YtcenjpaiehidjaaDoor
