/- Contracts of set.List, Only, Compare. -/
import Derived.Test.YtcpgbakdfogilaaDoorSetL
namespace Go.Proofs.YtcpgbakdfogilaaDoor
open Go.RowKit Go.Shelf
set_option maxRecDepth 100000
attribute [local go_sem] Oper.semAt_some

theorem cells_snoc (l : List UInt8) (x : UInt8) : cellsOf l ++ [.int .u8 (x.toNat : Int)] = cellsOf (l ++ [x]) := by simp [cellsOf]
theorem Tb.pos {w : World} (h : Tb w) : 0 < w.heap.size := block_lt_of_cell (h 0 (by decide))

set_option maxHeartbeats 4000000 in
theorem list_in (s : Nat) (w : World) (hT : Tb w) :
    CallsIn Fence.wide 3 Tryd.prog 23 #[setV s] w fun e W' => e = .returned (.string (strOf (bytesTo s 256))) ∧ Below w.heap.size w W' := by
  obtain ⟨i0, hi, hz0, hz1, hz2⟩ := info_parts tBytes.info
  have hg := hT.pos
  refine callsIn_of_wp_marks Tryd.func23 rfl trivial ?_ rfl
  simp only [Tryd.ntmps23, List.size_toArray, List.length_cons, List.length_nil, Nat.reduceAdd, Nat.reduceSub, Array.replicate_succ, Array.replicate_zero, List.push_toArray, List.append_toArray, List.nil_append, List.cons_append]
  gi_wp2_with (refine ⟨trivial, ?_⟩; gi_at_call 51; refine (callsIn_wide.2 (iter_any _ _)).mono ?_; rintro e w' ⟨rfl, rfl⟩)
  have bO := Boxed.new (w.alloc (setC s)) 41 (.slice none 0 0)
  rw [World.size_alloc] at bO
  have hB0 : Below w.heap.size w (((w.alloc (setC s)).alloc (.cells #[.slice none 0 0] 41)).alloc (setC s)) := (((Below.refl _ w).alloc (Nat.le_refl _) _).alloc (by simp) _).alloc (by simp; omega) _
  have hC : (((w.alloc (setC s)).alloc (.cells #[.slice none 0 0] 41)).alloc (setC s)).heap[w.heap.size + 1 + 1]? = some (setC s) := by
    have := heap_alloc_new ((w.alloc (setC s)).alloc (.cells #[.slice none 0 0] 41)) (setC s)
    simpa using this
  refine wpIn_rangeFunc_ownG rfl (by decide) (gf := 66) (lb := #[.pointer (some ⟨w.heap.size + 1 + 1, 0, none⟩)]) rfl trivial (enters_of Tryd.func66 (by kernel_rfl) rfl)
    (all_stops (w.heap.size + 1 + 1) w.heap.size s _ hg hC (hT.keep hg hB0)) belowK_t (belowK_b (by simp; omega)) (Below.refl _ _) (fun _ => rfl)
    (fun pre W => (∃ v, Boxed W (w.heap.size + 1) 41 v ∧ W.ownsRow w.heap.size 5 1 v pre.length (cellsOf pre) ∧ True) ∧ Below w.heap.size w W)
    (fun _ _ _ => False)
    (OwnFrom.and (Own.from (holdsRow_own w.heap.size (w.heap.size + 1) 41 5 1 (fun pre : List UInt8 => pre.length) (fun pre => cellsOf pre) (fun _ _ => True)) _) (ownFrom_below (Nat.le_refl _) (by simp; omega)))
    (fun _ _ _ _ _ hs _ _ => hs)
    ⟨⟨_, bO.alloc _, World.ownsRow_nil _ _ _ _, trivial⟩, hB0⟩
    (fun x => { tmps := #[setV s, .pointer (some ⟨w.heap.size, 0, none⟩), .string ⟨#[]⟩, .pointer (some ⟨w.heap.size + 1, 0, none⟩), .int .u8 (x.toNat : Int), setV s, .func (.func 66) #[] #[.pointer (some ⟨w.heap.size + 1 + 1, 0, none⟩)], .int .u8 (x.toNat : Int), undef, undef, undef, undef, undef, undef], defers := [] }) ?assign ?body ?done ?stop
  case assign =>
    intro l x W K hK
    gi_wp2
    exact hK
  case body =>
    rintro l pre x W ⟨⟨v, hv, hrow, -⟩, hB⟩ hlt
    have hc := hv.cell
    gi_wp2_with (gi_at_builtin; refine wpListIn_append_own _ rfl _ _ 41 rfl w.heap.size 5 i0 (.int .u8 0) 1 1 tBytes.slice hi hz0 hz1 hz2 rfl (by decide) _ _ _ rfl (hrow.alloc _) ⟨W.heap.size, 0, none⟩ 1 1 [.int .u8 (x.toNat : Int)] rfl rfl (cell_one_new _ _ _) (by simp [Value.oneCell']) (by unfold maxLen; omega) (by omega) (by have := hB.size; simp; omega) ?_; intro v' w1 hown' hgrow _; obtain ⟨g', cap', rfl⟩ := ownsRow_succ hown'; obtain ⟨hv1, hv2, hr2, hk2, hb2⟩ := hv.appended (by decide) hrow hB.size (by omega) hown' hgrow; have hc1 := hv1.cell; have hf1 := hv1.frozen)
    exact ⟨hk2.from _, hb2, ⟨_, hv2, by rw [← cells_snoc, List.length_append]; exact hr2, trivial⟩, hB.trans hb2⟩
  case done =>
    rintro D ys W hD rfl ⟨⟨v, hv, hrow, -⟩, hB⟩ hK
    have hc := hv.cell
    have hconv := run_conv_str (P := Tryd.prog) tBytes.slice tyStr tyU8 _ hrow
    gi_wp2
    refine ⟨by simp, .inl ⟨_, _, rfl, run_takeDeferred hK, ?_⟩⟩
    exact ⟨_, results_tmp rfl _ _ _, rfl, hB.trans (belowK_b (w := w) (Nat.le_refl _) W D _ _ (by simp at hD; omega) hK rfl rfl)⟩
  case stop =>
    rintro D c pre W _ _ h _
    exact h.elim
/-- set.List. -/
theorem list_any (s : Nat) (w : World) (hT : Tb w) :
    Calls Tryd.prog 23 #[setV s] w fun e w' => e = .returned (.string (strOf (bytesTo s 256))) ∧ Below w.heap.size w w' := callsIn_wide.1 (list_in s w hT)

set_option maxHeartbeats 2000000 in
/-- set.Only: a set of one. -/
theorem only_yes (s : Nat) (b : UInt8) (h : bytesTo s 256 = [b]) (w : World) (hT : Tb w) :
    Calls Tryd.prog 13 #[setV s] w fun e w' => e = .returned (.tuple #[.int .u8 b.toNat, .bool true]) ∧ Below w.heap.size w w' := by
  have hI := (Inv.start w).alloc (setC s)
  replace hT := hT.alloc (setC s)
  have h1 : lenOf s = 1 := by unfold lenOf; rw [h]; rfl
  have Hl := Lib.hid h
  clear h
  have hs1 : (strOf [b]).size = 1 := rfl
  go_enter Tryd.func13, Tryd.ntmps13
  go_wp2_with (first | (go_at_call 21; refine (len_any _ _).mono ?_; rintro e W1 ⟨rfl, hb⟩; replace hI := hI.call hb; replace hT := hT.call hb; clear hb) | (go_at_call 23; refine (list_any _ _ hT).mono ?_; rw [Hl.out]; rintro e W1 ⟨rfl, hb⟩; replace hI := hI.call hb; replace hT := hT.call hb; clear hb) | (refine load_set rfl (.tmp 1) rfl w.heap.size s rfl (hI.at (by simp)) ?_))
  go_ret2
  exact ⟨rfl, hI.below⟩
set_option maxHeartbeats 2000000 in
/-- set.Only: a set of none, or of more. -/
theorem only_no (s : Nat) (h : lenOf s ≠ 1) (w : World) :
    Calls Tryd.prog 13 #[setV s] w fun e w' => e = .returned (.tuple #[.int .u8 0, .bool false]) ∧ Below w.heap.size w w' := by
  have hI := (Inv.start w).alloc (setC s)
  have h1 : ((lenOf s : Nat) : Int) ≠ 1 := by omega
  go_enter Tryd.func13, Tryd.ntmps13
  go_wp2_with (first | (go_at_call 21; refine (len_any _ _).mono ?_; rintro e W1 ⟨rfl, hb⟩; replace hI := hI.call hb; clear hb) | (refine load_set rfl (.tmp 1) rfl w.heap.size s rfl (hI.at (by simp)) ?_))
  go_ret2
  exact ⟨rfl, hI.below⟩
set_option maxHeartbeats 4000000 in
/-- set.Compare. -/
theorem compare_any (a b : Nat) (w : World) (hT : Tb w) :
    Calls Tryd.prog 31 #[setV a, setV b] w fun e w' => e = .returned (.int .i64 (cmpL (bytesTo a 256) (bytesTo b 256))) ∧ Below w.heap.size w w' := by
  have hI := ((Inv.start w).alloc (setC a)).alloc (setC b)
  rw [World.size_alloc] at hI
  replace hT := (hT.alloc (setC a)).alloc (setC b)
  obtain ⟨c0, c1, c2, c3, f0, f1, f2, f3⟩ := setB_facts (hI.at (g := w.heap.size) (o := setC a) (by simp))
  clear f0 f1 f2 f3
  obtain ⟨d0, d1, d2, d3, f0, f1, f2, f3⟩ := setB_facts (hI.at (g := w.heap.size + 1) (o := setC b) (by simp))
  clear f0 f1 f2 f3
  go_enter Tryd.func31, Tryd.ntmps31
  go_wp2_with fail
  go_region_held3 (fun w' => (w'.cell? ⟨w.heap.size, 0, none⟩ = some (.int .u64 (w64 a 0)) ∧ w'.cell? ⟨w.heap.size, 1, none⟩ = some (.int .u64 (w64 a 1)) ∧ w'.cell? ⟨w.heap.size, 2, none⟩ = some (.int .u64 (w64 a 2)) ∧ w'.cell? ⟨w.heap.size, 3, none⟩ = some (.int .u64 (w64 a 3))) ∧
      w'.cell? ⟨w.heap.size + 1, 0, none⟩ = some (.int .u64 (w64 b 0)) ∧ w'.cell? ⟨w.heap.size + 1, 1, none⟩ = some (.int .u64 (w64 b 1)) ∧ w'.cell? ⟨w.heap.size + 1, 2, none⟩ = some (.int .u64 (w64 b 2)) ∧ w'.cell? ⟨w.heap.size + 1, 3, none⟩ = some (.int .u64 (w64 b 3))) (go_keep)
    (first
      | (go_at_call 23; refine (list_any _ _ (by exact hT)).mono ?_; rintro e W1 ⟨rfl, hb⟩; (first | replace hI := hI.call hb | replace hI := hI.drew.call hb); (first | replace hT := hT.call hb | replace hT := hT.drew.call hb); obtain ⟨c0, c1, c2, c3, f0, f1, f2, f3⟩ := setB_facts (hI.at (g := w.heap.size) (o := setC a) (by simp)); obtain ⟨d0, d1, d2, d3, e0, e1, e2, e3⟩ := setB_facts (hI.at (g := w.heap.size + 1) (o := setC b) (by simp)); clear f0 f1 f2 f3 e0 e1 e2 e3 hb)
      | (go_at_call 55; refine (cmp_any _ _ _).mono ?_; rintro e W1 ⟨rfl, rfl⟩))
  go_wp2
  go_ret
  exact ⟨rfl, hI.below⟩
end Go.Proofs.YtcpgbakdfogilaaDoor
