/- Contract of set.Runs. -/
import Derived.Test.YtcpgbakdfogilaaDoorSetM
import Derived.Laws.OwnMore
namespace Go.Proofs.YtcpgbakdfogilaaDoor
open Go.RowKit Go.Shelf
set_option maxRecDepth 100000
attribute [local go_sem] Oper.semAt_some

/-- One byte more. -/
def addRun (out : List (Nat × Nat)) (b : Nat) : List (Nat × Nat) :=
  match out.getLast? with
  | some p => if p.2 + 1 = b then out.dropLast ++ [(p.1, b)] else out ++ [(b, b)]
  | none => [(b, b)]
def runsL (l : List UInt8) : List (Nat × Nat) := l.foldl (fun o c => addRun o c.toNat) []
def pairCells (l : List (Nat × Nat)) : List Value := l.flatMap fun p => [.int .u8 (p.1 : Int), .int .u8 (p.2 : Int)]
theorem pairCells_snoc (l : List (Nat × Nat)) (p : Nat × Nat) : pairCells (l ++ [p]) = pairCells l ++ [.int .u8 (p.1 : Int), .int .u8 (p.2 : Int)] := by simp [pairCells]
theorem pairCells_len (l : List (Nat × Nat)) : (pairCells l).length = l.length * 2 := by
  induction l with
  | nil => rfl
  | cons p l ih => simp [pairCells] at ih ⊢; omega
theorem runsL_snoc (l : List UInt8) (c : UInt8) : runsL (l ++ [c]) = addRun (runsL l) c.toNat := by simp [runsL]
theorem addRun_len (o : List (Nat × Nat)) (b : Nat) : (addRun o b).length ≤ o.length + 1 := by
  unfold addRun
  split
  · split <;> simp
  · simp
theorem runsL_len (l : List UInt8) : (runsL l).length ≤ l.length := by
  have : ∀ (l : List UInt8) o, (l.foldl (fun o c => addRun o c.toNat) o).length ≤ o.length + l.length := by
    intro l
    induction l with
    | nil => intro o; simp
    | cons c l ih => intro o; have := ih (addRun o c.toNat); have := addRun_len o c.toNat; simp; omega
  simpa [runsL] using this l []
theorem addRun_le (o : List (Nat × Nat)) (b : Nat) (hb : b < 256) (h : ∀ p ∈ o, p.1 < 256 ∧ p.2 < 256) : ∀ p ∈ addRun o b, p.1 < 256 ∧ p.2 < 256 := by
  unfold addRun
  split
  · rename_i p hp
    have hm := List.mem_of_getLast? hp
    split
    · intro q hq
      rcases List.mem_append.1 hq with hq | hq
      · exact h q (List.dropLast_subset _ hq)
      · simp at hq; subst hq; exact ⟨(h p hm).1, hb⟩
    · intro q hq
      rcases List.mem_append.1 hq with hq | hq
      · exact h q hq
      · simp at hq; subst hq; exact ⟨hb, hb⟩
  · intro q hq; simp at hq; subst hq; exact ⟨hb, hb⟩
theorem runsL_lt (l : List UInt8) : ∀ p ∈ runsL l, p.1 < 256 ∧ p.2 < 256 := by
  have : ∀ (l : List UInt8) o, (∀ p ∈ o, p.1 < 256 ∧ p.2 < 256) → ∀ p ∈ l.foldl (fun o c => addRun o c.toNat) o, p.1 < 256 ∧ p.2 < 256 := by
    intro l
    induction l with
    | nil => intro o h; exact h
    | cons c l ih => intro o h; exact ih _ (addRun_le o c.toNat c.toNat_lt h)
  exact this l [] (by simp)

theorem tPairs : ElemT Tryd.prog 34 36 (.agg #[.int .u8 0, .int .u8 0]) 2 2 := ⟨by kernel_rfl, by kernel_rfl, rfl, by decide⟩

theorem set_last (o : List (Nat × Nat)) (q : Nat × Nat) (b : Nat) : (pairCells (o ++ [q])).set (o.length * 2 + 1) (.int .u8 (b : Int)) = pairCells (o ++ [(q.1, b)]) := by
  rw [pairCells_snoc, pairCells_snoc, List.set_append_right _ _ (by rw [pairCells_len]; omega), pairCells_len, show o.length * 2 + 1 - o.length * 2 = 1 by omega]
  rfl
theorem cells_two_new (w : World) (t : TypeId) (u v : Value) : ∀ j x, [u, v][j]? = some x → (w.alloc (.cells #[u, v] t)).cell? ((⟨w.heap.size, 0, none⟩ : Addr).add j) = some x := by
  intro j x hj
  rw [addr_add, cell_of_row _ _ _ _ _ _ (heap_alloc_new w _)]
  match j, hj with
  | 0, hj => simpa using hj
  | 1, hj => simpa using hj

set_option maxHeartbeats 8000000 in
theorem runs_in (s : Nat) (w : World) (hT : Tb w) :
    CallsIn Fence.wide 3 Tryd.prog 25 #[setV s] w fun e W' => ∃ v, e = .returned v ∧ W'.ownsRow w.heap.size 36 2 v (runsL (bytesTo s 256)).length (pairCells (runsL (bytesTo s 256))) ∧ Below w.heap.size w W' := by
  obtain ⟨i0, hi, hz0, hz1, hz2⟩ := info_parts tPairs.info
  have hg := hT.pos
  refine callsIn_of_wp_marks Tryd.func25 rfl trivial ?_ rfl
  simp only [Tryd.ntmps25, List.size_toArray, List.length_cons, List.length_nil, Nat.reduceAdd, Nat.reduceSub, Array.replicate_succ, Array.replicate_zero, List.push_toArray, List.append_toArray, List.nil_append, List.cons_append]
  gi_wp2_with (refine ⟨trivial, ?_⟩; gi_at_call 51; refine (callsIn_wide.2 (iter_any _ _)).mono ?_; rintro e w' ⟨rfl, rfl⟩)
  have bO := Boxed.new (w.alloc (setC s)) 34 (.slice none 0 0)
  rw [World.size_alloc] at bO
  have hB0 : Below w.heap.size w (((w.alloc (setC s)).alloc (.cells #[.slice none 0 0] 34)).alloc (setC s)) := (((Below.refl _ w).alloc (Nat.le_refl _) _).alloc (by simp) _).alloc (by simp; omega) _
  have hC : (((w.alloc (setC s)).alloc (.cells #[.slice none 0 0] 34)).alloc (setC s)).heap[w.heap.size + 1 + 1]? = some (setC s) := by
    have := heap_alloc_new ((w.alloc (setC s)).alloc (.cells #[.slice none 0 0] 34)) (setC s)
    simpa using this
  refine wpIn_rangeFunc_ownG rfl (by decide) (gf := 66) (lb := #[.pointer (some ⟨w.heap.size + 1 + 1, 0, none⟩)]) rfl trivial (enters_of Tryd.func66 (by kernel_rfl) rfl)
    (all_stops (w.heap.size + 1 + 1) w.heap.size s _ hg hC (hT.keep hg hB0)) belowK_t (belowK_b (by simp; omega)) (Below.refl _ _) (fun _ => rfl)
    (fun pre W => (∃ v, Boxed W (w.heap.size + 1) 34 v ∧ W.ownsRow w.heap.size 36 2 v (runsL pre).length (pairCells (runsL pre)) ∧ True) ∧ Below w.heap.size w W)
    (fun _ _ _ => False)
    (OwnFrom.and (Own.from (holdsRow_own w.heap.size (w.heap.size + 1) 34 36 2 (fun pre : List UInt8 => (runsL pre).length) (fun pre => pairCells (runsL pre)) (fun _ _ => True)) _) (ownFrom_below (Nat.le_refl _) (by simp; omega)))
    (fun _ _ _ _ _ hs _ _ => hs)
    ⟨⟨_, bO.alloc _, World.ownsRow_nil _ _ _ _, trivial⟩, hB0⟩
    (fun x => { tmps := #[setV s, .pointer (some ⟨w.heap.size, 0, none⟩), .slice none 0 0, .pointer (some ⟨w.heap.size + 1, 0, none⟩), .int .u8 (x.toNat : Int), undef, setV s, .func (.func 66) #[] #[.pointer (some ⟨w.heap.size + 1 + 1, 0, none⟩)], .int .u8 (x.toNat : Int), undef, undef, undef, undef, undef, undef, undef, undef, undef, undef, undef, undef, undef, undef, undef, undef, undef, undef, undef, undef, undef, undef, undef, undef, undef, undef, undef, undef, undef, undef], defers := [] }) ?assign ?body ?done ?stop
  case assign =>
    intro l x W K hK
    gi_wp2
    exact hK
  case body =>
    rintro l pre x W ⟨⟨v, hv, hrow, -⟩, hB⟩ hlt
    have hc := hv.cell
    have hlen := runsL_len pre
    obtain ⟨b, hb⟩ : ∃ b : Nat, x.toNat = b := ⟨_, rfl⟩
    have hb256 : b < 256 := by rw [← hb]; exact x.toNat_lt
    have hsn := Lib.hid (runsL_snoc pre x)
    rw [hb] at hsn ⊢
    have hall := Lib.hid (runsL_lt pre)
    generalize runsL pre = o at *
    rcases List.eq_nil_or_concat o with rfl | ⟨o', q, rfl⟩
    · have hadd : addRun [] b = [(b, b)] := rfl
      rw [hadd] at hsn
      rw [List.length_nil] at hrow
      rcases hrow.2 with ⟨rfl, -⟩ | ⟨g, cap, cur, rfl, -⟩
      all_goals
        gi_wp2_with (gi_at_builtin; refine wpListIn_append_own _ rfl _ _ 34 rfl w.heap.size 36 i0 (.agg #[.int .u8 0, .int .u8 0]) 2 2 tPairs.slice hi hz0 hz1 hz2 rfl (by decide) _ _ _ rfl (hrow.alloc _) ⟨W.heap.size, 0, none⟩ 1 1 [.int .u8 (b : Int), .int .u8 (b : Int)] rfl rfl (cells_two_new _ _ _ _) (by simp [Value.oneCell']) (by unfold maxLen; omega) (by omega) (by have := hB.size; simp; omega) ?_; intro v' w1 hown' hgrow _; obtain ⟨g', cap', rfl⟩ := ownsRow_succ hown'; obtain ⟨hv1, hv2, hr2, hk2, hb2⟩ := hv.appended (by decide) hrow hB.size (by omega) hown' hgrow; have hc1 := hv1.cell; have hf1 := hv1.frozen)
        exact ⟨hk2.from _, hb2, ⟨_, hv2, by rw [hsn.out]; exact hr2, trivial⟩, hB.trans hb2⟩
    · rw [List.concat_eq_append] at hrow hlen hsn hall
      have hmlen : (o' ++ [q]).length = o'.length + 1 := by simp
      rw [hmlen] at hrow hlen
      obtain ⟨g, cap, rfl⟩ := ownsRow_succ hrow
      have hq := hall.out q (by simp)
      have hcell : W.cell? ⟨g, o'.length * 2 + 1, none⟩ = some (.int .u8 (q.2 : Int)) := by
        rw [hrow.cellAt _ (by omega), pairCells_snoc, List.getElem?_append_right (by rw [pairCells_len]; omega), pairCells_len, show o'.length * 2 + 1 - o'.length * 2 = 1 by omega]
        rfl
      have hgb : w.heap.size ≤ g := by
        rcases hrow.2 with ⟨h, _⟩ | ⟨g', _, _, h, hb', _⟩
        · cases h
        · cases h; exact hb'
      have hfree := hrow.frozenAt (o'.length * 2 + 1)
      by_cases hqb : q.2 + 1 = b
      · have hadd : addRun (o' ++ [q]) b = o' ++ [(q.1, b)] := by simp [addRun, hqb]
        rw [hadd] at hsn
        have hqb' : (q.2 : Int) + 1 = (b : Int) := by omega
        have Hq := Lib.hid hqb'
        have hbeq : ((q.2 : Int) + 1 == (b : Int)) = true := by simp [hqb']
        clear hqb hqb'
        gi_wp2
        have hst := hrow.stored (o'.length * 2 + 1) (.int .u8 (b : Int))
        rw [set_last] at hst
        have hl2 : (o' ++ [(q.1, b)]).length = o'.length + 1 := by simp
        exact ⟨(KeepsOthers.setCell _ _ _).from _, (Below.refl _ W).setCell (p := ⟨g, _, none⟩) hgb _, ⟨_, hv.kept hst.2 (hv.not_row (by decide) hrow), by rw [hsn.out, hl2]; exact hst.1, trivial⟩, hB.setCell (p := ⟨g, _, none⟩) hgb _⟩
      · have hadd : addRun (o' ++ [q]) b = (o' ++ [q]) ++ [(b, b)] := by simp [addRun, hqb]
        rw [hadd] at hsn
        have hbeq : ((q.2 : Int) + 1 == (b : Int)) = false := by simp; omega
        clear hqb
        gi_wp2_with (gi_at_builtin; refine wpListIn_append_own _ rfl _ _ 34 rfl w.heap.size 36 i0 (.agg #[.int .u8 0, .int .u8 0]) 2 2 tPairs.slice hi hz0 hz1 hz2 rfl (by decide) _ _ _ rfl (hrow.alloc _) ⟨W.heap.size, 0, none⟩ 1 1 [.int .u8 (b : Int), .int .u8 (b : Int)] rfl rfl (cells_two_new _ _ _ _) (by simp [Value.oneCell']) (by unfold maxLen; omega) (by omega) (by have := hB.size; simp; omega) ?_; intro v' w1 hown' hgrow _; obtain ⟨g', cap', rfl⟩ := ownsRow_succ hown'; obtain ⟨hv1, hv2, hr2, hk2, hb2⟩ := hv.appended (by decide) hrow hB.size (by omega) hown' hgrow; have hc1 := hv1.cell; have hf1 := hv1.frozen)
        have hl2 : ((o' ++ [q]) ++ [(b, b)]).length = o'.length + 1 + 1 := by simp
        exact ⟨hk2.from _, hb2, ⟨_, hv2, by rw [hsn.out, hl2, pairCells_snoc]; exact hr2, trivial⟩, hB.trans hb2⟩
  case done =>
    rintro D ys W hD rfl ⟨⟨v, hv, hrow, -⟩, hB⟩ hK
    have hc := hv.cell
    gi_wp2
    refine ⟨by simp, .inl ⟨_, _, rfl, run_takeDeferred hK, ?_⟩⟩
    exact ⟨_, results_tmp rfl _ _ _, v, rfl, ownsRow_putObj hrow _ hK rfl, hB.trans (belowK_b (w := w) (Nat.le_refl _) W D _ _ (by simp at hD; omega) hK rfl rfl)⟩
  case stop =>
    rintro D c pre W _ _ h _
    exact h.elim
/-- set.Runs. -/
theorem runs_any (s : Nat) (w : World) (hT : Tb w) :
    Calls Tryd.prog 25 #[setV s] w fun e w' => ∃ v, e = .returned v ∧ w'.ownsRow w.heap.size 36 2 v (runsL (bytesTo s 256)).length (pairCells (runsL (bytesTo s 256))) ∧ Below w.heap.size w w' := callsIn_wide.1 (runs_in s w hT)
end Go.Proofs.YtcpgbakdfogilaaDoor
