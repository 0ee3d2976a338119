/- Contracts of the functions on sets that go over words: power, Has, with, each and what is made of it. -/
import Derived.Test.YtcpgbakdfogilaaDoorRows
import Derived.Test.YtcpgbakdfogilaaDoorSetPure
import Derived.Test.YtcpgbakdfogilaaDoorInv
import Derived.WalkKit
import Derived.WalkSpells
import Derived.WalkLawsBesides
import Derived.StillTactics
import Derived.StillTailTactics
import Derived.Deep.RegionHeld3
import Derived.Deep.QuietTactic
import Derived.BigQuiet
import Derived.BigRegion
import Derived.RegionTactic
import Derived.IntWalk
import Derived.Outline
import Derived.Laws.CopyOwn
import Derived.Laws.Tables
import Derived.Lib.Hide
namespace Go.Proofs.YtcpgbakdfogilaaDoor
open Go.RowKit

theorem pow_step (k : Nat) (h : k < 63) : IntKind.u64.wrap (2 ^ k * 2) = 2 ^ (k + 1) := by
  have h1 : (2 : Int) ^ k * 2 = 2 ^ (k + 1) := (Int.pow_succ 2 k).symm
  have h2 : (2 : Nat) ^ (k + 1) < 2 ^ 64 := Nat.pow_lt_pow_right (by decide) (by omega)
  have h3 : ((2 ^ (k + 1) : Nat) : Int) = 2 ^ (k + 1) := by simp
  rw [h1, ← h3]
  generalize 2 ^ (k + 1) = x at h2
  simp only [IntKind.wrap, IntKind.bits, IntKind.signed, Bool.false_and, Bool.false_eq_true, if_false]
  omega

/-- bonsairef01.power. -/
theorem power_any (n : Int) (h0 : 0 ≤ n) (h : n < 64) (w : World) :
    Calls Tryd.prog 49 #[.int .i64 n] w fun e w' => e = .returned (.int .u64 (2 ^ n.toNat)) ∧ w' = w := by
  go_enter Tryd.func49, Tryd.ntmps49
  go_wp2
  go_loop [3, 4] (fun p i => ∃ k : Nat, k ≤ n.toNat ∧ i = .int .i64 k ∧ p = .int .u64 (2 ^ k)) (fun _ i => n.toNat - (intOf i).toNat)
  case atStart => exact ⟨0, Nat.zero_le _, rfl, rfl⟩
  case round =>
    obtain ⟨k, hk, rfl, rfl⟩ := hrel
    by_cases hlt : (k : Int) < n
    · go_wp2
      go_round
      case rel => exact ⟨k + 1, by omega, by go_num, by rw [pow_step k (by omega)]⟩
      case measure => simp [intOf]; omega
    · go_wp2
      go_ret
      exact ⟨ret_int (by congr 1; omega), rfl⟩

/-- set.Has. -/
theorem has_any (s : Nat) (b : Int) (h0 : 0 ≤ b) (h : b < 256) (w : World) :
    Calls Tryd.prog 19 #[setV s, .int .u8 b] w fun e w' => e = .returned (.bool (s.testBit b.toNat)) ∧ Below w.heap.size w w' := by
  have hq : b / 64 = (0 : Nat) ∨ b / 64 = (1 : Nat) ∨ b / 64 = (2 : Nat) ∨ b / 64 = (3 : Nat) := by omega
  rcases hq with hq | hq | hq | hq
  all_goals
    have e := has_prog s _ b h0 hq
    go_enter Tryd.func19, Tryd.ntmps19
    go_wp2
    go_ret
    exact ⟨rfl, (Below.refl _ _).alloc (Nat.le_refl _) _⟩

/-- The sums of the reference's functions, as a drawn region leaves them. -/
theorem quo_u64 (s i n : Nat) : IntKind.u64.wrap ((w64 s i).tdiv (2 ^ n)) = w64 s i / 2 ^ n := by
  have hp : (0 : Int) < 2 ^ n := Int.pow_pos (by decide)
  have h0 := w64_nonneg s i
  have h1 := w64_lt s i
  exact IntWalk.u64_quo _ _ ⟨h0, by omega, by omega⟩
theorem rem_u64 (s i n : Nat) : (w64 s i / 2 ^ n).tmod 2 = w64 s i / 2 ^ n % 2 := Int.tmod_eq_emod_of_nonneg (shift_lt s i n).1

/-- bonsairef01.Has. -/
theorem rhas_any (s : Nat) (b : Int) (h0 : 0 ≤ b) (h : b < 256) (w : World) :
    Calls Tryd.prog 20 #[setV s, .int .u8 b] w fun e w' => e = .returned (.bool (s.testBit b.toNat)) ∧ Below w.heap.size w w' := by
  have hq : b / 64 = (0 : Nat) ∨ b / 64 = (1 : Nat) ∨ b / 64 = (2 : Nat) ∨ b / 64 = (3 : Nat) := by omega
  have m0 : 0 ≤ b % 64 := by omega
  have m1 : b % 64 < 64 := by omega
  have w1 : IntKind.i64.wrap b = b := IntWalk.i64_in _ (by omega)
  have w3 : b.tmod 64 = b % 64 := Int.tmod_eq_emod_of_nonneg h0
  have w4 : IntKind.i64.wrap (b % 64) = b % 64 := IntWalk.i64_in _ (by omega)
  have w5 := IntWalk.i64_quo b 64 (by omega)
  have w6 : ¬ (2 : Int) ^ (b % 64).toNat = 0 := Int.ne_of_gt (Int.pow_pos (by decide))
  have w7 : ((2 : Int) ^ (b % 64).toNat == 0) = false := by simp [w6]
  rcases hq with hq | hq | hq | hq
  · have e := has_ref s _ b h0 hq
    have e1 := quo_u64 s 0 (b % 64).toNat
    have e2 := rem_u64 s 0 (b % 64).toNat
    go_enter Tryd.func20, Tryd.ntmps20
    go_wp2
    go_region_held3 (fun w' => w'.cell? ⟨w.heap.size, 0, none⟩ = some (.int .u64 (w64 s 0))) (go_keep) ((go_at_call 49; refine (power_any _ m0 m1 _).mono ?_; rintro e w1 ⟨rfl, rfl⟩))
    go_wp2
    go_ret
    exact ⟨rfl, ((Below.refl _ _).alloc (Nat.le_refl _) _).drew⟩
  · have e := has_ref s _ b h0 hq
    have e1 := quo_u64 s 1 (b % 64).toNat
    have e2 := rem_u64 s 1 (b % 64).toNat
    go_enter Tryd.func20, Tryd.ntmps20
    go_wp2
    go_region_held3 (fun w' => w'.cell? ⟨w.heap.size, 1, none⟩ = some (.int .u64 (w64 s 1))) (go_keep) ((go_at_call 49; refine (power_any _ m0 m1 _).mono ?_; rintro e w1 ⟨rfl, rfl⟩))
    go_wp2
    go_ret
    exact ⟨rfl, ((Below.refl _ _).alloc (Nat.le_refl _) _).drew⟩
  · have e := has_ref s _ b h0 hq
    have e1 := quo_u64 s 2 (b % 64).toNat
    have e2 := rem_u64 s 2 (b % 64).toNat
    go_enter Tryd.func20, Tryd.ntmps20
    go_wp2
    go_region_held3 (fun w' => w'.cell? ⟨w.heap.size, 2, none⟩ = some (.int .u64 (w64 s 2))) (go_keep) ((go_at_call 49; refine (power_any _ m0 m1 _).mono ?_; rintro e w1 ⟨rfl, rfl⟩))
    go_wp2
    go_ret
    exact ⟨rfl, ((Below.refl _ _).alloc (Nat.le_refl _) _).drew⟩
  · have e := has_ref s _ b h0 hq
    have e1 := quo_u64 s 3 (b % 64).toNat
    have e2 := rem_u64 s 3 (b % 64).toNat
    go_enter Tryd.func20, Tryd.ntmps20
    go_wp2
    go_region_held3 (fun w' => w'.cell? ⟨w.heap.size, 3, none⟩ = some (.int .u64 (w64 s 3))) (go_keep) ((go_at_call 49; refine (power_any _ m0 m1 _).mono ?_; rintro e w1 ⟨rfl, rfl⟩))
    go_wp2
    go_ret
    exact ⟨rfl, ((Below.refl _ _).alloc (Nat.le_refl _) _).drew⟩

/-- A block that holds a set: its cells. -/
theorem setB_facts {W : World} {b s : Nat} (h : W.heap[b]? = some (setC s)) :
    W.cell? ⟨b, 0, none⟩ = some (.int .u64 (w64 s 0)) ∧ W.cell? ⟨b, 1, none⟩ = some (.int .u64 (w64 s 1)) ∧ W.cell? ⟨b, 2, none⟩ = some (.int .u64 (w64 s 2)) ∧ W.cell? ⟨b, 3, none⟩ = some (.int .u64 (w64 s 3)) ∧
    W.frozen? ⟨b, 0, none⟩ = false ∧ W.frozen? ⟨b, 1, none⟩ = false ∧ W.frozen? ⟨b, 2, none⟩ = false ∧ W.frozen? ⟨b, 3, none⟩ = false := by
  refine ⟨?_, ?_, ?_, ?_, ?_, ?_, ?_, ?_⟩ <;> first | exact (cell_of_row _ _ _ _ _ _ h) | exact frozen_of_row _ _ _ _ _ h
theorem w64_wrap (s i : Nat) : IntKind.u64.wrap (w64 s i) = w64 s i := by
  have h0 := w64_nonneg s i
  have h1 := w64_lt s i
  generalize w64 s i = x at *
  simp only [IntKind.wrap, IntKind.bits, IntKind.signed, Bool.false_and, Bool.false_eq_true, if_false]
  omega
theorem w64_zero (i : Nat) : w64 0 i = 0 := by unfold w64; simp
abbrev zeroC : Obj := .cells #[.int .u64 0, .int .u64 0, .int .u64 0, .int .u64 0] 24
theorem zeroC_eq : zeroC = setC 0 := by simp [w64_zero]

theorem tySet : Tryd.prog.underlying 24 = some (.array 4 22) := by kernel_rfl
theorem szSet : (Tryd.prog.info? 24).map (·.size) = some 4 := by kernel_rfl
/-- One operation that is carried out. -/
theorem want_step {P : Program} {ops : Array Oper} {rest : List Oper} {o : Oper} {a : Act} {w : World} {Q : Exit → Act → World → Prop} (hgd : Region.wanted o (yielded ops a.tmps) = true) (h : o.wp P a w (wpList P ops Q rest) Q) : wpList P ops Q (o :: rest) a w := by
  rw [wpList, if_pos hgd]; exact .inl h
/-- A set is read out of its block, and stored into one. -/
theorem load_set {ops : Array Oper} {rest : List Oper} {o : Oper} {a : Act} {w : World} {Q : Exit → Act → World → Prop} (hgd : Region.wanted o (yielded ops a.tmps) = true) (x : Operand) (ho : o.op = .load 24 x)
    (g s : Nat) (hx : a.eval x = .pointer (some ⟨g, 0, none⟩)) (hg : w.heap[g]? = some (setC s)) (h : wpList Tryd.prog ops Q rest (a.put o.dst (setV s)) w) : wpList Tryd.prog ops Q (o :: rest) a w :=
  want_step hgd (wp_load_row _ x ho g hx _ _ _ _ hg tySet rfl szSet h)
theorem store_set {ops : Array Oper} {rest : List Oper} {o : Oper} {a : Act} {w : World} {Q : Exit → Act → World → Prop} (hgd : Region.wanted o (yielded ops a.tmps) = true) (x y : Operand) (ho : o.op = .store 24 x y)
    (g s t : Nat) (hx : a.eval x = .pointer (some ⟨g, 0, none⟩)) (hy : a.eval y = setV s) (hg : w.heap[g]? = some (setC t))
    (h : ∀ w' : World, w'.heap[g]? = some (setC s) → (∀ k, k ≠ g → w'.heap[k]? = w.heap[k]?) → w'.heap.size = w.heap.size → (∀ B w0, B ≤ g → Below B w0 w → Below B w0 w') → wpList Tryd.prog ops Q rest (a.put o.dst undef) w') : wpList Tryd.prog ops Q (o :: rest) a w :=
  want_step hgd <| wp_store_row _ x y ho g _ hx hy _ _ hg szSet rfl (by simp [Value.oneCell']) (h _ (setRow_heap w g _ _ _ _ hg) (fun k hk => setRow_other w g k _ hk) (by simp) (fun B w0 hB hb => below_setRow hb hB _))
theorem end_set {fn : Func} {R : Ending → World → Prop} {a : Act} {w : World} {p : Tmp} (hf : fn.results = #[.cell p 24]) (g s : Nat) (hp : a.tmps.getD p undef = .pointer (some ⟨g, 0, none⟩)) (hg : w.heap[g]? = some (setC s)) (hd : a.defers = [])
    (hR : R (.returned (setV s)) w) : bodyPost Tryd.prog fn R .ret a w :=
  bodyPost_ret (v := setV s) (results_cell_row hf _ _ g _ _ _ _ hp hg tySet rfl szSet) hd hR
/-- A word is stored into a set's block. -/
theorem setB_word {w : World} {g s t : Nat} (k : Nat) (hk : k < 4) (hg : w.heap[g]? = some (setC s)) (hw : ∀ i, i ≠ k → w64 t i = w64 s i) : (w.setCell ⟨g, k, none⟩ (.int .u64 (w64 t k))).heap[g]? = some (setC t) := by
  rw [heap_setCell_same _ _ _ _ _ _ hg]
  have h : k = 0 ∨ k = 1 ∨ k = 2 ∨ k = 3 := by omega
  rcases h with rfl | rfl | rfl | rfl <;> simp [hw]

set_option maxHeartbeats 4000000 in
/-- bonsairef01.with, the byte is not in it. -/
theorem with_no (s : Nat) (b : Int) (h0 : 0 ≤ b) (h : b < 256) (hn : s.testBit b.toNat = false) (w : World) :
    Calls Tryd.prog 48 #[setV s, .int .u8 b] w fun e w' => e = .returned (setV (s ||| bitOf b)) ∧ Below w.heap.size w w' := by
  have hq : b / 64 = (0 : Nat) ∨ b / 64 = (1 : Nat) ∨ b / 64 = (2 : Nat) ∨ b / 64 = (3 : Nat) := by omega
  have m0 : 0 ≤ b % 64 := by omega
  have m1 : b % 64 < 64 := by omega
  have hs : w.heap.size < w.heap.size + 1 + 1 := by omega
  have H := Lib.hid hn
  clear hn
  rcases hq with hq | hq | hq | hq
  · go_enter Tryd.func48, Tryd.ntmps48
    go_wp2_with (go_at_call 20; refine (rhas_any _ _ h0 h _).mono ?_; rw [H.out]; rintro e W1 ⟨rfl, hb⟩)
    have hB := Lib.hid ((((Below.refl w.heap.size w).alloc (Nat.le_refl _) _).alloc (by simp) _).trans (hb.mono (by simp; omega)))
    have h1 := (hb.block w.heap.size (by simp; omega)).trans (heap_alloc2_old _ _ _)
    have h2 := (hb.block (w.heap.size + 1) (by simp)).trans ((heap_alloc2_new _ _ _).trans (congrArg some zeroC_eq))
    clear hb
    obtain ⟨c0, c1, c2, c3, f0, f1, f2, f3⟩ := setB_facts (s := s) h1
    have H1 := Lib.hid h1
    have H2 := Lib.hid h2
    clear h1 h2 c1 f1 c2 f2 c3 f3
    have w1 : IntKind.i64.wrap b = b := IntWalk.i64_in _ (by omega)
    have w3 : b.tmod 64 = b % 64 := Int.tmod_eq_emod_of_nonneg h0
    have w4 : IntKind.i64.wrap (b % 64) = b % 64 := IntWalk.i64_in _ (by omega)
    have w5 := IntWalk.i64_quo b 64 (by omega)
    have w6 := w64_add_bit s 0 b h0 hq H.out
    have w7 := w64_wrap (s ||| bitOf b) 0
    have wo := Lib.hid (fun i (hi : i ≠ 0) => w64_or_other s i b h0 (by omega))
    go_region_with (go_at_call 49; refine (power_any _ m0 m1 _).mono ?_; rintro e w1 ⟨rfl, rfl⟩)
    all_goals clear w1 w3 w4 w5 w6 w7 c0 f0
    all_goals go_wp2_with (first | (refine load_set rfl _ rfl w.heap.size (s ||| bitOf b) rfl (by exact setB_word 0 (by decide) H1.out wo.out) ?_) | (refine store_set rfl _ _ rfl (w.heap.size + 1) (s ||| bitOf b) 0 rfl rfl (by exact (heap_setCell_other _ _ _ _ (by simp)).trans H2.out) ?_; intro W2 g1 g2 g3 g4; have G1 := Lib.hid g1; have G4 := Lib.hid (g4 w.heap.size w (by simp) (by exact (hB.out.drew.setCell (by simp) _))); clear g1 g2 g3 g4))
    all_goals exact end_set rfl _ _ rfl G1.out rfl ⟨rfl, G4.out⟩
  · go_enter Tryd.func48, Tryd.ntmps48
    go_wp2_with (go_at_call 20; refine (rhas_any _ _ h0 h _).mono ?_; rw [H.out]; rintro e W1 ⟨rfl, hb⟩)
    have hB := Lib.hid ((((Below.refl w.heap.size w).alloc (Nat.le_refl _) _).alloc (by simp) _).trans (hb.mono (by simp; omega)))
    have h1 := (hb.block w.heap.size (by simp; omega)).trans (heap_alloc2_old _ _ _)
    have h2 := (hb.block (w.heap.size + 1) (by simp)).trans ((heap_alloc2_new _ _ _).trans (congrArg some zeroC_eq))
    clear hb
    obtain ⟨c0, c1, c2, c3, f0, f1, f2, f3⟩ := setB_facts (s := s) h1
    have H1 := Lib.hid h1
    have H2 := Lib.hid h2
    clear h1 h2 c0 f0 c2 f2 c3 f3
    have w1 : IntKind.i64.wrap b = b := IntWalk.i64_in _ (by omega)
    have w3 : b.tmod 64 = b % 64 := Int.tmod_eq_emod_of_nonneg h0
    have w4 : IntKind.i64.wrap (b % 64) = b % 64 := IntWalk.i64_in _ (by omega)
    have w5 := IntWalk.i64_quo b 64 (by omega)
    have w6 := w64_add_bit s 1 b h0 hq H.out
    have w7 := w64_wrap (s ||| bitOf b) 1
    have wo := Lib.hid (fun i (hi : i ≠ 1) => w64_or_other s i b h0 (by omega))
    go_region_with (go_at_call 49; refine (power_any _ m0 m1 _).mono ?_; rintro e w1 ⟨rfl, rfl⟩)
    all_goals clear w1 w3 w4 w5 w6 w7 c1 f1
    all_goals go_wp2_with (first | (refine load_set rfl _ rfl w.heap.size (s ||| bitOf b) rfl (by exact setB_word 1 (by decide) H1.out wo.out) ?_) | (refine store_set rfl _ _ rfl (w.heap.size + 1) (s ||| bitOf b) 0 rfl rfl (by exact (heap_setCell_other _ _ _ _ (by simp)).trans H2.out) ?_; intro W2 g1 g2 g3 g4; have G1 := Lib.hid g1; have G4 := Lib.hid (g4 w.heap.size w (by simp) (by exact (hB.out.drew.setCell (by simp) _))); clear g1 g2 g3 g4))
    all_goals exact end_set rfl _ _ rfl G1.out rfl ⟨rfl, G4.out⟩
  · go_enter Tryd.func48, Tryd.ntmps48
    go_wp2_with (go_at_call 20; refine (rhas_any _ _ h0 h _).mono ?_; rw [H.out]; rintro e W1 ⟨rfl, hb⟩)
    have hB := Lib.hid ((((Below.refl w.heap.size w).alloc (Nat.le_refl _) _).alloc (by simp) _).trans (hb.mono (by simp; omega)))
    have h1 := (hb.block w.heap.size (by simp; omega)).trans (heap_alloc2_old _ _ _)
    have h2 := (hb.block (w.heap.size + 1) (by simp)).trans ((heap_alloc2_new _ _ _).trans (congrArg some zeroC_eq))
    clear hb
    obtain ⟨c0, c1, c2, c3, f0, f1, f2, f3⟩ := setB_facts (s := s) h1
    have H1 := Lib.hid h1
    have H2 := Lib.hid h2
    clear h1 h2 c0 f0 c1 f1 c3 f3
    have w1 : IntKind.i64.wrap b = b := IntWalk.i64_in _ (by omega)
    have w3 : b.tmod 64 = b % 64 := Int.tmod_eq_emod_of_nonneg h0
    have w4 : IntKind.i64.wrap (b % 64) = b % 64 := IntWalk.i64_in _ (by omega)
    have w5 := IntWalk.i64_quo b 64 (by omega)
    have w6 := w64_add_bit s 2 b h0 hq H.out
    have w7 := w64_wrap (s ||| bitOf b) 2
    have wo := Lib.hid (fun i (hi : i ≠ 2) => w64_or_other s i b h0 (by omega))
    go_region_with (go_at_call 49; refine (power_any _ m0 m1 _).mono ?_; rintro e w1 ⟨rfl, rfl⟩)
    all_goals clear w1 w3 w4 w5 w6 w7 c2 f2
    all_goals go_wp2_with (first | (refine load_set rfl _ rfl w.heap.size (s ||| bitOf b) rfl (by exact setB_word 2 (by decide) H1.out wo.out) ?_) | (refine store_set rfl _ _ rfl (w.heap.size + 1) (s ||| bitOf b) 0 rfl rfl (by exact (heap_setCell_other _ _ _ _ (by simp)).trans H2.out) ?_; intro W2 g1 g2 g3 g4; have G1 := Lib.hid g1; have G4 := Lib.hid (g4 w.heap.size w (by simp) (by exact (hB.out.drew.setCell (by simp) _))); clear g1 g2 g3 g4))
    all_goals exact end_set rfl _ _ rfl G1.out rfl ⟨rfl, G4.out⟩
  · go_enter Tryd.func48, Tryd.ntmps48
    go_wp2_with (go_at_call 20; refine (rhas_any _ _ h0 h _).mono ?_; rw [H.out]; rintro e W1 ⟨rfl, hb⟩)
    have hB := Lib.hid ((((Below.refl w.heap.size w).alloc (Nat.le_refl _) _).alloc (by simp) _).trans (hb.mono (by simp; omega)))
    have h1 := (hb.block w.heap.size (by simp; omega)).trans (heap_alloc2_old _ _ _)
    have h2 := (hb.block (w.heap.size + 1) (by simp)).trans ((heap_alloc2_new _ _ _).trans (congrArg some zeroC_eq))
    clear hb
    obtain ⟨c0, c1, c2, c3, f0, f1, f2, f3⟩ := setB_facts (s := s) h1
    have H1 := Lib.hid h1
    have H2 := Lib.hid h2
    clear h1 h2 c0 f0 c1 f1 c2 f2
    have w1 : IntKind.i64.wrap b = b := IntWalk.i64_in _ (by omega)
    have w3 : b.tmod 64 = b % 64 := Int.tmod_eq_emod_of_nonneg h0
    have w4 : IntKind.i64.wrap (b % 64) = b % 64 := IntWalk.i64_in _ (by omega)
    have w5 := IntWalk.i64_quo b 64 (by omega)
    have w6 := w64_add_bit s 3 b h0 hq H.out
    have w7 := w64_wrap (s ||| bitOf b) 3
    have wo := Lib.hid (fun i (hi : i ≠ 3) => w64_or_other s i b h0 (by omega))
    go_region_with (go_at_call 49; refine (power_any _ m0 m1 _).mono ?_; rintro e w1 ⟨rfl, rfl⟩)
    all_goals clear w1 w3 w4 w5 w6 w7 c3 f3
    all_goals go_wp2_with (first | (refine load_set rfl _ rfl w.heap.size (s ||| bitOf b) rfl (by exact setB_word 3 (by decide) H1.out wo.out) ?_) | (refine store_set rfl _ _ rfl (w.heap.size + 1) (s ||| bitOf b) 0 rfl rfl (by exact (heap_setCell_other _ _ _ _ (by simp)).trans H2.out) ?_; intro W2 g1 g2 g3 g4; have G1 := Lib.hid g1; have G4 := Lib.hid (g4 w.heap.size w (by simp) (by exact (hB.out.drew.setCell (by simp) _))); clear g1 g2 g3 g4))
    all_goals exact end_set rfl _ _ rfl G1.out rfl ⟨rfl, G4.out⟩
end Go.Proofs.YtcpgbakdfogilaaDoor
