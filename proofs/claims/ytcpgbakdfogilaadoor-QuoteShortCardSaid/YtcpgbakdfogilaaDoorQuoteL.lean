/- Contract of quote.Class. -/
import Derived.Test.YtcpgbakdfogilaaDoorQuoteK
import Derived.Test.YtcpgbakdfogilaaDoorSetS
import Derived.Deep.CutRange
namespace Go.Proofs.YtcpgbakdfogilaaDoor
open Go.RowKit
set_option maxRecDepth 100000

abbrev inClass : List UInt8 := [93, 45, 94, 92]
/-- What is written of a run. -/
def itemL (p : Nat × Nat) : List UInt8 :=
  if p.2 = p.1 then signL (UInt8.ofNat p.1) inClass else if p.2 = p.1 + 1 then signL (UInt8.ofNat p.1) inClass ++ signL (UInt8.ofNat p.2) inClass
  else signL (UInt8.ofNat p.1) inClass ++ [45] ++ signL (UInt8.ofNat p.2) inClass
def itemsL (l : List (Nat × Nat)) : List UInt8 := l.flatMap itemL
def classL (s : Nat) : List UInt8 := if s = full then [46] else 91 :: itemsL (runsL (bytesTo s 256)) ++ [93]
theorem itemL_len (p : Nat × Nat) : (itemL p).length ≤ 9 := by
  have h1 := signL_len (UInt8.ofNat p.1) inClass
  have h2 := signL_len (UInt8.ofNat p.2) inClass
  unfold itemL
  repeat' split
  all_goals simp
  all_goals omega
theorem itemsL_len (l : List (Nat × Nat)) : (itemsL l).length ≤ 9 * l.length := by
  induction l with
  | nil => simp [itemsL]
  | cons p l ih => have := itemL_len p; simp [itemsL] at ih ⊢; omega
theorem itemsL_snoc (l : List (Nat × Nat)) (p : Nat × Nat) : itemsL (l ++ [p]) = itemsL l ++ itemL p := by simp [itemsL]
theorem pair_cons (p : Nat × Nat) (l : List (Nat × Nat)) : pairCells (p :: l) = .int .u8 (p.1 : Int) :: .int .u8 (p.2 : Int) :: pairCells l := by simp [pairCells]
theorem pair_0 : ∀ (l : List (Nat × Nat)) (k : Nat) (p : Nat × Nat), l[k]? = some p → (pairCells l)[k * 2]? = some (.int .u8 (p.1 : Int))
  | [], k, p, h => by simp at h
  | q :: l, 0, p, h => by simp at h; subst h; rw [pair_cons]; rfl
  | q :: l, k + 1, p, h => by
    rw [pair_cons, show (k + 1) * 2 = k * 2 + 1 + 1 by omega, List.getElem?_cons_succ, List.getElem?_cons_succ]
    exact pair_0 l k p (by simpa using h)
theorem pair_1 : ∀ (l : List (Nat × Nat)) (k : Nat) (p : Nat × Nat), l[k]? = some p → (pairCells l)[k * 2 + 1]? = some (.int .u8 (p.2 : Int))
  | [], k, p, h => by simp at h
  | q :: l, 0, p, h => by simp at h; subst h; rw [pair_cons]; rfl
  | q :: l, k + 1, p, h => by
    rw [pair_cons, show (k + 1) * 2 + 1 = k * 2 + 1 + 1 + 1 by omega, List.getElem?_cons_succ, List.getElem?_cons_succ]
    exact pair_1 l k p (by simpa using h)

set_option maxHeartbeats 8000000 in
/-- quote.Class: the set of all. -/
theorem class_all (w : World) (hT : Tb w) :
    Calls Tryd.prog 46 #[setV full] w fun e w' => e = .returned (.string (strOf [46])) ∧ Below w.heap.size w w' := by
  have hI := (Inv.start w).alloc (setC full)
  replace hT := hT.alloc (setC full)
  have hqq := words_beq full_lt full_lt
  have hr : (full == full) = true := by simp
  rw [hr] at hqq
  clear hr
  obtain ⟨c0, c1, c2, c3, e0, e1, e2, e3⟩ := setB_facts (hI.at (g := w.heap.size) (o := setC full) (by simp))
  clear e0 e1 e2 e3
  go_enter Tryd.func46, Tryd.ntmps46
  go_wp2
  go_region_held_law (fun w' => (w'.cell? ⟨w.heap.size, 0, none⟩ = some (.int .u64 (w64 full 0)) ∧ w'.cell? ⟨w.heap.size, 1, none⟩ = some (.int .u64 (w64 full 1)) ∧ w'.cell? ⟨w.heap.size, 2, none⟩ = some (.int .u64 (w64 full 2)) ∧ w'.cell? ⟨w.heap.size, 3, none⟩ = some (.int .u64 (w64 full 3)))) (go_keep)
    (first | (go_at_call 28; refine (all_any _).mono ?_; rintro e W1 ⟨rfl, hb⟩; replace hI := hI.drew.call hb; obtain ⟨c0, c1, c2, c3, e0, e1, e2, e3⟩ := setB_facts (hI.at (g := w.heap.size) (o := setC full) (by simp)); clear e0 e1 e2 e3 hb))
  go_wp2
  go_ret
  exact ⟨rfl, hI.below⟩

theorem u8_of {n : Nat} (h : n < 256) : ((UInt8.ofNat n).toNat : Int) = (n : Int) := by rw [u8_nat _ h]
theorem sign_c (b : UInt8) (w : World) (hT : Tb w) : Calls Tryd.prog 61 #[.int .u8 (b.toNat : Int), .string ⟨#[93, 45, 94, 92]⟩] w fun e w' => e = .returned (.string (strOf (signL b inClass))) ∧ Below w.heap.size w w' := sign_any b inClass (by decide) w hT
theorem row_sl2 {w : World} {b n : Nat} {e : TypeId} {size : Nat} {v : Value} {xs : List Value} (h : w.ownsRow b e size v (n + 1) xs) : ∃ g c, v = .slice (some ⟨g, 0, none⟩) (n + 1) c := by
  obtain ⟨g, c, rfl⟩ := ownsRow_succ h
  exact ⟨g, c, rfl⟩
set_option maxHeartbeats 16000000 in
/-- quote.Class: another set. -/
theorem class_not (s : Nat) (hs : s < 2 ^ 256) (hne : s ≠ full) (w : World) (hT : Tb w) :
    Calls Tryd.prog 46 #[setV s] w fun e w' => e = .returned (.string (strOf (91 :: itemsL (runsL (bytesTo s 256)) ++ [93]))) ∧ Below w.heap.size w w' := by
  have hI := (Inv.start w).alloc (setC s)
  replace hT := hT.alloc (setC s)
  have hqq := words_beq hs full_lt
  have hr : (s == full) = false := by simpa using hne
  rw [hr] at hqq
  clear hr
  obtain ⟨R, hR⟩ : ∃ R, runsL (bytesTo s 256) = R := ⟨_, rfl⟩
  have hg := goodRuns s 256 (Nat.le_refl _)
  have hrl := runsL_len (bytesTo s 256)
  have hbl := bytesTo_len s 256
  rw [hR] at hg hrl ⊢
  have Hg := Lib.hid hg
  have HR := Lib.hid hR
  have hRl : R.length ≤ 256 := by omega
  clear hg hR hrl hbl hs hne
  obtain ⟨c0, c1, c2, c3, e0, e1, e2, e3⟩ := setB_facts (hI.at (g := w.heap.size) (o := setC s) (by simp))
  clear e0 e1 e2 e3
  go_enter Tryd.func46, Tryd.ntmps46
  go_wp2
  go_region_held_law (fun w' => (w'.cell? ⟨w.heap.size, 0, none⟩ = some (.int .u64 (w64 s 0)) ∧ w'.cell? ⟨w.heap.size, 1, none⟩ = some (.int .u64 (w64 s 1)) ∧ w'.cell? ⟨w.heap.size, 2, none⟩ = some (.int .u64 (w64 s 2)) ∧ w'.cell? ⟨w.heap.size, 3, none⟩ = some (.int .u64 (w64 s 3)))) (go_keep)
    (first | (go_at_call 28; refine (all_any _).mono ?_; rintro e W1 ⟨rfl, hb⟩; replace hI := hI.drew.call hb; replace hT := hT.drew.call hb; obtain ⟨c0, c1, c2, c3, e0, e1, e2, e3⟩ := setB_facts (hI.at (g := w.heap.size) (o := setC s) (by simp)); clear e0 e1 e2 e3 hb))
  clear c0 c1 c2 c3
  go_wp2_with (refine load_set rfl (.tmp 1) rfl w.heap.size s rfl (hI.at (by simp)) ?_)
  refine (runs_any s _ hT).mono ?_
  rw [HR.out]
  rintro e W2 ⟨v, rfl, hrow, hb⟩
  replace hI := hI.call hb
  replace hT := hT.call hb
  clear hb
  have Hrow0 := Lib.hid hrow
  obtain ⟨pv, cv, rfl⟩ := row_sl hrow
  clear hrow
  go_wp2
  go_loopw [3, 14] (fun o i wr => ∃ k : Nat, k ≤ R.length ∧ i = .int .i64 k ∧ o = .string (strOf (91 :: itemsL (R.take k))) ∧ Inv w.heap.size w [(w.heap.size, setC s)] wr ∧ Tb wr ∧ wr.ownsRow W1.heap.size 36 2 (.slice pv R.length cv) R.length (pairCells R)) (fun _ i _ => R.length - (intOf i).toNat)
  case atStart => exact ⟨0, by omega, rfl, rfl, hI, hT, Hrow0.out⟩
  case round =>
    clear hI hT Hrow0
    obtain ⟨k, hk, rfl, rfl, hI, hT, hrow⟩ := hrel
    by_cases hlt : k < R.length
    · obtain ⟨p, hp⟩ : ∃ p, R[k]? = some p := ⟨_, List.getElem?_eq_getElem hlt⟩
      obtain ⟨p1, p2⟩ := p
      have hpe := Hg.out.each (p1, p2) (List.mem_of_getElem? hp)
      rcases hrow.2 with ⟨hn, hl0⟩ | ⟨g, cap, cur, hn, hgb, -⟩
      · omega
      cases hn
      have k0 := hrow.cellAt (k * 2) (by omega)
      have k1 := hrow.cellAt (k * 2 + 1) (by omega)
      rw [pair_0 R k _ hp] at k0
      rw [pair_1 R k _ hp] at k1
      have Hrow := Lib.hid hrow
      have hst : R.take (k + 1) = R.take k ++ [(p1, p2)] := by rw [List.take_add_one, hp]; rfl
      have hil : (91 :: itemsL (R.take k)).length ≤ 2400 := by
        have := itemsL_len (R.take k); have := List.length_take_le k R; simp; omega
      obtain ⟨A, hA⟩ : ∃ A, (91 :: itemsL (R.take k)) = A := ⟨_, rfl⟩
      have HA2 := Lib.hid (show 91 :: itemsL (R.take (k + 1)) = A ++ itemL (p1, p2) by rw [hst, itemsL_snoc, ← hA]; rfl)
      rw [hA] at hil ⊢
      have hp1 : p1 ≤ p2 := hpe.1
      have hp2 : p2 < 256 := hpe.2
      obtain ⟨b1, hb1⟩ : ∃ b, UInt8.ofNat p1 = b := ⟨_, rfl⟩
      obtain ⟨b2, hb2⟩ : ∃ b, UInt8.ofNat p2 = b := ⟨_, rfl⟩
      have e1 : (p1 : Int) = (b1.toNat : Int) := by rw [← hb1, u8_of (by omega)]
      have e2 : (p2 : Int) = (b2.toNat : Int) := by rw [← hb2, u8_of hp2]
      rw [e1] at k0
      rw [e2] at k1
      have Hb := Lib.hid (And.intro hb1 hb2)
      have hle : (b1.toNat : Int) ≤ (b2.toNat : Int) := by omega
      have hlt2 : (b2.toNat : Int) < 256 := by have := b2.toNat_lt; omega
      have HP := Lib.hid (And.intro hp (And.intro hp1 (And.intro e1 e2)))
      clear hrow hst hA hp hpe hp1 hp2 hb1 hb2 e1 e2 hgb
      have hlk : (k : Int) < (R.length : Int) := by omega
      go_wp2
      clear k0 k1
      replace hI := (hI.alloc (.cells #[.int .u8 (b1.toNat : Int), .int .u8 (b2.toNat : Int)] 36)).drew
      replace hT := (hT.alloc (.cells #[.int .u8 (b1.toNat : Int), .int .u8 (b2.toNat : Int)] 36)).drew
      replace Hrow := Lib.hid (Hrow.out.alloc (.cells #[.int .u8 (b1.toNat : Int), .int .u8 (b2.toNat : Int)] 36)).drew
      have q0 := hI.cell (g := wr.heap.size) (j := 0) (List.mem_cons_self ..) rfl
      have q1 := hI.cell (g := wr.heap.size) (j := 1) (List.mem_cons_self ..) rfl
      go_region_held_law (fun w' => w'.cell? ⟨wr.heap.size, 0, none⟩ = some (.int .u8 (b1.toNat : Int)) ∧ w'.cell? ⟨wr.heap.size, 1, none⟩ = some (.int .u8 (b2.toNat : Int))) (go_keep)
        (first | (go_at_call 61; (with_reducible refine (sign_c b1 _ hT).mono ?_); rintro e w1 ⟨rfl, hb⟩; replace hI := hI.call hb; replace hT := hT.call hb; replace Hrow := Lib.hid (ownsRow_below Hrow.out hb); clear q0 q1 hb; have q0 := hI.cell (g := wr.heap.size) (j := 0) (List.mem_cons_self ..) rfl; have q1 := hI.cell (g := wr.heap.size) (j := 1) (List.mem_cons_self ..) rfl) | (go_at_call 61; (with_reducible refine (sign_c b2 _ hT).mono ?_); rintro e w1 ⟨rfl, hb⟩; replace hI := hI.call hb; replace hT := hT.call hb; replace Hrow := Lib.hid (ownsRow_below Hrow.out hb); clear q0 q1 hb; have q0 := hI.cell (g := wr.heap.size) (j := 0) (List.mem_cons_self ..) rfl; have q1 := hI.cell (g := wr.heap.size) (j := 1) (List.mem_cons_self ..) rfl))
      obtain ⟨hs1, hs2⟩ := Hb.out
      have HI := Lib.hid (hI.sub (L' := [(w.heap.size, setC s)]) (fun p hp => List.mem_cons_of_mem _ hp))
      have HS := Lib.hid (And.intro hs1 hs2)
      clear hI hs1 hs2
      have l1 := signL_len b1 inClass
      have l2 := signL_len b2 inClass
      have h45 : (⟨#[45]⟩ : ByteArray) = strOf [45] := rfl
      obtain ⟨S1, hS1⟩ : ∃ S, signL b1 inClass = S := ⟨_, rfl⟩
      obtain ⟨S2, hS2⟩ : ∃ S, signL b2 inClass = S := ⟨_, rfl⟩
      rw [hS1] at l1 ⊢
      rw [hS2] at l2 ⊢
      have HSS := Lib.hid (And.intro hS1 hS2)
      clear hS1 hS2
      have a1 := add_strs A S1 (by omega)
      have a2 := add_strs S1 S2 (by omega)
      have a3 := add_strs A (S1 ++ S2) (by rw [List.length_append]; omega)
      have a4 := add_strs S1 [45] (by simp; omega)
      have a5 := add_strs (S1 ++ [45]) S2 (by simp; omega)
      have a6 := add_strs A (S1 ++ 45 :: S2) (by simp; omega)
      have hfin : ∀ X, X = itemL (p1, p2) → A ++ X = 91 :: itemsL (R.take (k + 1)) := fun X hX => by rw [hX, HA2.out]
      have Hfin := Lib.hid hfin
      clear hfin l1 l2
      by_cases d0 : (b2.toNat : Int) - (b1.toNat : Int) = 0
      · have hd0 : ((b2.toNat : Int) - (b1.toNat : Int) == 0) = true := by simpa using d0
        have hX : S1 = itemL (p1, p2) := by
          obtain ⟨_, _, h1, h2⟩ := HP.out
          unfold itemL
          rw [if_pos (by show p2 = p1; omega), HS.out.1, HSS.out.1]
        have HX := Lib.hid (Hfin.out _ hX)
        clear hX d0 a2 a3 a4 a5 a6
        go_wp2
        go_roundw
        case rel => exact ⟨k + 1, by omega, by go_num, by rw [HX.out], HI.out, hT, Hrow.out⟩
        case measure => simp [intOf]; omega
      · have hd0 : ((b2.toNat : Int) - (b1.toNat : Int) == 0) = false := by simpa using d0
        by_cases d1 : (b2.toNat : Int) - (b1.toNat : Int) = 1
        · have hd1 : ((b2.toNat : Int) - (b1.toNat : Int) == 1) = true := by simpa using d1
          have hX : S1 ++ S2 = itemL (p1, p2) := by
            obtain ⟨_, _, h1, h2⟩ := HP.out
            unfold itemL
            rw [if_neg (by show ¬ p2 = p1; omega), if_pos (by show p2 = p1 + 1; omega), HS.out.1, HSS.out.1, HS.out.2, HSS.out.2]
          have HX := Lib.hid (Hfin.out _ hX)
          clear hX d0 d1 a1 a4 a5 a6
          go_wp2
          go_roundw
          case rel => exact ⟨k + 1, by omega, by go_num, by rw [HX.out], HI.out, hT, Hrow.out⟩
          case measure => simp [intOf]; omega
        · have hd1 : ((b2.toNat : Int) - (b1.toNat : Int) == 1) = false := by simpa using d1
          have hX : S1 ++ 45 :: S2 = itemL (p1, p2) := by
            obtain ⟨_, _, h1, h2⟩ := HP.out
            rw [show S1 ++ 45 :: S2 = S1 ++ [45] ++ S2 by simp]
            unfold itemL
            rw [if_neg (by show ¬ p2 = p1; omega), if_neg (by show ¬ p2 = p1 + 1; omega), HS.out.1, HSS.out.1, HS.out.2, HSS.out.2]
          have HX := Lib.hid (Hfin.out _ hX)
          clear hX d0 d1 a1 a2 a3
          go_wp2
          go_roundw
          case rel => exact ⟨k + 1, by omega, by go_num, by rw [HX.out], HI.out, hT, Hrow.out⟩
          case measure => simp [intOf]; omega
    · obtain rfl : k = R.length := by omega
      rw [List.take_length]
      have hadd := add_strs (91 :: itemsL R) [93] (by have := itemsL_len R; simp; omega)
      have h93 : (⟨#[93]⟩ : ByteArray) = strOf [93] := rfl
      go_wp2
      go_ret
      exact ⟨rfl, hI.below⟩
/-- quote.Class. -/
theorem class_any (s : Nat) (hs : s < 2 ^ 256) (w : World) (hT : Tb w) :
    Calls Tryd.prog 46 #[setV s] w fun e w' => e = .returned (.string (strOf (classL s))) ∧ Below w.heap.size w w' := by
  unfold classL
  by_cases h : s = full
  · subst h; rw [if_pos rfl]; exact class_all w hT
  · rw [if_neg h]; exact class_not s hs h w hT
end Go.Proofs.YtcpgbakdfogilaaDoor
