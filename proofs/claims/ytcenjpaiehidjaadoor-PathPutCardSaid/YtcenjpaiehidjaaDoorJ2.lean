/- Strings as lists of bytes; what the walks of this seat import. -/
import Derived.Test.YtcenjpaiehidjaaDoorRows
import Derived.Test.YtcenjpaiehidjaaDoorJ1
import Derived.WalkKit
import Derived.WalkSpells
import Derived.WalkLawsBesides
import Derived.StillTactics
import Derived.StillTailTactics
import Derived.Deep.RegionHeld3
import Derived.Deep.RegionHeldLaw
import Derived.Deep.QuietTactic
import Derived.BigQuiet
import Derived.BigRegion
import Derived.RegionTactic
import Derived.IntWalk
import Derived.Outline
import Derived.Laws.CopyOwn
import Derived.Laws.Tables
import Derived.Lib.Hide
import Derived.Deep.MidRow
set_option linter.unusedSimpArgs false
set_option linter.unusedVariables false
namespace Go.Proofs.YtcenjpaiehidjaaDoor
open Go.RowKit
set_option maxRecDepth 100000

theorem tyStr : Tryd.prog.underlying 9 = some .string := by kernel_rfl
theorem tyU8 : Tryd.prog.underlying 5 = some (.int .u8) := by kernel_rfl
/-- A list of bytes as a string. -/
def strOf (l : List UInt8) : ByteArray := ⟨l.toArray⟩
theorem strOf_size (l : List UInt8) : (strOf l).size = l.length := by simp [strOf, ByteArray.size]
theorem strOf_get (l : List UInt8) (k : Nat) (h : k < (strOf l).size) (h' : k < l.length) : (strOf l)[k] = l[k] := by
  simp [strOf, ByteArray.getElem_eq_getElem_data]
theorem strOf_inj {l m : List UInt8} (h : strOf l = strOf m) : l = m := by
  unfold strOf at h; injection h with h; injection h
theorem strOf_list (l : List UInt8) : (strOf l).toList = l := by simp [strOf, ByteArray.toList_eq]
theorem strOf_empty (l : List UInt8) : (strOf l).toList.isEmpty = l.isEmpty := by rw [strOf_list]
/-- A string under a name. -/
theorem strOf_name (l : List UInt8) : ∃ σ : ByteArray, strOf l = σ ∧ σ.size = l.length ∧ Hid (∀ k (h : k < σ.size) (h' : k < l.length), σ[k] = l[k]) := ⟨_, rfl, strOf_size l, strOf_get l⟩
theorem idx_str (σ : ByteArray) (k : Nat) (h : k < σ.size) (w : World) : (Instr.index 9 (.string σ) (.int .i64 (k : Int))).run Tryd.prog w = .ok (.int .u8 ((σ[k]).toNat : Int)) w := by
  rw [run_index_string _ _ _ _ _ tyStr, dif_pos (by omega)]
  simp
theorem idx_l (l : List UInt8) (k : Nat) (h : k < l.length) (w : World) : (Instr.index 9 (.string (strOf l)) (.int .i64 (k : Int))).run Tryd.prog w = .ok (.int .u8 ((l[k]).toNat : Int)) w := by
  have hs : k < (strOf l).size := by rw [strOf_size]; exact h
  have e : (strOf l)[k] = l[k] := strOf_get l k hs h
  exact (idx_str (strOf l) k hs w).trans (congrArg (fun c : UInt8 => Result.ok (Value.int .u8 (c.toNat : Int)) w) e)
theorem slice_to (τ : List UInt8) (p : Nat) (hp : p ≤ τ.length) (w : World) : (Instr.slice 9 (.string (strOf τ)) none (some (.int .i64 (p : Int))) none).run Tryd.prog w = .ok (.string (strOf (τ.take p))) w := by
  rw [run_slice_string_to_if _ _ _ _ _ tyStr, if_pos ⟨by omega, by rw [strOf_size]; omega⟩]
  congr 2
  unfold strOf
  apply ByteArray.ext
  apply Array.ext'
  simp
theorem toNat_lt' (b : UInt8) : (b.toNat : Int) < 256 := by have := b.toNat_lt; omega
end Go.Proofs.YtcenjpaiehidjaaDoor

/- Contracts of what says whether a text is a name: name.Letter, digit, Take, May, and the reference's. -/
namespace Go.Proofs.YtcenjpaiehidjaaDoor
open Go.RowKit
set_option maxRecDepth 100000

theorem let_fact : ∀ n : Nat, n < 256 → ((decide ((n : Int) = 95) || (decide (97 ≤ bits .or .u8 (n : Int) 32) && decide (bits .or .u8 (n : Int) 32 ≤ 122))) = letB (UInt8.ofNat n)) ∧
    ((decide (97 ≤ (n : Int)) && decide ((n : Int) ≤ 122) || decide (65 ≤ (n : Int)) && decide ((n : Int) ≤ 90) || decide ((n : Int) = 95)) = letB (UInt8.ofNat n)) ∧
    (decide (IntKind.u8.wrap ((n : Int) - 48) < 10) = digB (UInt8.ofNat n)) ∧ ((decide (48 ≤ (n : Int)) && decide ((n : Int) ≤ 57)) = digB (UInt8.ofNat n)) := by decide +kernel
theorem ofNat_toNat (b : UInt8) : UInt8.ofNat b.toNat = b := UInt8.ofNat_toNat ..

set_option maxHeartbeats 2000000 in
/-- name.Letter. -/
theorem letter_any (b : UInt8) (w : World) : Calls Tryd.prog 70 #[.int .u8 (b.toNat : Int)] w fun e w' => e = .returned (.bool (letB b)) ∧ w' = w := by
  have h := (let_fact b.toNat b.toNat_lt).1
  rw [ofNat_toNat] at h
  rw [← h]
  clear h
  generalize (b.toNat : Int) = n
  go_enter Tryd.func70, Tryd.ntmps70
  by_cases h1 : n = 95
  · go_wp2
    go_ret
    refine ⟨ret_bool ?_, rfl⟩; (first | rfl | (simp [*]; done) | (rw [Bool.eq_iff_iff]; simp; omega))
  · by_cases h2 : 97 ≤ bits .or .u8 n 32
    · go_wp2
      go_ret
      refine ⟨ret_bool ?_, rfl⟩; (first | rfl | (simp [*]; done) | (rw [Bool.eq_iff_iff]; simp; omega))
    · go_wp2
      go_ret
      refine ⟨ret_bool ?_, rfl⟩; (first | rfl | (simp [*]; done) | (rw [Bool.eq_iff_iff]; simp; omega))
set_option maxHeartbeats 2000000 in
/-- name.digit. -/
theorem digit_any (b : UInt8) (w : World) : Calls Tryd.prog 71 #[.int .u8 (b.toNat : Int)] w fun e w' => e = .returned (.bool (digB b)) ∧ w' = w := by
  have h := (let_fact b.toNat b.toNat_lt).2.2.1
  rw [ofNat_toNat] at h
  rw [← h]
  clear h
  generalize (b.toNat : Int) = n
  go_enter Tryd.func71, Tryd.ntmps71
  go_wp2
  go_ret
  exact ⟨rfl, rfl⟩
set_option maxHeartbeats 2000000 in
/-- bonsairef02.Letter. -/
theorem rletter_any (b : UInt8) (w : World) : Calls Tryd.prog 72 #[.int .u8 (b.toNat : Int)] w fun e w' => e = .returned (.bool (letB b)) ∧ w' = w := by
  have h := (let_fact b.toNat b.toNat_lt).2.1
  rw [ofNat_toNat] at h
  rw [← h]
  clear h
  generalize (b.toNat : Int) = n
  go_enter Tryd.func72, Tryd.ntmps72
  by_cases h1 : 97 ≤ n <;> by_cases h2 : n ≤ 122 <;> by_cases h3 : 65 ≤ n <;> by_cases h4 : n ≤ 90
  all_goals go_wp2
  all_goals go_ret
  all_goals (refine ⟨ret_bool ?_, rfl⟩; (first | rfl | (simp [*]; done) | (rw [Bool.eq_iff_iff]; simp; omega)))
set_option maxHeartbeats 2000000 in
/-- bonsairef02.digit. -/
theorem rdigit_any (b : UInt8) (w : World) : Calls Tryd.prog 73 #[.int .u8 (b.toNat : Int)] w fun e w' => e = .returned (.bool (digB b)) ∧ w' = w := by
  have h := (let_fact b.toNat b.toNat_lt).2.2.2
  rw [ofNat_toNat] at h
  rw [← h]
  clear h
  generalize (b.toNat : Int) = n
  go_enter Tryd.func73, Tryd.ntmps73
  by_cases h1 : 48 ≤ n
  all_goals go_wp2
  all_goals go_ret
  all_goals (refine ⟨ret_bool ?_, rfl⟩; (first | rfl | (simp [*]; done) | (rw [Bool.eq_iff_iff]; simp; omega)))

/-! ### What a text begins by that may be in a name -/
def inName (c : UInt8) : Bool := letB c || digB c
def takeN : List UInt8 → List UInt8
  | [] => []
  | b :: l => if letB b then (b :: l).takeWhile inName else []
theorem takeWhile_at {p : UInt8 → Bool} : ∀ {l : List UInt8} {k : Nat}, k ≤ l.length → (∀ i, (h : i < l.length) → i < k → p l[i] = true) → (∀ h : k < l.length, p l[k] = false) → l.take k = l.takeWhile p
  | [], k, _, _, _ => by simp
  | b :: l, 0, _, _, h2 => by have := h2 (by simp); simp at this; simp [List.takeWhile_cons, this]
  | b :: l, k + 1, hk, h1, h2 => by
    have hb := h1 0 (by simp) (by omega)
    simp at hb
    rw [List.takeWhile_cons, hb, List.take_succ_cons]
    simp only [if_true]
    congr 1
    exact takeWhile_at (by simpa using hk) (fun i h hi => by have := h1 (i + 1) (by simpa using h) (by omega); simpa using this) (fun h => by have := h2 (by simpa using h); simpa using this)
/-- The bytes so far are of a name. -/
def Named (l : List UInt8) (k : Nat) : Prop := ∀ i, (h : i < l.length) → i < k → (if i = 0 then letB l[i] else inName l[i]) = true
theorem named_zero (l : List UInt8) : Named l 0 := fun i _ h => absurd h (by omega)
theorem named_step {l : List UInt8} {k : Nat} (h : Named l k) (hk : k < l.length) (hc : (letB l[k] || (decide (0 < k) && digB l[k])) = true) : Named l (k + 1) := by
  intro i hi hik
  by_cases hlt : i < k
  · exact h i hi hlt
  · obtain rfl : i = k := by omega
    by_cases h0 : i = 0
    · rw [if_pos h0]; subst h0; simpa using hc
    · rw [if_neg h0]; unfold inName
      rw [decide_eq_true (by omega), Bool.true_and] at hc; exact hc
theorem named_end {l : List UInt8} {k : Nat} (h : Named l k) (hk : k ≤ l.length) (hc : ∀ h : k < l.length, (letB l[k] || (decide (0 < k) && digB l[k])) = false) : l.take k = takeN l := by
  cases l with
  | nil => simp [takeN]
  | cons b l =>
    have hin : ∀ c, letB c = true → inName c = true := fun c hc => by unfold inName; rw [hc]; rfl
    rw [show takeN (b :: l) = if letB b then (b :: l).takeWhile inName else [] from rfl]
    by_cases h0 : k = 0
    · subst h0
      have := hc (by simp)
      simp at this
      simp [this]
    · have hb := h 0 (by simp) (by omega)
      simp at hb
      rw [if_pos hb]
      refine takeWhile_at hk (fun i hi hik => ?_) (fun hlt => ?_)
      · have := h i hi hik
        split at this
        · exact hin _ this
        · exact this
      · have := hc hlt
        rw [decide_eq_true (by omega), Bool.true_and] at this; exact this
theorem takeN_len (l : List UInt8) : (takeN l).length ≤ l.length := by
  cases l with
  | nil => simp [takeN]
  | cons b l =>
    rw [show takeN (b :: l) = if letB b then (b :: l).takeWhile inName else [] from rfl]
    split
    · exact (List.takeWhile_sublist ..).length_le
    · simp
theorem takeWhile_all {p : UInt8 → Bool} (l : List UInt8) : (decide ((l.takeWhile p).length = l.length)) = l.all p := by
  induction l with
  | nil => rfl
  | cons b l ih =>
    rw [List.takeWhile_cons, List.all_cons]
    cases hb : p b with
    | true => simp [← ih]
    | false => simp
theorem mayL_eq (l : List UInt8) : mayL l = (decide (l ≠ []) && decide (l.length ≤ 32) && decide ((takeN l).length = l.length)) := by
  cases l with
  | nil => rfl
  | cons b l =>
    rw [show takeN (b :: l) = if letB b then (b :: l).takeWhile inName else [] from rfl, show mayL (b :: l) = (letB b && decide (l.length < 32) && l.all inName) from rfl]
    cases hb : letB b with
    | false => simp
    | true =>
      rw [if_pos rfl, takeWhile_all, List.all_cons]
      have : inName b = true := by unfold inName; rw [hb]; rfl
      rw [this]
      simp only [ne_eq, reduceCtorEq, not_false_eq_true, decide_true, Bool.true_and, List.length_cons]
      rfl
theorem takeN_eq (l : List UInt8) : (takeN l = l) ↔ (takeN l).length = l.length := by
  constructor
  · intro h; rw [h]
  · intro h
    cases l with
    | nil => rfl
    | cons b l =>
      rw [show takeN (b :: l) = if letB b then (b :: l).takeWhile inName else [] from rfl] at h ⊢
      split at h
      · rw [if_pos (by assumption)]; exact (List.takeWhile_sublist ..).eq_of_length h
      · simp at h
end Go.Proofs.YtcenjpaiehidjaaDoor

/- Contracts of name.Take, name.May and the reference's. -/
namespace Go.Proofs.YtcenjpaiehidjaaDoor
open Go.RowKit
set_option maxRecDepth 100000

theorem ret_str {l m : List UInt8} (h : l = m) : Ending.returned (.string (strOf l)) = .returned (.string (strOf m)) := by rw [h]
set_option maxHeartbeats 2000000 in
/-- name.Take. -/
theorem take_any (l : List UInt8) (hl : l.length ≤ 32) (w : World) : Calls Tryd.prog 66 #[.string (strOf l)] w fun e w' => e = .returned (.string (strOf (takeN l))) ∧ w' = w := by
  have hsz := strOf_size l
  go_enter Tryd.func66, Tryd.ntmps66
  go_wp2
  go_loop [3] (fun i => ∃ k : Nat, k ≤ l.length ∧ i = .int .i64 k ∧ Hid (Named l k)) (fun i => l.length - (intOf i).toNat)
  case atStart => exact ⟨0, by omega, rfl, Lib.hid (named_zero l)⟩
  case round =>
    obtain ⟨k, hk, rfl, hN⟩ := hrel
    have hsl := slice_to l k hk
    by_cases hlt : k < l.length
    · have hix := idx_l l k hlt
      have hS := Lib.hid (fun h => named_step hN.out hlt h)
      have hE := Lib.hid (fun (h : (letB l[k] || (decide (0 < k) && digB l[k])) = false) => named_end hN.out hk (fun _ => h))
      clear hN
      cases h1 : letB l[k]
      · by_cases h0 : k = 0
        · have h0' : ¬ (0 : Int) < k := by omega
          have H1 := Lib.hid h1
          have H0 := Lib.hid h0
          clear h1 h0
          go_wp2_with (first | (go_at_call 70; refine (letter_any _ _).mono ?_; rw [H1.out]; rintro e w1 ⟨rfl, rfl⟩))
          go_ret
          exact ⟨ret_str (hE.out (by rw [H1.out, decide_eq_false (by have := H0.out; omega)]; rfl)), rfl⟩
        · have h0' : (0 : Int) < k := by omega
          cases h2 : digB l[k]
          · have H1 := Lib.hid h1
            have H2 := Lib.hid h2
            clear h1 h2
            go_wp2_with (first | (go_at_call 70; refine (letter_any _ _).mono ?_; rw [H1.out]; rintro e w1 ⟨rfl, rfl⟩) | (go_at_call 71; refine (digit_any _ _).mono ?_; rw [H2.out]; rintro e w1 ⟨rfl, rfl⟩))
            go_ret
            exact ⟨ret_str (hE.out (by rw [H1.out, H2.out]; simp)), rfl⟩
          · have H1 := Lib.hid h1
            have H2 := Lib.hid h2
            clear h1 h2
            go_wp2_with (first | (go_at_call 70; refine (letter_any _ _).mono ?_; rw [H1.out]; rintro e w1 ⟨rfl, rfl⟩) | (go_at_call 71; refine (digit_any _ _).mono ?_; rw [H2.out]; rintro e w1 ⟨rfl, rfl⟩))
            go_round
            case rel => exact ⟨k + 1, by omega, by go_num, Lib.hid (hS.out (by rw [H1.out, H2.out, decide_eq_true (by omega)]; rfl))⟩
            case measure => simp [intOf]; omega
      · have H1 := Lib.hid h1
        clear h1
        go_wp2_with (first | (go_at_call 70; refine (letter_any _ _).mono ?_; rw [H1.out]; rintro e w1 ⟨rfl, rfl⟩))
        go_round
        case rel => exact ⟨k + 1, by omega, by go_num, Lib.hid (hS.out (by rw [H1.out]; rfl))⟩
        case measure => simp [intOf]; omega
    · have hE := Lib.hid (named_end hN.out hk (fun h => absurd h hlt))
      clear hN
      go_wp2
      go_ret
      exact ⟨ret_str hE.out, rfl⟩
set_option maxHeartbeats 2000000 in
/-- bonsairef02.Take. -/
theorem rtake_any (l : List UInt8) (hl : l.length ≤ 32) (w : World) : Calls Tryd.prog 69 #[.string (strOf l)] w fun e w' => e = .returned (.string (strOf (takeN l))) ∧ w' = w := by
  have hemp := strOf_empty l
  cases l with
  | nil =>
    simp only [List.isEmpty_nil] at hemp
    go_enter Tryd.func69, Tryd.ntmps69
    go_wp2
    go_ret
    exact ⟨rfl, rfl⟩
  | cons b l =>
    simp only [List.isEmpty_cons] at hemp
    have hix0 := idx_l (b :: l) 0 (by simp)
    simp only [List.getElem_cons_zero, Int.natCast_zero] at hix0
    cases h1 : letB b
    · have H1 := Lib.hid h1
      clear h1
      go_enter Tryd.func69, Tryd.ntmps69
      go_wp2_with (first | (go_at_call 72; refine (rletter_any _ _).mono ?_; rw [H1.out]; rintro e w1 ⟨rfl, rfl⟩))
      go_ret
      exact ⟨ret_str (by rw [show takeN (b :: l) = if letB b then (b :: l).takeWhile inName else [] from rfl, H1.out]; rfl), rfl⟩
    · have H1 := Lib.hid h1
      clear h1
      obtain ⟨L, hL⟩ : ∃ L, b :: l = L := ⟨_, rfl⟩
      rw [hL] at hl hemp hix0 ⊢
      have H3 := Lib.hid hL
      clear hL
      have hsz := strOf_size L
      go_enter Tryd.func69, Tryd.ntmps69
      go_wp2_with (first | (go_at_call 72; refine (rletter_any _ _).mono ?_; rw [H1.out]; rintro e w1 ⟨rfl, rfl⟩))
      clear hix0
      go_loop [3] (fun i => ∃ k : Nat, k ≤ L.length ∧ i = .int .i64 k ∧ Hid (Named L k)) (fun i => L.length - (intOf i).toNat)
      case atStart => exact ⟨0, by omega, rfl, Lib.hid (named_zero L)⟩
      case round =>
        obtain ⟨k, hk, rfl, hN⟩ := hrel
        have hsl := slice_to L k hk
        by_cases hlt : k < L.length
        · have hix := idx_l L k hlt
          have hS := Lib.hid (fun h => named_step hN.out hlt h)
          have hE := Lib.hid (fun (h : (letB L[k] || (decide (0 < k) && digB L[k])) = false) => named_end hN.out hk (fun _ => h))
          clear hN
          have hk0 : letB L[k] = false → 0 < k := fun h => by
            rcases Nat.eq_zero_or_pos k with h0 | h0
            · subst h0
              have e : letB L[0] = true := by rw [← H1.out]; congr 1; have := H3.out; subst this; rfl
              rw [e] at h; cases h
            · exact h0
          have Hk := Lib.hid hk0
          clear hk0
          cases h2 : letB L[k]
          · have Hp := Lib.hid (Hk.out h2)
            have H4 := Lib.hid h2
            clear h2
            cases h3 : digB L[k]
            · have H5 := Lib.hid h3
              clear h3
              go_wp2_with (first | (go_at_call 72; refine (rletter_any _ _).mono ?_; rw [H4.out]; rintro e w1 ⟨rfl, rfl⟩) | (go_at_call 73; refine (rdigit_any _ _).mono ?_; rw [H5.out]; rintro e w1 ⟨rfl, rfl⟩))
              go_ret
              exact ⟨ret_str (hE.out (by rw [H4.out, H5.out]; simp)), rfl⟩
            · have H5 := Lib.hid h3
              clear h3
              go_wp2_with (first | (go_at_call 72; refine (rletter_any _ _).mono ?_; rw [H4.out]; rintro e w1 ⟨rfl, rfl⟩) | (go_at_call 73; refine (rdigit_any _ _).mono ?_; rw [H5.out]; rintro e w1 ⟨rfl, rfl⟩))
              go_round
              case rel => exact ⟨k + 1, by omega, by go_num, Lib.hid (hS.out (by rw [H4.out, H5.out, decide_eq_true Hp.out]; rfl))⟩
              case measure => simp [intOf]; omega
          · have H4 := Lib.hid h2
            clear h2
            go_wp2_with (first | (go_at_call 72; refine (rletter_any _ _).mono ?_; rw [H4.out]; rintro e w1 ⟨rfl, rfl⟩))
            go_round
            case rel => exact ⟨k + 1, by omega, by go_num, Lib.hid (hS.out (by rw [H4.out]; rfl))⟩
            case measure => simp [intOf]; omega
        · have hE := Lib.hid (named_end hN.out hk (fun h => absurd h hlt))
          clear hN
          go_wp2
          go_ret
          exact ⟨ret_str hE.out, rfl⟩
set_option maxHeartbeats 2000000 in
/-- name.May. -/
theorem may_any (l : List UInt8) (w : World) : Calls Tryd.prog 56 #[.string (strOf l)] w fun e w' => e = .returned (.bool (mayL l)) ∧ w' = w := by
  have hsz := strOf_size l
  have hemp := strOf_empty l
  rw [mayL_eq]
  go_enter Tryd.func56, Tryd.ntmps56
  cases l with
  | nil =>
    simp only [List.isEmpty_nil] at hemp
    go_wp2
    go_ret
    exact ⟨rfl, rfl⟩
  | cons b l =>
    simp only [List.isEmpty_cons] at hemp
    obtain ⟨L, hL⟩ : ∃ L, b :: l = L := ⟨_, rfl⟩
    rw [hL] at hemp hsz ⊢
    have hn : L ≠ [] := by rw [← hL]; simp
    have H0 := Lib.hid hn
    have hsz2 := strOf_size (takeN L)
    clear hL hn
    by_cases h : L.length ≤ 32
    · go_wp2_with (first | (go_at_call 66; with_reducible refine (take_any _ h _).mono ?_; rintro e w1 ⟨rfl, rfl⟩))
      go_ret
      refine ⟨ret_bool ?_, rfl⟩
      simp [H0.out, h]
      rw [Bool.eq_iff_iff]; simp; omega
    · go_wp2
      go_ret
      refine ⟨ret_bool ?_, rfl⟩
      first | rfl | simp [h]
set_option maxHeartbeats 2000000 in
/-- bonsairef02.May. -/
theorem rmay_any (l : List UInt8) (w : World) : Calls Tryd.prog 63 #[.string (strOf l)] w fun e w' => e = .returned (.bool (mayL l)) ∧ w' = w := by
  have hsz := strOf_size l
  have hemp := strOf_empty l
  rw [mayL_eq]
  go_enter Tryd.func63, Tryd.ntmps63
  cases l with
  | nil =>
    simp only [List.isEmpty_nil] at hemp
    go_wp2
    go_ret
    exact ⟨rfl, rfl⟩
  | cons b l =>
    simp only [List.isEmpty_cons] at hemp
    obtain ⟨L, hL⟩ : ∃ L, b :: l = L := ⟨_, rfl⟩
    rw [hL] at hemp hsz ⊢
    have hn : L ≠ [] := by rw [← hL]; simp
    have H0 := Lib.hid hn
    have hsz2 := strOf_size (takeN L)
    clear hL hn
    by_cases h : L.length ≤ 32
    · go_wp2_with (first | (go_at_call 69; with_reducible refine (rtake_any _ h _).mono ?_; rintro e w1 ⟨rfl, rfl⟩))
      go_ret
      refine ⟨ret_bool ?_, rfl⟩
      simp [H0.out, h, strOf_list]
      rw [Bool.eq_iff_iff]; simp [takeN_eq]
    · go_wp2
      go_ret
      refine ⟨ret_bool ?_, rfl⟩
      first | rfl | simp [h]
end Go.Proofs.YtcenjpaiehidjaaDoor

/- Nodes and arenas as values in memory. -/
namespace Go.Proofs.YtcenjpaiehidjaaDoor
open Go.RowKit
set_option maxRecDepth 100000

/-- A node's cells: its kids' slice is the last. -/
abbrev ndC (h : Hd) (q : Option Addr) (n cap : Nat) : List Value := [.int .u8 h.kind, .int .u64 (w64 h.set 0), .int .u64 (w64 h.set 1), .int .u64 (w64 h.set 2), .int .u64 (w64 h.set 3), .string (strOf h.text), .int .i64 h.lo, .int .i64 h.hi, .slice q n cap]
abbrev ndV (h : Hd) (q : Option Addr) (n cap : Nat) : Value := .agg (ndC h q n cap).toArray
abbrev ndO (h : Hd) (q : Option Addr) (n cap : Nat) : Obj := .cells (ndC h q n cap).toArray 56
/-- What may be a node's head, as a value. -/
structure HdOk (h : Hd) : Prop where
  kind : 0 ≤ h.kind ∧ h.kind < 256
  set : h.set < 2 ^ 256
theorem tyNode0 : (Tryd.prog.underlying 56).map (fun d => decide (d.isRow = true)) = some true := by kernel_rfl
theorem tyNode : ∃ d, Tryd.prog.underlying 56 = some d ∧ d.isRow = true := by
  have h := tyNode0
  cases e : Tryd.prog.underlying 56 with
  | none => rw [e] at h; cases h
  | some d => rw [e] at h; exact ⟨d, rfl, by simpa using h⟩
theorem szNode : (Tryd.prog.info? 56).map (·.size) = some 9 := by kernel_rfl
theorem tySet : Tryd.prog.underlying 54 = some (.array 4 52) := by kernel_rfl
theorem szSet : (Tryd.prog.info? 54).map (·.size) = some 4 := by kernel_rfl
theorem w64_zero (i : Nat) : w64 0 i = 0 := by unfold w64; simp
theorem set_ne {s : Nat} (hs : s < 2 ^ 256) (h : s ≠ 0) : ¬ (w64 s 0 = 0 ∧ w64 s 1 = 0 ∧ w64 s 2 = 0 ∧ w64 s 3 = 0) := fun ⟨h0, h1, h2, h3⟩ =>
  h (words_ext hs (by decide) (by rw [h0, w64_zero]) (by rw [h1, w64_zero]) (by rw [h2, w64_zero]) (by rw [h3, w64_zero]))

@[go_sem] theorem egSet : Tryd.prog.eqGuardType Tryd.prog.depth 54 = false := by kernel_rfl
@[go_sem] theorem eqSet (a0 a1 a2 a3 b0 b1 b2 b3 : Int) (w : World) : (Op.equalIn 10000 54 (.agg #[.int .u64 a0, .int .u64 a1, .int .u64 a2, .int .u64 a3]) (.agg #[.int .u64 b0, .int .u64 b1, .int .u64 b2, .int .u64 b3])).run Tryd.prog w = .ok (a0 == b0 && (a1 == b1 && (a2 == b2 && a3 == b3))) w := by
  have u3 := Tryd.underlying52
  have a3' := Tryd.isAgg52
  have z3 := Tryd.sizeOf52
  rw [show (10000 : Nat) = 9999 + 1 from rfl, Op.equalIn]
  simp only [Sem.run_bind, run_underlying tySet, Result.andThen_ok]
  simp only [Std.Legacy.Range.forIn_eq_forIn_range', Std.Legacy.Range.size, Nat.sub_zero, Nat.add_sub_cancel, Nat.div_one, List.range'_succ, List.range'_zero, List.forIn_cons, List.forIn_nil]
  go_simp
  by_cases h0 : a0 = b0 <;> by_cases h1 : a1 = b1 <;> by_cases h2 : a2 = b2 <;> by_cases h3 : a3 = b3 <;> simp [h0, h1, h2, h3]
/-- The table of how many kids a kind has. -/
def kidsTab : List Int := [0, 0, 0, 0, 0, 0, 0, 0, 2, -1, 2, -1, 1, 1, 1, 1, 1, 1, 1, 1]
def KidsT (w : World) : Prop := ∀ j, j < 20 → w.cell? ⟨0, j, none⟩ = some (.int .i64 (kidsTab.getD j 0))
theorem KidsT.at {w : World} (h : KidsT w) (j : Nat) (x : Int) (hj : j < 20) (hx : kidsTab.getD j 0 = x) : w.cell? ⟨0, j, none⟩ = some (.int .i64 x) := by rw [← hx]; exact h j hj
end Go.Proofs.YtcenjpaiehidjaaDoor
