/- QuotePlain: plain, and its walk. -/
import Derived.Test.YtcpgbakdfogilaaDoorQuoteP
import Derived.Test.YtcpgbakdfogilaaDoorQuoteX
namespace Go.Proofs.YtcpgbakdfogilaaDoor
open Go.RowKit
set_option maxRecDepth 100000

/-- Each q has a backslash ahead. -/
def Esc (q : UInt8) (l : List UInt8) : Prop := ∀ j, l[j]? = some q → 1 ≤ j ∧ l[j - 1]? = some 92
theorem Esc.append {q : UInt8} {a b : List UInt8} (ha : Esc q a) (hb : Esc q b) : Esc q (a ++ b) := by
  intro j hj
  by_cases h : j < a.length
  · rw [List.getElem?_append_left h] at hj
    have := ha j hj
    exact ⟨this.1, by rw [List.getElem?_append_left (by omega)]; exact this.2⟩
  · rw [List.getElem?_append_right (by omega)] at hj
    have := hb _ hj
    refine ⟨by omega, ?_⟩
    rw [List.getElem?_append_right (by omega), show j - 1 - a.length = j - a.length - 1 by omega]
    exact this.2
def escB (q : UInt8) (l : List UInt8) : Bool := (List.range l.length).all fun j => l[j]? != some q || (decide (1 ≤ j) && l[j - 1]? == some 92)
theorem Esc.of {q : UInt8} {l : List UInt8} (h : escB q l = true) : Esc q l := by
  intro j hj
  by_cases hl : j < l.length
  · have := List.all_eq_true.1 h j (List.mem_range.2 hl)
    rw [hj] at this
    simpa using this
  · rw [List.getElem?_eq_none (by omega)] at hj; cases hj
theorem esc_all : ∀ n, n < 256 → (escB 34 (signL (UInt8.ofNat n) inText) && escB 93 (signL (UInt8.ofNat n) inClass)) = true := by decide +kernel
theorem esc_any (b : UInt8) : Esc 34 (signL b inText) ∧ Esc 93 (signL b inClass) := by
  have := esc_all b.toNat b.toNat_lt
  rw [UInt8.ofNat_toNat, Bool.and_eq_true] at this
  exact ⟨.of this.1, .of this.2⟩
theorem Esc.nil (q : UInt8) : Esc q [] := fun j hj => by simp at hj
theorem esc_flat (s : List UInt8) : Esc 34 (flatS inText s) := by
  induction s with
  | nil => exact .nil _
  | cons b s ih => rw [flat_cons]; exact (esc_any b).1.append ih
theorem esc_item (p : Nat × Nat) : Esc 93 (itemL p) := by
  have h1 := (esc_any (UInt8.ofNat p.1)).2
  have h2 := (esc_any (UInt8.ofNat p.2)).2
  unfold itemL
  split
  · exact h1
  split
  · exact h1.append h2
  · exact (h1.append (.of (by decide))).append h2
theorem esc_items (R : List (Nat × Nat)) : Esc 93 (itemsL R) := by
  induction R with
  | nil => exact .nil _
  | cons p R ih => rw [show itemsL (p :: R) = itemL p ++ itemsL R by simp [itemsL]]; exact (esc_item p).append ih
theorem ok_sign (b : UInt8) : (∀ c ∈ signL b inText, 32 ≤ c.toNat ∧ c.toNat ≤ 126) ∧ (∀ c ∈ signL b inClass, 32 ≤ c.toNat ∧ c.toNat ≤ 126) := by
  have := sgnOk_any b
  unfold sgnOk at this
  simp only [Bool.and_eq_true, decide_eq_true_eq] at this
  have h1 := List.all_eq_true.1 this.1.1.1.1.1
  have h2 := List.all_eq_true.1 this.1.1.1.1.2
  exact ⟨fun c hc => by simpa using h1 c hc, fun c hc => by simpa using h2 c hc⟩
theorem ok_flat (s : List UInt8) : ∀ c ∈ flatS inText s, 32 ≤ c.toNat ∧ c.toNat ≤ 126 := by
  intro c hc
  unfold flatS at hc
  obtain ⟨b, _, hb⟩ := List.mem_flatMap.1 hc
  exact (ok_sign b).1 c hb
theorem ok_items (R : List (Nat × Nat)) : ∀ c ∈ itemsL R, 32 ≤ c.toNat ∧ c.toNat ≤ 126 := by
  intro c hc
  unfold itemsL at hc
  obtain ⟨p, _, hb⟩ := List.mem_flatMap.1 hc
  have h1 := (ok_sign (UInt8.ofNat p.1)).2
  have h2 := (ok_sign (UInt8.ofNat p.2)).2
  unfold itemL at hb
  split at hb
  · exact h1 c hb
  split at hb
  · rcases List.mem_append.1 hb with h | h
    · exact h1 c h
    · exact h2 c h
  · rcases List.mem_append.1 hb with h | h
    · rcases List.mem_append.1 h with h | h
      · exact h1 c h
      · rw [List.mem_singleton.1 h]; decide
    · exact h2 c h
/-- What is written: its first byte, its bytes, and what has a backslash ahead. -/
structure PlainT (T : List UInt8) (h : UInt8) : Prop where
  pos : 1 ≤ T.length
  len : T.length ≤ 100000
  one : T.length = 1 → T = [46]
  head : T[0]? = some h
  rng : ∀ c ∈ T, 32 ≤ c.toNat ∧ c.toNat ≤ 126
  esc : ∀ i c, 0 < i → i + 1 < T.length → T[i]? = some c → (h = 34 ∧ c = 34 ∨ h ≠ 34 ∧ c = 93) → T[i - 1]? = some 92
theorem PlainT.of {m : List UInt8} {h q : UInt8} (hl : m.length ≤ 99998) (hr : ∀ c ∈ m, 32 ≤ c.toNat ∧ c.toNat ≤ 126) (hh : 32 ≤ h.toNat ∧ h.toNat ≤ 126) (hq : 32 ≤ q.toNat ∧ q.toNat ≤ 126) (he : Esc q m) (hx : h = 34 ∧ q = 34 ∨ h ≠ 34 ∧ q = 93) : PlainT (h :: m ++ [q]) h where
  pos := by simp
  len := by simp; omega
  one := by intro h; simp at h
  head := by simp
  rng := by
    intro c hc
    simp only [List.cons_append, List.mem_cons, List.mem_append, List.not_mem_nil, or_false] at hc
    rcases hc with rfl | hc | rfl
    · exact hh
    · exact hr c hc
    · exact hq
  esc := by
    intro i c hi hil hc hcq
    obtain ⟨j, rfl⟩ : ∃ j, i = j + 1 := ⟨i - 1, by omega⟩
    have hj : j < m.length := by simp at hil; omega
    have hcq' : c = q := by
      rcases hcq with ⟨h1, h2⟩ | ⟨h1, h2⟩ <;> rcases hx with ⟨h3, h4⟩ | ⟨h3, h4⟩
      · rw [h2, h4]
      · exact absurd h1 h3
      · exact absurd h3 h1
      · rw [h2, h4]
    subst hcq'
    rw [List.cons_append, List.getElem?_cons_succ, List.getElem?_append_left hj] at hc
    have := he j hc
    obtain ⟨k, rfl⟩ : ∃ k, j = k + 1 := ⟨j - 1, by omega⟩
    rw [Nat.add_sub_cancel, List.cons_append, List.getElem?_cons_succ, List.getElem?_append_left (by omega)]
    exact this.2
theorem plain_lit (s : List UInt8) (hs : s.length ≤ 5000) : PlainT (litL s) 34 := by
  have hl := flatS_len inText s
  exact PlainT.of (h := 34) (q := 34) (by omega) (ok_flat s) (by decide) (by decide) (esc_flat s) (Or.inl ⟨rfl, rfl⟩)
theorem plain_class (x : Nat) : ∃ h, PlainT (classL x) h := by
  unfold classL
  split
  · refine ⟨46, ⟨by simp, by simp, fun _ => rfl, rfl, by decide, ?_⟩⟩
    intro i c hi hil
    simp at hil
  · have := itemsL_len (runsL (bytesTo x 256))
    have := runsL_len (bytesTo x 256)
    have := bytesTo_len x 256
    exact ⟨91, PlainT.of (h := 91) (q := 93) (by omega) (ok_items _) (by decide) (by decide) (esc_items _) (Or.inr ⟨by decide, rfl⟩)⟩
set_option maxHeartbeats 4000000 in
theorem plain_big (s : List UInt8) (x : Nat) (hbig : 5000 < s.length) (w : World) (hT : Tb w) :
    Calls Tryd.prog 10 #[.string (strOf s), setV x] w fun e w' => e = .returned (.bool true) ∧ Below w.heap.size w w' := by
  have hI := (Inv.start w).alloc (setC x)
  replace hT := hT.alloc (setC x)
  have hz : ((strOf s).size : Int) = (s.length : Int) := by rw [strOf_size]
  have hgt : (5000 : Int) < (s.length : Int) := by omega
  clear hbig
  go_enter Tryd.func10, Tryd.ntmps10
  go_wp2_with (go_at_call 43; (with_reducible refine (awake3_any _ hT).mono ?_); rintro e W1 ⟨rfl, hb⟩; replace hI := hI.call hb; replace hT := hT.call hb; clear hb)
  go_ret
  exact ⟨rfl, hI.below⟩
set_option maxHeartbeats 32000000 in
theorem plain_small (s : List UInt8) (x : Nat) (hx : x < 2 ^ 256) (hsm : s.length ≤ 5000) (w : World) (hT : Tb w) :
    Calls Tryd.prog 10 #[.string (strOf s), setV x] w fun e w' => e = .returned (.bool true) ∧ Below w.heap.size w w' := by
  have hI := (Inv.start w).alloc (setC x)
  replace hT := hT.alloc (setC x)
  have hz : ((strOf s).size : Int) = (s.length : Int) := by rw [strOf_size]
  have hle : ¬ (5000 : Int) < (s.length : Int) := by omega
  have hPA := plain_lit s hsm
  have hPC := plain_class x
  have Hs := Lib.hid (show s.length ≤ 100000 by omega)
  have Hx := Lib.hid hx
  obtain ⟨A, hA⟩ : ∃ A, litL s = A := ⟨_, rfl⟩
  obtain ⟨C, hC⟩ : ∃ A, classL x = A := ⟨_, rfl⟩
  rw [hA] at hPA
  rw [hC] at hPC
  have HA := Lib.hid hA
  have HC := Lib.hid hC
  have HPT := Lib.hid (show ∀ k, k < 2 → ∃ T h, (#[.string (strOf A), .string (strOf C)] : Array Value)[k]? = some (.string (strOf T)) ∧ PlainT T h by
    intro k hk
    obtain ⟨h, hh⟩ := hPC
    match k, hk with
    | 0, _ => exact ⟨A, 34, rfl, hPA⟩
    | 1, _ => exact ⟨C, h, rfl, hh⟩)
  clear hA hC hPA hPC hsm hx
  go_enter Tryd.func10, Tryd.ntmps10
  go_wp2_with (go_at_call 43; (with_reducible refine (awake3_any _ hT).mono ?_); rintro e W1 ⟨rfl, hb⟩; replace hI := hI.call hb; replace hT := hT.call hb; clear hb)
  obtain ⟨c0, c1, c2, c3, e0, e1, e2, e3⟩ := setB_facts (hI.at (g := w.heap.size) (o := setC x) (by simp))
  clear e0 e1 e2 e3
  replace hI := hI.drew
  replace hT := hT.drew
  go_region_held_law (fun w' => w'.cell? ⟨w.heap.size, 0, none⟩ = some (.int .u64 (w64 x 0)) ∧ w'.cell? ⟨w.heap.size, 1, none⟩ = some (.int .u64 (w64 x 1)) ∧ w'.cell? ⟨w.heap.size, 2, none⟩ = some (.int .u64 (w64 x 2)) ∧ w'.cell? ⟨w.heap.size, 3, none⟩ = some (.int .u64 (w64 x 3))) (go_keep)
    (first
      | (go_at_call 44; (with_reducible refine (literal_any s Hs.out _ hT).mono ?_); rw [HA.out]; rintro e W1 ⟨rfl, hb⟩; replace hI := hI.call hb; replace hT := hT.call hb; obtain ⟨c0, c1, c2, c3, e0, e1, e2, e3⟩ := setB_facts (hI.at (g := w.heap.size) (o := setC x) (by simp)); clear e0 e1 e2 e3; clear hb)
      | (go_at_call 46; (with_reducible refine (class_any x Hx.out _ hT).mono ?_); rw [HC.out]; rintro e W2 ⟨rfl, hb⟩; replace hI := hI.call hb; replace hT := hT.call hb; obtain ⟨c0, c1, c2, c3, e0, e1, e2, e3⟩ := setB_facts (hI.at (g := w.heap.size) (o := setC x) (by simp)); clear e0 e1 e2 e3; clear hb))
  clear c0 c1 c2 c3
  have hrow : ∀ (k : Nat) (v : Value), (#[.string (strOf A), .string (strOf C)] : Array Value)[k]? = some v → (W2.alloc (.cells #[.string (strOf A), .string (strOf C)] 9)).cell? ⟨W2.heap.size, k, none⟩ = some v := fun k v hv => (cell_of_row _ _ _ _ _ _ (heap_alloc_new W2 _)).trans hv
  have Hrow := Lib.hid hrow
  have HI := Lib.hid (hI.alloc (.cells #[.string (strOf A), .string (strOf C)] 9))
  clear hrow hI hT
  go_wp2
  go_loop [22] (fun i => ∃ k : Nat, k ≤ 2 ∧ i = .int .i64 k) (fun i => 2 - (intOf i).toNat)
  case atStart => exact ⟨0, by omega, rfl⟩
  case round =>
    obtain ⟨k, hk, rfl⟩ := hrel
    by_cases hlt : k < 2
    · obtain ⟨T, h, hTc, hP⟩ := HPT.out k hlt
      have kc := Hrow.out k _ hTc
      have HP := Lib.hid hP
      have hkI : (k : Int) < 2 := by omega
      have zT : ((strOf T).size : Int) = (T.length : Int) := by rw [strOf_size]
      have hpos : (1 : Int) ≤ (T.length : Int) := by have := hP.pos; omega
      have hlen : (T.length : Int) ≤ 100000 := by have := hP.len; omega
      clear hTc hP
      go_upto_region 6 with fail
      go_cut [37] from 26 to 38 (fun c wx => c = .bool false ∧ wx = W2.alloc (.cells #[.string (strOf A), .string (strOf C)] 9))
      case first =>
        by_cases h1 : T.length = 1
        · have hT1 := HP.out.one h1
          subst hT1
          have e46 : ((strOf [46]).toList == [46]) = true := by rw [str_back]; rfl
          clear h1
          go_wp2
          go_meet
          exact ⟨rfl, rfl⟩
        · have h1b : ((T.length : Int) == 1) = false := by rw [beq_eq_false_iff_ne]; omega
          have h1c : decide ((T.length : Int) < 1) = false := decide_eq_false (by omega)
          clear h1
          go_wp2
          go_meet
          exact ⟨rfl, rfl⟩
      case rest =>
      obtain ⟨rfl, rfl⟩ := hcut
      go_wp2
      go_loop [7] (fun j => ∃ i : Nat, i ≤ T.length ∧ j = .int .i64 i) (fun j => T.length - (intOf j).toNat)
      case atStart => exact ⟨0, by omega, rfl⟩
      case round =>
        obtain ⟨i, hi, rfl⟩ := hrel
        by_cases hil2 : i < T.length
        · obtain ⟨c, hc⟩ : ∃ c, T[i]? = some c := ⟨_, List.getElem?_eq_getElem hil2⟩
          have HC := Lib.hid hc
          have hcr := HP.out.rng c (List.mem_of_getElem? hc)
          have hHd := HP.out.head
          have ii := idx_at T i hil2 c hc
          have i0 : ∀ W : World, (Instr.index 9 (.string (strOf T)) (.int .i64 0)).run Tryd.prog W = .ok (.int .u8 (h.toNat : Int)) W := fun W => idx_at T 0 (by omega) h hHd W
          have hltI : (i : Int) < (T.length : Int) := by omega
          have d1 : decide ((c.toNat : Int) < 32) = false := decide_eq_false (by omega)
          have d2 : decide ((126 : Int) < (c.toNat : Int)) = false := decide_eq_false (by omega)
          clear hc hcr
          by_cases h34 : h = 34
          · subst h
            by_cases hi0 : 0 < i
            · by_cases hil : i + 1 < T.length
              · by_cases hc34 : c = 34
                · subst hc34
                  have hpv := HP.out.esc i 34 hi0 (by omega) HC.out (Or.inl ⟨rfl, rfl⟩)
                  have hs3 : i - 1 < (strOf T).size := by rw [strOf_size]; omega
                  have ip := idx_at T (i - 1) (by omega) 92 hpv
                  have ei : ((i - 1 : Nat) : Int) = (i : Int) - 1 := by omega
                  rw [ei] at ip
                  clear hpv hs3 ei
                  have z0 : decide ((0 : Int) < (i : Int)) = true := decide_eq_true (by omega)
                  have z1 : decide ((i : Int) < (T.length : Int) - 1) = true := decide_eq_true (by omega)
                  clear hHd HP hi0 hil HC
                  go_wp2
                  all_goals
                    go_round
                    case rel => exact ⟨i + 1, by omega, by go_num⟩
                    case measure => simp [intOf]; omega
                · have y0 : ((c.toNat : Int) == 34) = false := beq_eq_false_iff_ne.2 (fun h => hc34 (u8_eq h))
                  by_cases hc93 : c = 93
                  · subst hc93
                    have z0 : decide ((0 : Int) < (i : Int)) = true := decide_eq_true (by omega)
                    have z1 : decide ((i : Int) < (T.length : Int) - 1) = true := decide_eq_true (by omega)
                    clear hHd HP hi0 hil HC hc34 y0
                    go_wp2
                    all_goals
                      go_round
                      case rel => exact ⟨i + 1, by omega, by go_num⟩
                      case measure => simp [intOf]; omega
                  · have y1 : ((c.toNat : Int) == 93) = false := beq_eq_false_iff_ne.2 (fun h => hc93 (u8_eq h))
                    have z0 : decide ((0 : Int) < (i : Int)) = true := decide_eq_true (by omega)
                    have z1 : decide ((i : Int) < (T.length : Int) - 1) = true := decide_eq_true (by omega)
                    clear hHd HP hi0 hil HC hc34 hc93
                    go_wp2
                    all_goals
                      go_round
                      case rel => exact ⟨i + 1, by omega, by go_num⟩
                      case measure => simp [intOf]; omega
              · by_cases hc34 : c = 34
                · subst hc34
                  have z0 : decide ((0 : Int) < (i : Int)) = true := decide_eq_true (by omega)
                  have z1 : decide ((i : Int) < (T.length : Int) - 1) = false := decide_eq_false (by omega)
                  clear hHd HP hi0 HC
                  go_wp2
                  all_goals
                    go_round
                    case rel => exact ⟨i + 1, by omega, by go_num⟩
                    case measure => simp [intOf]; omega
                · have y0 : ((c.toNat : Int) == 34) = false := beq_eq_false_iff_ne.2 (fun h => hc34 (u8_eq h))
                  have z0 : decide ((0 : Int) < (i : Int)) = true := decide_eq_true (by omega)
                  have z1 : decide ((i : Int) < (T.length : Int) - 1) = false := decide_eq_false (by omega)
                  clear hHd HP hi0 HC hc34
                  go_wp2
                  all_goals
                    go_round
                    case rel => exact ⟨i + 1, by omega, by go_num⟩
                    case measure => simp [intOf]; omega
            · obtain rfl : i = 0 := by omega
              obtain rfl : c = 34 := by have := HC.out.symm.trans hHd; cases this; rfl
              clear hHd HP hi0 HC
              go_wp2
              all_goals
                go_round
                case rel => exact ⟨1, by omega, by go_num⟩
                case measure => simp [intOf]; omega
          · have y : ((h.toNat : Int) == 34) = false := beq_eq_false_iff_ne.2 (fun h => h34 (u8_eq h))
            by_cases hi0 : 0 < i
            · by_cases hil : i + 1 < T.length
              · by_cases hc93 : c = 93
                · subst hc93
                  have hpv := HP.out.esc i 93 hi0 (by omega) HC.out (Or.inr ⟨h34, rfl⟩)
                  have hs3 : i - 1 < (strOf T).size := by rw [strOf_size]; omega
                  have ip := idx_at T (i - 1) (by omega) 92 hpv
                  have ei : ((i - 1 : Nat) : Int) = (i : Int) - 1 := by omega
                  rw [ei] at ip
                  clear hpv hs3 ei
                  have z0 : decide ((0 : Int) < (i : Int)) = true := decide_eq_true (by omega)
                  have z1 : decide ((i : Int) < (T.length : Int) - 1) = true := decide_eq_true (by omega)
                  clear h34 hHd HP hi0 hil HC
                  go_wp2
                  all_goals
                    go_round
                    case rel => exact ⟨i + 1, by omega, by go_num⟩
                    case measure => simp [intOf]; omega
                · have y1 : ((c.toNat : Int) == 93) = false := beq_eq_false_iff_ne.2 (fun h => hc93 (u8_eq h))
                  by_cases hc34 : c = 34
                  · subst hc34
                    have z0 : decide ((0 : Int) < (i : Int)) = true := decide_eq_true (by omega)
                    have z1 : decide ((i : Int) < (T.length : Int) - 1) = true := decide_eq_true (by omega)
                    clear h34 hHd HP hi0 hil HC hc93 y1
                    go_wp2
                    all_goals
                      go_round
                      case rel => exact ⟨i + 1, by omega, by go_num⟩
                      case measure => simp [intOf]; omega
                  · have y0 : ((c.toNat : Int) == 34) = false := beq_eq_false_iff_ne.2 (fun h => hc34 (u8_eq h))
                    have z0 : decide ((0 : Int) < (i : Int)) = true := decide_eq_true (by omega)
                    have z1 : decide ((i : Int) < (T.length : Int) - 1) = true := decide_eq_true (by omega)
                    clear h34 hHd HP hi0 hil HC hc34 hc93
                    go_wp2
                    all_goals
                      go_round
                      case rel => exact ⟨i + 1, by omega, by go_num⟩
                      case measure => simp [intOf]; omega
              · have z0 : decide ((0 : Int) < (i : Int)) = true := decide_eq_true (by omega)
                have z1 : decide ((i : Int) < (T.length : Int) - 1) = false := decide_eq_false (by omega)
                clear h34 hHd HP hi0 HC
                go_wp2
                all_goals
                  go_round
                  case rel => exact ⟨i + 1, by omega, by go_num⟩
                  case measure => simp [intOf]; omega
            · obtain rfl : i = 0 := by omega
              obtain rfl : c = h := by have := HC.out.symm.trans hHd; cases this; rfl
              clear h34 hHd HP hi0 HC
              go_wp2
              all_goals
                go_round
                case rel => exact ⟨1, by omega, by go_num⟩
                case measure => simp [intOf]; omega
        · obtain rfl : i = T.length := by omega
          go_wp2
          go_round
          case rel => exact ⟨k + 1, by omega, by go_num⟩
          case measure => simp [intOf]; omega
    · obtain rfl : k = 2 := by omega
      go_wp2
      go_ret
      exact ⟨rfl, HI.out.below⟩
/-- bonsailaw03.QuotePlain. -/
theorem plain_any (s : List UInt8) (x : Nat) (hx : x < 2 ^ 256) (w : World) (hT : Tb w) :
    Calls Tryd.prog 10 #[.string (strOf s), setV x] w fun e w' => e = .returned (.bool true) ∧ Below w.heap.size w w' := by
  by_cases h : s.length ≤ 5000
  · exact plain_small s x hx h w hT
  · exact plain_big s x (by omega) w hT
end Go.Proofs.YtcpgbakdfogilaaDoor
