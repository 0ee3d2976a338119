/- Contract of quote.Unclass. -/
import Derived.Test.YtcpgbakdfogilaaDoorQuoteM
import Derived.Test.YtcpgbakdfogilaaDoorSet4
namespace Go.Proofs.YtcpgbakdfogilaaDoor
open Go.RowKit
set_option maxRecDepth 100000

abbrev ucV (r : Nat × Nat × Int) : Value := .tuple #[setV r.1, .int .i64 (r.2.1 : Int), .int .i64 r.2.2]
theorem one_c (t : List UInt8) (w : World) : Calls Tryd.prog 65 #[.string (strOf t), .string ⟨#[93, 45, 94, 92]⟩] w fun e w' => e = .returned (oneV (oneL t inClass)) ∧ Below w.heap.size w w' := one_any t inClass w
set_option maxHeartbeats 16000000 in
theorem uncl_in (neg : Bool) (τ : List UInt8) (hτ : τ.length ≤ 100000) (h91 : firstL τ 91 = 0) (hneg : decide ((τ.drop 1).head? = some 94) = neg) (w : World) :
    Calls Tryd.prog 47 #[.string (strOf τ)] w fun e w' => e = .returned (ucV (unclsF τ neg (τ.length + 1) (if neg then 2 else 1) 0)) ∧ Below w.heap.size w w' := by
  have hI := (Inv.start w).alloc zeroC
  have hl1 : 1 ≤ τ.length := by
    cases τ with
    | nil => simp [firstL] at h91
    | cons c r => simp
  have hl2 : neg = true → 2 ≤ τ.length := by
    intro hn
    rw [hn] at hneg
    have h := of_decide_eq_true hneg
    rcases τ with _ | ⟨a, _ | ⟨b, r⟩⟩
    · simp at h
    · simp at h
    · simp
  have Hl2 := Lib.hid hl2
  have H91 := Lib.hid h91
  have Hneg := Lib.hid hneg
  have hpl : ∀ W : World, _ := fun W => prefix_any (τ.drop 1) 94 (by simp; omega) W
  rw [hneg] at hpl
  have s1 : ∀ W : World, (Instr.slice 9 (.string (strOf τ)) (some (.int .i64 1)) none none).run Tryd.prog W = .ok (.string (strOf (τ.drop 1))) W := fun W => slice_from τ 1 hl1 W
  obtain ⟨T1, hT1⟩ : ∃ T, τ.drop 1 = T := ⟨_, rfl⟩
  rw [hT1] at hpl
  simp only [hT1] at s1
  have hsz := strOf_size τ
  have hszI : ((strOf τ).size : Int) = (τ.length : Int) := by rw [hsz]
  rw [zeroC_eq] at hI
  have hpz : w.heap.size ≤ w.heap.size := Nat.le_refl _
  clear hl2 h91 hneg hsz hT1
  have Hp := Lib.hid hpl
  clear hpl
  cases neg
  · go_enter Tryd.func47, Tryd.ntmps47
    go_wp2_with (first | (go_at_call 62; refine (first_any _ 91 _).mono ?_; rw [H91.out]; rintro e w' ⟨rfl, rfl⟩) | (go_at_call 64; refine (Hp.out _).mono ?_; rintro e w' ⟨rfl, rfl⟩))
    clear s1 Hp
    go_loopw [6] (fun i wr => ∃ p f S : Nat, p ≤ τ.length ∧ τ.length - p < f ∧ S < 2 ^ 256 ∧ i = .int .i64 p ∧ Inv w.heap.size w [(w.heap.size, setC S)] wr ∧ Hid (unclsF τ false (τ.length + 1) 1 0 = unclsF τ false f p S)) (fun i _ => τ.length - (intOf i).toNat)
    case atStart => exact ⟨1, τ.length + 1, 0, by have := Hl2.out; simp at this; omega, by omega, by decide, rfl, hI, rfl⟩
    case round =>
      clear hI
      obtain ⟨p, f, S, hp, hf, hS, rfl, hI, hF⟩ := hrel
      obtain ⟨f, rfl⟩ : ∃ g, f = g + 1 := ⟨f - 1, by omega⟩
      by_cases hend : p = τ.length
      · subst hend
        have hU : unclsF τ false (f + 1) τ.length S = (0, τ.length, 8) := by rw [unclsF, List.drop_length]
        rw [hU] at hF
        clear hU
        go_wp2_with (refine store_set rfl (.tmp 2) _ rfl w.heap.size 0 S rfl zeroV_eq (hI.at (by simp)) ?_; intro W5 g1 g2 g3 g4; replace hI := hI.turn (o' := setC 0) (Nat.le_refl _) (by simp) g1 g2 g3 (g4 _ _ (Nat.le_refl _)); clear g1 g2 g3 g4)
        obtain ⟨c0, c1, c2, c3, e0, e1, e2, e3⟩ := setB_facts (hI.at (g := w.heap.size) (o := setC 0) (by simp))
        clear e0 e1 e2 e3
        refine bodyPost_ret (v := ucV (0, τ.length, 8)) (by simp [results, Tryd.results47, go_sem, c0, c1, c2, c3]; try omega) rfl ⟨by rw [hF.out]; try rfl, hI.below⟩
      · have hpl : p < τ.length := by omega
        obtain ⟨c, hc⟩ : ∃ c, τ[p] = c := ⟨_, rfl⟩
        have hd : τ.drop p = c :: τ.drop (p + 1) := by rw [List.drop_eq_getElem_cons hpl, hc]
        have hs2 : p < (strOf τ).size := by rw [strOf_size]; exact hpl
        have ix : ∀ w : World, (Instr.index 9 (.string (strOf τ)) (.int .i64 (p : Int))).run Tryd.prog w = .ok (.int .u8 (c.toNat : Int)) w := fun w => by
          obtain ⟨σ, hσ, hsz2, hgt⟩ := strOf_name τ
          have hs3 : p < σ.size := by omega
          have h := idx_str σ p hs3 w
          rw [hgt.out p hs3 hpl, hc, ← hσ] at h
          exact h
        have hpI : (p : Int) < (τ.length : Int) := by omega
        have hpeq : ((p : Int) == (τ.length : Int)) = false := by rw [beq_eq_false_iff_ne]; omega
        by_cases h93 : c = 93
        · subst h93
          have hU : unclsF τ false (f + 1) p S = (S, p + 1, 0) := by rw [unclsF, hd]; simp
          rw [hU] at hF
          clear hU hc hd hs2
          go_wp2_with (first | (refine load_set rfl (.tmp 2) rfl w.heap.size S rfl (hI.at (by simp)) ?_) | (refine store_set rfl (.tmp 2) _ rfl w.heap.size S S rfl rfl (hI.at (by simp)) ?_; intro W5 g1 g2 g3 g4; replace hI := hI.turn (o' := setC S) (Nat.le_refl _) (by simp) g1 g2 g3 (g4 _ _ (Nat.le_refl _)); clear g1 g2 g3 g4))
          obtain ⟨c0, c1, c2, c3, e0, e1, e2, e3⟩ := setB_facts (hI.at (g := w.heap.size) (o := setC S) (by simp))
          clear e0 e1 e2 e3
          refine bodyPost_ret (v := ucV (S, p + 1, 0)) (by simp [results, Tryd.results47, go_sem, c0, c1, c2, c3]; try omega) rfl ⟨by rw [hF.out]; try rfl, hI.below⟩
        · have hne : ((c.toNat : Int) == 93) = false := by
            rw [beq_eq_false_iff_ne]; intro h; exact h93 (UInt8.toNat_inj.1 (by have e93 : (93 : UInt8).toNat = 93 := rfl; omega))
          obtain ⟨t, ht⟩ : ∃ t, τ.drop p = t := ⟨_, rfl⟩
          have slp : ∀ w : World, (Instr.slice 9 (.string (strOf τ)) (some (.int .i64 (p : Int))) none none).run Tryd.prog w = .ok (.string (strOf t)) w := fun w => by rw [slice_from τ p hp w, ht]
          obtain ⟨o, ho⟩ : ∃ o, oneL t inClass = o := ⟨_, rfl⟩
          obtain ⟨a, n, e⟩ := o
          have hle := oneL_le t inClass
          have hby := oneL_byte t inClass
          have htl : t.length = τ.length - p := by rw [← ht, List.length_drop]
          rw [ho, htl] at hle
          rw [ho] at hby
          dsimp only at hle hby
          have hU : unclsF τ false (f + 1) p S = match itemR t with
              | .inl (k, e) => (0, p + k, e)
              | .inr (a, b, k) => unclsF τ false f (p + k) (S ||| rng (a : Int) ((b : Int) + 1)) := by
            rw [unclsF, hd]
            simp only []
            rw [if_neg h93, ← hd, ht]
            rfl
          rw [hU] at hF
          clear hU h93 hc hd hs2
          have Ho := Lib.hid ho
          have hn0 : (0 : Int) ≤ (n : Int) := by omega
          have hpn : (p : Int) + (n : Int) ≤ 100000 := by omega
          by_cases he : e = 0
          · subst he
            have hn1 := hle.2 rfl
            have hle1 := hle.1
            obtain ⟨t2, ht2⟩ : ∃ t2, t.drop n = t2 := ⟨_, rfl⟩
            have ht2' : τ.drop (p + n) = t2 := by rw [← ht2, ← ht, List.drop_drop]
            have hpn2 : p + n ≤ τ.length := by omega
            have slq : ∀ w : World, (Instr.slice 9 (.string (strOf τ)) (some (.int .i64 ((p : Int) + (n : Int)))) none none).run Tryd.prog w = .ok (.string (strOf t2)) w := fun w => by
              have h := slice_from τ (p + n) hpn2 w
              rw [ht2'] at h
              have ec : ((p + n : Nat) : Int) = (p : Int) + (n : Int) := by omega
              rw [ec] at h
              exact h
            have hpf := fun w => prefix_any t2 45 (by rw [← ht2']; simp; omega) w
            by_cases h45 : t2.head? = some 45
            · have hdec : decide (t2.head? = some 45) = true := decide_eq_true h45
              rw [hdec] at hpf
              have Hpf := Lib.hid hpf
              have hpn3 : p + n + 1 ≤ τ.length := by
                cases t2 with
                | nil => simp at h45
                | cons x y =>
                  have := congrArg List.length ht2'
                  rw [List.length_drop] at this
                  simp at this; omega
              obtain ⟨t3, ht3⟩ : ∃ t3, t.drop (n + 1) = t3 := ⟨_, rfl⟩
              have ht3' : τ.drop (p + n + 1) = t3 := by rw [← ht3, ← ht, List.drop_drop]; rfl
              have slr : ∀ w : World, (Instr.slice 9 (.string (strOf τ)) (some (.int .i64 ((p : Int) + (n : Int) + 1))) none none).run Tryd.prog w = .ok (.string (strOf t3)) w := fun w => by
                have h := slice_from τ (p + n + 1) hpn3 w
                rw [ht3'] at h
                have ec : ((p + n + 1 : Nat) : Int) = (p : Int) + (n : Int) + 1 := by omega
                rw [ec] at h
                exact h
              obtain ⟨o, ho3⟩ : ∃ o, oneL t3 inClass = o := ⟨_, rfl⟩
              obtain ⟨b, m, e2⟩ := o
              have hle3 := oneL_le t3 inClass
              have hby3 := oneL_byte t3 inClass
              have htl3 : t3.length = τ.length - (p + n + 1) := by rw [← ht3', List.length_drop]
              rw [ho3, htl3] at hle3
              rw [ho3] at hby3
              dsimp only at hle3 hby3
              have Ho3 := Lib.hid ho3
              have hm0 : (0 : Int) ≤ (m : Int) := by omega
              have hpm : (p : Int) + (n : Int) + 1 + (m : Int) ≤ 100000 := by omega
              have hle31 := hle3.1
              by_cases he2 : e2 = 0
              · subst he2
                have hm1 := hle3.2 rfl
                by_cases hba : b < a
                · have hI2 : itemR t = .inl (0, 4) := by
                    unfold itemR
                    rw [ho]
                    simp only [ht2, ht3, ho3, h45]
                    simp [hba]
                  rw [hI2] at hF
                  have hbaI : (b : Int) < (a : Int) := by omega
                  clear hI2 ho ht ht2 ht2' ht3 ht3' ho3 hle hle3 htl htl3 hdec h45 hpf hba
                  go_wp2_with (first | (go_at_call 65; (with_reducible refine (one_c t _).mono ?_); rw [Ho.out]; rintro e1 W4 ⟨rfl, hb⟩; replace hI := hI.call hb; clear hb) | (go_at_call 64; (with_reducible refine (Hpf.out _).mono ?_); rintro e1 W4 ⟨rfl, rfl⟩) | (go_at_call 65; (with_reducible refine (one_c t3 _).mono ?_); rw [Ho3.out]; rintro e1 W4 ⟨rfl, hb⟩; replace hI := hI.call hb; clear hb) | (refine store_set rfl (.tmp 2) _ rfl w.heap.size 0 S rfl zeroV_eq (hI.at (by simp)) ?_; intro W5 g1 g2 g3 g4; replace hI := hI.turn (o' := setC 0) (Nat.le_refl _) (by simp) g1 g2 g3 (g4 _ _ (Nat.le_refl _)); clear g1 g2 g3 g4))
                  obtain ⟨c0, c1, c2, c3, e0, e1, e2, e3⟩ := setB_facts (hI.at (g := w.heap.size) (o := setC 0) (by simp))
                  clear e0 e1 e2 e3
                  refine bodyPost_ret (v := ucV (0, p, 4)) (by simp [results, Tryd.results47, go_sem, c0, c1, c2, c3]; try omega) rfl ⟨by rw [hF.out]; try rfl, hI.below⟩

                · have hI2 : itemR t = .inr (a, b, n + 1 + m) := by
                    unfold itemR
                    rw [ho]
                    simp only [ht2, ht3, ho3, h45]
                    simp [hba]
                  rw [hI2] at hF
                  have hbaI : ¬ (b : Int) < (a : Int) := by omega
                  have hr1 : (a : Int) < 256 := by omega
                  have hr2 : (b : Int) < 256 := by omega
                  have hr0 : (0 : Int) ≤ (a : Int) := by omega
                  have hr3 : (0 : Int) ≤ (b : Int) := by omega
                  obtain ⟨X, hX⟩ : ∃ X, rng (a : Int) ((b : Int) + 1) = X := ⟨_, rfl⟩
                  obtain ⟨S2, hS2⟩ : ∃ S2, S ||| X = S2 := ⟨_, rfl⟩
                  have hS2l : S2 < 2 ^ 256 := by rw [← hS2]; exact Nat.or_lt_two_pow hS (by rw [← hX]; exact rng_lt _ _)
                  have Hrng := Lib.hid hX
                  have HS2 := Lib.hid hS2
                  simp only [hX, hS2] at hF
                  clear hI2 ho ht ht2 ht2' ht3 ht3' ho3 hle hle3 htl htl3 hdec h45 hpf hba hX hS2
                  go_upto_region 22 with (first | (go_at_call 65; (with_reducible refine (one_c t _).mono ?_); rw [Ho.out]; rintro e1 W4 ⟨rfl, hb⟩; replace hI := hI.call hb; clear hb) | (go_at_call 64; (with_reducible refine (Hpf.out _).mono ?_); rintro e1 W4 ⟨rfl, rfl⟩) | (go_at_call 65; (with_reducible refine (one_c t3 _).mono ?_); rw [Ho3.out]; rintro e1 W4 ⟨rfl, hb⟩; replace hI := hI.call hb; clear hb))
                  have HI := Lib.hid hI
                  have HF := Lib.hid hF
                  obtain ⟨c0, c1, c2, c3, f0, f1, f2, f3⟩ := setB_facts (hI.at (g := w.heap.size) (o := setC S) (by simp))
                  clear hI hF
                  go_region_with (first | (go_at_call 17; refine (range_any _ _ hr0 hr1 hr3 hr2 _).mono ?_; rw [Hrng.out]; rintro e W4 ⟨rfl, hb⟩; (first | replace HI := Lib.hid (HI.out.call hb) | replace HI := Lib.hid (HI.out.drew.call hb)); clear c0 c1 c2 c3 f0 f1 f2 f3; obtain ⟨c0, c1, c2, c3, f0, f1, f2, f3⟩ := setB_facts (HI.out.at (g := w.heap.size) (o := setC S) (by simp)); clear hb) | (go_at_call 26; refine (or_any _ _ _).mono ?_; rintro e W4 ⟨rfl, hb⟩; replace HI := Lib.hid (HI.out.call hb); rw [HS2.out]; clear c0 c1 c2 c3 f0 f1 f2 f3; obtain ⟨c0, c1, c2, c3, f0, f1, f2, f3⟩ := setB_facts (HI.out.at (g := w.heap.size) (o := setC S) (by simp)); clear hb))
                  all_goals
                    have hI := Inv.set4 (s := S2) HI.out (Nat.le_refl _) (by simp)
                    have hF := HF.out
                    clear c0 c1 c2 c3 f0 f1 f2 f3
                    go_wp2_with fail
                    go_roundw
                    case rel => exact ⟨p + n + 1 + m, f, S2, by omega, by omega, hS2l, by go_num, hI, by rw [← Nat.add_assoc, ← Nat.add_assoc] at hF; exact hF⟩
                    case measure => simp [intOf]; omega

              · have he2b : (e2 == 0) = false := by simpa using he2
                have hI2 : itemR t = .inl (n + 1 + m, e2) := by
                  unfold itemR
                  rw [ho]
                  simp only [ht2, ht3, ho3, h45]
                  simp [he2]
                rw [hI2] at hF
                clear hI2 ho ht ht2 ht2' ht3 ht3' ho3 hle hle3 htl htl3 hdec h45 hpf he2
                go_wp2_with (first | (go_at_call 65; (with_reducible refine (one_c t _).mono ?_); rw [Ho.out]; rintro e1 W4 ⟨rfl, hb⟩; replace hI := hI.call hb; clear hb) | (go_at_call 64; (with_reducible refine (Hpf.out _).mono ?_); rintro e1 W4 ⟨rfl, rfl⟩) | (go_at_call 65; (with_reducible refine (one_c t3 _).mono ?_); rw [Ho3.out]; rintro e1 W4 ⟨rfl, hb⟩; replace hI := hI.call hb; clear hb) | (refine store_set rfl (.tmp 2) _ rfl w.heap.size 0 S rfl zeroV_eq (hI.at (by simp)) ?_; intro W5 g1 g2 g3 g4; replace hI := hI.turn (o' := setC 0) (Nat.le_refl _) (by simp) g1 g2 g3 (g4 _ _ (Nat.le_refl _)); clear g1 g2 g3 g4))
                obtain ⟨c0, c1, c2, c3, e0, e1, e2, e3⟩ := setB_facts (hI.at (g := w.heap.size) (o := setC 0) (by simp))
                clear e0 e1 e2 e3
                refine bodyPost_ret (v := ucV (0, p + (n + 1 + m), e2)) (by simp [results, Tryd.results47, go_sem, c0, c1, c2, c3]; try omega) rfl ⟨by rw [hF.out]; try rfl, hI.below⟩

            · have hdec : decide (t2.head? = some 45) = false := decide_eq_false h45
              rw [hdec] at hpf
              have Hpf := Lib.hid hpf
              have hI2 : itemR t = .inr (a, a, n) := by
                unfold itemR
                rw [ho]
                simp only [ht2, h45]
                simp
              rw [hI2] at hF
              have hr1 : (a : Int) < 256 := by omega
              have hr0 : (0 : Int) ≤ (a : Int) := by omega
              obtain ⟨X, hX⟩ : ∃ X, rng (a : Int) ((a : Int) + 1) = X := ⟨_, rfl⟩
              obtain ⟨S2, hS2⟩ : ∃ S2, S ||| X = S2 := ⟨_, rfl⟩
              have hS2l : S2 < 2 ^ 256 := by rw [← hS2]; exact Nat.or_lt_two_pow hS (by rw [← hX]; exact rng_lt _ _)
              have Hrng := Lib.hid hX
              have HS2 := Lib.hid hS2
              simp only [hX, hS2] at hF
              clear hI2 ho ht ht2 ht2' hle htl hdec h45 hpf hX hS2
              go_upto_region 22 with (first | (go_at_call 65; (with_reducible refine (one_c t _).mono ?_); rw [Ho.out]; rintro e1 W4 ⟨rfl, hb⟩; replace hI := hI.call hb; clear hb) | (go_at_call 64; (with_reducible refine (Hpf.out _).mono ?_); rintro e1 W4 ⟨rfl, rfl⟩))
              have HI := Lib.hid hI
              have HF := Lib.hid hF
              obtain ⟨c0, c1, c2, c3, f0, f1, f2, f3⟩ := setB_facts (hI.at (g := w.heap.size) (o := setC S) (by simp))
              clear hI hF
              go_region_with (first | (go_at_call 17; refine (range_any _ _ hr0 hr1 hr0 hr1 _).mono ?_; rw [Hrng.out]; rintro e W4 ⟨rfl, hb⟩; (first | replace HI := Lib.hid (HI.out.call hb) | replace HI := Lib.hid (HI.out.drew.call hb)); clear c0 c1 c2 c3 f0 f1 f2 f3; obtain ⟨c0, c1, c2, c3, f0, f1, f2, f3⟩ := setB_facts (HI.out.at (g := w.heap.size) (o := setC S) (by simp)); clear hb) | (go_at_call 26; refine (or_any _ _ _).mono ?_; rintro e W4 ⟨rfl, hb⟩; replace HI := Lib.hid (HI.out.call hb); rw [HS2.out]; clear c0 c1 c2 c3 f0 f1 f2 f3; obtain ⟨c0, c1, c2, c3, f0, f1, f2, f3⟩ := setB_facts (HI.out.at (g := w.heap.size) (o := setC S) (by simp)); clear hb))
              all_goals
                have hI := Inv.set4 (s := S2) HI.out (Nat.le_refl _) (by simp)
                have hF := HF.out
                clear c0 c1 c2 c3 f0 f1 f2 f3
                go_wp2_with fail
                go_roundw
                case rel => exact ⟨p + n, f, S2, by omega, by omega, hS2l, by go_num, hI, hF⟩
                case measure => simp [intOf]; omega

          · have heb : (e == 0) = false := by simpa using he
            have hI2 : itemR t = .inl (n, e) := by
              unfold itemR
              rw [ho]
              simp [he]
            rw [hI2] at hF
            clear hI2 ho ht hle htl he
            go_wp2_with (first | (go_at_call 65; (with_reducible refine (one_c t _).mono ?_); rw [Ho.out]; rintro e1 W4 ⟨rfl, hb⟩; replace hI := hI.call hb; clear hb) | (refine store_set rfl (.tmp 2) _ rfl w.heap.size 0 S rfl zeroV_eq (hI.at (by simp)) ?_; intro W5 g1 g2 g3 g4; replace hI := hI.turn (o' := setC 0) (Nat.le_refl _) (by simp) g1 g2 g3 (g4 _ _ (Nat.le_refl _)); clear g1 g2 g3 g4))
            obtain ⟨c0, c1, c2, c3, e0, e1, e2, e3⟩ := setB_facts (hI.at (g := w.heap.size) (o := setC 0) (by simp))
            clear e0 e1 e2 e3
            refine bodyPost_ret (v := ucV (0, p + n, e)) (by simp [results, Tryd.results47, go_sem, c0, c1, c2, c3]; try omega) rfl ⟨by rw [hF.out]; try rfl, hI.below⟩


  · go_enter Tryd.func47, Tryd.ntmps47
    go_wp2_with (first | (go_at_call 62; refine (first_any _ 91 _).mono ?_; rw [H91.out]; rintro e w' ⟨rfl, rfl⟩) | (go_at_call 64; refine (Hp.out _).mono ?_; rintro e w' ⟨rfl, rfl⟩))
    clear s1 Hp
    go_loopw [6] (fun i wr => ∃ p f S : Nat, p ≤ τ.length ∧ τ.length - p < f ∧ S < 2 ^ 256 ∧ i = .int .i64 p ∧ Inv w.heap.size w [(w.heap.size, setC S)] wr ∧ Hid (unclsF τ true (τ.length + 1) 2 0 = unclsF τ true f p S)) (fun i _ => τ.length - (intOf i).toNat)
    case atStart => exact ⟨2, τ.length + 1, 0, by have := Hl2.out; simp at this; omega, by omega, by decide, rfl, hI, rfl⟩
    case round =>
      clear hI
      obtain ⟨p, f, S, hp, hf, hS, rfl, hI, hF⟩ := hrel
      obtain ⟨f, rfl⟩ : ∃ g, f = g + 1 := ⟨f - 1, by omega⟩
      by_cases hend : p = τ.length
      · subst hend
        have hU : unclsF τ true (f + 1) τ.length S = (0, τ.length, 8) := by rw [unclsF, List.drop_length]
        rw [hU] at hF
        clear hU
        go_wp2_with (refine store_set rfl (.tmp 2) _ rfl w.heap.size 0 S rfl zeroV_eq (hI.at (by simp)) ?_; intro W5 g1 g2 g3 g4; replace hI := hI.turn (o' := setC 0) (Nat.le_refl _) (by simp) g1 g2 g3 (g4 _ _ (Nat.le_refl _)); clear g1 g2 g3 g4)
        obtain ⟨c0, c1, c2, c3, e0, e1, e2, e3⟩ := setB_facts (hI.at (g := w.heap.size) (o := setC 0) (by simp))
        clear e0 e1 e2 e3
        refine bodyPost_ret (v := ucV (0, τ.length, 8)) (by simp [results, Tryd.results47, go_sem, c0, c1, c2, c3]; try omega) rfl ⟨by rw [hF.out]; try rfl, hI.below⟩
      · have hpl : p < τ.length := by omega
        obtain ⟨c, hc⟩ : ∃ c, τ[p] = c := ⟨_, rfl⟩
        have hd : τ.drop p = c :: τ.drop (p + 1) := by rw [List.drop_eq_getElem_cons hpl, hc]
        have hs2 : p < (strOf τ).size := by rw [strOf_size]; exact hpl
        have ix : ∀ w : World, (Instr.index 9 (.string (strOf τ)) (.int .i64 (p : Int))).run Tryd.prog w = .ok (.int .u8 (c.toNat : Int)) w := fun w => by
          obtain ⟨σ, hσ, hsz2, hgt⟩ := strOf_name τ
          have hs3 : p < σ.size := by omega
          have h := idx_str σ p hs3 w
          rw [hgt.out p hs3 hpl, hc, ← hσ] at h
          exact h
        have hpI : (p : Int) < (τ.length : Int) := by omega
        have hpeq : ((p : Int) == (τ.length : Int)) = false := by rw [beq_eq_false_iff_ne]; omega
        by_cases h93 : c = 93
        · subst h93
          have hU : unclsF τ true (f + 1) p S = (S ^^^ full, p + 1, 0) := by rw [unclsF, hd]; simp
          rw [hU] at hF
          clear hU hc hd hs2
          go_upto_region 27 with (first | (go_at_call 27; refine (not_any _ _).mono ?_; rintro e1 W4 ⟨rfl, hb⟩; replace hI := hI.call hb; clear hb) | (refine load_set rfl (.tmp 2) rfl w.heap.size S rfl (hI.at (by simp)) ?_) | (refine store_set rfl (.tmp 2) _ rfl w.heap.size (S ^^^ full) S rfl rfl (hI.at (by simp)) ?_; intro W5 g1 g2 g3 g4; replace hI := hI.turn (o' := setC (S ^^^ full)) (Nat.le_refl _) (by simp) g1 g2 g3 (g4 _ _ (Nat.le_refl _)); clear g1 g2 g3 g4))
          go_wp2_with (first | (refine load_set rfl (.tmp 2) rfl w.heap.size (S ^^^ full) rfl (hI.at (by simp)) ?_) | (refine store_set rfl (.tmp 2) _ rfl w.heap.size (S ^^^ full) (S ^^^ full) rfl rfl (hI.at (by simp)) ?_; intro W5 g1 g2 g3 g4; replace hI := hI.turn (o' := setC (S ^^^ full)) (Nat.le_refl _) (by simp) g1 g2 g3 (g4 _ _ (Nat.le_refl _)); clear g1 g2 g3 g4))
          obtain ⟨c0, c1, c2, c3, e0, e1, e2, e3⟩ := setB_facts (hI.at (g := w.heap.size) (o := setC (S ^^^ full)) (by simp))
          clear e0 e1 e2 e3
          refine bodyPost_ret (v := ucV (S ^^^ full, p + 1, 0)) (by simp [results, Tryd.results47, go_sem, c0, c1, c2, c3]; try omega) rfl ⟨by rw [hF.out]; try rfl, hI.below⟩
        · have hne : ((c.toNat : Int) == 93) = false := by
            rw [beq_eq_false_iff_ne]; intro h; exact h93 (UInt8.toNat_inj.1 (by have e93 : (93 : UInt8).toNat = 93 := rfl; omega))
          obtain ⟨t, ht⟩ : ∃ t, τ.drop p = t := ⟨_, rfl⟩
          have slp : ∀ w : World, (Instr.slice 9 (.string (strOf τ)) (some (.int .i64 (p : Int))) none none).run Tryd.prog w = .ok (.string (strOf t)) w := fun w => by rw [slice_from τ p hp w, ht]
          obtain ⟨o, ho⟩ : ∃ o, oneL t inClass = o := ⟨_, rfl⟩
          obtain ⟨a, n, e⟩ := o
          have hle := oneL_le t inClass
          have hby := oneL_byte t inClass
          have htl : t.length = τ.length - p := by rw [← ht, List.length_drop]
          rw [ho, htl] at hle
          rw [ho] at hby
          dsimp only at hle hby
          have hU : unclsF τ true (f + 1) p S = match itemR t with
              | .inl (k, e) => (0, p + k, e)
              | .inr (a, b, k) => unclsF τ true f (p + k) (S ||| rng (a : Int) ((b : Int) + 1)) := by
            rw [unclsF, hd]
            simp only []
            rw [if_neg h93, ← hd, ht]
            rfl
          rw [hU] at hF
          clear hU h93 hc hd hs2
          have Ho := Lib.hid ho
          have hn0 : (0 : Int) ≤ (n : Int) := by omega
          have hpn : (p : Int) + (n : Int) ≤ 100000 := by omega
          by_cases he : e = 0
          · subst he
            have hn1 := hle.2 rfl
            have hle1 := hle.1
            obtain ⟨t2, ht2⟩ : ∃ t2, t.drop n = t2 := ⟨_, rfl⟩
            have ht2' : τ.drop (p + n) = t2 := by rw [← ht2, ← ht, List.drop_drop]
            have hpn2 : p + n ≤ τ.length := by omega
            have slq : ∀ w : World, (Instr.slice 9 (.string (strOf τ)) (some (.int .i64 ((p : Int) + (n : Int)))) none none).run Tryd.prog w = .ok (.string (strOf t2)) w := fun w => by
              have h := slice_from τ (p + n) hpn2 w
              rw [ht2'] at h
              have ec : ((p + n : Nat) : Int) = (p : Int) + (n : Int) := by omega
              rw [ec] at h
              exact h
            have hpf := fun w => prefix_any t2 45 (by rw [← ht2']; simp; omega) w
            by_cases h45 : t2.head? = some 45
            · have hdec : decide (t2.head? = some 45) = true := decide_eq_true h45
              rw [hdec] at hpf
              have Hpf := Lib.hid hpf
              have hpn3 : p + n + 1 ≤ τ.length := by
                cases t2 with
                | nil => simp at h45
                | cons x y =>
                  have := congrArg List.length ht2'
                  rw [List.length_drop] at this
                  simp at this; omega
              obtain ⟨t3, ht3⟩ : ∃ t3, t.drop (n + 1) = t3 := ⟨_, rfl⟩
              have ht3' : τ.drop (p + n + 1) = t3 := by rw [← ht3, ← ht, List.drop_drop]; rfl
              have slr : ∀ w : World, (Instr.slice 9 (.string (strOf τ)) (some (.int .i64 ((p : Int) + (n : Int) + 1))) none none).run Tryd.prog w = .ok (.string (strOf t3)) w := fun w => by
                have h := slice_from τ (p + n + 1) hpn3 w
                rw [ht3'] at h
                have ec : ((p + n + 1 : Nat) : Int) = (p : Int) + (n : Int) + 1 := by omega
                rw [ec] at h
                exact h
              obtain ⟨o, ho3⟩ : ∃ o, oneL t3 inClass = o := ⟨_, rfl⟩
              obtain ⟨b, m, e2⟩ := o
              have hle3 := oneL_le t3 inClass
              have hby3 := oneL_byte t3 inClass
              have htl3 : t3.length = τ.length - (p + n + 1) := by rw [← ht3', List.length_drop]
              rw [ho3, htl3] at hle3
              rw [ho3] at hby3
              dsimp only at hle3 hby3
              have Ho3 := Lib.hid ho3
              have hm0 : (0 : Int) ≤ (m : Int) := by omega
              have hpm : (p : Int) + (n : Int) + 1 + (m : Int) ≤ 100000 := by omega
              have hle31 := hle3.1
              by_cases he2 : e2 = 0
              · subst he2
                have hm1 := hle3.2 rfl
                by_cases hba : b < a
                · have hI2 : itemR t = .inl (0, 4) := by
                    unfold itemR
                    rw [ho]
                    simp only [ht2, ht3, ho3, h45]
                    simp [hba]
                  rw [hI2] at hF
                  have hbaI : (b : Int) < (a : Int) := by omega
                  clear hI2 ho ht ht2 ht2' ht3 ht3' ho3 hle hle3 htl htl3 hdec h45 hpf hba
                  go_wp2_with (first | (go_at_call 65; (with_reducible refine (one_c t _).mono ?_); rw [Ho.out]; rintro e1 W4 ⟨rfl, hb⟩; replace hI := hI.call hb; clear hb) | (go_at_call 64; (with_reducible refine (Hpf.out _).mono ?_); rintro e1 W4 ⟨rfl, rfl⟩) | (go_at_call 65; (with_reducible refine (one_c t3 _).mono ?_); rw [Ho3.out]; rintro e1 W4 ⟨rfl, hb⟩; replace hI := hI.call hb; clear hb) | (refine store_set rfl (.tmp 2) _ rfl w.heap.size 0 S rfl zeroV_eq (hI.at (by simp)) ?_; intro W5 g1 g2 g3 g4; replace hI := hI.turn (o' := setC 0) (Nat.le_refl _) (by simp) g1 g2 g3 (g4 _ _ (Nat.le_refl _)); clear g1 g2 g3 g4))
                  obtain ⟨c0, c1, c2, c3, e0, e1, e2, e3⟩ := setB_facts (hI.at (g := w.heap.size) (o := setC 0) (by simp))
                  clear e0 e1 e2 e3
                  refine bodyPost_ret (v := ucV (0, p, 4)) (by simp [results, Tryd.results47, go_sem, c0, c1, c2, c3]; try omega) rfl ⟨by rw [hF.out]; try rfl, hI.below⟩

                · have hI2 : itemR t = .inr (a, b, n + 1 + m) := by
                    unfold itemR
                    rw [ho]
                    simp only [ht2, ht3, ho3, h45]
                    simp [hba]
                  rw [hI2] at hF
                  have hbaI : ¬ (b : Int) < (a : Int) := by omega
                  have hr1 : (a : Int) < 256 := by omega
                  have hr2 : (b : Int) < 256 := by omega
                  have hr0 : (0 : Int) ≤ (a : Int) := by omega
                  have hr3 : (0 : Int) ≤ (b : Int) := by omega
                  obtain ⟨X, hX⟩ : ∃ X, rng (a : Int) ((b : Int) + 1) = X := ⟨_, rfl⟩
                  obtain ⟨S2, hS2⟩ : ∃ S2, S ||| X = S2 := ⟨_, rfl⟩
                  have hS2l : S2 < 2 ^ 256 := by rw [← hS2]; exact Nat.or_lt_two_pow hS (by rw [← hX]; exact rng_lt _ _)
                  have Hrng := Lib.hid hX
                  have HS2 := Lib.hid hS2
                  simp only [hX, hS2] at hF
                  clear hI2 ho ht ht2 ht2' ht3 ht3' ho3 hle hle3 htl htl3 hdec h45 hpf hba hX hS2
                  go_upto_region 22 with (first | (go_at_call 65; (with_reducible refine (one_c t _).mono ?_); rw [Ho.out]; rintro e1 W4 ⟨rfl, hb⟩; replace hI := hI.call hb; clear hb) | (go_at_call 64; (with_reducible refine (Hpf.out _).mono ?_); rintro e1 W4 ⟨rfl, rfl⟩) | (go_at_call 65; (with_reducible refine (one_c t3 _).mono ?_); rw [Ho3.out]; rintro e1 W4 ⟨rfl, hb⟩; replace hI := hI.call hb; clear hb))
                  have HI := Lib.hid hI
                  have HF := Lib.hid hF
                  obtain ⟨c0, c1, c2, c3, f0, f1, f2, f3⟩ := setB_facts (hI.at (g := w.heap.size) (o := setC S) (by simp))
                  clear hI hF
                  go_region_with (first | (go_at_call 17; refine (range_any _ _ hr0 hr1 hr3 hr2 _).mono ?_; rw [Hrng.out]; rintro e W4 ⟨rfl, hb⟩; (first | replace HI := Lib.hid (HI.out.call hb) | replace HI := Lib.hid (HI.out.drew.call hb)); clear c0 c1 c2 c3 f0 f1 f2 f3; obtain ⟨c0, c1, c2, c3, f0, f1, f2, f3⟩ := setB_facts (HI.out.at (g := w.heap.size) (o := setC S) (by simp)); clear hb) | (go_at_call 26; refine (or_any _ _ _).mono ?_; rintro e W4 ⟨rfl, hb⟩; replace HI := Lib.hid (HI.out.call hb); rw [HS2.out]; clear c0 c1 c2 c3 f0 f1 f2 f3; obtain ⟨c0, c1, c2, c3, f0, f1, f2, f3⟩ := setB_facts (HI.out.at (g := w.heap.size) (o := setC S) (by simp)); clear hb))
                  all_goals
                    have hI := Inv.set4 (s := S2) HI.out (Nat.le_refl _) (by simp)
                    have hF := HF.out
                    clear c0 c1 c2 c3 f0 f1 f2 f3
                    go_wp2_with fail
                    go_roundw
                    case rel => exact ⟨p + n + 1 + m, f, S2, by omega, by omega, hS2l, by go_num, hI, by rw [← Nat.add_assoc, ← Nat.add_assoc] at hF; exact hF⟩
                    case measure => simp [intOf]; omega

              · have he2b : (e2 == 0) = false := by simpa using he2
                have hI2 : itemR t = .inl (n + 1 + m, e2) := by
                  unfold itemR
                  rw [ho]
                  simp only [ht2, ht3, ho3, h45]
                  simp [he2]
                rw [hI2] at hF
                clear hI2 ho ht ht2 ht2' ht3 ht3' ho3 hle hle3 htl htl3 hdec h45 hpf he2
                go_wp2_with (first | (go_at_call 65; (with_reducible refine (one_c t _).mono ?_); rw [Ho.out]; rintro e1 W4 ⟨rfl, hb⟩; replace hI := hI.call hb; clear hb) | (go_at_call 64; (with_reducible refine (Hpf.out _).mono ?_); rintro e1 W4 ⟨rfl, rfl⟩) | (go_at_call 65; (with_reducible refine (one_c t3 _).mono ?_); rw [Ho3.out]; rintro e1 W4 ⟨rfl, hb⟩; replace hI := hI.call hb; clear hb) | (refine store_set rfl (.tmp 2) _ rfl w.heap.size 0 S rfl zeroV_eq (hI.at (by simp)) ?_; intro W5 g1 g2 g3 g4; replace hI := hI.turn (o' := setC 0) (Nat.le_refl _) (by simp) g1 g2 g3 (g4 _ _ (Nat.le_refl _)); clear g1 g2 g3 g4))
                obtain ⟨c0, c1, c2, c3, e0, e1, e2, e3⟩ := setB_facts (hI.at (g := w.heap.size) (o := setC 0) (by simp))
                clear e0 e1 e2 e3
                refine bodyPost_ret (v := ucV (0, p + (n + 1 + m), e2)) (by simp [results, Tryd.results47, go_sem, c0, c1, c2, c3]; try omega) rfl ⟨by rw [hF.out]; try rfl, hI.below⟩

            · have hdec : decide (t2.head? = some 45) = false := decide_eq_false h45
              rw [hdec] at hpf
              have Hpf := Lib.hid hpf
              have hI2 : itemR t = .inr (a, a, n) := by
                unfold itemR
                rw [ho]
                simp only [ht2, h45]
                simp
              rw [hI2] at hF
              have hr1 : (a : Int) < 256 := by omega
              have hr0 : (0 : Int) ≤ (a : Int) := by omega
              obtain ⟨X, hX⟩ : ∃ X, rng (a : Int) ((a : Int) + 1) = X := ⟨_, rfl⟩
              obtain ⟨S2, hS2⟩ : ∃ S2, S ||| X = S2 := ⟨_, rfl⟩
              have hS2l : S2 < 2 ^ 256 := by rw [← hS2]; exact Nat.or_lt_two_pow hS (by rw [← hX]; exact rng_lt _ _)
              have Hrng := Lib.hid hX
              have HS2 := Lib.hid hS2
              simp only [hX, hS2] at hF
              clear hI2 ho ht ht2 ht2' hle htl hdec h45 hpf hX hS2
              go_upto_region 22 with (first | (go_at_call 65; (with_reducible refine (one_c t _).mono ?_); rw [Ho.out]; rintro e1 W4 ⟨rfl, hb⟩; replace hI := hI.call hb; clear hb) | (go_at_call 64; (with_reducible refine (Hpf.out _).mono ?_); rintro e1 W4 ⟨rfl, rfl⟩))
              have HI := Lib.hid hI
              have HF := Lib.hid hF
              obtain ⟨c0, c1, c2, c3, f0, f1, f2, f3⟩ := setB_facts (hI.at (g := w.heap.size) (o := setC S) (by simp))
              clear hI hF
              go_region_with (first | (go_at_call 17; refine (range_any _ _ hr0 hr1 hr0 hr1 _).mono ?_; rw [Hrng.out]; rintro e W4 ⟨rfl, hb⟩; (first | replace HI := Lib.hid (HI.out.call hb) | replace HI := Lib.hid (HI.out.drew.call hb)); clear c0 c1 c2 c3 f0 f1 f2 f3; obtain ⟨c0, c1, c2, c3, f0, f1, f2, f3⟩ := setB_facts (HI.out.at (g := w.heap.size) (o := setC S) (by simp)); clear hb) | (go_at_call 26; refine (or_any _ _ _).mono ?_; rintro e W4 ⟨rfl, hb⟩; replace HI := Lib.hid (HI.out.call hb); rw [HS2.out]; clear c0 c1 c2 c3 f0 f1 f2 f3; obtain ⟨c0, c1, c2, c3, f0, f1, f2, f3⟩ := setB_facts (HI.out.at (g := w.heap.size) (o := setC S) (by simp)); clear hb))
              all_goals
                have hI := Inv.set4 (s := S2) HI.out (Nat.le_refl _) (by simp)
                have hF := HF.out
                clear c0 c1 c2 c3 f0 f1 f2 f3
                go_wp2_with fail
                go_roundw
                case rel => exact ⟨p + n, f, S2, by omega, by omega, hS2l, by go_num, hI, hF⟩
                case measure => simp [intOf]; omega

          · have heb : (e == 0) = false := by simpa using he
            have hI2 : itemR t = .inl (n, e) := by
              unfold itemR
              rw [ho]
              simp [he]
            rw [hI2] at hF
            clear hI2 ho ht hle htl he
            go_wp2_with (first | (go_at_call 65; (with_reducible refine (one_c t _).mono ?_); rw [Ho.out]; rintro e1 W4 ⟨rfl, hb⟩; replace hI := hI.call hb; clear hb) | (refine store_set rfl (.tmp 2) _ rfl w.heap.size 0 S rfl zeroV_eq (hI.at (by simp)) ?_; intro W5 g1 g2 g3 g4; replace hI := hI.turn (o' := setC 0) (Nat.le_refl _) (by simp) g1 g2 g3 (g4 _ _ (Nat.le_refl _)); clear g1 g2 g3 g4))
            obtain ⟨c0, c1, c2, c3, e0, e1, e2, e3⟩ := setB_facts (hI.at (g := w.heap.size) (o := setC 0) (by simp))
            clear e0 e1 e2 e3
            refine bodyPost_ret (v := ucV (0, p + n, e)) (by simp [results, Tryd.results47, go_sem, c0, c1, c2, c3]; try omega) rfl ⟨by rw [hF.out]; try rfl, hI.below⟩


end Go.Proofs.YtcpgbakdfogilaaDoor
