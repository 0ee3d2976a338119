/- QuoteShort: its plain facts, and its walk. -/
import Derived.Test.YtcpgbakdfogilaaDoorQuoteU
import Derived.Test.YtcpgbakdfogilaaDoorQuoteP
import Derived.Test.YtcpgbakdfogilaaDoorQuoteX
namespace Go.Proofs.YtcpgbakdfogilaaDoor
open Go.RowKit
set_option maxRecDepth 100000

theorem uncl_t (r : List UInt8) (h : r.head? = some 94) : unclassL (91 :: r) = ((unD true (r.length + 2) (r.drop 1) 0).1, 2 + (unD true (r.length + 2) (r.drop 1) 0).2.1, (unD true (r.length + 2) (r.drop 1) 0).2.2) := by
  simp only [unclassL]
  rw [if_pos trivial, if_pos h]
  exact unD_eq (91 :: r) true (r.length + 2) 2 0 (by simp only [List.length_drop, List.length_cons]; omega)
theorem uncl_f (r : List UInt8) (h : r.head? ≠ some 94) : unclassL (91 :: r) = ((unD false (r.length + 2) r 0).1, 1 + (unD false (r.length + 2) r 0).2.1, (unD false (r.length + 2) r 0).2.2) := by
  simp only [unclassL]
  rw [if_pos trivial, if_neg h]
  exact unD_eq (91 :: r) false (r.length + 2) 1 0 (by simp only [List.length_drop, List.length_cons]; omega)
theorem xor_full_lt {x : Nat} (h : x < 2 ^ 256) : x ^^^ full < 2 ^ 256 := not_lt h
theorem short_err {t : List UInt8} {x m : Nat} {f : Int} (h : unclassL t = (x, m, f)) (hf : f ≠ 0) : x = 0 ∧ m ≤ t.length := by
  cases t with
  | nil => simp only [unclassL, Prod.mk.injEq] at h; obtain ⟨rfl, rfl, _⟩ := h; simp
  | cons c r =>
    by_cases hc : c = 91
    · subst hc
      by_cases hh : r.head? = some 94
      · rw [uncl_t r hh, Prod.mk.injEq, Prod.mk.injEq] at h
        obtain ⟨h1, h2, h3⟩ := h
        obtain ⟨g1, g2, g3⟩ := unD_facts (r.length + 2) (r.drop 1) 0 (by simp; omega) (by decide)
        have hne : (unD false (r.length + 2) (r.drop 1) 0).2.2 ≠ 0 := by
          intro h0
          have := (g3 h0).2.2.2.1
          rw [this] at h3
          exact hf h3.symm
        have e := (g2 hne).2
        rw [e] at h1 h2
        rw [(g2 hne).1] at h1
        have : 1 ≤ r.length := by cases r with | nil => simp at hh | cons => simp
        rw [List.length_drop] at g1
        clear g2 g3 e hne h3
        exact ⟨h1.symm, by simp; omega⟩
      · rw [uncl_f r hh, Prod.mk.injEq, Prod.mk.injEq] at h
        obtain ⟨h1, h2, h3⟩ := h
        obtain ⟨g1, g2, _⟩ := unD_facts (r.length + 2) r 0 (by omega) (by decide)
        have hne : (unD false (r.length + 2) r 0).2.2 ≠ 0 := by rw [h3]; exact hf
        rw [(g2 hne).1] at h1
        exact ⟨h1.symm, by simp; omega⟩
    · simp only [unclassL] at h
      rw [if_neg hc, Prod.mk.injEq, Prod.mk.injEq] at h
      obtain ⟨rfl, rfl, _⟩ := h
      simp
theorem full_full {x : Nat} : x ^^^ full ^^^ full = x := by rw [Nat.xor_assoc, Nat.xor_self, Nat.xor_zero]
theorem class_cover {x M : Nat} (hx : x < 2 ^ 256) (I : List Itm) (hI : ∀ i ∈ I, ItmOk i) (ho : orFrom 0 (I.map fun i => (i.1, i.2.1)) = x) (hM : sumK I + 1 = M) : (classL x).length ≤ M + 1 := by
  have := cover I hI x hx ho
  unfold classL
  split
  · simp
  · simp; omega
theorem short_ok {t : List UInt8} {x m : Nat} (h : unclassL t = (x, m, 0)) : ∃ r, t = 91 :: r ∧ x < 2 ^ 256 ∧ 2 ≤ m ∧ m ≤ (91 :: r).length ∧ (91 :: r)[m - 1]? = some 93 ∧
    (r.head? ≠ some 94 → (classL x).length ≤ m ∧ unclassL (91 :: 94 :: r) = (x ^^^ full, m + 1, 0)) ∧ (∀ r', r = 94 :: r' → unclassL (91 :: r') = (x ^^^ full, m - 1, 0)) := by
  cases t with
  | nil => simp [unclassL] at h
  | cons c r =>
    by_cases hc : c = 91
    · subst hc
      refine ⟨r, rfl, ?_⟩
      by_cases hh : r.head? = some 94
      · obtain ⟨r', rfl⟩ : ∃ r', r = 94 :: r' := by
          cases r with
          | nil => simp at hh
          | cons a r' => simp at hh; exact ⟨r', by rw [hh]⟩
        rw [uncl_t _ hh, Prod.mk.injEq, Prod.mk.injEq, List.drop_succ_cons, List.drop_zero, List.length_cons] at h
        obtain ⟨h1, h2, h3⟩ := h
        obtain ⟨g1, g2, g3⟩ := unD_facts (r'.length + 1 + 2) r' 0 (by omega) (by decide)
        have h0 : (unD false (r'.length + 1 + 2) r' 0).2.2 = 0 := by
          apply Decidable.byContradiction
          intro hne
          rw [(g2 hne).2] at h3
          exact hne h3
        obtain ⟨k1, k2, k3, k4, _⟩ := g3 h0
        rw [k4] at h1 h2
        dsimp only at h1 h2
        have hne94 : r'.head? ≠ some 94 := by
          intro hq
          obtain ⟨r2, rfl⟩ : ∃ r2, r' = 94 :: r2 := by
            cases r' with
            | nil => simp at hq
            | cons a r2 => simp at hq; exact ⟨r2, by rw [hq]⟩
          have hi : itemR (94 :: r2) = .inl (0, 4) := by
            have e : oneL (94 :: r2) inClass = (0, 0, 4) := rfl
            unfold itemR
            rw [e]
            rfl
          rw [unD] at h0
          rw [if_neg (by decide), hi] at h0
          simp at h0
        have hF := uncl_f r' hne94
        rw [unD_fuel false (r'.length + 2) (r'.length + 1 + 2) r' 0 (by omega) (by omega), h0] at hF
        clear g2 g3
        refine ⟨by rw [← h1]; exact xor_full_lt k3, by omega, by simp; omega, ?_, fun hn => absurd hh hn, ?_⟩
        · rw [← h2, show 2 + (unD false (r'.length + 1 + 2) r' 0).2.1 - 1 = ((unD false (r'.length + 1 + 2) r' 0).2.1 - 1) + 2 by omega]
          exact k2
        · intro r3 hr3
          cases hr3
          rw [hF, ← h1, full_full, ← h2, show 2 + (unD false (r'.length + 1 + 2) r' 0).2.1 - 1 = 1 + (unD false (r'.length + 1 + 2) r' 0).2.1 by omega]
      · rw [uncl_f r hh, Prod.mk.injEq, Prod.mk.injEq] at h
        obtain ⟨h1, h2, h3⟩ := h
        obtain ⟨g1, g2, g3⟩ := unD_facts (r.length + 2) r 0 (by omega) (by decide)
        obtain ⟨k1, k2, k3, k4, I, k5, k6, k7⟩ := g3 h3
        have hT := uncl_t (94 :: r) rfl
        rw [List.drop_succ_cons, List.drop_zero, List.length_cons, unD_fuel true (r.length + 1 + 2) (r.length + 2) r 0 (by omega) (by omega), k4] at hT
        refine ⟨by rw [← h1]; exact k3, by omega, by simp; omega, ?_, fun _ => ⟨?_, ?_⟩, ?_⟩
        · rw [← h2, show 1 + (unD false (r.length + 2) r 0).2.1 - 1 = ((unD false (r.length + 2) r 0).2.1 - 1) + 1 by omega]
          exact k2
        · have := class_cover (x := x) (by rw [← h1]; exact k3) I k5 (by rw [k6, h1]) k7
          omega
        · rw [hT, ← h1, ← h2]
          simp only [Prod.mk.injEq, true_and, and_true]
          omega
        · intro r' hr'
          subst hr'
          simp at hh
    · simp only [unclassL] at h
      rw [if_neg hc] at h
      simp at h

set_option maxHeartbeats 4000000 in
theorem short_big (t : List UInt8) (hbig : 3000 < t.length) (w : World) (hT : Tb w) :
    Calls Tryd.prog 11 #[.string (strOf t)] w fun e w' => e = .returned (.bool true) ∧ Below w.heap.size w w' := by
  have hI := Inv.start w
  have hz : ((strOf t).size : Int) = (t.length : Int) := by rw [strOf_size]
  have hgt : (3000 : Int) < (t.length : Int) := by omega
  clear hbig
  go_enter Tryd.func11, Tryd.ntmps11
  go_wp2_with (go_at_call 43; (with_reducible refine (awake3_any _ hT).mono ?_); rintro e1 W1 ⟨rfl, hb⟩; replace hI := hI.call hb; replace hT := hT.call hb; clear hb)
  go_ret
  exact ⟨rfl, hI.below⟩
set_option maxHeartbeats 32000000 in
theorem short_small (t : List UInt8) (hsm : t.length ≤ 3000) (w : World) (hT : Tb w) :
    Calls Tryd.prog 11 #[.string (strOf t)] w fun e w' => e = .returned (.bool true) ∧ Below w.heap.size w w' := by
  have hI := Inv.start w
  have hz : ((strOf t).size : Int) = (t.length : Int) := by rw [strOf_size]
  have hle : ¬ (3000 : Int) < (t.length : Int) := by omega
  have Ht := Lib.hid (show t.length ≤ 100000 by omega)
  have Hlen := Lib.hid hsm
  obtain ⟨u, hU⟩ : ∃ u, unlitL t = u := ⟨_, rfl⟩
  obtain ⟨s, n, e⟩ := u
  obtain ⟨v, hC⟩ : ∃ v, unclassL t = v := ⟨_, rfl⟩
  obtain ⟨x, m, f⟩ := v
  have HU := Lib.hid hU
  have HC := Lib.hid hC
  by_cases he : e = 0
  · subst he
    obtain ⟨hmin, hs255⟩ := unlit_min hU
    obtain ⟨L, hL⟩ : ∃ L, litL s = L := ⟨_, rfl⟩
    rw [hL] at hmin
    have HL := Lib.hid hL
    have Hs := Lib.hid (show s.length ≤ 100000 by omega)
    have zL : ((strOf L).size : Int) = (L.length : Int) := by rw [strOf_size]
    have zs : ((strOf s).size : Int) = (s.length : Int) := by rw [strOf_size]
    have hLn : ¬ (n : Int) < (L.length : Int) := by omega
    have hs2 : ¬ (255 : Int) < (s.length : Int) := by omega
    clear hL hU hmin hs255 hsm
    by_cases hf : f = 0
    · subst hf
      obtain ⟨r, rfl, hx, hm2, hml, h93, hn, hy⟩ := short_ok hC
      have Hx := Lib.hid hx
      have hszt : ((strOf (91 :: r)).size : Int) = (r.length : Int) + 1 := by rw [strOf_size]; simp
      have hml2 : m ≤ r.length + 1 := by simpa using hml
      have i0 := idx_at (91 :: r) 0 (by simp) 91 rfl
      have im := idx_at (91 :: r) (m - 1) (by simp; omega) 93 h93
      have em : ((m - 1 : Nat) : Int) = (m : Int) - 1 := by omega
      rw [em] at im
      have sl1 : ∀ W : World, (Instr.slice 9 (.string (strOf (91 :: r))) (some (.int .i64 1)) none none).run Tryd.prog W = .ok (.string (strOf r)) W := fun W => slice_from (91 :: r) 1 (by simp) W
      obtain ⟨Y, hY⟩ : ∃ Y, x ^^^ full = Y := ⟨_, rfl⟩
      rw [hY] at hn hy
      have HY := Lib.hid hY
      cases r with
      | nil => simp at hml2; omega
      | cons c r' =>
      have i1 := idx_at (91 :: c :: r') 1 (by simp) c rfl
      have sl2 : ∀ W : World, (Instr.slice 9 (.string (strOf (91 :: c :: r'))) (some (.int .i64 2)) none none).run Tryd.prog W = .ok (.string (strOf r')) W := fun W => slice_from (91 :: c :: r') 2 (by simp) W
      have i0' : ∀ W : World, (Instr.index 9 (.string (strOf (91 :: c :: r'))) (.int .i64 0)).run Tryd.prog W = .ok (.int .u8 91) W := fun W => i0 W
      have i1' : ∀ W : World, (Instr.index 9 (.string (strOf (91 :: c :: r'))) (.int .i64 1)).run Tryd.prog W = .ok (.int .u8 (c.toNat : Int)) W := fun W => i1 W
      have im' : ∀ W : World, (Instr.index 9 (.string (strOf (91 :: c :: r'))) (.int .i64 ((m : Int) - 1))).run Tryd.prog W = .ok (.int .u8 93) W := fun W => im W
      have hm2I : ¬ (m : Int) < 2 := by omega
      have hrl : (r'.length : Int) ≤ 3000 := by have := Hlen.out; simp at this; omega
      have hmI : (m : Int) ≤ 3001 := by have := Hlen.out; simp at this hml2; omega
      have hrlen : ((c :: r').length : Int) = (r'.length : Int) + 1 := by simp
      rw [hrlen] at hszt
      clear i0 i1 im hrlen em h93 hx hm2 hml hY
      by_cases h94 : c = 94
      · subst h94
        have hyy := hy r' rfl
        obtain ⟨o, ho⟩ : ∃ o, 91 :: r' = o := ⟨_, rfl⟩
        rw [ho] at hyy
        have HO := Lib.hid hyy
        have Ho := Lib.hid (show o.length ≤ 100000 by rw [← ho]; have := Hlen.out; simp at this ⊢; omega)
        have a2 := add_strs [91, 94] (94 :: r') (by have := Hlen.out; simp at this ⊢; omega)
        have c9194 : (⟨#[91, 94]⟩ : ByteArray) = strOf [91, 94] := rfl
        have a1 := add_strs [91] r' (by have := Hlen.out; simp at this ⊢; omega)
        have c91 : (⟨#[91]⟩ : ByteArray) = strOf [91] := rfl
        have eo : [91] ++ r' = o := ho
        rw [eo] at a1
        have zo : ((strOf o).size : Int) = (r'.length : Int) + 1 := by rw [strOf_size, ← ho]; simp
        have ek : ((m - 1 : Nat) : Int) = (m : Int) - 1 := by omega
        have HO' := Lib.hid (show unclassL o = (Y, m - 1, 0) from hyy)
        clear HO hyy ho eo hn hy
        have HO := HO'
        clear HO'
        have hz1 : IntKind.i64.wrap ((m : Int) - 1 - (m : Int)) = -1 := by rw [show (m : Int) - 1 - (m : Int) = -1 by omega]; rfl
        have hz2 : IntKind.i64.wrap ((r'.length : Int) + 1 - ((r'.length : Int) + 1 + 1)) = -1 := by rw [show (r'.length : Int) + 1 - ((r'.length : Int) + 1 + 1) = -1 by omega]; rfl
        go_enter Tryd.func11, Tryd.ntmps11
        go_upto_region 6 with (first | (go_at_call 43; (with_reducible refine (awake3_any _ hT).mono ?_); rintro e1 W1 ⟨rfl, hb⟩; replace hI := hI.call hb; replace hT := hT.call hb; clear hb) | (go_at_call 45; (with_reducible refine (unliteral_any _ Ht.out _).mono ?_); rw [HU.out]; rintro e1 W1 ⟨rfl, hb⟩; replace hI := hI.call hb; replace hT := hT.call hb; clear hb) | (go_at_call 44; (with_reducible refine (literal_any s Hs.out _ hT).mono ?_); rw [HL.out]; rintro e1 W1 ⟨rfl, hb⟩; replace hI := hI.call hb; replace hT := hT.call hb; clear hb))
        go_wp2_with fail
        refine (unclass_any _ Ht.out _).mono ?_
        rw [HC.out]
        rintro e1 W3 ⟨rfl, hb⟩
        replace hI := (hI.call hb).alloc (setC x)
        replace hT := (hT.call hb).alloc (setC x)
        clear hb
        go_upto_region 14 with fail
        go_wp2_with fail
        refine (unclass_any o Ho.out _).mono ?_
        rw [HO.out]
        rintro e1 W5 ⟨rfl, hb⟩
        replace hI := ((hI.call hb).alloc (setC Y)).drew
        replace hT := ((hT.call hb).alloc (setC Y)).drew
        clear hb
        go_wp2_with fail
        obtain ⟨c0, c1, c2, c3, e0, e1, e2, e3⟩ := setB_facts (hI.at (g := W5.heap.size) (o := setC Y) (by simp)); clear e0 e1 e2 e3
        obtain ⟨d0, d1, d2, d3, e0, e1, e2, e3⟩ := setB_facts (hI.at (g := W3.heap.size) (o := setC x) (by simp)); clear e0 e1 e2 e3
        go_region_held_law (fun w' => (w'.cell? ⟨W5.heap.size, 0, none⟩ = some (.int .u64 (w64 Y 0)) ∧ w'.cell? ⟨W5.heap.size, 1, none⟩ = some (.int .u64 (w64 Y 1)) ∧ w'.cell? ⟨W5.heap.size, 2, none⟩ = some (.int .u64 (w64 Y 2)) ∧ w'.cell? ⟨W5.heap.size, 3, none⟩ = some (.int .u64 (w64 Y 3))) ∧ (w'.cell? ⟨W3.heap.size, 0, none⟩ = some (.int .u64 (w64 x 0)) ∧ w'.cell? ⟨W3.heap.size, 1, none⟩ = some (.int .u64 (w64 x 1)) ∧ w'.cell? ⟨W3.heap.size, 2, none⟩ = some (.int .u64 (w64 x 2)) ∧ w'.cell? ⟨W3.heap.size, 3, none⟩ = some (.int .u64 (w64 x 3)))) (go_keep)
          (first | (go_at_call 27; refine (not_any x _).mono ?_; rw [HY.out]; rintro e1 W6 ⟨rfl, hb⟩; replace hI := hI.call hb; replace hT := hT.call hb; clear c0 c1 c2 c3 d0 d1 d2 d3; obtain ⟨c0, c1, c2, c3, e0, e1, e2, e3⟩ := setB_facts (hI.at (g := W5.heap.size) (o := setC Y) (by simp)); clear e0 e1 e2 e3; obtain ⟨d0, d1, d2, d3, e0, e1, e2, e3⟩ := setB_facts (hI.at (g := W3.heap.size) (o := setC x) (by simp)); clear e0 e1 e2 e3; clear hb))
        go_wp2
        go_ret
        exact ⟨rfl, hI.below⟩
      · have hc94 : ((c.toNat : Int) == 94) = false := beq_eq_false_iff_ne.2 (fun h => h94 (u8_eq h))
        have hc94n : ((c.toNat : Int) != 94) = true := by rw [bne, hc94]; rfl
        have hc94p : ¬ (c.toNat : Int) = 94 := fun h => h94 (u8_eq h)
        obtain ⟨hcl, hyy⟩ := hn (by simpa using h94)
        obtain ⟨o, ho⟩ : ∃ o, 91 :: 94 :: c :: r' = o := ⟨_, rfl⟩
        rw [ho] at hyy
        have HO := Lib.hid hyy
        have Ho := Lib.hid (show o.length ≤ 100000 by rw [← ho]; have := Hlen.out; simp at this ⊢; omega)
        have a1 := add_strs [91, 94] (c :: r') (by have := Hlen.out; simp at this ⊢; omega)
        have c91 : (⟨#[91, 94]⟩ : ByteArray) = strOf [91, 94] := rfl
        have eo : [91, 94] ++ c :: r' = o := ho
        rw [eo] at a1
        have zo : ((strOf o).size : Int) = (r'.length : Int) + 1 + 1 + 1 := by rw [strOf_size, ← ho]; simp
        obtain ⟨K, hK⟩ : ∃ K, classL x = K := ⟨_, rfl⟩
        have HK := Lib.hid hK
        rw [hK] at hcl
        have zK : ((strOf K).size : Int) = (K.length : Int) := by rw [strOf_size]
        have hKm : ¬ (m : Int) < (K.length : Int) := by omega
        have hz1 : IntKind.i64.wrap ((m : Int) + 1 - (m : Int)) = 1 := by rw [show (m : Int) + 1 - (m : Int) = 1 by omega]; rfl
        have hz2 : IntKind.i64.wrap ((r'.length : Int) + 1 + 1 + 1 - ((r'.length : Int) + 1 + 1)) = 1 := by rw [show (r'.length : Int) + 1 + 1 + 1 - ((r'.length : Int) + 1 + 1) = 1 by omega]; rfl
        clear hyy ho eo hn hy hcl hK h94
        go_enter Tryd.func11, Tryd.ntmps11
        go_upto_region 6 with (first | (go_at_call 43; (with_reducible refine (awake3_any _ hT).mono ?_); rintro e1 W1 ⟨rfl, hb⟩; replace hI := hI.call hb; replace hT := hT.call hb; clear hb) | (go_at_call 45; (with_reducible refine (unliteral_any _ Ht.out _).mono ?_); rw [HU.out]; rintro e1 W1 ⟨rfl, hb⟩; replace hI := hI.call hb; replace hT := hT.call hb; clear hb) | (go_at_call 44; (with_reducible refine (literal_any s Hs.out _ hT).mono ?_); rw [HL.out]; rintro e1 W1 ⟨rfl, hb⟩; replace hI := hI.call hb; replace hT := hT.call hb; clear hb))
        go_wp2_with fail
        refine (unclass_any _ Ht.out _).mono ?_
        rw [HC.out]
        rintro e1 W3 ⟨rfl, hb⟩
        replace hI := (hI.call hb).alloc (setC x)
        replace hT := (hT.call hb).alloc (setC x)
        clear hb
        go_upto_region 14 with (first | (refine load_set rfl (.tmp 6) rfl W3.heap.size x rfl (hI.at (by simp)) ?_) | (go_at_call 46; (with_reducible refine (class_any x Hx.out _ hT).mono ?_); rw [HK.out]; rintro e1 W4 ⟨rfl, hb⟩; replace hI := hI.call hb; replace hT := hT.call hb; clear hb))
        go_wp2_with fail
        refine (unclass_any o Ho.out _).mono ?_
        rw [HO.out]
        rintro e1 W5 ⟨rfl, hb⟩
        replace hI := ((hI.call hb).alloc (setC Y)).drew
        replace hT := ((hT.call hb).alloc (setC Y)).drew
        clear hb
        go_wp2_with fail
        obtain ⟨c0, c1, c2, c3, e0, e1, e2, e3⟩ := setB_facts (hI.at (g := W5.heap.size) (o := setC Y) (by simp)); clear e0 e1 e2 e3
        obtain ⟨d0, d1, d2, d3, e0, e1, e2, e3⟩ := setB_facts (hI.at (g := W3.heap.size) (o := setC x) (by simp)); clear e0 e1 e2 e3
        go_region_held_law (fun w' => (w'.cell? ⟨W5.heap.size, 0, none⟩ = some (.int .u64 (w64 Y 0)) ∧ w'.cell? ⟨W5.heap.size, 1, none⟩ = some (.int .u64 (w64 Y 1)) ∧ w'.cell? ⟨W5.heap.size, 2, none⟩ = some (.int .u64 (w64 Y 2)) ∧ w'.cell? ⟨W5.heap.size, 3, none⟩ = some (.int .u64 (w64 Y 3))) ∧ (w'.cell? ⟨W3.heap.size, 0, none⟩ = some (.int .u64 (w64 x 0)) ∧ w'.cell? ⟨W3.heap.size, 1, none⟩ = some (.int .u64 (w64 x 1)) ∧ w'.cell? ⟨W3.heap.size, 2, none⟩ = some (.int .u64 (w64 x 2)) ∧ w'.cell? ⟨W3.heap.size, 3, none⟩ = some (.int .u64 (w64 x 3)))) (go_keep)
          (first | (go_at_call 27; refine (not_any x _).mono ?_; rw [HY.out]; rintro e1 W6 ⟨rfl, hb⟩; replace hI := hI.call hb; replace hT := hT.call hb; clear c0 c1 c2 c3 d0 d1 d2 d3; obtain ⟨c0, c1, c2, c3, e0, e1, e2, e3⟩ := setB_facts (hI.at (g := W5.heap.size) (o := setC Y) (by simp)); clear e0 e1 e2 e3; obtain ⟨d0, d1, d2, d3, e0, e1, e2, e3⟩ := setB_facts (hI.at (g := W3.heap.size) (o := setC x) (by simp)); clear e0 e1 e2 e3; clear hb))
        go_wp2
        go_ret
        exact ⟨rfl, hI.below⟩
    · obtain ⟨hx0, hml⟩ := short_err hC hf
      subst hx0
      have hfb : (f == 0) = false := by simpa using hf
      have hmI : (m : Int) ≤ (t.length : Int) := by omega
      have hm0 : (0 : Int) ≤ (m : Int) := by omega
      clear hf
      go_enter Tryd.func11, Tryd.ntmps11
      go_upto_region 6 with (first | (go_at_call 43; (with_reducible refine (awake3_any _ hT).mono ?_); rintro e1 W1 ⟨rfl, hb⟩; replace hI := hI.call hb; replace hT := hT.call hb; clear hb) | (go_at_call 45; (with_reducible refine (unliteral_any _ Ht.out _).mono ?_); rw [HU.out]; rintro e1 W1 ⟨rfl, hb⟩; replace hI := hI.call hb; replace hT := hT.call hb; clear hb) | (go_at_call 44; (with_reducible refine (literal_any s Hs.out _ hT).mono ?_); rw [HL.out]; rintro e1 W1 ⟨rfl, hb⟩; replace hI := hI.call hb; replace hT := hT.call hb; clear hb))
      go_wp2_with fail
      refine (unclass_any _ Ht.out _).mono ?_
      rw [HC.out]
      rintro e1 W3 ⟨rfl, hb⟩
      replace hI := (hI.call hb).alloc (setC 0)
      replace hT := (hT.call hb).alloc (setC 0)
      clear hb
      go_wp2_with (refine load_set rfl (.tmp 6) rfl W3.heap.size 0 rfl (hI.at (by simp)) ?_)
      go_ret
      exact ⟨rfl, hI.below⟩
  · have heb : (e == 0) = false := by simpa using he
    clear he hU hsm
    by_cases hf : f = 0
    · subst hf
      obtain ⟨r, rfl, hx, hm2, hml, h93, hn, hy⟩ := short_ok hC
      have Hx := Lib.hid hx
      have hszt : ((strOf (91 :: r)).size : Int) = (r.length : Int) + 1 := by rw [strOf_size]; simp
      have hml2 : m ≤ r.length + 1 := by simpa using hml
      have i0 := idx_at (91 :: r) 0 (by simp) 91 rfl
      have im := idx_at (91 :: r) (m - 1) (by simp; omega) 93 h93
      have em : ((m - 1 : Nat) : Int) = (m : Int) - 1 := by omega
      rw [em] at im
      have sl1 : ∀ W : World, (Instr.slice 9 (.string (strOf (91 :: r))) (some (.int .i64 1)) none none).run Tryd.prog W = .ok (.string (strOf r)) W := fun W => slice_from (91 :: r) 1 (by simp) W
      obtain ⟨Y, hY⟩ : ∃ Y, x ^^^ full = Y := ⟨_, rfl⟩
      rw [hY] at hn hy
      have HY := Lib.hid hY
      cases r with
      | nil => simp at hml2; omega
      | cons c r' =>
      have i1 := idx_at (91 :: c :: r') 1 (by simp) c rfl
      have sl2 : ∀ W : World, (Instr.slice 9 (.string (strOf (91 :: c :: r'))) (some (.int .i64 2)) none none).run Tryd.prog W = .ok (.string (strOf r')) W := fun W => slice_from (91 :: c :: r') 2 (by simp) W
      have i0' : ∀ W : World, (Instr.index 9 (.string (strOf (91 :: c :: r'))) (.int .i64 0)).run Tryd.prog W = .ok (.int .u8 91) W := fun W => i0 W
      have i1' : ∀ W : World, (Instr.index 9 (.string (strOf (91 :: c :: r'))) (.int .i64 1)).run Tryd.prog W = .ok (.int .u8 (c.toNat : Int)) W := fun W => i1 W
      have im' : ∀ W : World, (Instr.index 9 (.string (strOf (91 :: c :: r'))) (.int .i64 ((m : Int) - 1))).run Tryd.prog W = .ok (.int .u8 93) W := fun W => im W
      have hm2I : ¬ (m : Int) < 2 := by omega
      have hrl : (r'.length : Int) ≤ 3000 := by have := Hlen.out; simp at this; omega
      have hmI : (m : Int) ≤ 3001 := by have := Hlen.out; simp at this hml2; omega
      have hrlen : ((c :: r').length : Int) = (r'.length : Int) + 1 := by simp
      rw [hrlen] at hszt
      clear i0 i1 im hrlen em h93 hx hm2 hml hY
      by_cases h94 : c = 94
      · subst h94
        have hyy := hy r' rfl
        obtain ⟨o, ho⟩ : ∃ o, 91 :: r' = o := ⟨_, rfl⟩
        rw [ho] at hyy
        have HO := Lib.hid hyy
        have Ho := Lib.hid (show o.length ≤ 100000 by rw [← ho]; have := Hlen.out; simp at this ⊢; omega)
        have a2 := add_strs [91, 94] (94 :: r') (by have := Hlen.out; simp at this ⊢; omega)
        have c9194 : (⟨#[91, 94]⟩ : ByteArray) = strOf [91, 94] := rfl
        have a1 := add_strs [91] r' (by have := Hlen.out; simp at this ⊢; omega)
        have c91 : (⟨#[91]⟩ : ByteArray) = strOf [91] := rfl
        have eo : [91] ++ r' = o := ho
        rw [eo] at a1
        have zo : ((strOf o).size : Int) = (r'.length : Int) + 1 := by rw [strOf_size, ← ho]; simp
        have ek : ((m - 1 : Nat) : Int) = (m : Int) - 1 := by omega
        have HO' := Lib.hid (show unclassL o = (Y, m - 1, 0) from hyy)
        clear HO hyy ho eo hn hy
        have HO := HO'
        clear HO'
        have hz1 : IntKind.i64.wrap ((m : Int) - 1 - (m : Int)) = -1 := by rw [show (m : Int) - 1 - (m : Int) = -1 by omega]; rfl
        have hz2 : IntKind.i64.wrap ((r'.length : Int) + 1 - ((r'.length : Int) + 1 + 1)) = -1 := by rw [show (r'.length : Int) + 1 - ((r'.length : Int) + 1 + 1) = -1 by omega]; rfl
        go_enter Tryd.func11, Tryd.ntmps11
        go_upto_region 6 with (first | (go_at_call 43; (with_reducible refine (awake3_any _ hT).mono ?_); rintro e1 W1 ⟨rfl, hb⟩; replace hI := hI.call hb; replace hT := hT.call hb; clear hb) | (go_at_call 45; (with_reducible refine (unliteral_any _ Ht.out _).mono ?_); rw [HU.out]; rintro e1 W1 ⟨rfl, hb⟩; replace hI := hI.call hb; replace hT := hT.call hb; clear hb))
        go_wp2_with fail
        refine (unclass_any _ Ht.out _).mono ?_
        rw [HC.out]
        rintro e1 W3 ⟨rfl, hb⟩
        replace hI := (hI.call hb).alloc (setC x)
        replace hT := (hT.call hb).alloc (setC x)
        clear hb
        go_upto_region 14 with fail
        go_wp2_with fail
        refine (unclass_any o Ho.out _).mono ?_
        rw [HO.out]
        rintro e1 W5 ⟨rfl, hb⟩
        replace hI := ((hI.call hb).alloc (setC Y)).drew
        replace hT := ((hT.call hb).alloc (setC Y)).drew
        clear hb
        go_wp2_with fail
        obtain ⟨c0, c1, c2, c3, e0, e1, e2, e3⟩ := setB_facts (hI.at (g := W5.heap.size) (o := setC Y) (by simp)); clear e0 e1 e2 e3
        obtain ⟨d0, d1, d2, d3, e0, e1, e2, e3⟩ := setB_facts (hI.at (g := W3.heap.size) (o := setC x) (by simp)); clear e0 e1 e2 e3
        go_region_held_law (fun w' => (w'.cell? ⟨W5.heap.size, 0, none⟩ = some (.int .u64 (w64 Y 0)) ∧ w'.cell? ⟨W5.heap.size, 1, none⟩ = some (.int .u64 (w64 Y 1)) ∧ w'.cell? ⟨W5.heap.size, 2, none⟩ = some (.int .u64 (w64 Y 2)) ∧ w'.cell? ⟨W5.heap.size, 3, none⟩ = some (.int .u64 (w64 Y 3))) ∧ (w'.cell? ⟨W3.heap.size, 0, none⟩ = some (.int .u64 (w64 x 0)) ∧ w'.cell? ⟨W3.heap.size, 1, none⟩ = some (.int .u64 (w64 x 1)) ∧ w'.cell? ⟨W3.heap.size, 2, none⟩ = some (.int .u64 (w64 x 2)) ∧ w'.cell? ⟨W3.heap.size, 3, none⟩ = some (.int .u64 (w64 x 3)))) (go_keep)
          (first | (go_at_call 27; refine (not_any x _).mono ?_; rw [HY.out]; rintro e1 W6 ⟨rfl, hb⟩; replace hI := hI.call hb; replace hT := hT.call hb; clear c0 c1 c2 c3 d0 d1 d2 d3; obtain ⟨c0, c1, c2, c3, e0, e1, e2, e3⟩ := setB_facts (hI.at (g := W5.heap.size) (o := setC Y) (by simp)); clear e0 e1 e2 e3; obtain ⟨d0, d1, d2, d3, e0, e1, e2, e3⟩ := setB_facts (hI.at (g := W3.heap.size) (o := setC x) (by simp)); clear e0 e1 e2 e3; clear hb))
        go_wp2
        go_ret
        exact ⟨rfl, hI.below⟩
      · have hc94 : ((c.toNat : Int) == 94) = false := beq_eq_false_iff_ne.2 (fun h => h94 (u8_eq h))
        have hc94n : ((c.toNat : Int) != 94) = true := by rw [bne, hc94]; rfl
        have hc94p : ¬ (c.toNat : Int) = 94 := fun h => h94 (u8_eq h)
        obtain ⟨hcl, hyy⟩ := hn (by simpa using h94)
        obtain ⟨o, ho⟩ : ∃ o, 91 :: 94 :: c :: r' = o := ⟨_, rfl⟩
        rw [ho] at hyy
        have HO := Lib.hid hyy
        have Ho := Lib.hid (show o.length ≤ 100000 by rw [← ho]; have := Hlen.out; simp at this ⊢; omega)
        have a1 := add_strs [91, 94] (c :: r') (by have := Hlen.out; simp at this ⊢; omega)
        have c91 : (⟨#[91, 94]⟩ : ByteArray) = strOf [91, 94] := rfl
        have eo : [91, 94] ++ c :: r' = o := ho
        rw [eo] at a1
        have zo : ((strOf o).size : Int) = (r'.length : Int) + 1 + 1 + 1 := by rw [strOf_size, ← ho]; simp
        obtain ⟨K, hK⟩ : ∃ K, classL x = K := ⟨_, rfl⟩
        have HK := Lib.hid hK
        rw [hK] at hcl
        have zK : ((strOf K).size : Int) = (K.length : Int) := by rw [strOf_size]
        have hKm : ¬ (m : Int) < (K.length : Int) := by omega
        have hz1 : IntKind.i64.wrap ((m : Int) + 1 - (m : Int)) = 1 := by rw [show (m : Int) + 1 - (m : Int) = 1 by omega]; rfl
        have hz2 : IntKind.i64.wrap ((r'.length : Int) + 1 + 1 + 1 - ((r'.length : Int) + 1 + 1)) = 1 := by rw [show (r'.length : Int) + 1 + 1 + 1 - ((r'.length : Int) + 1 + 1) = 1 by omega]; rfl
        clear hyy ho eo hn hy hcl hK h94
        go_enter Tryd.func11, Tryd.ntmps11
        go_upto_region 6 with (first | (go_at_call 43; (with_reducible refine (awake3_any _ hT).mono ?_); rintro e1 W1 ⟨rfl, hb⟩; replace hI := hI.call hb; replace hT := hT.call hb; clear hb) | (go_at_call 45; (with_reducible refine (unliteral_any _ Ht.out _).mono ?_); rw [HU.out]; rintro e1 W1 ⟨rfl, hb⟩; replace hI := hI.call hb; replace hT := hT.call hb; clear hb))
        go_wp2_with fail
        refine (unclass_any _ Ht.out _).mono ?_
        rw [HC.out]
        rintro e1 W3 ⟨rfl, hb⟩
        replace hI := (hI.call hb).alloc (setC x)
        replace hT := (hT.call hb).alloc (setC x)
        clear hb
        go_upto_region 14 with (first | (refine load_set rfl (.tmp 6) rfl W3.heap.size x rfl (hI.at (by simp)) ?_) | (go_at_call 46; (with_reducible refine (class_any x Hx.out _ hT).mono ?_); rw [HK.out]; rintro e1 W4 ⟨rfl, hb⟩; replace hI := hI.call hb; replace hT := hT.call hb; clear hb))
        go_wp2_with fail
        refine (unclass_any o Ho.out _).mono ?_
        rw [HO.out]
        rintro e1 W5 ⟨rfl, hb⟩
        replace hI := ((hI.call hb).alloc (setC Y)).drew
        replace hT := ((hT.call hb).alloc (setC Y)).drew
        clear hb
        go_wp2_with fail
        obtain ⟨c0, c1, c2, c3, e0, e1, e2, e3⟩ := setB_facts (hI.at (g := W5.heap.size) (o := setC Y) (by simp)); clear e0 e1 e2 e3
        obtain ⟨d0, d1, d2, d3, e0, e1, e2, e3⟩ := setB_facts (hI.at (g := W3.heap.size) (o := setC x) (by simp)); clear e0 e1 e2 e3
        go_region_held_law (fun w' => (w'.cell? ⟨W5.heap.size, 0, none⟩ = some (.int .u64 (w64 Y 0)) ∧ w'.cell? ⟨W5.heap.size, 1, none⟩ = some (.int .u64 (w64 Y 1)) ∧ w'.cell? ⟨W5.heap.size, 2, none⟩ = some (.int .u64 (w64 Y 2)) ∧ w'.cell? ⟨W5.heap.size, 3, none⟩ = some (.int .u64 (w64 Y 3))) ∧ (w'.cell? ⟨W3.heap.size, 0, none⟩ = some (.int .u64 (w64 x 0)) ∧ w'.cell? ⟨W3.heap.size, 1, none⟩ = some (.int .u64 (w64 x 1)) ∧ w'.cell? ⟨W3.heap.size, 2, none⟩ = some (.int .u64 (w64 x 2)) ∧ w'.cell? ⟨W3.heap.size, 3, none⟩ = some (.int .u64 (w64 x 3)))) (go_keep)
          (first | (go_at_call 27; refine (not_any x _).mono ?_; rw [HY.out]; rintro e1 W6 ⟨rfl, hb⟩; replace hI := hI.call hb; replace hT := hT.call hb; clear c0 c1 c2 c3 d0 d1 d2 d3; obtain ⟨c0, c1, c2, c3, e0, e1, e2, e3⟩ := setB_facts (hI.at (g := W5.heap.size) (o := setC Y) (by simp)); clear e0 e1 e2 e3; obtain ⟨d0, d1, d2, d3, e0, e1, e2, e3⟩ := setB_facts (hI.at (g := W3.heap.size) (o := setC x) (by simp)); clear e0 e1 e2 e3; clear hb))
        go_wp2
        go_ret
        exact ⟨rfl, hI.below⟩
    · obtain ⟨hx0, hml⟩ := short_err hC hf
      subst hx0
      have hfb : (f == 0) = false := by simpa using hf
      have hmI : (m : Int) ≤ (t.length : Int) := by omega
      have hm0 : (0 : Int) ≤ (m : Int) := by omega
      clear hf
      go_enter Tryd.func11, Tryd.ntmps11
      go_upto_region 6 with (first | (go_at_call 43; (with_reducible refine (awake3_any _ hT).mono ?_); rintro e1 W1 ⟨rfl, hb⟩; replace hI := hI.call hb; replace hT := hT.call hb; clear hb) | (go_at_call 45; (with_reducible refine (unliteral_any _ Ht.out _).mono ?_); rw [HU.out]; rintro e1 W1 ⟨rfl, hb⟩; replace hI := hI.call hb; replace hT := hT.call hb; clear hb))
      go_wp2_with fail
      refine (unclass_any _ Ht.out _).mono ?_
      rw [HC.out]
      rintro e1 W3 ⟨rfl, hb⟩
      replace hI := (hI.call hb).alloc (setC 0)
      replace hT := (hT.call hb).alloc (setC 0)
      clear hb
      go_wp2_with (refine load_set rfl (.tmp 6) rfl W3.heap.size 0 rfl (hI.at (by simp)) ?_)
      go_ret
      exact ⟨rfl, hI.below⟩
/-- bonsailaw03.QuoteShort. -/
theorem short_any_law (t : List UInt8) (w : World) (hT : Tb w) :
    Calls Tryd.prog 11 #[.string (strOf t)] w fun e w' => e = .returned (.bool true) ∧ Below w.heap.size w w' := by
  by_cases h : t.length ≤ 3000
  · exact short_small t h w hT
  · exact short_big t (by omega) w hT
end Go.Proofs.YtcpgbakdfogilaaDoor
