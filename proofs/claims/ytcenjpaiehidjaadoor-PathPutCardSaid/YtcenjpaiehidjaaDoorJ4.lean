/- Contract of bonsai/bonsairef04.Fits: printed by gen_fits.py. -/
import Derived.Test.YtcenjpaiehidjaaDoorJ2
set_option linter.unusedSimpArgs false
set_option linter.unusedVariables false
namespace Go.Proofs.YtcenjpaiehidjaaDoor
open Go.RowKit
set_option maxRecDepth 100000

set_option maxHeartbeats 8000000 in
theorem rfits_0 (h : Hd) (hk : h.kind = 0) (hset : h.set < 2 ^ 256) (q : Option Addr) (m cap n : Nat) (w : World) :
    Calls Tryd.prog 46 #[ndV h q m cap, .int .i64 (n : Int)] w fun e w' => e = .returned (.bool (fitsB h n)) ∧ Below w.heap.size w w' := by
  obtain ⟨kind, set, text, lo, hi⟩ := h
  simp only at hk hset
  subst hk
  have hemp : (strOf []).toList.isEmpty = true := strOf_empty []
  have hsz := strOf_size text
  have e0 := w64_zero 0; have e1 := w64_zero 1; have e2 := w64_zero 2; have e3 := w64_zero 3
  by_cases h_set : set = 0
  ·
    by_cases h_text : text = []
    ·
      by_cases h_lo : lo = 0
      ·
        by_cases h_hi : hi = 0
        ·
          by_cases h_n0 : n = 0
          ·
            subst h_set
            subst h_text
            have hsz0 : (strOf []).size = 0 := strOf_size []
            subst h_lo
            subst h_hi
            subst h_n0
            go_enter Tryd.func46, Tryd.ntmps46
            go_wp2
            go_ret
            refine ⟨ret_bool ?_, ?_⟩
            · first | rfl | (simp [fitsB, plainB, *]; done) | (simp [fitsB, plainB, *]; first | omega | (rw [Bool.eq_iff_iff]; first | (simp; done) | (simp; omega)))
            · repeat (first | exact Below.refl _ _ | refine Below.alloc ?_ (by simp) _ | refine Below.setCell ?_ (by simp) _ | exact Nat.le_refl _)
          ·
            subst h_set
            subst h_text
            have hsz0 : (strOf []).size = 0 := strOf_size []
            subst h_lo
            subst h_hi
            have e_n0 : ¬ (n : Int) = 0 := by omega
            go_enter Tryd.func46, Tryd.ntmps46
            go_wp2
            go_ret
            refine ⟨ret_bool ?_, ?_⟩
            · first | rfl | (simp [fitsB, plainB, *]; done) | (simp [fitsB, plainB, *]; first | omega | (rw [Bool.eq_iff_iff]; first | (simp; done) | (simp; omega)))
            · repeat (first | exact Below.refl _ _ | refine Below.alloc ?_ (by simp) _ | refine Below.setCell ?_ (by simp) _ | exact Nat.le_refl _)
        ·
          subst h_set
          subst h_text
          have hsz0 : (strOf []).size = 0 := strOf_size []
          subst h_lo
          go_enter Tryd.func46, Tryd.ntmps46
          go_wp2
          go_ret
          refine ⟨ret_bool ?_, ?_⟩
          · first | rfl | (simp [fitsB, plainB, *]; done) | (simp [fitsB, plainB, *]; first | omega | (rw [Bool.eq_iff_iff]; first | (simp; done) | (simp; omega)))
          · repeat (first | exact Below.refl _ _ | refine Below.alloc ?_ (by simp) _ | refine Below.setCell ?_ (by simp) _ | exact Nat.le_refl _)
      ·
        subst h_set
        subst h_text
        have hsz0 : (strOf []).size = 0 := strOf_size []
        go_enter Tryd.func46, Tryd.ntmps46
        go_wp2
        go_ret
        refine ⟨ret_bool ?_, ?_⟩
        · first | rfl | (simp [fitsB, plainB, *]; done) | (simp [fitsB, plainB, *]; first | omega | (rw [Bool.eq_iff_iff]; first | (simp; done) | (simp; omega)))
        · repeat (first | exact Below.refl _ _ | refine Below.alloc ?_ (by simp) _ | refine Below.setCell ?_ (by simp) _ | exact Nat.le_refl _)
    ·
      subst h_set
      have hemp2 : (strOf text).toList.isEmpty = false := by rw [strOf_empty]; cases text with | nil => exact absurd rfl h_text | cons b l => rfl
      have hlen1 : 1 ≤ text.length := by cases text with | nil => exact absurd rfl h_text | cons b l => simp
      go_enter Tryd.func46, Tryd.ntmps46
      go_wp2
      go_ret
      refine ⟨ret_bool ?_, ?_⟩
      · first | rfl | (simp [fitsB, plainB, *]; done) | (simp [fitsB, plainB, *]; first | omega | (rw [Bool.eq_iff_iff]; first | (simp; done) | (simp; omega)))
      · repeat (first | exact Below.refl _ _ | refine Below.alloc ?_ (by simp) _ | refine Below.setCell ?_ (by simp) _ | exact Nat.le_refl _)
  ·
    have e_set := set_ne hset h_set
    go_enter Tryd.func46, Tryd.ntmps46
    go_wp2
    go_ret
    refine ⟨ret_bool ?_, ?_⟩
    · first | rfl | (simp [fitsB, plainB, *]; done) | (simp [fitsB, plainB, *]; first | omega | (rw [Bool.eq_iff_iff]; first | (simp; done) | (simp; omega)))
    · repeat (first | exact Below.refl _ _ | refine Below.alloc ?_ (by simp) _ | refine Below.setCell ?_ (by simp) _ | exact Nat.le_refl _)
set_option maxHeartbeats 8000000 in
theorem rfits_1 (h : Hd) (hk : h.kind = 1) (hset : h.set < 2 ^ 256) (q : Option Addr) (m cap n : Nat) (w : World) :
    Calls Tryd.prog 46 #[ndV h q m cap, .int .i64 (n : Int)] w fun e w' => e = .returned (.bool (fitsB h n)) ∧ Below w.heap.size w w' := by
  obtain ⟨kind, set, text, lo, hi⟩ := h
  simp only at hk hset
  subst hk
  have hemp : (strOf []).toList.isEmpty = true := strOf_empty []
  have hsz := strOf_size text
  have e0 := w64_zero 0; have e1 := w64_zero 1; have e2 := w64_zero 2; have e3 := w64_zero 3
  by_cases h_set : set = 0
  ·
    by_cases h_text : text = []
    ·
      by_cases h_lo : lo = 0
      ·
        by_cases h_hi : hi = 0
        ·
          by_cases h_n0 : n = 0
          ·
            subst h_set
            subst h_text
            have hsz0 : (strOf []).size = 0 := strOf_size []
            subst h_lo
            subst h_hi
            subst h_n0
            go_enter Tryd.func46, Tryd.ntmps46
            go_wp2
            go_ret
            refine ⟨ret_bool ?_, ?_⟩
            · first | rfl | (simp [fitsB, plainB, *]; done) | (simp [fitsB, plainB, *]; first | omega | (rw [Bool.eq_iff_iff]; first | (simp; done) | (simp; omega)))
            · repeat (first | exact Below.refl _ _ | refine Below.alloc ?_ (by simp) _ | refine Below.setCell ?_ (by simp) _ | exact Nat.le_refl _)
          ·
            subst h_set
            subst h_text
            have hsz0 : (strOf []).size = 0 := strOf_size []
            subst h_lo
            subst h_hi
            have e_n0 : ¬ (n : Int) = 0 := by omega
            go_enter Tryd.func46, Tryd.ntmps46
            go_wp2
            go_ret
            refine ⟨ret_bool ?_, ?_⟩
            · first | rfl | (simp [fitsB, plainB, *]; done) | (simp [fitsB, plainB, *]; first | omega | (rw [Bool.eq_iff_iff]; first | (simp; done) | (simp; omega)))
            · repeat (first | exact Below.refl _ _ | refine Below.alloc ?_ (by simp) _ | refine Below.setCell ?_ (by simp) _ | exact Nat.le_refl _)
        ·
          subst h_set
          subst h_text
          have hsz0 : (strOf []).size = 0 := strOf_size []
          subst h_lo
          go_enter Tryd.func46, Tryd.ntmps46
          go_wp2
          go_ret
          refine ⟨ret_bool ?_, ?_⟩
          · first | rfl | (simp [fitsB, plainB, *]; done) | (simp [fitsB, plainB, *]; first | omega | (rw [Bool.eq_iff_iff]; first | (simp; done) | (simp; omega)))
          · repeat (first | exact Below.refl _ _ | refine Below.alloc ?_ (by simp) _ | refine Below.setCell ?_ (by simp) _ | exact Nat.le_refl _)
      ·
        subst h_set
        subst h_text
        have hsz0 : (strOf []).size = 0 := strOf_size []
        go_enter Tryd.func46, Tryd.ntmps46
        go_wp2
        go_ret
        refine ⟨ret_bool ?_, ?_⟩
        · first | rfl | (simp [fitsB, plainB, *]; done) | (simp [fitsB, plainB, *]; first | omega | (rw [Bool.eq_iff_iff]; first | (simp; done) | (simp; omega)))
        · repeat (first | exact Below.refl _ _ | refine Below.alloc ?_ (by simp) _ | refine Below.setCell ?_ (by simp) _ | exact Nat.le_refl _)
    ·
      subst h_set
      have hemp2 : (strOf text).toList.isEmpty = false := by rw [strOf_empty]; cases text with | nil => exact absurd rfl h_text | cons b l => rfl
      have hlen1 : 1 ≤ text.length := by cases text with | nil => exact absurd rfl h_text | cons b l => simp
      go_enter Tryd.func46, Tryd.ntmps46
      go_wp2
      go_ret
      refine ⟨ret_bool ?_, ?_⟩
      · first | rfl | (simp [fitsB, plainB, *]; done) | (simp [fitsB, plainB, *]; first | omega | (rw [Bool.eq_iff_iff]; first | (simp; done) | (simp; omega)))
      · repeat (first | exact Below.refl _ _ | refine Below.alloc ?_ (by simp) _ | refine Below.setCell ?_ (by simp) _ | exact Nat.le_refl _)
  ·
    by_cases h_text : text = []
    ·
      by_cases h_lo : lo = 0
      ·
        by_cases h_hi : hi = 0
        ·
          by_cases h_n0 : n = 0
          ·
            have e_set := set_ne hset h_set
            subst h_text
            have hsz0 : (strOf []).size = 0 := strOf_size []
            subst h_lo
            subst h_hi
            subst h_n0
            go_enter Tryd.func46, Tryd.ntmps46
            go_wp2
            go_ret
            refine ⟨ret_bool ?_, ?_⟩
            · first | rfl | (simp [fitsB, plainB, *]; done) | (simp [fitsB, plainB, *]; first | omega | (rw [Bool.eq_iff_iff]; first | (simp; done) | (simp; omega)))
            · repeat (first | exact Below.refl _ _ | refine Below.alloc ?_ (by simp) _ | refine Below.setCell ?_ (by simp) _ | exact Nat.le_refl _)
          ·
            have e_set := set_ne hset h_set
            subst h_text
            have hsz0 : (strOf []).size = 0 := strOf_size []
            subst h_lo
            subst h_hi
            have e_n0 : ¬ (n : Int) = 0 := by omega
            go_enter Tryd.func46, Tryd.ntmps46
            go_wp2
            go_ret
            refine ⟨ret_bool ?_, ?_⟩
            · first | rfl | (simp [fitsB, plainB, *]; done) | (simp [fitsB, plainB, *]; first | omega | (rw [Bool.eq_iff_iff]; first | (simp; done) | (simp; omega)))
            · repeat (first | exact Below.refl _ _ | refine Below.alloc ?_ (by simp) _ | refine Below.setCell ?_ (by simp) _ | exact Nat.le_refl _)
        ·
          have e_set := set_ne hset h_set
          subst h_text
          have hsz0 : (strOf []).size = 0 := strOf_size []
          subst h_lo
          go_enter Tryd.func46, Tryd.ntmps46
          go_wp2
          go_ret
          refine ⟨ret_bool ?_, ?_⟩
          · first | rfl | (simp [fitsB, plainB, *]; done) | (simp [fitsB, plainB, *]; first | omega | (rw [Bool.eq_iff_iff]; first | (simp; done) | (simp; omega)))
          · repeat (first | exact Below.refl _ _ | refine Below.alloc ?_ (by simp) _ | refine Below.setCell ?_ (by simp) _ | exact Nat.le_refl _)
      ·
        have e_set := set_ne hset h_set
        subst h_text
        have hsz0 : (strOf []).size = 0 := strOf_size []
        go_enter Tryd.func46, Tryd.ntmps46
        go_wp2
        go_ret
        refine ⟨ret_bool ?_, ?_⟩
        · first | rfl | (simp [fitsB, plainB, *]; done) | (simp [fitsB, plainB, *]; first | omega | (rw [Bool.eq_iff_iff]; first | (simp; done) | (simp; omega)))
        · repeat (first | exact Below.refl _ _ | refine Below.alloc ?_ (by simp) _ | refine Below.setCell ?_ (by simp) _ | exact Nat.le_refl _)
    ·
      have e_set := set_ne hset h_set
      have hemp2 : (strOf text).toList.isEmpty = false := by rw [strOf_empty]; cases text with | nil => exact absurd rfl h_text | cons b l => rfl
      have hlen1 : 1 ≤ text.length := by cases text with | nil => exact absurd rfl h_text | cons b l => simp
      go_enter Tryd.func46, Tryd.ntmps46
      go_wp2
      go_ret
      refine ⟨ret_bool ?_, ?_⟩
      · first | rfl | (simp [fitsB, plainB, *]; done) | (simp [fitsB, plainB, *]; first | omega | (rw [Bool.eq_iff_iff]; first | (simp; done) | (simp; omega)))
      · repeat (first | exact Below.refl _ _ | refine Below.alloc ?_ (by simp) _ | refine Below.setCell ?_ (by simp) _ | exact Nat.le_refl _)
set_option maxHeartbeats 8000000 in
theorem rfits_2 (h : Hd) (hk : h.kind = 2) (hset : h.set < 2 ^ 256) (q : Option Addr) (m cap n : Nat) (w : World) :
    Calls Tryd.prog 46 #[ndV h q m cap, .int .i64 (n : Int)] w fun e w' => e = .returned (.bool (fitsB h n)) ∧ Below w.heap.size w w' := by
  obtain ⟨kind, set, text, lo, hi⟩ := h
  simp only at hk hset
  subst hk
  have hemp : (strOf []).toList.isEmpty = true := strOf_empty []
  have hsz := strOf_size text
  have e0 := w64_zero 0; have e1 := w64_zero 1; have e2 := w64_zero 2; have e3 := w64_zero 3
  by_cases h_set : set = 0
  ·
    by_cases h_text : text = []
    ·
      by_cases h_lo : lo = 0
      ·
        by_cases h_hi : hi = 0
        ·
          by_cases h_n0 : n = 0
          ·
            subst h_set
            subst h_text
            have hsz0 : (strOf []).size = 0 := strOf_size []
            subst h_lo
            subst h_hi
            subst h_n0
            go_enter Tryd.func46, Tryd.ntmps46
            go_wp2
            go_ret
            refine ⟨ret_bool ?_, ?_⟩
            · first | rfl | (simp [fitsB, plainB, *]; done) | (simp [fitsB, plainB, *]; first | omega | (rw [Bool.eq_iff_iff]; first | (simp; done) | (simp; omega)))
            · repeat (first | exact Below.refl _ _ | refine Below.alloc ?_ (by simp) _ | refine Below.setCell ?_ (by simp) _ | exact Nat.le_refl _)
          ·
            subst h_set
            subst h_text
            have hsz0 : (strOf []).size = 0 := strOf_size []
            subst h_lo
            subst h_hi
            have e_n0 : ¬ (n : Int) = 0 := by omega
            go_enter Tryd.func46, Tryd.ntmps46
            go_wp2
            go_ret
            refine ⟨ret_bool ?_, ?_⟩
            · first | rfl | (simp [fitsB, plainB, *]; done) | (simp [fitsB, plainB, *]; first | omega | (rw [Bool.eq_iff_iff]; first | (simp; done) | (simp; omega)))
            · repeat (first | exact Below.refl _ _ | refine Below.alloc ?_ (by simp) _ | refine Below.setCell ?_ (by simp) _ | exact Nat.le_refl _)
        ·
          subst h_set
          subst h_text
          have hsz0 : (strOf []).size = 0 := strOf_size []
          subst h_lo
          go_enter Tryd.func46, Tryd.ntmps46
          go_wp2
          go_ret
          refine ⟨ret_bool ?_, ?_⟩
          · first | rfl | (simp [fitsB, plainB, *]; done) | (simp [fitsB, plainB, *]; first | omega | (rw [Bool.eq_iff_iff]; first | (simp; done) | (simp; omega)))
          · repeat (first | exact Below.refl _ _ | refine Below.alloc ?_ (by simp) _ | refine Below.setCell ?_ (by simp) _ | exact Nat.le_refl _)
      ·
        subst h_set
        subst h_text
        have hsz0 : (strOf []).size = 0 := strOf_size []
        go_enter Tryd.func46, Tryd.ntmps46
        go_wp2
        go_ret
        refine ⟨ret_bool ?_, ?_⟩
        · first | rfl | (simp [fitsB, plainB, *]; done) | (simp [fitsB, plainB, *]; first | omega | (rw [Bool.eq_iff_iff]; first | (simp; done) | (simp; omega)))
        · repeat (first | exact Below.refl _ _ | refine Below.alloc ?_ (by simp) _ | refine Below.setCell ?_ (by simp) _ | exact Nat.le_refl _)
    ·
      by_cases h_lo : lo = 0
      ·
        by_cases h_hi : hi = 0
        ·
          by_cases h_n0 : n = 0
          ·
            by_cases h_len : text.length ≤ 255
            ·
              subst h_set
              have hemp2 : (strOf text).toList.isEmpty = false := by rw [strOf_empty]; cases text with | nil => exact absurd rfl h_text | cons b l => rfl
              have hlen1 : 1 ≤ text.length := by cases text with | nil => exact absurd rfl h_text | cons b l => simp
              subst h_lo
              subst h_hi
              subst h_n0
              have e_len : (text.length : Int) ≤ 255 := by omega
              go_enter Tryd.func46, Tryd.ntmps46
              go_wp2
              go_ret
              refine ⟨ret_bool ?_, ?_⟩
              · first | rfl | (simp [fitsB, plainB, *]; done) | (simp [fitsB, plainB, *]; first | omega | (rw [Bool.eq_iff_iff]; first | (simp; done) | (simp; omega)))
              · repeat (first | exact Below.refl _ _ | refine Below.alloc ?_ (by simp) _ | refine Below.setCell ?_ (by simp) _ | exact Nat.le_refl _)
            ·
              subst h_set
              have hemp2 : (strOf text).toList.isEmpty = false := by rw [strOf_empty]; cases text with | nil => exact absurd rfl h_text | cons b l => rfl
              have hlen1 : 1 ≤ text.length := by cases text with | nil => exact absurd rfl h_text | cons b l => simp
              subst h_lo
              subst h_hi
              subst h_n0
              have e_len : 255 < (text.length : Int) := by omega
              go_enter Tryd.func46, Tryd.ntmps46
              go_wp2
              go_ret
              refine ⟨ret_bool ?_, ?_⟩
              · first | rfl | (simp [fitsB, plainB, *]; done) | (simp [fitsB, plainB, *]; first | omega | (rw [Bool.eq_iff_iff]; first | (simp; done) | (simp; omega)))
              · repeat (first | exact Below.refl _ _ | refine Below.alloc ?_ (by simp) _ | refine Below.setCell ?_ (by simp) _ | exact Nat.le_refl _)
          ·
            subst h_set
            have hemp2 : (strOf text).toList.isEmpty = false := by rw [strOf_empty]; cases text with | nil => exact absurd rfl h_text | cons b l => rfl
            have hlen1 : 1 ≤ text.length := by cases text with | nil => exact absurd rfl h_text | cons b l => simp
            subst h_lo
            subst h_hi
            have e_n0 : ¬ (n : Int) = 0 := by omega
            go_enter Tryd.func46, Tryd.ntmps46
            go_wp2
            go_ret
            refine ⟨ret_bool ?_, ?_⟩
            · first | rfl | (simp [fitsB, plainB, *]; done) | (simp [fitsB, plainB, *]; first | omega | (rw [Bool.eq_iff_iff]; first | (simp; done) | (simp; omega)))
            · repeat (first | exact Below.refl _ _ | refine Below.alloc ?_ (by simp) _ | refine Below.setCell ?_ (by simp) _ | exact Nat.le_refl _)
        ·
          subst h_set
          have hemp2 : (strOf text).toList.isEmpty = false := by rw [strOf_empty]; cases text with | nil => exact absurd rfl h_text | cons b l => rfl
          have hlen1 : 1 ≤ text.length := by cases text with | nil => exact absurd rfl h_text | cons b l => simp
          subst h_lo
          go_enter Tryd.func46, Tryd.ntmps46
          go_wp2
          go_ret
          refine ⟨ret_bool ?_, ?_⟩
          · first | rfl | (simp [fitsB, plainB, *]; done) | (simp [fitsB, plainB, *]; first | omega | (rw [Bool.eq_iff_iff]; first | (simp; done) | (simp; omega)))
          · repeat (first | exact Below.refl _ _ | refine Below.alloc ?_ (by simp) _ | refine Below.setCell ?_ (by simp) _ | exact Nat.le_refl _)
      ·
        subst h_set
        have hemp2 : (strOf text).toList.isEmpty = false := by rw [strOf_empty]; cases text with | nil => exact absurd rfl h_text | cons b l => rfl
        have hlen1 : 1 ≤ text.length := by cases text with | nil => exact absurd rfl h_text | cons b l => simp
        go_enter Tryd.func46, Tryd.ntmps46
        go_wp2
        go_ret
        refine ⟨ret_bool ?_, ?_⟩
        · first | rfl | (simp [fitsB, plainB, *]; done) | (simp [fitsB, plainB, *]; first | omega | (rw [Bool.eq_iff_iff]; first | (simp; done) | (simp; omega)))
        · repeat (first | exact Below.refl _ _ | refine Below.alloc ?_ (by simp) _ | refine Below.setCell ?_ (by simp) _ | exact Nat.le_refl _)
  ·
    have e_set := set_ne hset h_set
    go_enter Tryd.func46, Tryd.ntmps46
    go_wp2
    go_ret
    refine ⟨ret_bool ?_, ?_⟩
    · first | rfl | (simp [fitsB, plainB, *]; done) | (simp [fitsB, plainB, *]; first | omega | (rw [Bool.eq_iff_iff]; first | (simp; done) | (simp; omega)))
    · repeat (first | exact Below.refl _ _ | refine Below.alloc ?_ (by simp) _ | refine Below.setCell ?_ (by simp) _ | exact Nat.le_refl _)
set_option maxHeartbeats 8000000 in
theorem rfits_3 (h : Hd) (hk : h.kind = 3) (hset : h.set < 2 ^ 256) (q : Option Addr) (m cap n : Nat) (w : World) :
    Calls Tryd.prog 46 #[ndV h q m cap, .int .i64 (n : Int)] w fun e w' => e = .returned (.bool (fitsB h n)) ∧ Below w.heap.size w w' := by
  obtain ⟨kind, set, text, lo, hi⟩ := h
  simp only at hk hset
  subst hk
  have hemp : (strOf []).toList.isEmpty = true := strOf_empty []
  have hsz := strOf_size text
  have e0 := w64_zero 0; have e1 := w64_zero 1; have e2 := w64_zero 2; have e3 := w64_zero 3
  by_cases h_set : set = 0
  ·
    by_cases h_text : text = []
    ·
      by_cases h_lo : lo = 0
      ·
        by_cases h_hi : hi = 0
        ·
          by_cases h_n0 : n = 0
          ·
            cases h_may : mayL text
            ·
              subst h_set
              subst h_text
              have hsz0 : (strOf []).size = 0 := strOf_size []
              subst h_lo
              subst h_hi
              subst h_n0
              have H_may := Lib.hid h_may; clear h_may
              go_enter Tryd.func46, Tryd.ntmps46
              go_wp2_with (first | (go_at_call 63; with_reducible refine (rmay_any _ _).mono ?_; rw [H_may.out]; rintro e w1 ⟨rfl, rfl⟩))
              go_ret
              refine ⟨ret_bool ?_, ?_⟩
              · have h_may := H_may.out; first | rfl | (simp [fitsB, plainB, *]; done) | (simp [fitsB, plainB, *]; first | omega | (rw [Bool.eq_iff_iff]; first | (simp; done) | (simp; omega)))
              · repeat (first | exact Below.refl _ _ | refine Below.alloc ?_ (by simp) _ | refine Below.setCell ?_ (by simp) _ | exact Nat.le_refl _)
            ·
              subst h_set
              subst h_text
              have hsz0 : (strOf []).size = 0 := strOf_size []
              subst h_lo
              subst h_hi
              subst h_n0
              have H_may := Lib.hid h_may; clear h_may
              go_enter Tryd.func46, Tryd.ntmps46
              go_wp2_with (first | (go_at_call 63; with_reducible refine (rmay_any _ _).mono ?_; rw [H_may.out]; rintro e w1 ⟨rfl, rfl⟩))
              go_ret
              refine ⟨ret_bool ?_, ?_⟩
              · have h_may := H_may.out; first | rfl | (simp [fitsB, plainB, *]; done) | (simp [fitsB, plainB, *]; first | omega | (rw [Bool.eq_iff_iff]; first | (simp; done) | (simp; omega)))
              · repeat (first | exact Below.refl _ _ | refine Below.alloc ?_ (by simp) _ | refine Below.setCell ?_ (by simp) _ | exact Nat.le_refl _)
          ·
            subst h_set
            subst h_text
            have hsz0 : (strOf []).size = 0 := strOf_size []
            subst h_lo
            subst h_hi
            have e_n0 : ¬ (n : Int) = 0 := by omega
            go_enter Tryd.func46, Tryd.ntmps46
            go_wp2
            go_ret
            refine ⟨ret_bool ?_, ?_⟩
            · first | rfl | (simp [fitsB, plainB, *]; done) | (simp [fitsB, plainB, *]; first | omega | (rw [Bool.eq_iff_iff]; first | (simp; done) | (simp; omega)))
            · repeat (first | exact Below.refl _ _ | refine Below.alloc ?_ (by simp) _ | refine Below.setCell ?_ (by simp) _ | exact Nat.le_refl _)
        ·
          subst h_set
          subst h_text
          have hsz0 : (strOf []).size = 0 := strOf_size []
          subst h_lo
          go_enter Tryd.func46, Tryd.ntmps46
          go_wp2
          go_ret
          refine ⟨ret_bool ?_, ?_⟩
          · first | rfl | (simp [fitsB, plainB, *]; done) | (simp [fitsB, plainB, *]; first | omega | (rw [Bool.eq_iff_iff]; first | (simp; done) | (simp; omega)))
          · repeat (first | exact Below.refl _ _ | refine Below.alloc ?_ (by simp) _ | refine Below.setCell ?_ (by simp) _ | exact Nat.le_refl _)
      ·
        subst h_set
        subst h_text
        have hsz0 : (strOf []).size = 0 := strOf_size []
        go_enter Tryd.func46, Tryd.ntmps46
        go_wp2
        go_ret
        refine ⟨ret_bool ?_, ?_⟩
        · first | rfl | (simp [fitsB, plainB, *]; done) | (simp [fitsB, plainB, *]; first | omega | (rw [Bool.eq_iff_iff]; first | (simp; done) | (simp; omega)))
        · repeat (first | exact Below.refl _ _ | refine Below.alloc ?_ (by simp) _ | refine Below.setCell ?_ (by simp) _ | exact Nat.le_refl _)
    ·
      by_cases h_lo : lo = 0
      ·
        by_cases h_hi : hi = 0
        ·
          by_cases h_n0 : n = 0
          ·
            cases h_may : mayL text
            ·
              subst h_set
              have hemp2 : (strOf text).toList.isEmpty = false := by rw [strOf_empty]; cases text with | nil => exact absurd rfl h_text | cons b l => rfl
              have hlen1 : 1 ≤ text.length := by cases text with | nil => exact absurd rfl h_text | cons b l => simp
              subst h_lo
              subst h_hi
              subst h_n0
              have H_may := Lib.hid h_may; clear h_may
              go_enter Tryd.func46, Tryd.ntmps46
              go_wp2_with (first | (go_at_call 63; with_reducible refine (rmay_any _ _).mono ?_; rw [H_may.out]; rintro e w1 ⟨rfl, rfl⟩))
              go_ret
              refine ⟨ret_bool ?_, ?_⟩
              · have h_may := H_may.out; first | rfl | (simp [fitsB, plainB, *]; done) | (simp [fitsB, plainB, *]; first | omega | (rw [Bool.eq_iff_iff]; first | (simp; done) | (simp; omega)))
              · repeat (first | exact Below.refl _ _ | refine Below.alloc ?_ (by simp) _ | refine Below.setCell ?_ (by simp) _ | exact Nat.le_refl _)
            ·
              subst h_set
              have hemp2 : (strOf text).toList.isEmpty = false := by rw [strOf_empty]; cases text with | nil => exact absurd rfl h_text | cons b l => rfl
              have hlen1 : 1 ≤ text.length := by cases text with | nil => exact absurd rfl h_text | cons b l => simp
              subst h_lo
              subst h_hi
              subst h_n0
              have H_may := Lib.hid h_may; clear h_may
              go_enter Tryd.func46, Tryd.ntmps46
              go_wp2_with (first | (go_at_call 63; with_reducible refine (rmay_any _ _).mono ?_; rw [H_may.out]; rintro e w1 ⟨rfl, rfl⟩))
              go_ret
              refine ⟨ret_bool ?_, ?_⟩
              · have h_may := H_may.out; first | rfl | (simp [fitsB, plainB, *]; done) | (simp [fitsB, plainB, *]; first | omega | (rw [Bool.eq_iff_iff]; first | (simp; done) | (simp; omega)))
              · repeat (first | exact Below.refl _ _ | refine Below.alloc ?_ (by simp) _ | refine Below.setCell ?_ (by simp) _ | exact Nat.le_refl _)
          ·
            subst h_set
            have hemp2 : (strOf text).toList.isEmpty = false := by rw [strOf_empty]; cases text with | nil => exact absurd rfl h_text | cons b l => rfl
            have hlen1 : 1 ≤ text.length := by cases text with | nil => exact absurd rfl h_text | cons b l => simp
            subst h_lo
            subst h_hi
            have e_n0 : ¬ (n : Int) = 0 := by omega
            go_enter Tryd.func46, Tryd.ntmps46
            go_wp2
            go_ret
            refine ⟨ret_bool ?_, ?_⟩
            · first | rfl | (simp [fitsB, plainB, *]; done) | (simp [fitsB, plainB, *]; first | omega | (rw [Bool.eq_iff_iff]; first | (simp; done) | (simp; omega)))
            · repeat (first | exact Below.refl _ _ | refine Below.alloc ?_ (by simp) _ | refine Below.setCell ?_ (by simp) _ | exact Nat.le_refl _)
        ·
          subst h_set
          have hemp2 : (strOf text).toList.isEmpty = false := by rw [strOf_empty]; cases text with | nil => exact absurd rfl h_text | cons b l => rfl
          have hlen1 : 1 ≤ text.length := by cases text with | nil => exact absurd rfl h_text | cons b l => simp
          subst h_lo
          go_enter Tryd.func46, Tryd.ntmps46
          go_wp2
          go_ret
          refine ⟨ret_bool ?_, ?_⟩
          · first | rfl | (simp [fitsB, plainB, *]; done) | (simp [fitsB, plainB, *]; first | omega | (rw [Bool.eq_iff_iff]; first | (simp; done) | (simp; omega)))
          · repeat (first | exact Below.refl _ _ | refine Below.alloc ?_ (by simp) _ | refine Below.setCell ?_ (by simp) _ | exact Nat.le_refl _)
      ·
        subst h_set
        have hemp2 : (strOf text).toList.isEmpty = false := by rw [strOf_empty]; cases text with | nil => exact absurd rfl h_text | cons b l => rfl
        have hlen1 : 1 ≤ text.length := by cases text with | nil => exact absurd rfl h_text | cons b l => simp
        go_enter Tryd.func46, Tryd.ntmps46
        go_wp2
        go_ret
        refine ⟨ret_bool ?_, ?_⟩
        · first | rfl | (simp [fitsB, plainB, *]; done) | (simp [fitsB, plainB, *]; first | omega | (rw [Bool.eq_iff_iff]; first | (simp; done) | (simp; omega)))
        · repeat (first | exact Below.refl _ _ | refine Below.alloc ?_ (by simp) _ | refine Below.setCell ?_ (by simp) _ | exact Nat.le_refl _)
  ·
    have e_set := set_ne hset h_set
    go_enter Tryd.func46, Tryd.ntmps46
    go_wp2
    go_ret
    refine ⟨ret_bool ?_, ?_⟩
    · first | rfl | (simp [fitsB, plainB, *]; done) | (simp [fitsB, plainB, *]; first | omega | (rw [Bool.eq_iff_iff]; first | (simp; done) | (simp; omega)))
    · repeat (first | exact Below.refl _ _ | refine Below.alloc ?_ (by simp) _ | refine Below.setCell ?_ (by simp) _ | exact Nat.le_refl _)
set_option maxHeartbeats 8000000 in
theorem rfits_4 (h : Hd) (hk : h.kind = 4) (hset : h.set < 2 ^ 256) (q : Option Addr) (m cap n : Nat) (w : World) :
    Calls Tryd.prog 46 #[ndV h q m cap, .int .i64 (n : Int)] w fun e w' => e = .returned (.bool (fitsB h n)) ∧ Below w.heap.size w w' := by
  obtain ⟨kind, set, text, lo, hi⟩ := h
  simp only at hk hset
  subst hk
  have hemp : (strOf []).toList.isEmpty = true := strOf_empty []
  have hsz := strOf_size text
  have e0 := w64_zero 0; have e1 := w64_zero 1; have e2 := w64_zero 2; have e3 := w64_zero 3
  by_cases h_set : set = 0
  ·
    by_cases h_text : text = []
    ·
      by_cases h_lo : lo = 0
      ·
        by_cases h_hi : hi = 0
        ·
          by_cases h_n2 : 2 ≤ n
          ·
            subst h_set
            subst h_text
            have hsz0 : (strOf []).size = 0 := strOf_size []
            subst h_lo
            subst h_hi
            have e_n2 : (2 : Int) ≤ n := by omega
            go_enter Tryd.func46, Tryd.ntmps46
            go_wp2
            go_ret
            refine ⟨ret_bool ?_, ?_⟩
            · first | rfl | (simp [fitsB, plainB, *]; done) | (simp [fitsB, plainB, *]; first | omega | (rw [Bool.eq_iff_iff]; first | (simp; done) | (simp; omega)))
            · repeat (first | exact Below.refl _ _ | refine Below.alloc ?_ (by simp) _ | refine Below.setCell ?_ (by simp) _ | exact Nat.le_refl _)
          ·
            subst h_set
            subst h_text
            have hsz0 : (strOf []).size = 0 := strOf_size []
            subst h_lo
            subst h_hi
            have e_n2 : (n : Int) < 2 := by omega
            go_enter Tryd.func46, Tryd.ntmps46
            go_wp2
            go_ret
            refine ⟨ret_bool ?_, ?_⟩
            · first | rfl | (simp [fitsB, plainB, *]; done) | (simp [fitsB, plainB, *]; first | omega | (rw [Bool.eq_iff_iff]; first | (simp; done) | (simp; omega)))
            · repeat (first | exact Below.refl _ _ | refine Below.alloc ?_ (by simp) _ | refine Below.setCell ?_ (by simp) _ | exact Nat.le_refl _)
        ·
          subst h_set
          subst h_text
          have hsz0 : (strOf []).size = 0 := strOf_size []
          subst h_lo
          go_enter Tryd.func46, Tryd.ntmps46
          go_wp2
          go_ret
          refine ⟨ret_bool ?_, ?_⟩
          · first | rfl | (simp [fitsB, plainB, *]; done) | (simp [fitsB, plainB, *]; first | omega | (rw [Bool.eq_iff_iff]; first | (simp; done) | (simp; omega)))
          · repeat (first | exact Below.refl _ _ | refine Below.alloc ?_ (by simp) _ | refine Below.setCell ?_ (by simp) _ | exact Nat.le_refl _)
      ·
        subst h_set
        subst h_text
        have hsz0 : (strOf []).size = 0 := strOf_size []
        go_enter Tryd.func46, Tryd.ntmps46
        go_wp2
        go_ret
        refine ⟨ret_bool ?_, ?_⟩
        · first | rfl | (simp [fitsB, plainB, *]; done) | (simp [fitsB, plainB, *]; first | omega | (rw [Bool.eq_iff_iff]; first | (simp; done) | (simp; omega)))
        · repeat (first | exact Below.refl _ _ | refine Below.alloc ?_ (by simp) _ | refine Below.setCell ?_ (by simp) _ | exact Nat.le_refl _)
    ·
      subst h_set
      have hemp2 : (strOf text).toList.isEmpty = false := by rw [strOf_empty]; cases text with | nil => exact absurd rfl h_text | cons b l => rfl
      have hlen1 : 1 ≤ text.length := by cases text with | nil => exact absurd rfl h_text | cons b l => simp
      go_enter Tryd.func46, Tryd.ntmps46
      go_wp2
      go_ret
      refine ⟨ret_bool ?_, ?_⟩
      · first | rfl | (simp [fitsB, plainB, *]; done) | (simp [fitsB, plainB, *]; first | omega | (rw [Bool.eq_iff_iff]; first | (simp; done) | (simp; omega)))
      · repeat (first | exact Below.refl _ _ | refine Below.alloc ?_ (by simp) _ | refine Below.setCell ?_ (by simp) _ | exact Nat.le_refl _)
  ·
    have e_set := set_ne hset h_set
    go_enter Tryd.func46, Tryd.ntmps46
    go_wp2
    go_ret
    refine ⟨ret_bool ?_, ?_⟩
    · first | rfl | (simp [fitsB, plainB, *]; done) | (simp [fitsB, plainB, *]; first | omega | (rw [Bool.eq_iff_iff]; first | (simp; done) | (simp; omega)))
    · repeat (first | exact Below.refl _ _ | refine Below.alloc ?_ (by simp) _ | refine Below.setCell ?_ (by simp) _ | exact Nat.le_refl _)
set_option maxHeartbeats 8000000 in
theorem rfits_5 (h : Hd) (hk : h.kind = 5) (hset : h.set < 2 ^ 256) (q : Option Addr) (m cap n : Nat) (w : World) :
    Calls Tryd.prog 46 #[ndV h q m cap, .int .i64 (n : Int)] w fun e w' => e = .returned (.bool (fitsB h n)) ∧ Below w.heap.size w w' := by
  obtain ⟨kind, set, text, lo, hi⟩ := h
  simp only at hk hset
  subst hk
  have hemp : (strOf []).toList.isEmpty = true := strOf_empty []
  have hsz := strOf_size text
  have e0 := w64_zero 0; have e1 := w64_zero 1; have e2 := w64_zero 2; have e3 := w64_zero 3
  by_cases h_set : set = 0
  ·
    by_cases h_text : text = []
    ·
      by_cases h_lo : lo = 0
      ·
        by_cases h_hi : hi = 0
        ·
          by_cases h_n2 : 2 ≤ n
          ·
            subst h_set
            subst h_text
            have hsz0 : (strOf []).size = 0 := strOf_size []
            subst h_lo
            subst h_hi
            have e_n2 : (2 : Int) ≤ n := by omega
            go_enter Tryd.func46, Tryd.ntmps46
            go_wp2
            go_ret
            refine ⟨ret_bool ?_, ?_⟩
            · first | rfl | (simp [fitsB, plainB, *]; done) | (simp [fitsB, plainB, *]; first | omega | (rw [Bool.eq_iff_iff]; first | (simp; done) | (simp; omega)))
            · repeat (first | exact Below.refl _ _ | refine Below.alloc ?_ (by simp) _ | refine Below.setCell ?_ (by simp) _ | exact Nat.le_refl _)
          ·
            subst h_set
            subst h_text
            have hsz0 : (strOf []).size = 0 := strOf_size []
            subst h_lo
            subst h_hi
            have e_n2 : (n : Int) < 2 := by omega
            go_enter Tryd.func46, Tryd.ntmps46
            go_wp2
            go_ret
            refine ⟨ret_bool ?_, ?_⟩
            · first | rfl | (simp [fitsB, plainB, *]; done) | (simp [fitsB, plainB, *]; first | omega | (rw [Bool.eq_iff_iff]; first | (simp; done) | (simp; omega)))
            · repeat (first | exact Below.refl _ _ | refine Below.alloc ?_ (by simp) _ | refine Below.setCell ?_ (by simp) _ | exact Nat.le_refl _)
        ·
          subst h_set
          subst h_text
          have hsz0 : (strOf []).size = 0 := strOf_size []
          subst h_lo
          go_enter Tryd.func46, Tryd.ntmps46
          go_wp2
          go_ret
          refine ⟨ret_bool ?_, ?_⟩
          · first | rfl | (simp [fitsB, plainB, *]; done) | (simp [fitsB, plainB, *]; first | omega | (rw [Bool.eq_iff_iff]; first | (simp; done) | (simp; omega)))
          · repeat (first | exact Below.refl _ _ | refine Below.alloc ?_ (by simp) _ | refine Below.setCell ?_ (by simp) _ | exact Nat.le_refl _)
      ·
        subst h_set
        subst h_text
        have hsz0 : (strOf []).size = 0 := strOf_size []
        go_enter Tryd.func46, Tryd.ntmps46
        go_wp2
        go_ret
        refine ⟨ret_bool ?_, ?_⟩
        · first | rfl | (simp [fitsB, plainB, *]; done) | (simp [fitsB, plainB, *]; first | omega | (rw [Bool.eq_iff_iff]; first | (simp; done) | (simp; omega)))
        · repeat (first | exact Below.refl _ _ | refine Below.alloc ?_ (by simp) _ | refine Below.setCell ?_ (by simp) _ | exact Nat.le_refl _)
    ·
      subst h_set
      have hemp2 : (strOf text).toList.isEmpty = false := by rw [strOf_empty]; cases text with | nil => exact absurd rfl h_text | cons b l => rfl
      have hlen1 : 1 ≤ text.length := by cases text with | nil => exact absurd rfl h_text | cons b l => simp
      go_enter Tryd.func46, Tryd.ntmps46
      go_wp2
      go_ret
      refine ⟨ret_bool ?_, ?_⟩
      · first | rfl | (simp [fitsB, plainB, *]; done) | (simp [fitsB, plainB, *]; first | omega | (rw [Bool.eq_iff_iff]; first | (simp; done) | (simp; omega)))
      · repeat (first | exact Below.refl _ _ | refine Below.alloc ?_ (by simp) _ | refine Below.setCell ?_ (by simp) _ | exact Nat.le_refl _)
  ·
    have e_set := set_ne hset h_set
    go_enter Tryd.func46, Tryd.ntmps46
    go_wp2
    go_ret
    refine ⟨ret_bool ?_, ?_⟩
    · first | rfl | (simp [fitsB, plainB, *]; done) | (simp [fitsB, plainB, *]; first | omega | (rw [Bool.eq_iff_iff]; first | (simp; done) | (simp; omega)))
    · repeat (first | exact Below.refl _ _ | refine Below.alloc ?_ (by simp) _ | refine Below.setCell ?_ (by simp) _ | exact Nat.le_refl _)
set_option maxHeartbeats 8000000 in
theorem rfits_6 (h : Hd) (hk : h.kind = 6) (hset : h.set < 2 ^ 256) (q : Option Addr) (m cap n : Nat) (w : World) :
    Calls Tryd.prog 46 #[ndV h q m cap, .int .i64 (n : Int)] w fun e w' => e = .returned (.bool (fitsB h n)) ∧ Below w.heap.size w w' := by
  obtain ⟨kind, set, text, lo, hi⟩ := h
  simp only at hk hset
  subst hk
  have hemp : (strOf []).toList.isEmpty = true := strOf_empty []
  have hsz := strOf_size text
  have e0 := w64_zero 0; have e1 := w64_zero 1; have e2 := w64_zero 2; have e3 := w64_zero 3
  by_cases h_set : set = 0
  ·
    by_cases h_text : text = []
    ·
      by_cases h_lo : lo = 0
      ·
        by_cases h_hi : hi = 0
        ·
          by_cases h_n1 : n = 1
          ·
            subst h_set
            subst h_text
            have hsz0 : (strOf []).size = 0 := strOf_size []
            subst h_lo
            subst h_hi
            subst h_n1
            go_enter Tryd.func46, Tryd.ntmps46
            go_wp2
            go_ret
            refine ⟨ret_bool ?_, ?_⟩
            · first | rfl | (simp [fitsB, plainB, *]; done) | (simp [fitsB, plainB, *]; first | omega | (rw [Bool.eq_iff_iff]; first | (simp; done) | (simp; omega)))
            · repeat (first | exact Below.refl _ _ | refine Below.alloc ?_ (by simp) _ | refine Below.setCell ?_ (by simp) _ | exact Nat.le_refl _)
          ·
            subst h_set
            subst h_text
            have hsz0 : (strOf []).size = 0 := strOf_size []
            subst h_lo
            subst h_hi
            have e_n1 : ¬ (n : Int) = 1 := by omega
            go_enter Tryd.func46, Tryd.ntmps46
            go_wp2
            go_ret
            refine ⟨ret_bool ?_, ?_⟩
            · first | rfl | (simp [fitsB, plainB, *]; done) | (simp [fitsB, plainB, *]; first | omega | (rw [Bool.eq_iff_iff]; first | (simp; done) | (simp; omega)))
            · repeat (first | exact Below.refl _ _ | refine Below.alloc ?_ (by simp) _ | refine Below.setCell ?_ (by simp) _ | exact Nat.le_refl _)
        ·
          by_cases h_n1 : n = 1
          ·
            by_cases h_him : hi = -1
            ·
              subst h_set
              subst h_text
              have hsz0 : (strOf []).size = 0 := strOf_size []
              subst h_lo
              subst h_n1
              go_enter Tryd.func46, Tryd.ntmps46
              go_wp2
              go_ret
              refine ⟨ret_bool ?_, ?_⟩
              · first | rfl | (simp [fitsB, plainB, *]; done) | (simp [fitsB, plainB, *]; first | omega | (rw [Bool.eq_iff_iff]; first | (simp; done) | (simp; omega)))
              · repeat (first | exact Below.refl _ _ | refine Below.alloc ?_ (by simp) _ | refine Below.setCell ?_ (by simp) _ | exact Nat.le_refl _)
            ·
              by_cases h_hilo : lo ≤ hi
              ·
                by_cases h_hi99 : hi ≤ 99
                ·
                  subst h_set
                  subst h_text
                  have hsz0 : (strOf []).size = 0 := strOf_size []
                  subst h_lo
                  subst h_n1
                  go_enter Tryd.func46, Tryd.ntmps46
                  go_wp2
                  go_ret
                  refine ⟨ret_bool ?_, ?_⟩
                  · first | rfl | (simp [fitsB, plainB, *]; done) | (simp [fitsB, plainB, *]; first | omega | (rw [Bool.eq_iff_iff]; first | (simp; done) | (simp; omega)))
                  · repeat (first | exact Below.refl _ _ | refine Below.alloc ?_ (by simp) _ | refine Below.setCell ?_ (by simp) _ | exact Nat.le_refl _)
                ·
                  subst h_set
                  subst h_text
                  have hsz0 : (strOf []).size = 0 := strOf_size []
                  subst h_lo
                  subst h_n1
                  go_enter Tryd.func46, Tryd.ntmps46
                  go_wp2
                  go_ret
                  refine ⟨ret_bool ?_, ?_⟩
                  · first | rfl | (simp [fitsB, plainB, *]; done) | (simp [fitsB, plainB, *]; first | omega | (rw [Bool.eq_iff_iff]; first | (simp; done) | (simp; omega)))
                  · repeat (first | exact Below.refl _ _ | refine Below.alloc ?_ (by simp) _ | refine Below.setCell ?_ (by simp) _ | exact Nat.le_refl _)
              ·
                subst h_set
                subst h_text
                have hsz0 : (strOf []).size = 0 := strOf_size []
                subst h_lo
                subst h_n1
                go_enter Tryd.func46, Tryd.ntmps46
                go_wp2
                go_ret
                refine ⟨ret_bool ?_, ?_⟩
                · first | rfl | (simp [fitsB, plainB, *]; done) | (simp [fitsB, plainB, *]; first | omega | (rw [Bool.eq_iff_iff]; first | (simp; done) | (simp; omega)))
                · repeat (first | exact Below.refl _ _ | refine Below.alloc ?_ (by simp) _ | refine Below.setCell ?_ (by simp) _ | exact Nat.le_refl _)
          ·
            subst h_set
            subst h_text
            have hsz0 : (strOf []).size = 0 := strOf_size []
            subst h_lo
            have e_n1 : ¬ (n : Int) = 1 := by omega
            go_enter Tryd.func46, Tryd.ntmps46
            go_wp2
            go_ret
            refine ⟨ret_bool ?_, ?_⟩
            · first | rfl | (simp [fitsB, plainB, *]; done) | (simp [fitsB, plainB, *]; first | omega | (rw [Bool.eq_iff_iff]; first | (simp; done) | (simp; omega)))
            · repeat (first | exact Below.refl _ _ | refine Below.alloc ?_ (by simp) _ | refine Below.setCell ?_ (by simp) _ | exact Nat.le_refl _)
      ·
        by_cases h_n1 : n = 1
        ·
          by_cases h_lo0 : 0 ≤ lo
          ·
            by_cases h_lo99 : lo ≤ 99
            ·
              by_cases h_him : hi = -1
              ·
                subst h_set
                subst h_text
                have hsz0 : (strOf []).size = 0 := strOf_size []
                subst h_n1
                go_enter Tryd.func46, Tryd.ntmps46
                go_wp2
                go_ret
                refine ⟨ret_bool ?_, ?_⟩
                · first | rfl | (simp [fitsB, plainB, *]; done) | (simp [fitsB, plainB, *]; first | omega | (rw [Bool.eq_iff_iff]; first | (simp; done) | (simp; omega)))
                · repeat (first | exact Below.refl _ _ | refine Below.alloc ?_ (by simp) _ | refine Below.setCell ?_ (by simp) _ | exact Nat.le_refl _)
              ·
                by_cases h_hilo : lo ≤ hi
                ·
                  by_cases h_hi99 : hi ≤ 99
                  ·
                    subst h_set
                    subst h_text
                    have hsz0 : (strOf []).size = 0 := strOf_size []
                    subst h_n1
                    go_enter Tryd.func46, Tryd.ntmps46
                    go_wp2
                    go_ret
                    refine ⟨ret_bool ?_, ?_⟩
                    · first | rfl | (simp [fitsB, plainB, *]; done) | (simp [fitsB, plainB, *]; first | omega | (rw [Bool.eq_iff_iff]; first | (simp; done) | (simp; omega)))
                    · repeat (first | exact Below.refl _ _ | refine Below.alloc ?_ (by simp) _ | refine Below.setCell ?_ (by simp) _ | exact Nat.le_refl _)
                  ·
                    subst h_set
                    subst h_text
                    have hsz0 : (strOf []).size = 0 := strOf_size []
                    subst h_n1
                    go_enter Tryd.func46, Tryd.ntmps46
                    go_wp2
                    go_ret
                    refine ⟨ret_bool ?_, ?_⟩
                    · first | rfl | (simp [fitsB, plainB, *]; done) | (simp [fitsB, plainB, *]; first | omega | (rw [Bool.eq_iff_iff]; first | (simp; done) | (simp; omega)))
                    · repeat (first | exact Below.refl _ _ | refine Below.alloc ?_ (by simp) _ | refine Below.setCell ?_ (by simp) _ | exact Nat.le_refl _)
                ·
                  subst h_set
                  subst h_text
                  have hsz0 : (strOf []).size = 0 := strOf_size []
                  subst h_n1
                  go_enter Tryd.func46, Tryd.ntmps46
                  go_wp2
                  go_ret
                  refine ⟨ret_bool ?_, ?_⟩
                  · first | rfl | (simp [fitsB, plainB, *]; done) | (simp [fitsB, plainB, *]; first | omega | (rw [Bool.eq_iff_iff]; first | (simp; done) | (simp; omega)))
                  · repeat (first | exact Below.refl _ _ | refine Below.alloc ?_ (by simp) _ | refine Below.setCell ?_ (by simp) _ | exact Nat.le_refl _)
            ·
              subst h_set
              subst h_text
              have hsz0 : (strOf []).size = 0 := strOf_size []
              subst h_n1
              go_enter Tryd.func46, Tryd.ntmps46
              go_wp2
              go_ret
              refine ⟨ret_bool ?_, ?_⟩
              · first | rfl | (simp [fitsB, plainB, *]; done) | (simp [fitsB, plainB, *]; first | omega | (rw [Bool.eq_iff_iff]; first | (simp; done) | (simp; omega)))
              · repeat (first | exact Below.refl _ _ | refine Below.alloc ?_ (by simp) _ | refine Below.setCell ?_ (by simp) _ | exact Nat.le_refl _)
          ·
            subst h_set
            subst h_text
            have hsz0 : (strOf []).size = 0 := strOf_size []
            subst h_n1
            go_enter Tryd.func46, Tryd.ntmps46
            go_wp2
            go_ret
            refine ⟨ret_bool ?_, ?_⟩
            · first | rfl | (simp [fitsB, plainB, *]; done) | (simp [fitsB, plainB, *]; first | omega | (rw [Bool.eq_iff_iff]; first | (simp; done) | (simp; omega)))
            · repeat (first | exact Below.refl _ _ | refine Below.alloc ?_ (by simp) _ | refine Below.setCell ?_ (by simp) _ | exact Nat.le_refl _)
        ·
          subst h_set
          subst h_text
          have hsz0 : (strOf []).size = 0 := strOf_size []
          have e_n1 : ¬ (n : Int) = 1 := by omega
          go_enter Tryd.func46, Tryd.ntmps46
          go_wp2
          go_ret
          refine ⟨ret_bool ?_, ?_⟩
          · first | rfl | (simp [fitsB, plainB, *]; done) | (simp [fitsB, plainB, *]; first | omega | (rw [Bool.eq_iff_iff]; first | (simp; done) | (simp; omega)))
          · repeat (first | exact Below.refl _ _ | refine Below.alloc ?_ (by simp) _ | refine Below.setCell ?_ (by simp) _ | exact Nat.le_refl _)
    ·
      subst h_set
      have hemp2 : (strOf text).toList.isEmpty = false := by rw [strOf_empty]; cases text with | nil => exact absurd rfl h_text | cons b l => rfl
      have hlen1 : 1 ≤ text.length := by cases text with | nil => exact absurd rfl h_text | cons b l => simp
      go_enter Tryd.func46, Tryd.ntmps46
      go_wp2
      go_ret
      refine ⟨ret_bool ?_, ?_⟩
      · first | rfl | (simp [fitsB, plainB, *]; done) | (simp [fitsB, plainB, *]; first | omega | (rw [Bool.eq_iff_iff]; first | (simp; done) | (simp; omega)))
      · repeat (first | exact Below.refl _ _ | refine Below.alloc ?_ (by simp) _ | refine Below.setCell ?_ (by simp) _ | exact Nat.le_refl _)
  ·
    have e_set := set_ne hset h_set
    go_enter Tryd.func46, Tryd.ntmps46
    go_wp2
    go_ret
    refine ⟨ret_bool ?_, ?_⟩
    · first | rfl | (simp [fitsB, plainB, *]; done) | (simp [fitsB, plainB, *]; first | omega | (rw [Bool.eq_iff_iff]; first | (simp; done) | (simp; omega)))
    · repeat (first | exact Below.refl _ _ | refine Below.alloc ?_ (by simp) _ | refine Below.setCell ?_ (by simp) _ | exact Nat.le_refl _)
set_option maxHeartbeats 8000000 in
theorem rfits_7 (h : Hd) (hk : h.kind = 7) (hset : h.set < 2 ^ 256) (q : Option Addr) (m cap n : Nat) (w : World) :
    Calls Tryd.prog 46 #[ndV h q m cap, .int .i64 (n : Int)] w fun e w' => e = .returned (.bool (fitsB h n)) ∧ Below w.heap.size w w' := by
  obtain ⟨kind, set, text, lo, hi⟩ := h
  simp only at hk hset
  subst hk
  have hemp : (strOf []).toList.isEmpty = true := strOf_empty []
  have hsz := strOf_size text
  have e0 := w64_zero 0; have e1 := w64_zero 1; have e2 := w64_zero 2; have e3 := w64_zero 3
  by_cases h_set : set = 0
  ·
    by_cases h_text : text = []
    ·
      by_cases h_lo : lo = 0
      ·
        by_cases h_hi : hi = 0
        ·
          by_cases h_n1 : n = 1
          ·
            subst h_set
            subst h_text
            have hsz0 : (strOf []).size = 0 := strOf_size []
            subst h_lo
            subst h_hi
            subst h_n1
            go_enter Tryd.func46, Tryd.ntmps46
            go_wp2
            go_ret
            refine ⟨ret_bool ?_, ?_⟩
            · first | rfl | (simp [fitsB, plainB, *]; done) | (simp [fitsB, plainB, *]; first | omega | (rw [Bool.eq_iff_iff]; first | (simp; done) | (simp; omega)))
            · repeat (first | exact Below.refl _ _ | refine Below.alloc ?_ (by simp) _ | refine Below.setCell ?_ (by simp) _ | exact Nat.le_refl _)
          ·
            subst h_set
            subst h_text
            have hsz0 : (strOf []).size = 0 := strOf_size []
            subst h_lo
            subst h_hi
            have e_n1 : ¬ (n : Int) = 1 := by omega
            go_enter Tryd.func46, Tryd.ntmps46
            go_wp2
            go_ret
            refine ⟨ret_bool ?_, ?_⟩
            · first | rfl | (simp [fitsB, plainB, *]; done) | (simp [fitsB, plainB, *]; first | omega | (rw [Bool.eq_iff_iff]; first | (simp; done) | (simp; omega)))
            · repeat (first | exact Below.refl _ _ | refine Below.alloc ?_ (by simp) _ | refine Below.setCell ?_ (by simp) _ | exact Nat.le_refl _)
        ·
          subst h_set
          subst h_text
          have hsz0 : (strOf []).size = 0 := strOf_size []
          subst h_lo
          go_enter Tryd.func46, Tryd.ntmps46
          go_wp2
          go_ret
          refine ⟨ret_bool ?_, ?_⟩
          · first | rfl | (simp [fitsB, plainB, *]; done) | (simp [fitsB, plainB, *]; first | omega | (rw [Bool.eq_iff_iff]; first | (simp; done) | (simp; omega)))
          · repeat (first | exact Below.refl _ _ | refine Below.alloc ?_ (by simp) _ | refine Below.setCell ?_ (by simp) _ | exact Nat.le_refl _)
      ·
        subst h_set
        subst h_text
        have hsz0 : (strOf []).size = 0 := strOf_size []
        go_enter Tryd.func46, Tryd.ntmps46
        go_wp2
        go_ret
        refine ⟨ret_bool ?_, ?_⟩
        · first | rfl | (simp [fitsB, plainB, *]; done) | (simp [fitsB, plainB, *]; first | omega | (rw [Bool.eq_iff_iff]; first | (simp; done) | (simp; omega)))
        · repeat (first | exact Below.refl _ _ | refine Below.alloc ?_ (by simp) _ | refine Below.setCell ?_ (by simp) _ | exact Nat.le_refl _)
    ·
      subst h_set
      have hemp2 : (strOf text).toList.isEmpty = false := by rw [strOf_empty]; cases text with | nil => exact absurd rfl h_text | cons b l => rfl
      have hlen1 : 1 ≤ text.length := by cases text with | nil => exact absurd rfl h_text | cons b l => simp
      go_enter Tryd.func46, Tryd.ntmps46
      go_wp2
      go_ret
      refine ⟨ret_bool ?_, ?_⟩
      · first | rfl | (simp [fitsB, plainB, *]; done) | (simp [fitsB, plainB, *]; first | omega | (rw [Bool.eq_iff_iff]; first | (simp; done) | (simp; omega)))
      · repeat (first | exact Below.refl _ _ | refine Below.alloc ?_ (by simp) _ | refine Below.setCell ?_ (by simp) _ | exact Nat.le_refl _)
  ·
    have e_set := set_ne hset h_set
    go_enter Tryd.func46, Tryd.ntmps46
    go_wp2
    go_ret
    refine ⟨ret_bool ?_, ?_⟩
    · first | rfl | (simp [fitsB, plainB, *]; done) | (simp [fitsB, plainB, *]; first | omega | (rw [Bool.eq_iff_iff]; first | (simp; done) | (simp; omega)))
    · repeat (first | exact Below.refl _ _ | refine Below.alloc ?_ (by simp) _ | refine Below.setCell ?_ (by simp) _ | exact Nat.le_refl _)
set_option maxHeartbeats 8000000 in
theorem rfits_8 (h : Hd) (hk : h.kind = 8) (hset : h.set < 2 ^ 256) (q : Option Addr) (m cap n : Nat) (w : World) :
    Calls Tryd.prog 46 #[ndV h q m cap, .int .i64 (n : Int)] w fun e w' => e = .returned (.bool (fitsB h n)) ∧ Below w.heap.size w w' := by
  obtain ⟨kind, set, text, lo, hi⟩ := h
  simp only at hk hset
  subst hk
  have hemp : (strOf []).toList.isEmpty = true := strOf_empty []
  have hsz := strOf_size text
  have e0 := w64_zero 0; have e1 := w64_zero 1; have e2 := w64_zero 2; have e3 := w64_zero 3
  by_cases h_set : set = 0
  ·
    by_cases h_text : text = []
    ·
      by_cases h_lo : lo = 0
      ·
        by_cases h_hi : hi = 0
        ·
          by_cases h_n1 : n = 1
          ·
            subst h_set
            subst h_text
            have hsz0 : (strOf []).size = 0 := strOf_size []
            subst h_lo
            subst h_hi
            subst h_n1
            go_enter Tryd.func46, Tryd.ntmps46
            go_wp2
            go_ret
            refine ⟨ret_bool ?_, ?_⟩
            · first | rfl | (simp [fitsB, plainB, *]; done) | (simp [fitsB, plainB, *]; first | omega | (rw [Bool.eq_iff_iff]; first | (simp; done) | (simp; omega)))
            · repeat (first | exact Below.refl _ _ | refine Below.alloc ?_ (by simp) _ | refine Below.setCell ?_ (by simp) _ | exact Nat.le_refl _)
          ·
            subst h_set
            subst h_text
            have hsz0 : (strOf []).size = 0 := strOf_size []
            subst h_lo
            subst h_hi
            have e_n1 : ¬ (n : Int) = 1 := by omega
            go_enter Tryd.func46, Tryd.ntmps46
            go_wp2
            go_ret
            refine ⟨ret_bool ?_, ?_⟩
            · first | rfl | (simp [fitsB, plainB, *]; done) | (simp [fitsB, plainB, *]; first | omega | (rw [Bool.eq_iff_iff]; first | (simp; done) | (simp; omega)))
            · repeat (first | exact Below.refl _ _ | refine Below.alloc ?_ (by simp) _ | refine Below.setCell ?_ (by simp) _ | exact Nat.le_refl _)
        ·
          subst h_set
          subst h_text
          have hsz0 : (strOf []).size = 0 := strOf_size []
          subst h_lo
          go_enter Tryd.func46, Tryd.ntmps46
          go_wp2
          go_ret
          refine ⟨ret_bool ?_, ?_⟩
          · first | rfl | (simp [fitsB, plainB, *]; done) | (simp [fitsB, plainB, *]; first | omega | (rw [Bool.eq_iff_iff]; first | (simp; done) | (simp; omega)))
          · repeat (first | exact Below.refl _ _ | refine Below.alloc ?_ (by simp) _ | refine Below.setCell ?_ (by simp) _ | exact Nat.le_refl _)
      ·
        subst h_set
        subst h_text
        have hsz0 : (strOf []).size = 0 := strOf_size []
        go_enter Tryd.func46, Tryd.ntmps46
        go_wp2
        go_ret
        refine ⟨ret_bool ?_, ?_⟩
        · first | rfl | (simp [fitsB, plainB, *]; done) | (simp [fitsB, plainB, *]; first | omega | (rw [Bool.eq_iff_iff]; first | (simp; done) | (simp; omega)))
        · repeat (first | exact Below.refl _ _ | refine Below.alloc ?_ (by simp) _ | refine Below.setCell ?_ (by simp) _ | exact Nat.le_refl _)
    ·
      subst h_set
      have hemp2 : (strOf text).toList.isEmpty = false := by rw [strOf_empty]; cases text with | nil => exact absurd rfl h_text | cons b l => rfl
      have hlen1 : 1 ≤ text.length := by cases text with | nil => exact absurd rfl h_text | cons b l => simp
      go_enter Tryd.func46, Tryd.ntmps46
      go_wp2
      go_ret
      refine ⟨ret_bool ?_, ?_⟩
      · first | rfl | (simp [fitsB, plainB, *]; done) | (simp [fitsB, plainB, *]; first | omega | (rw [Bool.eq_iff_iff]; first | (simp; done) | (simp; omega)))
      · repeat (first | exact Below.refl _ _ | refine Below.alloc ?_ (by simp) _ | refine Below.setCell ?_ (by simp) _ | exact Nat.le_refl _)
  ·
    have e_set := set_ne hset h_set
    go_enter Tryd.func46, Tryd.ntmps46
    go_wp2
    go_ret
    refine ⟨ret_bool ?_, ?_⟩
    · first | rfl | (simp [fitsB, plainB, *]; done) | (simp [fitsB, plainB, *]; first | omega | (rw [Bool.eq_iff_iff]; first | (simp; done) | (simp; omega)))
    · repeat (first | exact Below.refl _ _ | refine Below.alloc ?_ (by simp) _ | refine Below.setCell ?_ (by simp) _ | exact Nat.le_refl _)
set_option maxHeartbeats 8000000 in
theorem rfits_9 (h : Hd) (hk : h.kind = 9) (hset : h.set < 2 ^ 256) (q : Option Addr) (m cap n : Nat) (w : World) :
    Calls Tryd.prog 46 #[ndV h q m cap, .int .i64 (n : Int)] w fun e w' => e = .returned (.bool (fitsB h n)) ∧ Below w.heap.size w w' := by
  obtain ⟨kind, set, text, lo, hi⟩ := h
  simp only at hk hset
  subst hk
  have hemp : (strOf []).toList.isEmpty = true := strOf_empty []
  have hsz := strOf_size text
  have e0 := w64_zero 0; have e1 := w64_zero 1; have e2 := w64_zero 2; have e3 := w64_zero 3
  by_cases h_set : set = 0
  ·
    by_cases h_text : text = []
    ·
      by_cases h_lo : lo = 0
      ·
        by_cases h_hi : hi = 0
        ·
          by_cases h_n1 : n = 1
          ·
            cases h_may : mayL text
            ·
              subst h_set
              subst h_text
              have hsz0 : (strOf []).size = 0 := strOf_size []
              subst h_lo
              subst h_hi
              subst h_n1
              have H_may := Lib.hid h_may; clear h_may
              go_enter Tryd.func46, Tryd.ntmps46
              go_wp2_with (first | (go_at_call 63; with_reducible refine (rmay_any _ _).mono ?_; rw [H_may.out]; rintro e w1 ⟨rfl, rfl⟩))
              go_ret
              refine ⟨ret_bool ?_, ?_⟩
              · have h_may := H_may.out; first | rfl | (simp [fitsB, plainB, *]; done) | (simp [fitsB, plainB, *]; first | omega | (rw [Bool.eq_iff_iff]; first | (simp; done) | (simp; omega)))
              · repeat (first | exact Below.refl _ _ | refine Below.alloc ?_ (by simp) _ | refine Below.setCell ?_ (by simp) _ | exact Nat.le_refl _)
            ·
              subst h_set
              subst h_text
              have hsz0 : (strOf []).size = 0 := strOf_size []
              subst h_lo
              subst h_hi
              subst h_n1
              have H_may := Lib.hid h_may; clear h_may
              go_enter Tryd.func46, Tryd.ntmps46
              go_wp2_with (first | (go_at_call 63; with_reducible refine (rmay_any _ _).mono ?_; rw [H_may.out]; rintro e w1 ⟨rfl, rfl⟩))
              go_ret
              refine ⟨ret_bool ?_, ?_⟩
              · have h_may := H_may.out; first | rfl | (simp [fitsB, plainB, *]; done) | (simp [fitsB, plainB, *]; first | omega | (rw [Bool.eq_iff_iff]; first | (simp; done) | (simp; omega)))
              · repeat (first | exact Below.refl _ _ | refine Below.alloc ?_ (by simp) _ | refine Below.setCell ?_ (by simp) _ | exact Nat.le_refl _)
          ·
            subst h_set
            subst h_text
            have hsz0 : (strOf []).size = 0 := strOf_size []
            subst h_lo
            subst h_hi
            have e_n1 : ¬ (n : Int) = 1 := by omega
            go_enter Tryd.func46, Tryd.ntmps46
            go_wp2
            go_ret
            refine ⟨ret_bool ?_, ?_⟩
            · first | rfl | (simp [fitsB, plainB, *]; done) | (simp [fitsB, plainB, *]; first | omega | (rw [Bool.eq_iff_iff]; first | (simp; done) | (simp; omega)))
            · repeat (first | exact Below.refl _ _ | refine Below.alloc ?_ (by simp) _ | refine Below.setCell ?_ (by simp) _ | exact Nat.le_refl _)
        ·
          subst h_set
          subst h_text
          have hsz0 : (strOf []).size = 0 := strOf_size []
          subst h_lo
          go_enter Tryd.func46, Tryd.ntmps46
          go_wp2
          go_ret
          refine ⟨ret_bool ?_, ?_⟩
          · first | rfl | (simp [fitsB, plainB, *]; done) | (simp [fitsB, plainB, *]; first | omega | (rw [Bool.eq_iff_iff]; first | (simp; done) | (simp; omega)))
          · repeat (first | exact Below.refl _ _ | refine Below.alloc ?_ (by simp) _ | refine Below.setCell ?_ (by simp) _ | exact Nat.le_refl _)
      ·
        subst h_set
        subst h_text
        have hsz0 : (strOf []).size = 0 := strOf_size []
        go_enter Tryd.func46, Tryd.ntmps46
        go_wp2
        go_ret
        refine ⟨ret_bool ?_, ?_⟩
        · first | rfl | (simp [fitsB, plainB, *]; done) | (simp [fitsB, plainB, *]; first | omega | (rw [Bool.eq_iff_iff]; first | (simp; done) | (simp; omega)))
        · repeat (first | exact Below.refl _ _ | refine Below.alloc ?_ (by simp) _ | refine Below.setCell ?_ (by simp) _ | exact Nat.le_refl _)
    ·
      by_cases h_lo : lo = 0
      ·
        by_cases h_hi : hi = 0
        ·
          by_cases h_n1 : n = 1
          ·
            cases h_may : mayL text
            ·
              subst h_set
              have hemp2 : (strOf text).toList.isEmpty = false := by rw [strOf_empty]; cases text with | nil => exact absurd rfl h_text | cons b l => rfl
              have hlen1 : 1 ≤ text.length := by cases text with | nil => exact absurd rfl h_text | cons b l => simp
              subst h_lo
              subst h_hi
              subst h_n1
              have H_may := Lib.hid h_may; clear h_may
              go_enter Tryd.func46, Tryd.ntmps46
              go_wp2_with (first | (go_at_call 63; with_reducible refine (rmay_any _ _).mono ?_; rw [H_may.out]; rintro e w1 ⟨rfl, rfl⟩))
              go_ret
              refine ⟨ret_bool ?_, ?_⟩
              · have h_may := H_may.out; first | rfl | (simp [fitsB, plainB, *]; done) | (simp [fitsB, plainB, *]; first | omega | (rw [Bool.eq_iff_iff]; first | (simp; done) | (simp; omega)))
              · repeat (first | exact Below.refl _ _ | refine Below.alloc ?_ (by simp) _ | refine Below.setCell ?_ (by simp) _ | exact Nat.le_refl _)
            ·
              subst h_set
              have hemp2 : (strOf text).toList.isEmpty = false := by rw [strOf_empty]; cases text with | nil => exact absurd rfl h_text | cons b l => rfl
              have hlen1 : 1 ≤ text.length := by cases text with | nil => exact absurd rfl h_text | cons b l => simp
              subst h_lo
              subst h_hi
              subst h_n1
              have H_may := Lib.hid h_may; clear h_may
              go_enter Tryd.func46, Tryd.ntmps46
              go_wp2_with (first | (go_at_call 63; with_reducible refine (rmay_any _ _).mono ?_; rw [H_may.out]; rintro e w1 ⟨rfl, rfl⟩))
              go_ret
              refine ⟨ret_bool ?_, ?_⟩
              · have h_may := H_may.out; first | rfl | (simp [fitsB, plainB, *]; done) | (simp [fitsB, plainB, *]; first | omega | (rw [Bool.eq_iff_iff]; first | (simp; done) | (simp; omega)))
              · repeat (first | exact Below.refl _ _ | refine Below.alloc ?_ (by simp) _ | refine Below.setCell ?_ (by simp) _ | exact Nat.le_refl _)
          ·
            subst h_set
            have hemp2 : (strOf text).toList.isEmpty = false := by rw [strOf_empty]; cases text with | nil => exact absurd rfl h_text | cons b l => rfl
            have hlen1 : 1 ≤ text.length := by cases text with | nil => exact absurd rfl h_text | cons b l => simp
            subst h_lo
            subst h_hi
            have e_n1 : ¬ (n : Int) = 1 := by omega
            go_enter Tryd.func46, Tryd.ntmps46
            go_wp2
            go_ret
            refine ⟨ret_bool ?_, ?_⟩
            · first | rfl | (simp [fitsB, plainB, *]; done) | (simp [fitsB, plainB, *]; first | omega | (rw [Bool.eq_iff_iff]; first | (simp; done) | (simp; omega)))
            · repeat (first | exact Below.refl _ _ | refine Below.alloc ?_ (by simp) _ | refine Below.setCell ?_ (by simp) _ | exact Nat.le_refl _)
        ·
          subst h_set
          have hemp2 : (strOf text).toList.isEmpty = false := by rw [strOf_empty]; cases text with | nil => exact absurd rfl h_text | cons b l => rfl
          have hlen1 : 1 ≤ text.length := by cases text with | nil => exact absurd rfl h_text | cons b l => simp
          subst h_lo
          go_enter Tryd.func46, Tryd.ntmps46
          go_wp2
          go_ret
          refine ⟨ret_bool ?_, ?_⟩
          · first | rfl | (simp [fitsB, plainB, *]; done) | (simp [fitsB, plainB, *]; first | omega | (rw [Bool.eq_iff_iff]; first | (simp; done) | (simp; omega)))
          · repeat (first | exact Below.refl _ _ | refine Below.alloc ?_ (by simp) _ | refine Below.setCell ?_ (by simp) _ | exact Nat.le_refl _)
      ·
        subst h_set
        have hemp2 : (strOf text).toList.isEmpty = false := by rw [strOf_empty]; cases text with | nil => exact absurd rfl h_text | cons b l => rfl
        have hlen1 : 1 ≤ text.length := by cases text with | nil => exact absurd rfl h_text | cons b l => simp
        go_enter Tryd.func46, Tryd.ntmps46
        go_wp2
        go_ret
        refine ⟨ret_bool ?_, ?_⟩
        · first | rfl | (simp [fitsB, plainB, *]; done) | (simp [fitsB, plainB, *]; first | omega | (rw [Bool.eq_iff_iff]; first | (simp; done) | (simp; omega)))
        · repeat (first | exact Below.refl _ _ | refine Below.alloc ?_ (by simp) _ | refine Below.setCell ?_ (by simp) _ | exact Nat.le_refl _)
  ·
    have e_set := set_ne hset h_set
    go_enter Tryd.func46, Tryd.ntmps46
    go_wp2
    go_ret
    refine ⟨ret_bool ?_, ?_⟩
    · first | rfl | (simp [fitsB, plainB, *]; done) | (simp [fitsB, plainB, *]; first | omega | (rw [Bool.eq_iff_iff]; first | (simp; done) | (simp; omega)))
    · repeat (first | exact Below.refl _ _ | refine Below.alloc ?_ (by simp) _ | refine Below.setCell ?_ (by simp) _ | exact Nat.le_refl _)
set_option maxHeartbeats 8000000 in
theorem rfits_10 (h : Hd) (hk : 10 ≤ h.kind) (hk2 : h.kind < 256) (hset : h.set < 2 ^ 256) (q : Option Addr) (m cap n : Nat) (w : World) :
    Calls Tryd.prog 46 #[ndV h q m cap, .int .i64 (n : Int)] w fun e w' => e = .returned (.bool (fitsB h n)) ∧ Below w.heap.size w w' := by
  obtain ⟨kind, set, text, lo, hi⟩ := h
  simp only at hk hk2 hset
  have hemp : (strOf []).toList.isEmpty = true := strOf_empty []
  have hsz := strOf_size text
  have e0 := w64_zero 0; have e1 := w64_zero 1; have e2 := w64_zero 2; have e3 := w64_zero 3
  have hkw : IntKind.i64.wrap kind = kind := IntWalk.i64_in _ (by omega)
  have hk_0 : ¬ kind = 0 := by omega
  have hk_1 : ¬ kind = 1 := by omega
  have hk_2 : ¬ kind = 2 := by omega
  have hk_3 : ¬ kind = 3 := by omega
  have hk_4 : ¬ kind = 4 := by omega
  have hk_5 : ¬ kind = 5 := by omega
  have hk_6 : ¬ kind = 6 := by omega
  have hk_7 : ¬ kind = 7 := by omega
  have hk_8 : ¬ kind = 8 := by omega
  have hk_9 : ¬ kind = 9 := by omega
  by_cases h_set : set = 0
  ·
    by_cases h_text : text = []
    ·
      by_cases h_lo : lo = 0
      ·
        by_cases h_hi : hi = 0
        ·
          subst h_set
          subst h_text
          have hsz0 : (strOf []).size = 0 := strOf_size []
          subst h_lo
          subst h_hi
          go_enter Tryd.func46, Tryd.ntmps46
          go_wp2
          go_ret
          refine ⟨ret_bool ?_, ?_⟩
          · first | rfl | (simp [fitsB, plainB, *]; done) | (simp [fitsB, plainB, *]; first | omega | (rw [Bool.eq_iff_iff]; first | (simp; done) | (simp; omega)))
          · repeat (first | exact Below.refl _ _ | refine Below.alloc ?_ (by simp) _ | refine Below.setCell ?_ (by simp) _ | exact Nat.le_refl _)
        ·
          subst h_set
          subst h_text
          have hsz0 : (strOf []).size = 0 := strOf_size []
          subst h_lo
          go_enter Tryd.func46, Tryd.ntmps46
          go_wp2
          go_ret
          refine ⟨ret_bool ?_, ?_⟩
          · first | rfl | (simp [fitsB, plainB, *]; done) | (simp [fitsB, plainB, *]; first | omega | (rw [Bool.eq_iff_iff]; first | (simp; done) | (simp; omega)))
          · repeat (first | exact Below.refl _ _ | refine Below.alloc ?_ (by simp) _ | refine Below.setCell ?_ (by simp) _ | exact Nat.le_refl _)
      ·
        subst h_set
        subst h_text
        have hsz0 : (strOf []).size = 0 := strOf_size []
        go_enter Tryd.func46, Tryd.ntmps46
        go_wp2
        go_ret
        refine ⟨ret_bool ?_, ?_⟩
        · first | rfl | (simp [fitsB, plainB, *]; done) | (simp [fitsB, plainB, *]; first | omega | (rw [Bool.eq_iff_iff]; first | (simp; done) | (simp; omega)))
        · repeat (first | exact Below.refl _ _ | refine Below.alloc ?_ (by simp) _ | refine Below.setCell ?_ (by simp) _ | exact Nat.le_refl _)
    ·
      subst h_set
      have hemp2 : (strOf text).toList.isEmpty = false := by rw [strOf_empty]; cases text with | nil => exact absurd rfl h_text | cons b l => rfl
      have hlen1 : 1 ≤ text.length := by cases text with | nil => exact absurd rfl h_text | cons b l => simp
      go_enter Tryd.func46, Tryd.ntmps46
      go_wp2
      go_ret
      refine ⟨ret_bool ?_, ?_⟩
      · first | rfl | (simp [fitsB, plainB, *]; done) | (simp [fitsB, plainB, *]; first | omega | (rw [Bool.eq_iff_iff]; first | (simp; done) | (simp; omega)))
      · repeat (first | exact Below.refl _ _ | refine Below.alloc ?_ (by simp) _ | refine Below.setCell ?_ (by simp) _ | exact Nat.le_refl _)
  ·
    have e_set := set_ne hset h_set
    go_enter Tryd.func46, Tryd.ntmps46
    go_wp2
    go_ret
    refine ⟨ret_bool ?_, ?_⟩
    · first | rfl | (simp [fitsB, plainB, *]; done) | (simp [fitsB, plainB, *]; first | omega | (rw [Bool.eq_iff_iff]; first | (simp; done) | (simp; omega)))
    · repeat (first | exact Below.refl _ _ | refine Below.alloc ?_ (by simp) _ | refine Below.setCell ?_ (by simp) _ | exact Nat.le_refl _)
/-- bonsai/bonsairef04.Fits. -/
theorem rfits_any (h : Hd) (hh : HdOk h) (q : Option Addr) (m cap n : Nat) (w : World) :
    Calls Tryd.prog 46 #[ndV h q m cap, .int .i64 (n : Int)] w fun e w' => e = .returned (.bool (fitsB h n)) ∧ Below w.heap.size w w' := by
  have hk := hh.kind
  have hq : h.kind = 0 ∨ h.kind = 1 ∨ h.kind = 2 ∨ h.kind = 3 ∨ h.kind = 4 ∨ h.kind = 5 ∨ h.kind = 6 ∨ h.kind = 7 ∨ h.kind = 8 ∨ h.kind = 9 ∨ 10 ≤ h.kind := by omega
  rcases hq with hq | hq | hq | hq | hq | hq | hq | hq | hq | hq | hq
  · exact rfits_0 h hq hh.set q m cap n w
  · exact rfits_1 h hq hh.set q m cap n w
  · exact rfits_2 h hq hh.set q m cap n w
  · exact rfits_3 h hq hh.set q m cap n w
  · exact rfits_4 h hq hh.set q m cap n w
  · exact rfits_5 h hq hh.set q m cap n w
  · exact rfits_6 h hq hh.set q m cap n w
  · exact rfits_7 h hq hh.set q m cap n w
  · exact rfits_8 h hq hh.set q m cap n w
  · exact rfits_9 h hq hh.set q m cap n w
  · exact rfits_10 h hq hk.2 hh.set q m cap n w
end Go.Proofs.YtcenjpaiehidjaaDoor
