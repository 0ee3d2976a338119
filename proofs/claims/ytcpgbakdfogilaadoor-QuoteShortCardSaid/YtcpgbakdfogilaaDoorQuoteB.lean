/- Contract of quote.sign. -/
import Derived.Test.YtcpgbakdfogilaaDoorQuoteA
import Derived.Maps.RangeRun
import Derived.Test.YtcpgbakdfogilaaDoorShelf
namespace Go.Proofs.YtcpgbakdfogilaaDoor
open Go.RowKit
open Go.ChangeMaps (setBlock)
set_option maxRecDepth 100000

def hexd (n : Nat) : UInt8 := if n < 10 then UInt8.ofNat (48 + n) else UInt8.ofNat (87 + n)
/-- A byte's own sign. -/
def signL (b : UInt8) (sp : List UInt8) : List UInt8 :=
  if b.toNat = 10 then [92, 110] else if b.toNat = 13 then [92, 114] else if b.toNat = 9 then [92, 116]
  else if b.toNat < 32 ∨ 126 < b.toNat then [92, 120, hexd (b.toNat / 16), hexd (b.toNat % 16)] else if sp.contains b then [92, b] else [b]

theorem Inv.iter {n g : Nat} {w W W1 : World} {L : List (Nat × Obj)} {o o' : Obj} (h : Inv n w ((g, o) :: L) W) (hg : n ≤ g) (hn : ∀ p ∈ L, p.1 ≠ g) (h1 : W1 = W ∨ W1 = W.drew) : Inv n w ((g, o') :: L) (setBlock W1 g o') := by
  have h2 : Inv n w ((g, o) :: L) W1 := by
    rcases h1 with rfl | rfl
    · exact h
    · exact h.drew
  have hlt : g < W1.heap.size := lt_of_heap (h2.blk _ (List.mem_cons_self ..))
  refine h2.turn hg hn ?_ (fun k hk => ?_) ?_ (fun hb => ?_)
  · simp [setBlock, hlt]
  · simp only [setBlock]; rw [Array.getElem?_setIfInBounds]; simp [Ne.symm hk]
  · simp [setBlock]
  · refine hb.trans ⟨rfl, rfl, rfl, by simp [setBlock], fun k hk => ?_⟩
    simp only [setBlock]; rw [Array.getElem?_setIfInBounds]; simp; omega

theorem iterSeen_of {W : World} {r s c : Nat} {m : Option Nat} {seen : Array Nat} (h : W.heap[r]? = some (.mapIter m s seen c)) : W.iterSeen r = seen := by unfold World.iterSeen; rw [h]
/-- A new row of bytes. -/
theorem own_new (W : World) (l : List UInt8) (h : l.length ≤ maxLen) : (W.alloc (.cells (l.map fun b => Value.int .u8 (b.toNat : Int)).toArray 5)).ownsRow 0 5 1 (.slice (some ⟨W.heap.size, 0, none⟩) l.length l.length) l.length (l.map fun b => .int .u8 (b.toNat : Int)) :=
  ⟨by simp, Or.inr ⟨W.heap.size, l.length, _, rfl, Nat.zero_le _, heap_alloc_new W _, Nat.le_refl _, h, by simp, by rw [Nat.mul_one]; exact List.take_of_length_le (by simp)⟩⟩
theorem conv_new (W : World) (l : List UInt8) (h : l.length ≤ maxLen) : (convert 41 9 (.slice (some ⟨W.heap.size, 0, none⟩) l.length l.length)).run Tryd.prog (W.alloc (.cells (l.map fun b => Value.int .u8 (b.toNat : Int)).toArray 5)).drew = .ok (.string ⟨l.toArray⟩) (W.alloc (.cells (l.map fun b => Value.int .u8 (b.toNat : Int)).toArray 5)).drew :=
  run_conv_str (base := 0) (k := l.length) tBytes.slice tyStr tyU8 l (own_new W.drew l h)
theorem shr4 (b : UInt8) : (b.toNat : Int) / 16 = ((b.toNat / 16 : Nat) : Int) := by omega
theorem and15 (b : UInt8) : bits .and .u8 (b.toNat : Int) 15 = ((b.toNat % 16 : Nat) : Int) := by
  have h : ∀ b : UInt8, bits .and .u8 (b.toNat : Int) 15 = ((b.toNat % 16 : Nat) : Int) := by
    have h2 : ∀ n : Fin 256, bits .and .u8 ((n.val : Nat) : Int) 15 = ((n.val % 16 : Nat) : Int) := by decide +kernel
    intro b
    exact h2 ⟨b.toNat, b.toNat_lt⟩
  exact h b
theorem hex_at : ∀ (i : Nat), i < 16 → ∀ w : World, (Instr.index 9 (.string ⟨#[48, 49, 50, 51, 52, 53, 54, 55, 56, 57, 97, 98, 99, 100, 101, 102]⟩) (.int .u8 (i : Int))).run Tryd.prog w = .ok (.int .u8 ((hexd i).toNat : Int)) w := by
  intro i hi w
  have : i = 0 ∨ i = 1 ∨ i = 2 ∨ i = 3 ∨ i = 4 ∨ i = 5 ∨ i = 6 ∨ i = 7 ∨ i = 8 ∨ i = 9 ∨ i = 10 ∨ i = 11 ∨ i = 12 ∨ i = 13 ∨ i = 14 ∨ i = 15 := by omega
  rcases this with rfl | rfl | rfl | rfl | rfl | rfl | rfl | rfl | rfl | rfl | rfl | rfl | rfl | rfl | rfl | rfl <;> (go_simp; try rfl)
theorem index_yes {l : List UInt8} {b : UInt8} (h : l.contains b = true) : 0 ≤ Lib.indexByte l b := by
  induction l with
  | nil => simp at h
  | cons c l ih =>
    rw [Lib.indexByte]
    by_cases hc : (c == b) = true
    · rw [if_pos hc]; omega
    · rw [if_neg hc]
      have h2 : l.contains b = true := by
        rw [List.contains_cons, Bool.or_eq_true] at h
        rcases h with h | h
        · exact absurd (by rw [beq_iff_eq] at h ⊢; exact h.symm) hc
        · exact h
      have := ih h2
      split
      · rename_i h3; rw [beq_iff_eq] at h3; omega
      · omega
theorem index_no {l : List UInt8} {b : UInt8} (h : l.contains b = false) : Lib.indexByte l b = -1 := by
  induction l with
  | nil => rfl
  | cons c l ih =>
    rw [List.contains_cons, Bool.or_eq_false_iff] at h
    rw [Lib.indexByte, ih h.2, if_neg (by have := h.1; intro hc; rw [beq_iff_eq] at hc; subst hc; simp at this)]
    rfl
set_option maxHeartbeats 8000000 in
theorem sign_any (b : UInt8) (sp : List UInt8) (hsp : sp.length ≤ 100) (w : World) (hT : Tb w) :
    Calls Tryd.prog 61 #[.int .u8 (b.toNat : Int), .string (strOf sp)] w fun e w' => e = .returned (.string (strOf (signL b sp))) ∧ Below w.heap.size w w' := by
  have hrg := run_range_map (P := Tryd.prog) (w.alloc (.map shortE 3)) 81 5 5 w.heap.size shortE 3 tyShort (heap_alloc_new w _)
  have hI := ((Inv.start w).alloc (.map shortE 3)).alloc (.mapIter (some w.heap.size) 3 #[] 3)
  rw [World.size_alloc] at hI hrg
  go_enter Tryd.func61, Tryd.ntmps61
  go_wp2_with (go_at_call 69; refine (short_any _).mono ?_; rintro e w1 ⟨rfl, rfl⟩)
  go_loopw [] (fun wr => ∃ seen : Array Nat, Inv w.heap.size w [(w.heap.size + 1, .mapIter (some w.heap.size) 3 seen 3), (w.heap.size, .map shortE 3)] wr ∧ Hid (∀ x ∈ shortE.toList, seen.contains x.born = true → ¬ valOf x.val = (b.toNat : Int))) (fun wr => (leftOf shortE (wr.iterSeen (w.heap.size + 1))).size)
  case atStart => exact ⟨#[], hI, fun x _ h => by simp at h⟩
  case round =>
    clear hI hrg
    obtain ⟨seen, hI, hno⟩ := hrel
    have hr := hI.at (g := w.heap.size + 1) (o := .mapIter (some w.heap.size) 3 seen 3) (List.mem_cons_self ..)
    have hm := hI.at (g := w.heap.size) (o := .map shortE 3) (List.mem_cons_of_mem _ (List.mem_cons_self ..))
    have hold : ∀ x ∈ shortE.toList, x.born < 3 := by decide
    have hseen : ∀ W : World, W.heap[w.heap.size + 1]? = some (.mapIter (some w.heap.size) 3 seen 3) → W.iterSeen (w.heap.size + 1) = seen := fun W h => by unfold World.iterSeen; rw [h]
    rcases run_next_at (P := Tryd.prog) _ 0 (w.heap.size + 1) w.heap.size 3 3 seen shortE 3 hr hm hold (Nat.le_refl _) with ⟨h0, hrun⟩ | ⟨e, he, w2, hw2, hrun⟩
    · have hall := all_seen shortE seen h0
      have n10 : ¬ b.toNat = 10 := by
        have := hno.out { key := .int .u8 110, val := .int .u8 10, born := 0 } (by simp) (hall _ (by simp))
        simp [valOf] at this; omega
      have n13 : ¬ b.toNat = 13 := by
        have := hno.out { key := .int .u8 114, val := .int .u8 13, born := 1 } (by simp) (hall _ (by simp))
        simp [valOf] at this; omega
      have n9 : ¬ b.toNat = 9 := by
        have := hno.out { key := .int .u8 116, val := .int .u8 9, born := 2 } (by simp) (hall _ (by simp))
        simp [valOf] at this; omega
      have Hn := Lib.hid (And.intro n10 (And.intro n13 n9))
      have hnx : ∀ ty, (Instr.next (.pointer (some ⟨w.heap.size + 1, 0, none⟩)) false ty).run Tryd.prog wr = .ok (.tuple #[.bool false]) wr := fun _ => hrun
      clear hrun hall n10 n13 n9 h0 hno hr hm hseen hold
      by_cases hlo : (b.toNat : Int) < 32
      · have e1 := shr4 b
        have e2 := and15 b
        obtain ⟨hi, hhi⟩ : ∃ n : Nat, b.toNat / 16 = n := ⟨_, rfl⟩
        obtain ⟨lo, hlo2⟩ : ∃ n : Nat, b.toNat % 16 = n := ⟨_, rfl⟩
        have i1 := fun w => hex_at hi (by have := b.toNat_lt; omega) w
        have i2 := fun w => hex_at lo (by omega) w
        have hc : (convert 41 9 (.slice (some ⟨wr.heap.size, 0, none⟩) 4 4)).run Tryd.prog (wr.alloc (.cells #[.int .u8 92, .int .u8 120, .int .u8 ((hexd hi).toNat : Int), .int .u8 ((hexd lo).toNat : Int)] 5)).drew = .ok (.string (strOf [92, 120, hexd hi, hexd lo])) (wr.alloc (.cells #[.int .u8 92, .int .u8 120, .int .u8 ((hexd hi).toNat : Int), .int .u8 ((hexd lo).toNat : Int)] 5)).drew := conv_new wr [92, 120, hexd hi, hexd lo] (by show 4 ≤ maxLen; decide)
        rw [hhi] at e1
        rw [hlo2] at e2
        have Hh := Lib.hid (And.intro hhi hlo2)
        clear hhi hlo2
        go_wp2
        go_region
        all_goals go_wp2
        all_goals go_ret
        all_goals refine ⟨?_, (hI.alloc _).drew.below⟩
        all_goals (
          have h1 := Hn.out
          have h2 := Hh.out
          have h3 : b.toNat < 32 ∨ 126 < b.toNat := by omega
          unfold signL
          rw [if_neg h1.1, if_neg h1.2.1, if_neg h1.2.2, if_pos h3, h2.1, h2.2]
          rfl)
      · have hlo' : decide ((b.toNat : Int) < 32) = false := decide_eq_false hlo
        by_cases hhi' : (126 : Int) < (b.toNat : Int)
        · have e1 := shr4 b
          have e2 := and15 b
          obtain ⟨hi, hhi⟩ : ∃ n : Nat, b.toNat / 16 = n := ⟨_, rfl⟩
          obtain ⟨lo, hlo2⟩ : ∃ n : Nat, b.toNat % 16 = n := ⟨_, rfl⟩
          have i1 := fun w => hex_at hi (by have := b.toNat_lt; omega) w
          have i2 := fun w => hex_at lo (by omega) w
          have hc : (convert 41 9 (.slice (some ⟨wr.heap.size, 0, none⟩) 4 4)).run Tryd.prog (wr.alloc (.cells #[.int .u8 92, .int .u8 120, .int .u8 ((hexd hi).toNat : Int), .int .u8 ((hexd lo).toNat : Int)] 5)).drew = .ok (.string (strOf [92, 120, hexd hi, hexd lo])) (wr.alloc (.cells #[.int .u8 92, .int .u8 120, .int .u8 ((hexd hi).toNat : Int), .int .u8 ((hexd lo).toNat : Int)] 5)).drew := conv_new wr [92, 120, hexd hi, hexd lo] (by show 4 ≤ maxLen; decide)
          rw [hhi] at e1
          rw [hlo2] at e2
          have Hh := Lib.hid (And.intro hhi hlo2)
          clear hhi hlo2
          go_wp2
          go_region
          all_goals go_wp2
          all_goals go_ret
          all_goals refine ⟨?_, (hI.alloc _).drew.below⟩
          all_goals (
            have h1 := Hn.out
            have h2 := Hh.out
            have h3 : b.toNat < 32 ∨ 126 < b.toNat := by omega
            unfold signL
            rw [if_neg h1.1, if_neg h1.2.1, if_neg h1.2.2, if_pos h3, h2.1, h2.2]
            rfl)
        · have hhi2 : decide ((126 : Int) < (b.toNat : Int)) = false := decide_eq_false hhi'
          have hsl : (strOf sp).data.toList = sp := by simp [strOf]
          have hbb : (b.toNat : Int).toNat.toUInt8 = b := by simp
          have Hlo := Lib.hid hlo
          have Hhi := Lib.hid hhi'
          clear hlo hhi'
          by_cases hc : sp.contains b = true
          · have h0 : (0 : Int) ≤ Lib.indexByte sp b := index_yes hc
            obtain ⟨i, hi⟩ : ∃ i, Lib.indexByte sp b = i := ⟨_, rfl⟩
            rw [hi] at h0
            have Hc := Lib.hid hc
            have Hi := Lib.hid hi
            clear hc hi
            go_wp2_with (first | (go_at_call 70; refine (Tryd.strings_IndexByte _ _ _).mono ?_; rw [hsl, hbb, Hi.out]; rintro e w1 ⟨rfl, rfl⟩) | (refine conv_str tBytes.slice tyStr tyU8 rfl (.tmp 41) rfl rfl [92, b] (own_new _ [92, b] (by show 2 ≤ maxLen; decide)) ?_))
            go_ret
            refine ⟨?_, (hI.alloc _).below⟩
            have h1 := Hn.out
            have h3 : ¬ (b.toNat < 32 ∨ 126 < b.toNat) := by have := Hlo.out; have := Hhi.out; omega
            unfold signL
            rw [if_neg h1.1, if_neg h1.2.1, if_neg h1.2.2, if_neg h3, if_pos Hc.out]
            rfl
          · have h0 : Lib.indexByte sp b = -1 := index_no (by simpa using hc)
            have Hc := Lib.hid hc
            have Hi := Lib.hid h0
            clear hc h0
            go_wp2_with (first | (go_at_call 70; refine (Tryd.strings_IndexByte _ _ _).mono ?_; rw [hsl, hbb, Hi.out]; rintro e w1 ⟨rfl, rfl⟩) | (refine conv_str tBytes.slice tyStr tyU8 rfl (.tmp 44) rfl rfl [b] (own_new _ [b] (by show 1 ≤ maxLen; decide)) ?_))
            go_ret
            refine ⟨?_, (hI.alloc _).below⟩
            have h1 := Hn.out
            have h3 : ¬ (b.toNat < 32 ∨ 126 < b.toNat) := by have := Hlo.out; have := Hhi.out; omega
            unfold signL
            rw [if_neg h1.1, if_neg h1.2.1, if_neg h1.2.2, if_neg h3, if_neg Hc.out]
            rfl
    · have hme := mem_left he
      have h3 : e = { key := .int .u8 110, val := .int .u8 10, born := 0 } ∨ e = { key := .int .u8 114, val := .int .u8 13, born := 1 } ∨ e = { key := .int .u8 116, val := .int .u8 9, born := 2 } := by simpa using hme.1
      have hnd : (shortE.toList.map (·.born)).Nodup := by decide
      have hI2 := hI.iter (o' := .mapIter (some w.heap.size) 3 (seen.push e.born) 3) (by omega) (by intro p hp; simp at hp; subst hp; simp) hw2
      have hr2 := hI2.at (g := w.heap.size + 1) (o := .mapIter (some w.heap.size) 3 (seen.push e.born) 3) (List.mem_cons_self ..)
      have hm2 := hI2.at (g := w.heap.size) (o := .map shortE 3) (List.mem_cons_of_mem _ (List.mem_cons_self ..))
      have hen := run_entry_at (P := Tryd.prog) _ (w.heap.size + 1) w.heap.size 3 seen shortE 3 e hr2 hm2 hme.1 hnd
      generalize setBlock w2 (w.heap.size + 1) (.mapIter (some w.heap.size) 3 (seen.push e.born) 3) = W3 at *
      have hnx : ∀ ty, (Instr.next (.pointer (some ⟨w.heap.size + 1, 0, none⟩)) false ty).run Tryd.prog wr = .ok (.tuple #[.bool true, e.key, e.val]) W3 := fun _ => hrun
      clear hrun hw2
      rcases h3 with rfl | rfl | rfl
      · by_cases hv : (b.toNat : Int) = 10
        · have hvb : ((10 : Int) == (b.toNat : Int)) = true := by rw [hv]; rfl
          have Hv := Lib.hid hv
          clear hv
          go_wp2_with (refine conv_str tBytes.slice tyStr tyU8 rfl (.tmp 18) rfl rfl [92, 110] (own_new W3 [92, 110] (by decide)) ?_)
          go_ret
          refine ⟨?_, (hI2.alloc _).below⟩
          have h10 : b.toNat = 10 := by have := Hv.out; omega
          simp [signL, h10, strOf]
        · have hvb : ((10 : Int) == (b.toNat : Int)) = false := by simp; omega
          have Hv := Lib.hid hv
          clear hv
          go_wp2
          go_roundw
          case rel =>
            refine ⟨_, hI2, fun x hx hc => ?_⟩
            rw [contains_push] at hc
            rcases Bool.or_eq_true _ _ ▸ hc with h1 | h1
            · exact hno.out x hx h1
            · have := born_inj hnd hx hme.1 (beq_iff_eq.1 h1)
              subst this
              have := Hv.out
              simp [valOf]; omega
          case measure =>
            rw [hseen _ hr, show World.iterSeen W3 (w.heap.size + 1) = _ from iterSeen_of hr2]
            exact left_shrinks shortE seen _ he
      · by_cases hv : (b.toNat : Int) = 13
        · have hvb : ((13 : Int) == (b.toNat : Int)) = true := by rw [hv]; rfl
          have Hv := Lib.hid hv
          clear hv
          go_wp2_with (refine conv_str tBytes.slice tyStr tyU8 rfl (.tmp 18) rfl rfl [92, 114] (own_new W3 [92, 114] (by decide)) ?_)
          go_ret
          refine ⟨?_, (hI2.alloc _).below⟩
          have h10 : b.toNat = 13 := by have := Hv.out; omega
          simp [signL, h10, strOf]
        · have hvb : ((13 : Int) == (b.toNat : Int)) = false := by simp; omega
          have Hv := Lib.hid hv
          clear hv
          go_wp2
          go_roundw
          case rel =>
            refine ⟨_, hI2, fun x hx hc => ?_⟩
            rw [contains_push] at hc
            rcases Bool.or_eq_true _ _ ▸ hc with h1 | h1
            · exact hno.out x hx h1
            · have := born_inj hnd hx hme.1 (beq_iff_eq.1 h1)
              subst this
              have := Hv.out
              simp [valOf]; omega
          case measure =>
            rw [hseen _ hr, show World.iterSeen W3 (w.heap.size + 1) = _ from iterSeen_of hr2]
            exact left_shrinks shortE seen _ he
      · by_cases hv : (b.toNat : Int) = 9
        · have hvb : ((9 : Int) == (b.toNat : Int)) = true := by rw [hv]; rfl
          have Hv := Lib.hid hv
          clear hv
          go_wp2_with (refine conv_str tBytes.slice tyStr tyU8 rfl (.tmp 18) rfl rfl [92, 116] (own_new W3 [92, 116] (by decide)) ?_)
          go_ret
          refine ⟨?_, (hI2.alloc _).below⟩
          have h10 : b.toNat = 9 := by have := Hv.out; omega
          simp [signL, h10, strOf]
        · have hvb : ((9 : Int) == (b.toNat : Int)) = false := by simp; omega
          have Hv := Lib.hid hv
          clear hv
          go_wp2
          go_roundw
          case rel =>
            refine ⟨_, hI2, fun x hx hc => ?_⟩
            rw [contains_push] at hc
            rcases Bool.or_eq_true _ _ ▸ hc with h1 | h1
            · exact hno.out x hx h1
            · have := born_inj hnd hx hme.1 (beq_iff_eq.1 h1)
              subst this
              have := Hv.out
              simp [valOf]; omega
          case measure =>
            rw [hseen _ hr, show World.iterSeen W3 (w.heap.size + 1) = _ from iterSeen_of hr2]
            exact left_shrinks shortE seen _ he
end Go.Proofs.YtcpgbakdfogilaaDoor
