/- Contract of the reference's Compare. -/
import Derived.Test.YtcpgbakdfogilaaDoorSetE
namespace Go.Proofs.YtcpgbakdfogilaaDoor
open Go.RowKit
set_option maxRecDepth 100000

/-- How two lists of bytes stand. -/
def cmpL : List UInt8 → List UInt8 → Int
  | [], [] => 0
  | [], _ :: _ => -1
  | _ :: _, [] => 1
  | a :: l, b :: m => if a.toNat < b.toNat then -1 else if b.toNat < a.toNat then 1 else cmpL l m
theorem cmpL_drop (l m : List UInt8) : ∀ k, k ≤ l.length → k ≤ m.length → l.take k = m.take k → cmpL l m = cmpL (l.drop k) (m.drop k) := by
  intro k
  induction k generalizing l m with
  | zero => intro _ _ _; rfl
  | succ k ih =>
    intro h1 h2 h3
    cases l with
    | nil => simp at h1
    | cons a l =>
      cases m with
      | nil => simp at h2
      | cons b m =>
        simp only [List.take_succ_cons, List.cons.injEq] at h3
        obtain ⟨rfl, h3⟩ := h3
        simp only [List.drop_succ_cons, cmpL, Nat.lt_irrefl, if_false]
        exact ih l m (by simpa using h1) (by simpa using h2) h3
theorem strOf_get (l : List UInt8) (k : Nat) (h : k < (strOf l).size) (h' : k < l.length) : (strOf l)[k] = l[k] := by
  simp [strOf, ByteArray.getElem_eq_getElem_data]
/-- A string under a name. -/
theorem strOf_name (l : List UInt8) : ∃ σ : ByteArray, strOf l = σ ∧ σ.size = l.length ∧ Hid (∀ k (h : k < σ.size) (h' : k < l.length), σ[k] = l[k]) := ⟨_, rfl, strOf_size l, strOf_get l⟩
theorem take_eq_step {l m : List UInt8} {k : Nat} (h1 : k < l.length) (h2 : k < m.length) (h : l.take k = m.take k) (he : l[k] = m[k]) : l.take (k + 1) = m.take (k + 1) := by
  rw [List.take_succ_eq_append_getElem h1, List.take_succ_eq_append_getElem h2, h, he]

set_option maxHeartbeats 4000000 in
/-- bonsairef01.Compare. -/
theorem rcompare_any (a b : Nat) (w : World) :
    Calls Tryd.prog 42 #[setV a, setV b] w fun e w' => e = .returned (.int .i64 (cmpL (bytesTo a 256) (bytesTo b 256))) ∧ Below w.heap.size w w' := by
  have hI := ((Inv.start w).alloc (setC a)).alloc (setC b)
  rw [World.size_alloc] at hI
  obtain ⟨c0, c1, c2, c3, f0, f1, f2, f3⟩ := setB_facts (hI.at (g := w.heap.size) (o := setC a) (by simp))
  clear f0 f1 f2 f3
  obtain ⟨d0, d1, d2, d3, f0, f1, f2, f3⟩ := setB_facts (hI.at (g := w.heap.size + 1) (o := setC b) (by simp))
  clear f0 f1 f2 f3
  go_enter Tryd.func42, Tryd.ntmps42
  go_wp2_with fail
  go_region_held3 (fun w' => (w'.cell? ⟨w.heap.size, 0, none⟩ = some (.int .u64 (w64 a 0)) ∧ w'.cell? ⟨w.heap.size, 1, none⟩ = some (.int .u64 (w64 a 1)) ∧ w'.cell? ⟨w.heap.size, 2, none⟩ = some (.int .u64 (w64 a 2)) ∧ w'.cell? ⟨w.heap.size, 3, none⟩ = some (.int .u64 (w64 a 3))) ∧
      w'.cell? ⟨w.heap.size + 1, 0, none⟩ = some (.int .u64 (w64 b 0)) ∧ w'.cell? ⟨w.heap.size + 1, 1, none⟩ = some (.int .u64 (w64 b 1)) ∧ w'.cell? ⟨w.heap.size + 1, 2, none⟩ = some (.int .u64 (w64 b 2)) ∧ w'.cell? ⟨w.heap.size + 1, 3, none⟩ = some (.int .u64 (w64 b 3))) (go_keep)
    ((go_at_call 24; refine (rlist_any _ _).mono ?_; rintro e W1 ⟨rfl, hb⟩; (first | replace hI := hI.call hb | replace hI := hI.drew.call hb); obtain ⟨c0, c1, c2, c3, f0, f1, f2, f3⟩ := setB_facts (hI.at (g := w.heap.size) (o := setC a) (by simp)); obtain ⟨d0, d1, d2, d3, e0, e1, e2, e3⟩ := setB_facts (hI.at (g := w.heap.size + 1) (o := setC b) (by simp)); clear f0 f1 f2 f3 e0 e1 e2 e3 hb))
  clear c0 c1 c2 c3 d0 d1 d2 d3
  obtain ⟨l, hl⟩ : ∃ l, bytesTo a 256 = l := ⟨_, rfl⟩
  obtain ⟨m, hm⟩ : ∃ m, bytesTo b 256 = m := ⟨_, rfl⟩
  rw [hl, hm]
  have hlb : l.length ≤ 256 := by rw [← hl]; exact bytesTo_len _ _
  have Hl := Lib.hid hl
  have Hm := Lib.hid hm
  clear hl hm
  obtain ⟨σ, hσ, hsl, gl⟩ := strOf_name l
  obtain ⟨τ, hτ, hsm, gm⟩ := strOf_name m
  rw [hσ, hτ]
  clear hσ hτ
  go_wp2
  go_loopw [7] (fun i wr => ∃ k : Nat, k ≤ l.length ∧ k ≤ m.length ∧ i = .int .i64 k ∧ Hid (l.take k = m.take k) ∧ Inv w.heap.size w [(w.heap.size + 1, setC b), (w.heap.size, setC a)] wr) (fun i _ => l.length - (intOf i).toNat)
  case atStart => exact ⟨0, by omega, by omega, rfl, rfl, hI⟩
  case round =>
    clear hI
    obtain ⟨k, hk1, hk2, rfl, ht, hI⟩ := hrel
    have hd := Lib.hid (cmpL_drop l m k hk1 hk2 ht.out)
    by_cases h1 : k < l.length
    · have h1' : k < σ.size := by omega
      by_cases h2 : k < m.length
      · have h2' : k < τ.size := by omega
        have el := Lib.hid (gl.out k h1' h1)
        have em := Lib.hid (gm.out k h2' h2)
        have hc := Lib.hid (show cmpL (l.drop k) (m.drop k) = if l[k].toNat < m[k].toNat then -1 else if m[k].toNat < l[k].toNat then 1 else cmpL (l.drop (k + 1)) (m.drop (k + 1)) by rw [List.drop_eq_getElem_cons h1, List.drop_eq_getElem_cons h2]; rfl)
        by_cases x1 : (σ[k].toNat : Int) < (τ[k].toNat : Int)
        · have y1 := Lib.hid (show l[k].toNat < m[k].toNat by rw [← el.out, ← em.out]; omega)
          go_wp2
          go_quiet (fail)
          go_wp2
          go_ret
          exact ⟨ret_int (by rw [Hl.out, Hm.out, hd.out, hc.out, if_pos y1.out]), below_drewN hI.below _⟩
        · have y1 := Lib.hid (show ¬ l[k].toNat < m[k].toNat by rw [← el.out, ← em.out]; omega)
          by_cases x2 : (τ[k].toNat : Int) < (σ[k].toNat : Int)
          · have y2 := Lib.hid (show m[k].toNat < l[k].toNat by rw [← el.out, ← em.out]; omega)
            go_wp2
            go_quiet (fail)
            go_wp2
            go_quiet (fail)
            go_wp2
            go_ret
            exact ⟨ret_int (by rw [Hl.out, Hm.out, hd.out, hc.out, if_neg y1.out, if_pos y2.out]), below_drewN (below_drewN hI.below _) _⟩
          · have y2 := Lib.hid (show l[k] = m[k] by apply UInt8.toNat_inj.1; have := y1.out; rw [← el.out, ← em.out] at this ⊢; omega)
            go_wp2
            go_quiet (fail)
            go_wp2
            go_quiet (fail)
            go_wp2
            go_roundw
            case rel => exact ⟨k + 1, by omega, by omega, by go_num, take_eq_step h1 h2 ht.out y2.out, hI.drewN _⟩
            case measure => simp [intOf]; omega
      · obtain rfl : k = m.length := by omega
        have hf := Lib.hid (show cmpL (l.drop m.length) (m.drop m.length) = 1 by rw [List.drop_eq_getElem_cons h1, List.drop_of_length_le (Nat.le_refl _)]; rfl)
        go_wp2
        go_ret
        exact ⟨ret_int (by rw [Hl.out, Hm.out, hd.out, hf.out]), hI.below⟩
    · obtain rfl : k = l.length := by omega
      by_cases h2 : l.length < m.length
      · have hf := Lib.hid (show cmpL (l.drop l.length) (m.drop l.length) = -1 by rw [List.drop_eq_getElem_cons h2, List.drop_of_length_le (Nat.le_refl _)]; rfl)
        go_wp2
        go_ret
        exact ⟨ret_int (by rw [Hl.out, Hm.out, hd.out, hf.out]), hI.below⟩
      · have hf := Lib.hid (show cmpL (l.drop l.length) (m.drop l.length) = 0 by rw [List.drop_of_length_le (Nat.le_refl _), List.drop_of_length_le (by omega)]; rfl)
        go_wp2
        go_ret
        exact ⟨ret_int (by rw [Hl.out, Hm.out, hd.out, hf.out]), hI.below⟩
end Go.Proofs.YtcpgbakdfogilaaDoor
