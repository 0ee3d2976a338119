/- SetRuns' walk. -/
import Derived.Test.YtcpgbakdfogilaaDoorSetO
import Derived.Test.YtcpgbakdfogilaaDoorSetS
import Derived.Test.YtcpgbakdfogilaaDoorSet4
import Derived.Deep.CutRange
import Derived.BigQuiet
namespace Go.Proofs.YtcpgbakdfogilaaDoor
open Go.RowKit
set_option maxRecDepth 100000

theorem pairCells_cons (p : Nat × Nat) (l : List (Nat × Nat)) : pairCells (p :: l) = .int .u8 (p.1 : Int) :: .int .u8 (p.2 : Int) :: pairCells l := by simp [pairCells]
theorem pairCells_0 : ∀ (l : List (Nat × Nat)) (k : Nat) (p : Nat × Nat), l[k]? = some p → (pairCells l)[k * 2]? = some (.int .u8 (p.1 : Int))
  | [], k, p, h => by simp at h
  | q :: l, 0, p, h => by simp at h; subst h; rw [pairCells_cons]; rfl
  | q :: l, k + 1, p, h => by
    rw [pairCells_cons, show (k + 1) * 2 = k * 2 + 1 + 1 by omega, List.getElem?_cons_succ, List.getElem?_cons_succ]
    exact pairCells_0 l k p (by simpa using h)
theorem pairCells_1 : ∀ (l : List (Nat × Nat)) (k : Nat) (p : Nat × Nat), l[k]? = some p → (pairCells l)[k * 2 + 1]? = some (.int .u8 (p.2 : Int))
  | [], k, p, h => by simp at h
  | q :: l, 0, p, h => by simp at h; subst h; rw [pairCells_cons]; rfl
  | q :: l, k + 1, p, h => by
    rw [pairCells_cons, show (k + 1) * 2 + 1 = k * 2 + 1 + 1 + 1 by omega, List.getElem?_cons_succ, List.getElem?_cons_succ]
    exact pairCells_1 l k p (by simpa using h)
theorem sumRuns_from (l : List (Nat × Nat)) : ∀ a : Int, l.foldl (fun (a : Int) p => a + (p.2 : Int) - (p.1 : Int) + 1) a = a + sumRuns l := by
  induction l with
  | nil => intro a; simp [sumRuns]
  | cons p l ih =>
    intro a
    unfold sumRuns
    rw [List.foldl_cons, List.foldl_cons, ih, ih]
    omega
theorem sumRuns_append (l m : List (Nat × Nat)) : sumRuns (l ++ m) = sumRuns l + sumRuns m := by
  rw [show sumRuns (l ++ m) = m.foldl (fun (a : Int) p => a + (p.2 : Int) - (p.1 : Int) + 1) (sumRuns l) from by simp [sumRuns], sumRuns_from]
theorem sumRuns_nonneg (l : List (Nat × Nat)) (h : ∀ p ∈ l, p.1 ≤ p.2) : 0 ≤ sumRuns l := by
  induction l with
  | nil => simp [sumRuns]
  | cons p l ih =>
    have h1 := h p (by simp)
    have h2 := ih fun q hq => h q (by simp [hq])
    rw [show p :: l = [p] ++ l from rfl, sumRuns_append]
    simp [sumRuns] at h2 ⊢
    omega
theorem sumRuns_take (l : List (Nat × Nat)) (h : ∀ p ∈ l, p.1 ≤ p.2) (k : Nat) : 0 ≤ sumRuns (l.take k) ∧ sumRuns (l.take k) ≤ sumRuns l := by
  refine ⟨sumRuns_nonneg _ fun p hp => h p (List.mem_of_mem_take hp), ?_⟩
  have h1 := sumRuns_append (l.take k) (l.drop k)
  rw [List.take_append_drop] at h1
  have h2 := sumRuns_nonneg (l.drop k) fun p hp => h p (List.mem_of_mem_drop hp)
  omega

set_option maxHeartbeats 16000000 in
/-- bonsailaw01.SetRuns. -/
theorem runs_law (x : Nat) (hx : x < 2 ^ 256) (w : World) (hT : Tb w) :
    Calls Tryd.prog 4 #[setV x] w fun e w' => e = .returned (.bool true) ∧ Below w.heap.size w w' := by
  have hI := (Inv.start w).alloc (setC x)
  replace hT := hT.alloc (setC x)
  obtain ⟨R, hR⟩ : ∃ R, runsL (bytesTo x 256) = R := ⟨_, rfl⟩
  have hg := goodRuns x 256 (Nat.le_refl _)
  have hox := orRuns_self hx
  have hrl := runsL_len (bytesTo x 256)
  have hbl := bytesTo_len x 256
  rw [hR] at hg hox hrl
  have Hg := Lib.hid hg
  have HR := Lib.hid hR
  have Hox := Lib.hid hox
  have Hsum := Lib.hid (show sumRuns R = ((lenOf x : Nat) : Int) from hg.sum)
  have Htk := Lib.hid (sumRuns_take R (fun p hp => (hg.each p hp).1))
  have Hle := Lib.hid (lenOf_le x)
  have hRl : R.length ≤ 256 := by omega
  clear hg hR hox hrl hbl hx
  go_enter Tryd.func4, Tryd.ntmps4
  go_wp2_with fail
  refine (awake1_any _ hT).mono ?_
  rintro e W1 ⟨rfl, hb⟩
  have hp1 := Lib.hid hb.size
  have hp0 := Lib.hid (show 0 < W1.heap.size from (hT.call hb).pos)
  replace hI := (hI.call hb).alloc zeroC
  replace hT := (hT.call hb).alloc zeroC
  have hneq := Lib.hid (show w.heap.size < W1.heap.size by have := hb.size; simp at this; omega)
  have hpos := Lib.hid (show w.heap.size ≤ W1.heap.size by have := hb.size; simp at this; omega)
  clear hb
  go_wp2_with (refine load_set rfl (.tmp 1) rfl w.heap.size x rfl (hI.at (by simp)) ?_)
  refine (runs_any x _ hT).mono ?_
  rw [HR.out]
  rintro e W2 ⟨v, rfl, hrow, hb⟩
  replace hI := hI.call hb
  replace hT := hT.call hb
  rw [World.size_alloc] at hrow
  clear hb
  rw [zeroC_eq] at hI
  rcases hrow.2 with ⟨rfl, hl0⟩ | ⟨g, cap, cur, rfl, hgb, -⟩
  · have hr0 : R = [] := List.eq_nil_of_length_eq_zero hl0
    subst hr0
    have hx0 : x = 0 := by rw [← Hox.out]; rfl
    subst hx0
    have hl : ((lenOf 0 : Nat) : Int) = 0 := by rw [← Hsum.out]; rfl
    clear hrow hl0
    go_wp2
    refine wp_loop_rounds 1 ?_
    rw [rounds_succ]
    go_wp2_with (first | (go_at_call 21; refine (len_any _ _).mono ?_; rintro e W3 ⟨rfl, hb⟩; replace hI := hI.call hb; clear hb) | (refine load_set rfl (.tmp 1) rfl w.heap.size 0 rfl (hI.at (by simp)) ?_) | (refine load_set rfl (.tmp 3) rfl W1.heap.size 0 rfl (hI.at (by simp)) ?_))
    go_ret
    exact ⟨rfl, hI.below⟩
  · go_wp2
    go_loopw [4, 6] (fun n i wr => ∃ k : Nat, k ≤ R.length ∧ i = .int .i64 k ∧ n = .int .i64 (sumRuns (R.take k)) ∧ Inv w.heap.size w [(W1.heap.size, setC (orRuns (R.take k))), (w.heap.size, setC x)] wr ∧ Tb wr ∧ wr.ownsRow (W1.heap.size + 1) 36 2 (.slice (some ⟨g, 0, none⟩) R.length cap) R.length (pairCells R)) (fun _ i _ => R.length - (intOf i).toNat)
    case atStart => exact ⟨0, by omega, rfl, rfl, hI, hT, hrow⟩
    case round =>
      clear hI hT hrow
      obtain ⟨k, hk, rfl, rfl, hI, hT, hrow⟩ := hrel
      by_cases hlt : k < R.length
      · obtain ⟨p, hp⟩ : ∃ p, R[k]? = some p := ⟨_, List.getElem?_eq_getElem hlt⟩
        obtain ⟨p1, p2⟩ := p
        have hpe := Hg.out.each (p1, p2) (List.mem_of_getElem? hp)
        have k0 := hrow.cellAt (k * 2) (by omega)
        have k1 := hrow.cellAt (k * 2 + 1) (by omega)
        rw [pairCells_0 R k _ hp] at k0
        rw [pairCells_1 R k _ hp] at k1
        have Hrow := Lib.hid hrow
        have Hrow2 := Lib.hid hrow
        clear hrow
        have b1 : (p1 : Int) ≤ (p2 : Int) := by have := hpe.1; simp at this; omega
        have b2 : (p2 : Int) < 256 := by have := hpe.2; simp at this; omega
        have hs0 := (Htk.out k).1
        have hs1 := (Htk.out k).2
        have hs2 := Hsum.out
        have hs3 := Hle.out
        obtain ⟨S, hS⟩ : ∃ S, sumRuns (R.take k) = S := ⟨_, rfl⟩
        obtain ⟨O, hO⟩ : ∃ S, orRuns (R.take k) = S := ⟨_, rfl⟩
        obtain ⟨O', hO'⟩ : ∃ S, orRuns (R.take (k + 1)) = S := ⟨_, rfl⟩
        have hst : R.take (k + 1) = R.take k ++ [(p1, p2)] := by rw [List.take_add_one, hp]; rfl
        have HO := Lib.hid (show O ||| rng (p1 : Int) ((p2 : Int) + 1) = O' by rw [← hO', hst, orRuns_snoc, hO])
        have HS := Lib.hid (show sumRuns (R.take (k + 1)) = S + (p2 : Int) - (p1 : Int) + 1 by rw [hst, sumRuns_snoc, hS])
        rw [hS] at hs0 hs1 ⊢
        rw [hO] at hI
        have HOO := Lib.hid hO'
        have Hp := Lib.hid hp
        have hS0 : 0 ≤ S := hs0
        have hS1 : S ≤ 256 := by omega
        clear hs0 hs1 hs2 hs3 hS hO hO' hst hp hpe
        have hle : decide (p2 < p1) = false := by simp; omega
        go_upto_region 9 with fail
        go_cut [48] from 11 to 77 (fun c wx => c = .bool false ∧ ∃ m, wx = wr.drewN m)
        case first =>
          clear hI hT Hrow HS HO HOO
          by_cases hk0 : k = 0
          · subst hk0
            go_quiet (fail)
            go_wp2
            go_meet
            exact ⟨rfl, nq, rfl⟩
          · obtain ⟨j, rfl⟩ : ∃ j, k = j + 1 := ⟨k - 1, by omega⟩
            obtain ⟨q, hq⟩ : ∃ q, R[j]? = some q := ⟨_, List.getElem?_eq_getElem (by omega)⟩
            obtain ⟨q1, q2⟩ := q
            have hqp := Hg.out.apart j _ _ hq Hp.out
            simp only [] at hqp
            have k2 := Hrow2.out.cellAt (j * 2 + 1) (by omega)
            rw [pairCells_1 R j _ hq] at k2
            have Hq := Lib.hid hq
            clear hq Hrow2
            have hap : decide (p1 < q2 + 2) = false := by simp; omega
            have hap' : decide ((p1 : Int) < (q2 : Int) + 2) = false := by simp; omega
            have hjp : decide ((0 : Int) < ((j + 1 : Nat) : Int)) = true := decide_eq_true (by omega)
            have hjp' : decide ((0 : Nat) < j + 1) = true := by simp
            clear hk0
            go_quiet (fail)
            go_wp2
            go_meet
            exact ⟨rfl, nq, rfl⟩
        case rest =>
        obtain ⟨rfl, nq, rfl⟩ := hcut
        go_wp2
        replace hI := hI.drewN nq
        replace hT : Tb (wr.drewN nq) := hT
        replace Hrow : Hid ((wr.drewN nq).ownsRow _ _ _ _ _ _) := Hrow
        replace k0 : (wr.drewN nq).cell? _ = _ := k0
        replace k1 : (wr.drewN nq).cell? _ = _ := k1
        clear Hrow2 hle
        generalize wr.drewN nq = W3 at *
        obtain ⟨c0, c1, c2, c3, f0, f1, f2, f3⟩ := setB_facts (hI.at (g := W1.heap.size) (o := setC O) (by simp))
        have HI := Lib.hid hI
        have HT := Lib.hid hT
        have hh0 : (0 : Int) ≤ (p1 : Int) := by omega
        have hh1 : (p1 : Int) < 256 := by omega
        have hh2 : (0 : Int) ≤ (p2 : Int) := by omega
        clear hI hT
        go_cut [] from 11 to 77 (fun wx => Inv w.heap.size w [(W1.heap.size, setC O'), (w.heap.size, setC x)] wx ∧ Tb wx ∧ wx.ownsRow (W1.heap.size + 1) 36 2 (.slice (some ⟨g, 0, none⟩) R.length cap) R.length (pairCells R))
        case first =>
          go_region_with (first | (go_at_call 17; refine (range_any _ _ hh0 hh1 hh2 b2 _).mono ?_; rintro e W4 ⟨rfl, hb⟩; (first | replace HI := Lib.hid (HI.out.call hb) | replace HI := Lib.hid (HI.out.drew.call hb)); (first | replace HT := Lib.hid (HT.out.call hb) | replace HT := Lib.hid (HT.out.drew.call hb)); (first | replace Hrow := Lib.hid (ownsRow_below Hrow.out hb) | replace Hrow := Lib.hid (ownsRow_below (W := W3.drew) Hrow.out hb)); clear c0 c1 c2 c3 f0 f1 f2 f3; obtain ⟨c0, c1, c2, c3, f0, f1, f2, f3⟩ := setB_facts (HI.out.at (g := W1.heap.size) (o := setC O) (by simp)); clear hb) | (go_at_call 26; refine (or_any _ _ _).mono ?_; rintro e W4 ⟨rfl, hb⟩; replace HI := Lib.hid (HI.out.call hb); replace HT := Lib.hid (HT.out.call hb); replace Hrow := Lib.hid (ownsRow_below Hrow.out hb); rw [HO.out]; clear c0 c1 c2 c3 f0 f1 f2 f3; obtain ⟨c0, c1, c2, c3, f0, f1, f2, f3⟩ := setB_facts (HI.out.at (g := W1.heap.size) (o := setC O) (by simp)); clear hb))
          all_goals (go_wp2_with fail; go_meet)
          all_goals exact ⟨Inv.set4 (s := O') HI.out hpos.out (by intro p hp; simp at hp; subst hp; have := hneq.out; simp; omega), HT.out.set4 (g := W1.heap.size) (s := O') hp0.out, row_set4 (g := W1.heap.size) (s := O') Hrow.out (Nat.lt_succ_self _)⟩
        case rest =>
        clear HI HT Hrow c0 c1 c2 c3 f0 f1 f2 f3 k0 k1
        obtain ⟨hI5, hT5, hr5⟩ := hcut
        have k0 := hr5.cellAt (k * 2) (by omega)
        have k1 := hr5.cellAt (k * 2 + 1) (by omega)
        rw [pairCells_0 R k _ Hp.out] at k0
        rw [pairCells_1 R k _ Hp.out] at k1
        have HI := Lib.hid hI5
        have HT := Lib.hid hT5
        have Hrow := Lib.hid hr5
        clear hI5 hT5 hr5
        go_wp2
        go_quiet (fail)
        go_wp2
        exact ⟨⟨k + 1, by omega, by go_num, by rw [HS.out], by rw [HOO.out]; exact HI.out.drewN _, HT.out, Hrow.out⟩, by simp [intOf]; omega⟩
      · obtain rfl : k = R.length := by omega
        rw [List.take_length] at hI ⊢
        rw [Hox.out] at hI
        rw [Hsum.out]
        go_wp2_with (first | (go_at_call 21; refine (len_any _ _).mono ?_; rintro e W3 ⟨rfl, hb⟩; replace hI := hI.call hb; clear hb) | (refine load_set rfl (.tmp 1) rfl w.heap.size x rfl (hI.at (by simp)) ?_) | (refine load_set rfl (.tmp 3) rfl W1.heap.size x rfl (hI.at (by simp)) ?_))
        go_ret
        exact ⟨rfl, hI.below⟩
end Go.Proofs.YtcpgbakdfogilaaDoor
