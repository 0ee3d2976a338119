/- SetOrder's walk. -/
import Derived.Test.YtcpgbakdfogilaaDoorSetO
import Derived.Test.YtcpgbakdfogilaaDoorSetP
namespace Go.Proofs.YtcpgbakdfogilaaDoor
open Go.RowKit
set_option maxRecDepth 100000

set_option maxHeartbeats 16000000 in
/-- bonsailaw01.SetOrder. -/
theorem order_any (x y z : Nat) (hx : x < 2 ^ 256) (hy : y < 2 ^ 256) (hz : z < 2 ^ 256) (w : World) (hT : Tb w) :
    Calls Tryd.prog 8 #[setV x, setV y, setV z] w fun e w' => e = .returned (.bool true) ∧ Below w.heap.size w w' := by
  have hI := (((Inv.start w).alloc (setC x)).alloc (setC y)).alloc (setC z)
  rw [World.size_alloc, World.size_alloc] at hI
  replace hT := ((hT.alloc (setC x)).alloc (setC y)).alloc (setC z)
  have Hxy := Lib.hid (words_beq hx hy)
  have Hoy := Lib.hid (words_beq (Nat.or_lt_two_pow hx hy) hy)
  have Haz := Lib.hid (words_zero (and_lt hx y))
  have Hsub := Lib.hid (sub_or hx hy)
  have Hsa := Lib.hid (sub_and hx y)
  have Hso := Lib.hid (sub_self_or hx y)
  have Ha := Lib.hid (and_lt hx y)
  obtain ⟨a, ha⟩ : ∃ a, cmpL (bytesTo x 256) (bytesTo y 256) = a := ⟨_, rfl⟩
  obtain ⟨b, hb⟩ : ∃ a, cmpL (bytesTo y 256) (bytesTo z 256) = a := ⟨_, rfl⟩
  obtain ⟨c, hc⟩ : ∃ a, cmpL (bytesTo x 256) (bytesTo z 256) = a := ⟨_, rfl⟩
  have a1 := cmpL_bounds (bytesTo x 256) (bytesTo y 256)
  have b1 := cmpL_bounds (bytesTo y 256) (bytesTo z 256)
  have c1 := cmpL_bounds (bytesTo x 256) (bytesTo z 256)
  have a2 := cmpL_neg (bytesTo x 256) (bytesTo y 256)
  have a3 : (a == 0) = (x == y) := by
    rw [Bool.eq_iff_iff, beq_iff_eq, beq_iff_eq, ← ha, cmpL_zero]
    exact ⟨bytesTo_inj hx hy, fun h => by rw [h]⟩
  have c2 := cmpL_le (bytesTo x 256) (bytesTo y 256) (bytesTo z 256)
  have c3 := cmpL_lt (bytesTo x 256) (bytesTo y 256) (bytesTo z 256)
  rw [ha] at a1 a2 c2 c3
  rw [hb] at b1 c2 c3
  rw [hc] at c1 c2 c3
  have Hc := Lib.hid (And.intro ha (And.intro hb (And.intro hc a2)))
  have Hk := Lib.hid (And.intro a1 (And.intro b1 (And.intro c1 (And.intro c2 (And.intro c3 a3)))))
  obtain ⟨p, hp⟩ : ∃ p, ((x ||| y) == y) = p := ⟨_, rfl⟩
  obtain ⟨q, hq⟩ : ∃ p, (x &&& y == 0) = p := ⟨_, rfl⟩
  obtain ⟨r, hr⟩ : ∃ p, (x == y) = p := ⟨_, rfl⟩
  have Hp := Lib.hid (And.intro hp (And.intro hq hr))
  clear ha hb hc a1 b1 c1 a2 a3 c2 c3 hp hq hr
  have Hx := Lib.hid hx
  clear hx hy hz
  go_enter Tryd.func8, Tryd.ntmps8
  go_wp2_with (go_at_call 12; refine (awake1_any _ hT).mono ?_; rintro e W1 ⟨rfl, hb⟩; replace hI := hI.call hb; replace hT := hT.call hb; clear hb)
  obtain ⟨c00, c01, c02, c03, e0, e1, e2, e3⟩ := setB_facts (hI.at (g := w.heap.size) (o := setC x) (by simp))
  clear e0 e1 e2 e3
  obtain ⟨c10, c11, c12, c13, e0, e1, e2, e3⟩ := setB_facts (hI.at (g := w.heap.size + 1) (o := setC y) (by simp))
  clear e0 e1 e2 e3
  obtain ⟨c20, c21, c22, c23, e0, e1, e2, e3⟩ := setB_facts (hI.at (g := w.heap.size + 2) (o := setC z) (by simp))
  clear e0 e1 e2 e3
  go_region_held3 (fun w' => (w'.cell? ⟨w.heap.size, 0, none⟩ = some (.int .u64 (w64 x 0)) ∧ w'.cell? ⟨w.heap.size, 1, none⟩ = some (.int .u64 (w64 x 1)) ∧ w'.cell? ⟨w.heap.size, 2, none⟩ = some (.int .u64 (w64 x 2)) ∧ w'.cell? ⟨w.heap.size, 3, none⟩ = some (.int .u64 (w64 x 3))) ∧ (w'.cell? ⟨w.heap.size + 1, 0, none⟩ = some (.int .u64 (w64 y 0)) ∧ w'.cell? ⟨w.heap.size + 1, 1, none⟩ = some (.int .u64 (w64 y 1)) ∧ w'.cell? ⟨w.heap.size + 1, 2, none⟩ = some (.int .u64 (w64 y 2)) ∧ w'.cell? ⟨w.heap.size + 1, 3, none⟩ = some (.int .u64 (w64 y 3))) ∧ (w'.cell? ⟨w.heap.size + 2, 0, none⟩ = some (.int .u64 (w64 z 0)) ∧ w'.cell? ⟨w.heap.size + 2, 1, none⟩ = some (.int .u64 (w64 z 1)) ∧ w'.cell? ⟨w.heap.size + 2, 2, none⟩ = some (.int .u64 (w64 z 2)) ∧ w'.cell? ⟨w.heap.size + 2, 3, none⟩ = some (.int .u64 (w64 z 3)))) (go_keep)
    (first
      | (go_at_call 31; refine (compare_any _ _ _ (by exact hT)).mono ?_; (first | rw [Hc.out.1] | rw [Hc.out.2.1] | rw [Hc.out.2.2.1]); rintro e W1 ⟨rfl, hb⟩; (first | replace hI := hI.call hb | replace hI := hI.drew.call hb); (first | replace hT := hT.call hb | replace hT := hT.drew.call hb); obtain ⟨c00, c01, c02, c03, e0, e1, e2, e3⟩ := setB_facts (hI.at (g := w.heap.size) (o := setC x) (by simp)); clear e0 e1 e2 e3; obtain ⟨c10, c11, c12, c13, e0, e1, e2, e3⟩ := setB_facts (hI.at (g := w.heap.size + 1) (o := setC y) (by simp)); clear e0 e1 e2 e3; obtain ⟨c20, c21, c22, c23, e0, e1, e2, e3⟩ := setB_facts (hI.at (g := w.heap.size + 2) (o := setC z) (by simp)); clear e0 e1 e2 e3; clear hb)
    )
  clear c00 c01 c02 c03 c10 c11 c12 c13 c20 c21 c22 c23
  have k1 := (words_beq (s := x) (t := y))
  clear k1
  obtain ⟨a1, b1, c1, c2, c3, a3⟩ := Hk.out
  clear Hk
  have kxy := Hxy.out
  have koy := Hoy.out
  have kaz := Haz.out
  rw [Hp.out.2.2] at kxy a3
  rw [Hp.out.1] at koy
  rw [Hp.out.2.1] at kaz
  rcases a1 with rfl | rfl | rfl <;> rcases b1 with rfl | rfl | rfl <;> simp only [show ((-1 : Int) ≤ 0) = True from by simp, show ((0 : Int) ≤ 0) = True from by simp, show ((1 : Int) ≤ 0) = False from by simp, show ((-1 : Int) < 0) = True from by simp, show ((0 : Int) < 0) = False from by simp, show ((1 : Int) < 0) = False from by simp, true_implies, false_implies, show ((-1 : Int) == 0) = false from rfl, show ((0 : Int) == 0) = true from rfl, show ((1 : Int) == 0) = false from rfl] at a3 c2 c3 <;> subst a3
  all_goals (
    go_wp2_with (first | (go_at_call 31; refine (compare_any y x _ hT).mono ?_; rw [Hc.out.2.2.2]; rintro e W1 ⟨rfl, hb⟩; replace hI := hI.call hb; replace hT := hT.call hb; clear hb) | (refine load_set rfl (.tmp 3) rfl w.heap.size x rfl (hI.at (by simp)) ?_) | (refine load_set rfl (.tmp 4) rfl (w.heap.size + 1) y rfl (hI.at (by simp)) ?_))
    try clear c2
    try clear c3
    try clear kxy
    clear Hxy)
  all_goals (
    obtain ⟨c00, c01, c02, c03, e0, e1, e2, e3⟩ := setB_facts (hI.at (g := w.heap.size) (o := setC x) (by simp))
    clear e0 e1 e2 e3
    obtain ⟨c10, c11, c12, c13, e0, e1, e2, e3⟩ := setB_facts (hI.at (g := w.heap.size + 1) (o := setC y) (by simp))
    clear e0 e1 e2 e3
    go_region_held3 (fun w' => (w'.cell? ⟨w.heap.size, 0, none⟩ = some (.int .u64 (w64 x 0)) ∧ w'.cell? ⟨w.heap.size, 1, none⟩ = some (.int .u64 (w64 x 1)) ∧ w'.cell? ⟨w.heap.size, 2, none⟩ = some (.int .u64 (w64 x 2)) ∧ w'.cell? ⟨w.heap.size, 3, none⟩ = some (.int .u64 (w64 x 3))) ∧ (w'.cell? ⟨w.heap.size + 1, 0, none⟩ = some (.int .u64 (w64 y 0)) ∧ w'.cell? ⟨w.heap.size + 1, 1, none⟩ = some (.int .u64 (w64 y 1)) ∧ w'.cell? ⟨w.heap.size + 1, 2, none⟩ = some (.int .u64 (w64 y 2)) ∧ w'.cell? ⟨w.heap.size + 1, 3, none⟩ = some (.int .u64 (w64 y 3)))) (go_keep)
      (first
        | (go_at_call 29; refine (subset_any _ _ (by first | exact Hx.out | exact Ha.out) _).mono ?_; (first | rw [Hsub.out, Hp.out.1] | rw [Hsa.out] | rw [Hso.out]); rintro e W1 ⟨rfl, hb⟩; (first | replace hI := hI.call hb | replace hI := hI.drew.call hb); (first | replace hT := hT.call hb | replace hT := hT.drew.call hb); obtain ⟨c00, c01, c02, c03, e0, e1, e2, e3⟩ := setB_facts (hI.at (g := w.heap.size) (o := setC x) (by simp)); clear e0 e1 e2 e3; obtain ⟨c10, c11, c12, c13, e0, e1, e2, e3⟩ := setB_facts (hI.at (g := w.heap.size + 1) (o := setC y) (by simp)); clear e0 e1 e2 e3; clear hb)
        | (go_at_call 26; refine (or_any _ _ _).mono ?_; rintro e W1 ⟨rfl, hb⟩; (first | replace hI := hI.call hb | replace hI := hI.drew.call hb); (first | replace hT := hT.call hb | replace hT := hT.drew.call hb); obtain ⟨c00, c01, c02, c03, e0, e1, e2, e3⟩ := setB_facts (hI.at (g := w.heap.size) (o := setC x) (by simp)); clear e0 e1 e2 e3; obtain ⟨c10, c11, c12, c13, e0, e1, e2, e3⟩ := setB_facts (hI.at (g := w.heap.size + 1) (o := setC y) (by simp)); clear e0 e1 e2 e3; clear hb)
        | (go_at_call 32; refine (and_any _ _ _).mono ?_; rintro e W1 ⟨rfl, hb⟩; (first | replace hI := hI.call hb | replace hI := hI.drew.call hb); (first | replace hT := hT.call hb | replace hT := hT.drew.call hb); obtain ⟨c00, c01, c02, c03, e0, e1, e2, e3⟩ := setB_facts (hI.at (g := w.heap.size) (o := setC x) (by simp)); clear e0 e1 e2 e3; obtain ⟨c10, c11, c12, c13, e0, e1, e2, e3⟩ := setB_facts (hI.at (g := w.heap.size + 1) (o := setC y) (by simp)); clear e0 e1 e2 e3; clear hb)
        | (go_at_call 30; refine (meets_any _ _ Hx.out _).mono ?_; rw [Hp.out.2.1]; rintro e W1 ⟨rfl, hb⟩; (first | replace hI := hI.call hb | replace hI := hI.drew.call hb); (first | replace hT := hT.call hb | replace hT := hT.drew.call hb); obtain ⟨c00, c01, c02, c03, e0, e1, e2, e3⟩ := setB_facts (hI.at (g := w.heap.size) (o := setC x) (by simp)); clear e0 e1 e2 e3; obtain ⟨c10, c11, c12, c13, e0, e1, e2, e3⟩ := setB_facts (hI.at (g := w.heap.size + 1) (o := setC y) (by simp)); clear e0 e1 e2 e3; clear hb)
      )
    go_wp2
    go_ret
    exact ⟨rfl, hI.below⟩)
end Go.Proofs.YtcpgbakdfogilaaDoor
