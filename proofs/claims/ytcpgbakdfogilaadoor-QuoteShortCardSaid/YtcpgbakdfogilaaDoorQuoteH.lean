/- Contract of quote.one. -/
import Derived.Test.YtcpgbakdfogilaaDoorQuoteG
import Derived.BigQuiet
import Derived.Deep.CutRange
namespace Go.Proofs.YtcpgbakdfogilaaDoor
open Go.RowKit
set_option maxRecDepth 100000

abbrev hexDigs : List UInt8 := [48, 49, 50, 51, 52, 53, 54, 55, 56, 57, 97, 98, 99, 100, 101, 102]
/-- What the three tests of a digit say. -/
def hexOk (y : UInt8) : Bool :=
  let D := Lib.indexByte hexDigs ((bits .or .u8 (y.toNat : Int) 32).toNat.toUInt8)
  match hexv y with
  | none => decide (D < 0) || (decide (0 ≤ D) && decide ((y.toNat : Int) < 48)) || (decide (0 ≤ D) && decide (48 ≤ (y.toNat : Int)) && decide (57 < (y.toNat : Int)) && decide ((y.toNat : Int) < 65))
  | some v => decide (D = v) && decide (v < 16) && decide (48 ≤ (y.toNat : Int)) && (decide ((y.toNat : Int) ≤ 57) || (decide (57 < (y.toNat : Int)) && decide (65 ≤ (y.toNat : Int))))
theorem hexOk_all : ∀ n, n < 256 → hexOk (UInt8.ofNat n) = true := by decide +kernel
theorem hexOk_any (y : UInt8) : hexOk y = true := by
  have := hexOk_all y.toNat y.toNat_lt
  rwa [UInt8.ofNat_toNat] at this
theorem hex_none {y : UInt8} (h : hexv y = none) : ∃ D : Int, Lib.indexByte hexDigs ((bits .or .u8 (y.toNat : Int) 32).toNat.toUInt8) = D ∧ (D < 0 ∨ (0 ≤ D ∧ (y.toNat : Int) < 48) ∨ (0 ≤ D ∧ 48 ≤ (y.toNat : Int) ∧ 57 < (y.toNat : Int) ∧ (y.toNat : Int) < 65)) := by
  refine ⟨_, rfl, ?_⟩
  have := hexOk_any y
  unfold hexOk at this
  rw [h] at this
  simp only [Bool.or_eq_true, Bool.and_eq_true, decide_eq_true_eq] at this
  omega
theorem hex_some {y : UInt8} {v : Nat} (h : hexv y = some v) : Lib.indexByte hexDigs ((bits .or .u8 (y.toNat : Int) 32).toNat.toUInt8) = (v : Int) ∧ v < 16 ∧ 48 ≤ (y.toNat : Int) ∧ ((y.toNat : Int) ≤ 57 ∨ (57 < (y.toNat : Int) ∧ 65 ≤ (y.toNat : Int))) := by
  have := hexOk_any y
  unfold hexOk at this
  rw [h] at this
  simp only [Bool.or_eq_true, Bool.and_eq_true, decide_eq_true_eq] at this
  omega
def hexs (l : List UInt8) : Option Nat := l.foldl (fun o y => o.bind fun m => (hexv y).map (m * 16 + ·)) (some 0)
theorem hexs_snoc (l : List UInt8) (y : UInt8) : hexs (l ++ [y]) = (hexs l).bind fun m => (hexv y).map (m * 16 + ·) := by simp [hexs]
theorem or_hex : ∀ m : Nat, m < 16 → ∀ v : Nat, v < 16 → bits .or .u8 (((m * 16 : Nat) : Int)) (v : Int) = ((m * 16 + v : Nat) : Int) := by decide +kernel
theorem idx_str (σ : ByteArray) (k : Nat) (h : k < σ.size) (w : World) : (Instr.index 9 (.string σ) (.int .i64 (k : Int))).run Tryd.prog w = .ok (.int .u8 ((σ[k]).toNat : Int)) w := by
  rw [run_index_string _ _ _ _ _ tyStr, dif_pos (by omega)]
  simp
theorem shortV_nat (k : Int) : ∃ V : Nat, shortV k = (V : Int) := by
  unfold shortV
  split
  · exact ⟨10, rfl⟩
  split
  · exact ⟨13, rfl⟩
  split
  · exact ⟨9, rfl⟩
  · exact ⟨0, rfl⟩
theorem hex16 {y : UInt8} {v : Nat} (h : hexv y = some v) : v < 16 := (hex_some h).2.1
theorem not92 (sp : List UInt8) : ¬ ((92 : UInt8).toNat < 32 ∨ 126 < (92 : UInt8).toNat ∨ ((92 : UInt8).toNat ≠ 92 ∧ sp.contains 92 = true)) := by
  have e : (92 : UInt8).toNat = 92 := rfl
  rw [e]
  rintro (h | h | h)
  · omega
  · omega
  · exact h.1 rfl
def hexL (r2 : List UInt8) : Nat × Nat × Int :=
  match r2 with
  | [] => (0, 2, 8)
  | x :: r3 => match hexv x with
    | none => (0, 2, 4)
    | some m => match r3 with
      | [] => (0, 3, 8)
      | y :: _ => match hexv y with
        | none => (0, 3, 4)
        | some k => (m * 16 + k, 4, 0)
theorem oneL_92 (d : UInt8) (r2 sp : List UInt8) : oneL (92 :: d :: r2) sp = if d.toNat = 110 then (10, 2, 0) else if d.toNat = 114 then (13, 2, 0) else if d.toNat = 116 then (9, 2, 0) else if sp.contains d = true then (d.toNat, 2, 0) else if d.toNat ≠ 120 then (0, 1, 4) else hexL r2 := by
  have e : (92 : UInt8).toNat = 92 := rfl
  unfold oneL
  simp only []
  rw [if_neg (not92 sp), if_neg (by rw [e]; simp)]
  rfl
theorem oneL_is {d : UInt8} {r2 sp : List UInt8} {V : Nat} (h : shortIs (d.toNat : Int) = true) (hV : shortV (d.toNat : Int) = (V : Int)) : oneL (92 :: d :: r2) sp = (V, 2, 0) := by
  rw [oneL_92]
  simp only [shortIs, Bool.or_eq_true, decide_eq_true_eq] at h
  unfold shortV at hV
  by_cases h1 : d.toNat = 110
  · rw [if_pos h1]; rw [if_pos (by omega)] at hV; have : V = 10 := by omega
    rw [this]
  by_cases h2 : d.toNat = 114
  · rw [if_neg h1, if_pos h2]; rw [if_neg (by omega), if_pos (by omega)] at hV; have : V = 13 := by omega
    rw [this]
  by_cases h3 : d.toNat = 116
  · rw [if_neg h1, if_neg h2, if_pos h3]; rw [if_neg (by omega), if_neg (by omega), if_pos (by omega)] at hV; have : V = 9 := by omega
    rw [this]
  · omega
theorem oneL_isn {d : UInt8} {r2 sp : List UInt8} (h : ¬ shortIs (d.toNat : Int) = true) : oneL (92 :: d :: r2) sp = if sp.contains d = true then (d.toNat, 2, 0) else if d.toNat ≠ 120 then (0, 1, 4) else hexL r2 := by
  rw [oneL_92]
  simp only [shortIs, Bool.or_eq_true, decide_eq_true_eq] at h
  rw [if_neg (by omega), if_neg (by omega), if_neg (by omega)]
theorem hexL_end {r2 : List UInt8} {k m : Nat} (hk : k < 2) (hl : r2.length = k) (hm : hexs (r2.take k) = some m) : hexL r2 = (0, 2 + k, 8) := by
  rcases r2 with _ | ⟨x, _ | ⟨y, r⟩⟩
  · simp at hl; subst hl; rfl
  · simp at hl; subst hl
    simp [hexs] at hm
    obtain ⟨v, hv⟩ : ∃ v, hexv x = some v := by
      cases h : hexv x with
      | none => rw [h] at hm; simp at hm
      | some v => exact ⟨v, rfl⟩
    simp [hexL, hv]
  · simp at hl; omega
theorem hexL_bad {r2 : List UInt8} {k m : Nat} (hk : k < 2) (hl : k < r2.length) (hm : hexs (r2.take k) = some m) (hn : hexv r2[k] = none) : hexL r2 = (0, 2 + k, 4) := by
  rcases r2 with _ | ⟨x, r⟩
  · simp at hl
  match k, hk with
  | 0, _ => simp at hn; simp [hexL, hn]
  | 1, _ =>
    rcases r with _ | ⟨y, r⟩
    · simp at hl
    · simp at hn
      simp [hexs] at hm
      cases h : hexv x with
      | none => rw [h] at hm; simp at hm
      | some v => simp [hexL, h, hn]
theorem hexL_ok {r2 : List UInt8} {m : Nat} (hl : 2 ≤ r2.length) (hm : hexs (r2.take 2) = some m) : hexL r2 = (m, 4, 0) := by
  rcases r2 with _ | ⟨x, _ | ⟨y, r⟩⟩
  · simp at hl
  · simp at hl
  · simp [hexs] at hm
    cases h : hexv x with
    | none => rw [h] at hm; simp at hm
    | some v =>
      rw [h] at hm
      cases h2 : hexv y with
      | none => rw [h2] at hm; simp at hm
      | some u => rw [h2] at hm; simp at hm; simp [hexL, h, h2, hm]
theorem hexs_lt : ∀ (l : List UInt8) (m : Nat), l.length ≤ 1 → hexs l = some m → m < 16
  | [], m, _, h => by simp [hexs] at h; omega
  | [x], m, _, h => by
    simp [hexs] at h
    cases hx : hexv x with
    | none => rw [hx] at h; simp at h
    | some v => rw [hx] at h; simp at h; have := hex16 hx; omega
  | _ :: _ :: _, _, hl, _ => by simp at hl
abbrev oneV (r : Nat × Nat × Int) : Value := .tuple #[.int .u8 (r.1 : Int), .int .i64 (r.2.1 : Int), .int .i64 r.2.2]
set_option maxHeartbeats 8000000 in
theorem one_any (t sp : List UInt8) (w : World) :
    Calls Tryd.prog 65 #[.string (strOf t), .string (strOf sp)] w fun e w' => e = .returned (oneV (oneL t sp)) ∧ Below w.heap.size w w' := by
  cases t with
  | nil =>
    have h0 : strOf [] = ⟨#[]⟩ := rfl
    rw [h0]
    go_enter Tryd.func65, Tryd.ntmps65
    go_wp2
    refine bodyPost_ret (v := oneV (0, 0, 8)) (by simp [results, Tryd.results65, go_sem]) rfl ?_
    exact ⟨rfl, Below.refl _ _⟩
  | cons c r =>
    have hl : (strOf (c :: r)).toList = c :: r := by simp [strOf, ByteArray.toList_eq]
    obtain ⟨σ, hσ, hsz, hg⟩ := strOf_name (c :: r)
    rw [hσ] at hl ⊢
    have hs : 0 < σ.size := by rw [hsz]; simp
    have e0 : σ[0] = c := hg.out 0 hs (by simp)
    have hne : (σ.toList == []) = false := by rw [hl]; rfl
    have hsl : (strOf sp).data.toList = sp := by simp [strOf]
    have hcc : (c.toNat : Int).toNat.toUInt8 = c := by simp
    clear hσ
    by_cases hlo : (c.toNat : Int) < 32
    · have hlo' : decide ((c.toNat : Int) < 32) = true := decide_eq_true hlo
      have Hlo := Lib.hid hlo
      go_enter Tryd.func65, Tryd.ntmps65
      go_wp2
      refine bodyPost_ret (v := oneV (0, 0, 4)) (by simp [results, Tryd.results65, go_sem]) rfl ?_
      refine ⟨?_, Below.refl _ _⟩
      have h3 : c.toNat < 32 := by have := Hlo.out; omega
      simp [oneL, h3]
    have hlo' : decide ((c.toNat : Int) < 32) = false := decide_eq_false hlo
    have Hlo := Lib.hid hlo
    clear hlo
    by_cases hhi : (126 : Int) < (c.toNat : Int)
    · have hhi' : decide ((126 : Int) < (c.toNat : Int)) = true := decide_eq_true hhi
      have Hhi := Lib.hid hhi
      go_enter Tryd.func65, Tryd.ntmps65
      go_wp2
      refine bodyPost_ret (v := oneV (0, 0, 4)) (by simp [results, Tryd.results65, go_sem]) rfl ?_
      refine ⟨?_, Below.refl _ _⟩
      have h3 : 126 < c.toNat := by have := Hhi.out; omega
      simp [oneL, h3]
    have hhi' : decide ((126 : Int) < (c.toNat : Int)) = false := decide_eq_false hhi
    have Hhi := Lib.hid hhi
    clear hhi
    by_cases h92 : (c.toNat : Int) = 92
    · have hc0 : c = 92 := UInt8.toNat_inj.1 (by have e : (92 : UInt8).toNat = 92 := rfl; rw [e]; omega)
      subst hc0
      clear h92 hlo' hhi' Hlo Hhi
      cases r with
      | nil =>
        have hs1 : (σ.size : Int) = 1 := by rw [hsz]; rfl
        go_enter Tryd.func65, Tryd.ntmps65
        go_wp2
        refine bodyPost_ret (v := oneV (0, 1, 8)) (by simp [results, Tryd.results65, go_sem]) rfl ?_
        exact ⟨by simp [oneL], Below.refl _ _⟩
      | cons d r2 =>
        have h2 : ¬ ((σ.size : Int) = 1) := by rw [hsz]; simp; omega
        have h2b : ((σ.size : Int) == 1) = false := by simpa using h2
        clear h2
        have hs1 : 1 < σ.size := by rw [hsz]; simp
        have e1 : σ[1] = d := hg.out 1 hs1 (by simp)
        have hsI : (1 : Int) < (σ.size : Int) := by omega
        have e1' : ∀ w : World, (Instr.index 9 (.string σ) (.int .i64 1)).run Tryd.prog w = .ok (.int .u8 (d.toNat : Int)) w := fun w => by have h := idx_str σ 1 hs1 w; rw [e1] at h; exact h
        have Hsz := Lib.hid hsz
        clear hsz
        have hI := (Inv.start w).alloc (.map shortE 3)
        have hlk := look_short (w.alloc (.map shortE 3)).drew w.heap.size (d.toNat : Int) (heap_alloc_new w (.map shortE 3))
        obtain ⟨V, hV⟩ : ∃ V : Nat, shortV (d.toNat : Int) = (V : Int) := shortV_nat _
        rw [hV] at hlk
        have HV := Lib.hid hV
        clear hV
        by_cases his : shortIs (d.toNat : Int) = true
        · rw [his] at hlk
          have Hs := Lib.hid his
          clear his
          go_enter Tryd.func65, Tryd.ntmps65
          go_wp2
          go_region_with (go_at_call 69; refine (short_any _).mono ?_; rintro e w1 ⟨rfl, rfl⟩)
          all_goals (go_wp2)
          all_goals (refine bodyPost_ret (v := oneV (V, 2, 0)) (by simp [results, Tryd.results65, go_sem]) rfl ?_)
          all_goals (exact ⟨by rw [oneL_is Hs.out HV.out], hI.drew.below⟩)
        have hisf : shortIs (d.toNat : Int) = false := by simpa using his
        rw [hisf] at hlk
        have Hs := Lib.hid (oneL_isn (r2 := r2) (sp := sp) his)
        have hcd : (d.toNat : Int).toNat.toUInt8 = d := by simp
        clear his hisf HV
        by_cases hc : sp.contains d = true
        · obtain ⟨i, hi⟩ : ∃ i, Lib.indexByte sp d = i := ⟨_, rfl⟩
          have h0 := index_yes hc
          rw [hi] at h0
          have Hc := Lib.hid hc
          have Hi := Lib.hid hi
          clear hc hi
          go_enter Tryd.func65, Tryd.ntmps65
          go_wp2
          go_region_with (go_at_call 69; refine (short_any _).mono ?_; rintro e w1 ⟨rfl, rfl⟩)
          all_goals (go_wp2_with (go_at_call 70; refine (Tryd.strings_IndexByte _ _ _).mono ?_; rw [hsl, hcd, Hi.out]; rintro e w1 ⟨rfl, rfl⟩))
          all_goals (refine bodyPost_ret (v := oneV (d.toNat, 2, 0)) (by simp [results, Tryd.results65, go_sem]) rfl ?_)
          all_goals (exact ⟨by rw [Hs.out, if_pos Hc.out], hI.drew.below⟩)
        have h0 := index_no (l := sp) (b := d) (by simpa using hc)
        have Hi := Lib.hid h0
        have Hc := Lib.hid hc
        clear hc h0
        by_cases hx : (d.toNat : Int) = 120
        · have hd0 : d = 120 := UInt8.toNat_inj.1 (by have e : (120 : UInt8).toNat = 120 := rfl; rw [e]; omega)
          subst hd0
          have Hl := Lib.hid (show oneL (92 :: 120 :: r2) sp = hexL r2 by rw [Hs.out, if_neg Hc.out, if_neg (by decide)])
          have H2 := Lib.hid (show ∀ k (h : k < r2.length) (h' : 2 + k < σ.size), σ[2 + k] = r2[k] by
            intro k h h'
            have := hg.out (2 + k) h' (by simp; omega)
            rw [this]
            simp [Nat.add_comm 2 k])
          have H3 := Lib.hid (show σ.size = 2 + r2.length by rw [Hsz.out]; simp; omega)
          clear Hs hx V hlk hg hl
          have hlk := look_short (w.alloc (.map shortE 3)).drew w.heap.size 120 (heap_alloc_new w (.map shortE 3))
          have e120 : shortV 120 = 0 := rfl
          have f120 : shortIs 120 = false := rfl
          rw [e120, f120] at hlk
          have hcd2 : (120 : Int).toNat.toUInt8 = 120 := rfl
          clear e120 f120 hcd
          go_enter Tryd.func65, Tryd.ntmps65
          go_wp2
          go_cut [7, 8] from 45 to 52 (fun x is wx => x = .int .u8 0 ∧ is = .bool false ∧ Inv w.heap.size w [] wx)
          case first =>
            go_region_with (go_at_call 69; refine (short_any _).mono ?_; rintro e w1 ⟨rfl, rfl⟩)
            all_goals (go_wp2; go_meet)
            all_goals exact ⟨rfl, rfl, hI.drew.sub (by simp)⟩
          case rest =>
          clear hI hlk
          obtain ⟨rfl, rfl, hI⟩ := hcut
          go_wp2_with (go_at_call 70; refine (Tryd.strings_IndexByte _ _ _).mono ?_; rw [hsl, hcd2, Hi.out]; rintro e w1 ⟨rfl, rfl⟩)
          clear hcd2 Hi Hc
          have hlit : (⟨#[48, 49, 50, 51, 52, 53, 54, 55, 56, 57, 97, 98, 99, 100, 101, 102]⟩ : ByteArray).data.toList = hexDigs := rfl
          have Hlit := Lib.hid hlit
          clear hlit
          go_loop [4, 9] (fun b i => ∃ k m : Nat, k ≤ 2 ∧ k ≤ r2.length ∧ i = .int .i64 (2 + (k : Int)) ∧ b = .int .u8 (m : Int) ∧ Hid (hexs (r2.take k) = some m)) (fun _ i => 4 - (intOf i).toNat)
          case atStart => exact ⟨0, 0, by omega, by omega, rfl, rfl, rfl⟩
          case round =>
            obtain ⟨k, m, hk, hkl, rfl, rfl, hm⟩ := hrel
            by_cases hk2 : k < 2
            · have hk4 : 2 + (k : Int) < 4 := by omega
              by_cases hend : k = r2.length
              · have hq : ((2 + (k : Int)) == (σ.size : Int)) = true := by
                  have := H3.out
                  rw [beq_iff_eq]; omega
                have Hend := Lib.hid hend
                clear hend hkl
                go_wp2
                refine bodyPost_ret (v := oneV (0, 2 + k, 8)) (by simp [results, Tryd.results65, go_sem]) rfl ?_
                exact ⟨by rw [Hl.out, hexL_end hk2 Hend.out.symm hm.out], hI.below⟩
              · have hkl2 : k < r2.length := by omega
                have hs2 : 2 + k < σ.size := by have := H3.out; omega
                have hq : ((2 + (k : Int)) == (σ.size : Int)) = false := by
                  have := H3.out
                  rw [beq_eq_false_iff_ne]; omega
                obtain ⟨y, hy⟩ : ∃ y, r2[k] = y := ⟨_, rfl⟩
                have ey : σ[2 + k] = y := (H2.out k hkl2 hs2).trans hy
                have iy : ∀ w : World, (Instr.index 9 (.string σ) (.int .i64 (2 + (k : Int)))).run Tryd.prog w = .ok (.int .u8 (y.toNat : Int)) w := fun w => by
                  have h := idx_str σ (2 + k) hs2 w
                  rw [ey] at h
                  have e2 : ((2 + k : Nat) : Int) = 2 + (k : Int) := by omega
                  rw [e2] at h
                  exact h
                have Hy := Lib.hid hy
                have Hb := Lib.hid (And.intro hkl2 hs2)
                clear hy ey hs2 hend hkl
                cases hv : hexv y with
                | none =>
                  obtain ⟨D, hD, hD3⟩ := hex_none hv
                  have HD := Lib.hid hD
                  have Hbad := Lib.hid (hexL_bad hk2 hkl2 hm.out (by rw [Hy.out]; exact hv))
                  clear hD hv
                  rcases hD3 with hA | ⟨hA, hB⟩ | ⟨hA, hB, hC, hE⟩
                  · go_wp2_with (go_at_call 70; refine (Tryd.strings_IndexByte _ _ _).mono ?_; rw [Hlit.out, HD.out]; rintro e w1 ⟨rfl, rfl⟩)
                    refine bodyPost_ret (v := oneV (0, 2 + k, 4)) (by simp [results, Tryd.results65, go_sem]) rfl ?_
                    exact ⟨by rw [Hl.out, Hbad.out], hI.below⟩
                  · go_wp2_with (go_at_call 70; refine (Tryd.strings_IndexByte _ _ _).mono ?_; rw [Hlit.out, HD.out]; rintro e w1 ⟨rfl, rfl⟩)
                    refine bodyPost_ret (v := oneV (0, 2 + k, 4)) (by simp [results, Tryd.results65, go_sem]) rfl ?_
                    exact ⟨by rw [Hl.out, Hbad.out], hI.below⟩
                  · go_wp2_with (go_at_call 70; refine (Tryd.strings_IndexByte _ _ _).mono ?_; rw [Hlit.out, HD.out]; rintro e w1 ⟨rfl, rfl⟩)
                    refine bodyPost_ret (v := oneV (0, 2 + k, 4)) (by simp [results, Tryd.results65, go_sem]) rfl ?_
                    exact ⟨by rw [Hl.out, Hbad.out], hI.below⟩
                | some v =>
                  obtain ⟨hD, hv16, hA, hB⟩ := hex_some hv
                  have HD := Lib.hid hD
                  have hm16 := hexs_lt (r2.take k) m (by rw [List.length_take]; omega) hm.out
                  have Hn := Lib.hid (show hexs (r2.take (k + 1)) = some (m * 16 + v) by
                    rw [List.take_succ_eq_append_getElem hkl2, Hy.out, hexs_snoc, hm.out]
                    simp [hv])
                  have hv0 : 0 ≤ (v : Int) := by omega
                  clear hD hv
                  rcases hB with hB | ⟨hB, hC⟩
                  all_goals
                    go_wp2_with (go_at_call 70; refine (Tryd.strings_IndexByte _ _ _).mono ?_; rw [Hlit.out, HD.out]; rintro e w1 ⟨rfl, rfl⟩)
                    go_round
                    case rel =>
                      refine ⟨k + 1, m * 16 + v, by omega, by omega, by go_num, ?_, Hn⟩
                      have e := or_hex m hm16 v hv16
                      have e2 : ((m * 16 : Nat) : Int) = (m : Int) * 16 := by omega
                      rw [e2] at e
                      rw [e]
                    case measure => simp [intOf]; omega
            · obtain rfl : k = 2 := by omega
              go_wp2
              refine bodyPost_ret (v := oneV (m, 4, 0)) (by simp [results, Tryd.results65, go_sem]) rfl ?_
              exact ⟨by rw [Hl.out, hexL_ok hkl hm.out], hI.below⟩
        · have hx' : ((d.toNat : Int) == 120) = false := by simp [hx]
          have Hx := Lib.hid hx
          clear hx
          go_enter Tryd.func65, Tryd.ntmps65
          go_wp2
          go_region_with (go_at_call 69; refine (short_any _).mono ?_; rintro e w1 ⟨rfl, rfl⟩)
          all_goals (go_wp2_with (go_at_call 70; refine (Tryd.strings_IndexByte _ _ _).mono ?_; rw [hsl, hcd, Hi.out]; rintro e w1 ⟨rfl, rfl⟩))
          all_goals (refine bodyPost_ret (v := oneV (0, 1, 4)) (by simp [results, Tryd.results65, go_sem]) rfl ?_)
          all_goals (exact ⟨by rw [Hs.out, if_neg Hc.out, if_pos (by have := Hx.out; omega)], hI.drew.below⟩)
    have hb92 : ((c.toNat : Int) == 92) = false := by simp [h92]
    have H92 := Lib.hid h92
    clear h92
    by_cases hc : sp.contains c = true
    · obtain ⟨i, hi⟩ : ∃ i, Lib.indexByte sp c = i := ⟨_, rfl⟩
      have h0 := index_yes hc
      rw [hi] at h0
      have Hc := Lib.hid hc
      have Hi := Lib.hid hi
      clear hc hi
      go_enter Tryd.func65, Tryd.ntmps65
      go_wp2_with (go_at_call 70; refine (Tryd.strings_IndexByte _ _ _).mono ?_; rw [hsl, hcc, Hi.out]; rintro e w1 ⟨rfl, rfl⟩)
      refine bodyPost_ret (v := oneV (0, 0, 4)) (by simp [results, Tryd.results65, go_sem]) rfl ?_
      refine ⟨?_, Below.refl _ _⟩
      have h3 : c.toNat ≠ 92 := by have := H92.out; omega
      have h4 := Hc.out
      simp only [oneL]
      rw [if_pos (Or.inr (Or.inr ⟨h3, h4⟩))]
    · have h0 := index_no (l := sp) (b := c) (by simpa using hc)
      have Hc := Lib.hid hc
      have Hi := Lib.hid h0
      clear hc h0
      go_enter Tryd.func65, Tryd.ntmps65
      go_wp2_with (go_at_call 70; refine (Tryd.strings_IndexByte _ _ _).mono ?_; rw [hsl, hcc, Hi.out]; rintro e w1 ⟨rfl, rfl⟩)
      refine bodyPost_ret (v := oneV (c.toNat, 1, 0)) (by simp [results, Tryd.results65, go_sem]) rfl ?_
      refine ⟨?_, Below.refl _ _⟩
      have h3 : c.toNat ≠ 92 := by have := H92.out; omega
      have h5 : ¬ (c.toNat < 32 ∨ 126 < c.toNat ∨ (c.toNat ≠ 92 ∧ sp.contains c = true)) := by
        have := Hlo.out
        have := Hhi.out
        rintro (h | h | h)
        · omega
        · omega
        · exact Hc.out h.2
      simp only [oneL]
      rw [if_neg h5, if_pos h3]
end Go.Proofs.YtcpgbakdfogilaaDoor
