/- The iterator quote.signs: its contract. -/
import Derived.Test.YtcpgbakdfogilaaDoorQuoteH
import Derived.Test.YtcpgbakdfogilaaDoorTurn
import Derived.Deep.RegionHeldLaw
namespace Go.Proofs.YtcpgbakdfogilaaDoor
open Go.RowKit Go.Shelf
set_option maxRecDepth 100000
attribute [local go_sem] Oper.semAt_some

/-- A sign: its byte, where it stands, how long it is, the error. -/
abbrev Sgn := Nat × Nat × Nat × Int
abbrev sgnV (x : Sgn) : Array Value := #[.agg #[.int .u8 (x.1 : Int), .int .i64 (x.2.1 : Int), .int .i64 ((x.2.1 : Int) + (x.2.2.1 : Int))], .int .i64 x.2.2.2]
/-- The signs from a place on, up to what is none. -/
def signsF (sp τ : List UInt8) : Nat → Nat → List Sgn
  | 0, _ => []
  | f + 1, p => ((oneL (τ.drop p) sp).1, p, (oneL (τ.drop p) sp).2.1, (oneL (τ.drop p) sp).2.2) :: if (oneL (τ.drop p) sp).2.2 = 0 then signsF sp τ f (p + (oneL (τ.drop p) sp).2.1) else []
theorem hexL_le (r2 : List UInt8) : (hexL r2).2.1 ≤ 2 + r2.length ∧ 1 ≤ (hexL r2).2.1 := by
  unfold hexL
  repeat' split
  all_goals simp
  all_goals omega
theorem oneL_le (t sp : List UInt8) : (oneL t sp).2.1 ≤ t.length ∧ ((oneL t sp).2.2 = 0 → 1 ≤ (oneL t sp).2.1) := by
  cases t with
  | nil => simp [oneL]
  | cons c r =>
    by_cases h92 : c = 92
    · subst h92
      cases r with
      | nil => simp [oneL]
      | cons d r2 =>
        rw [oneL_92]
        have := hexL_le r2
        repeat' split
        all_goals simp
        all_goals omega
    · have h : c.toNat ≠ 92 := fun e => h92 (UInt8.toNat_inj.1 (by rw [e]; rfl))
      unfold oneL
      simp only []
      split
      · simp
      · simp
theorem oneL_byte (t sp : List UInt8) : (oneL t sp).1 < 256 := by
  cases t with
  | nil => simp [oneL]
  | cons c r =>
    by_cases h92 : c = 92
    · subst h92
      cases r with
      | nil => simp [oneL]
      | cons d r2 =>
        rw [oneL_92]
        have hd := d.toNat_lt
        have hh : (hexL r2).1 < 256 := by
          rcases r2 with _ | ⟨x, r3⟩
          · simp [hexL]
          · cases hx : hexv x with
            | none => simp [hexL, hx]
            | some m =>
              have := hex16 hx
              rcases r3 with _ | ⟨y, r4⟩
              · simp [hexL, hx]
              · cases hy : hexv y with
                | none => simp [hexL, hx, hy]
                | some k => have := hex16 hy; simp [hexL, hx, hy]; omega
        repeat' split
        all_goals simp
        all_goals omega
    · have h : c.toNat ≠ 92 := fun e => h92 (UInt8.toNat_inj.1 (by rw [e]; rfl))
      have hc := c.toNat_lt
      unfold oneL
      simp only []
      split
      · simp
      · exact hc
theorem slice_from (τ : List UInt8) (p : Nat) (hp : p ≤ τ.length) (w : World) : (Instr.slice 9 (.string (strOf τ)) (some (.int .i64 (p : Int))) none none).run Tryd.prog w = .ok (.string (strOf (τ.drop p))) w := by
  rw [run_slice_string_from_if _ _ _ _ _ tyStr, if_pos ⟨by omega, by rw [strOf_size]; omega⟩]
  congr 2
  rw [strOf_size]
  unfold strOf
  apply ByteArray.ext
  apply Array.ext'
  simp
  exact List.take_of_length_le (by simp)
/-- The place that the iterator's variable holds. -/
def atOf (A : Nat) (w : World) : Nat := match w.cell? ⟨A, 0, none⟩ with | some v => (intOf v).toNat | none => 0
theorem atOf_of {A : Nat} {w : World} {p : Nat} (h : w.cell? ⟨A, 0, none⟩ = some (.int .i64 (p : Int))) : atOf A w = p := by unfold atOf; rw [h]; simp [intOf]
theorem Below.toGrown {w w' : World} (h : Below w.heap.size w w') (row : Option Nat) : w.grownBy w' row := ⟨h.os, h.tape, h.output, h.size, fun k hk _ => h.block k hk⟩
/-- The three captured variables. -/
structure Caps (τ sp : List UInt8) (B p : Nat) (w : World) : Prop where
  t : Boxed w B 9 (.string (strOf τ))
  at_ : Boxed w (B + 1) 3 (.int .i64 (p : Int))
  sp : Boxed w (B + 2) 9 (.string (strOf sp))
theorem boxed_below {W W' : World} {n B : Nat} {t : TypeId} {v : Value} (h : Boxed W B t v) (hB : B < n) (hb : Below n W W') : Boxed W' B t v := (hb.block B hB).trans h
theorem Caps.below {τ sp : List UInt8} {B p n : Nat} {w w' : World} (h : Caps τ sp B p w) (hB : B + 2 < n) (hb : Below n w w') : Caps τ sp B p w' := ⟨boxed_below h.t (by omega) hb, boxed_below h.at_ (by omega) hb, boxed_below h.sp hB hb⟩
theorem Caps.call {τ sp : List UInt8} {B p : Nat} {w w' : World} (h : Caps τ sp B p w) (hb : Below w.heap.size w w') : Caps τ sp B p w' := ⟨boxed_below h.t h.t.lt hb, boxed_below h.at_ h.at_.lt hb, boxed_below h.sp h.sp.lt hb⟩
/-- The three captured variables lie as they lay. -/
def KeepsAt (B : Nat) (U U' : World) : Prop := ∀ k, B ≤ k → k < B + 3 → U'.heap[k]? = U.heap[k]?
theorem Caps.keeps {τ sp : List UInt8} {B p : Nat} {w w' : World} (h : Caps τ sp B p w) (hb : KeepsAt B w w') : Caps τ sp B p w' := ⟨(hb B (Nat.le_refl _) (by omega)).trans h.t, (hb (B + 1) (by omega) (by omega)).trans h.at_, (hb (B + 2) (by omega) (by omega)).trans h.sp⟩
theorem Caps.drew {τ sp : List UInt8} {B p : Nat} {w : World} (h : Caps τ sp B p w) : Caps τ sp B p w.drew := ⟨h.t, h.at_, h.sp⟩
theorem Caps.set {τ sp : List UInt8} {B p : Nat} {w : World} (h : Caps τ sp B p w) (q : Nat) : Caps τ sp B q (w.setCell ⟨B + 1, 0, none⟩ (.int .i64 (q : Int))) := ⟨h.t.other (by omega) _, h.at_.set _, h.sp.other (by omega) _⟩

set_option maxHeartbeats 8000000 in
theorem signs1_in (l B : Nat) (τ sp : List UInt8) (p0 : Nat) (hp0 : p0 ≤ τ.length) (hτ : τ.length ≤ 100000) (J Jx : List Sgn → World → Prop)
    (hJ : ∀ s U U', J s U → U.grownBy U' (some (B + 1)) → J s U') (hJx : ∀ s U U', Jx s U → U.grownBy U' (some (B + 1)) → Jx s U')
    (hY : ∀ pre (x : Sgn) W, pre ++ [x] <+: signsF sp τ (τ.length + 1) p0 → J pre W → YieldAt Fence.wide (2 - 1) Tryd.prog l (sgnV x) W fun e W' =>
      (e = .returned (.bool true) ∧ J (pre ++ [x]) W' ∧ KeepsAt B W W') ∨ (e = .returned (.bool false) ∧ Jx (pre ++ [x]) W'))
    (W : World) (hC : Caps τ sp B p0 W) (h0 : J [] W) :
    CallsIn Fence.wide 2 Tryd.prog 71 #[.func (.yield l) #[] #[], .pointer (some ⟨B, 0, none⟩), .pointer (some ⟨B + 1, 0, none⟩), .pointer (some ⟨B + 2, 0, none⟩)] W fun e W' => (∃ v, e = .returned v) ∧
      ((∃ ys, ys = signsF sp τ (τ.length + 1) p0 ∧ J ys W') ∨ (∃ pre, pre <+: signsF sp τ (τ.length + 1) p0 ∧ Jx pre W')) := by
  refine callsIn_of_wp Tryd.func71 rfl trivial ?_ rfl
  simp only [Tryd.ntmps71, List.size_toArray, List.length_cons, List.length_nil, Nat.reduceAdd, Nat.reduceSub, Array.replicate_succ, Array.replicate_zero, List.push_toArray, List.append_toArray, List.nil_append, List.cons_append]
  gi_wp2
  gi_loopw [] (fun wr => ∃ (p f : Nat) (pre : List Sgn), Caps τ sp B p wr ∧ J pre wr ∧ p ≤ τ.length ∧ τ.length - p < f ∧ Hid (signsF sp τ (τ.length + 1) p0 = pre ++ signsF sp τ f p)) (fun wr => τ.length - atOf (B + 1) wr)
  case atStart => exact ⟨p0, τ.length + 1, [], hC, h0, hp0, by omega, rfl⟩
  case round =>
    clear hC h0
    obtain ⟨p, f, pre, hC, hJp, hp, hf, hS⟩ := hrel
    obtain ⟨f, rfl⟩ : ∃ g, f = g + 1 := ⟨f - 1, by omega⟩
    have hsl := fun w => slice_from τ p hp w
    obtain ⟨o, ho⟩ : ∃ o, oneL (τ.drop p) sp = o := ⟨_, rfl⟩
    obtain ⟨b, n, e⟩ := o
    have hole := oneL_le (τ.drop p) sp
    rw [ho, List.length_drop] at hole
    have hS2 : signsF sp τ (f + 1) p = (b, p, n, e) :: if e = 0 then signsF sp τ f (p + n) else [] := by rw [signsF, ho]
    rw [hS2] at hS
    have cT := hC.t.cell
    have cA := hC.at_.cell
    have cS := hC.sp.cell
    have Hat := Lib.hid (atOf_of cA)
    have Ho := Lib.hid ho
    have HS := Lib.hid hS
    have Hle := Lib.hid hole
    clear hS hS2 ho hole
    gi_wp2
    refine wpIn_wide.2 ?_
    go_region_held_law (fun w' => w'.cell? ⟨B, 0, none⟩ = some (.string (strOf τ)) ∧ w'.cell? ⟨B + 1, 0, none⟩ = some (.int .i64 (p : Int)) ∧ w'.cell? ⟨B + 2, 0, none⟩ = some (.string (strOf sp))) (go_keep)
      (first | (go_at_call 65; refine (one_any _ _ _).mono ?_; rw [Ho.out]; rintro e1 w1 ⟨rfl, hb⟩; replace hC := hC.drew.call hb; replace hJp := hJ _ _ _ hJp (Below.toGrown (w := wr) ((Below.refl _ wr).drew.trans hb) _); clear cT cA cS hb; have cT := hC.t.cell; have cA := hC.at_.cell; have cS := hC.sp.cell))
    have hpn : (p : Int) + (n : Int) ≤ 100000 := by have := Hle.out; omega
    have hp0' : 0 ≤ (p : Int) + (n : Int) := by omega
    obtain ⟨fn, tmps, assign, body, hy, hRd⟩ := hY pre (b, p, n, e) w1 (by rw [HS.out.out]; exact ⟨_, List.append_assoc pre [_] _⟩) hJp
    have hy2 : (Instr.yield l #[.agg #[.int .u8 (b : Int), .int .i64 (p : Int), .int .i64 ((p : Int) + (n : Int))], .int .i64 e]).run Tryd.prog w1 = _ := hy
    clear hy
    by_cases he : e = 0
    · subst he
      gi_wp2
      refine hRd.mono ?_
      rintro e W3 (⟨rfl, hJ3, hk3⟩ | ⟨rfl, hJx3⟩)
      · replace hC := hC.keeps hk3
        clear hY hy2 hRd cT cA cS
        have cA := hC.at_.cell
        have fA := hC.at_.frozen
        gi_wp2
        have hle := Hle.out.1
        have hle1 := Hle.out.2 trivial
        have ec : (p : Int) + (n : Int) = ((p + n : Nat) : Int) := by omega
        rw [ec]
        have hC2 := hC.set (p + n)
        refine ⟨⟨p + n, f, pre ++ [(b, p, n, 0)], hC2, hJ _ _ _ hJ3 (grownBy_setCell' _ _ _), by omega, by omega, ?_⟩, ?_⟩
        · have h := HS.out.out
          exact h.trans (by simp)
        · rw [atOf_of hC2.at_.cell, Hat.out]; omega
      · clear hY hy2 hRd cT cA cS
        gi_wp2
        refine bodyPost_ret (results_none rfl _ _ _) rfl ?_
        exact ⟨⟨_, rfl⟩, .inr ⟨_, by rw [HS.out.out]; exact ⟨_, List.append_assoc pre [_] _⟩, hJx3⟩⟩
    · have he2 : (e == 0) = false := by simpa using he
      gi_wp2
      refine hRd.mono ?_
      rintro e W3 (⟨rfl, hJ3, hk3⟩ | ⟨rfl, hJx3⟩)
      · clear hY hy2 hRd cT cA cS
        gi_wp2
        refine bodyPost_ret (results_none rfl _ _ _) rfl ?_
        exact ⟨⟨_, rfl⟩, .inl ⟨_, by rw [HS.out.out, if_neg he], hJ3⟩⟩
      · clear hY hy2 hRd cT cA cS
        gi_wp2
        refine bodyPost_ret (results_none rfl _ _ _) rfl ?_
        exact ⟨⟨_, rfl⟩, .inr ⟨_, by rw [HS.out.out]; exact ⟨_, List.append_assoc pre [_] _⟩, hJx3⟩⟩

set_option maxHeartbeats 1000000 in
/-- quote.signs: three boxes; the function value captures them. -/
theorem signs_any (τ sp : List UInt8) (p : Int) (w : World) :
    Calls Tryd.prog 63 #[.string (strOf τ), .int .i64 p, .string (strOf sp)] w fun e w' => e = .returned (.func (.func 71) #[] #[.pointer (some ⟨w.heap.size, 0, none⟩), .pointer (some ⟨w.heap.size + 1, 0, none⟩), .pointer (some ⟨w.heap.size + 2, 0, none⟩)]) ∧ w' = ((w.alloc (.cells #[.string (strOf τ)] 9)).alloc (.cells #[.int .i64 p] 3)).alloc (.cells #[.string (strOf sp)] 9) := by
  go_enter Tryd.func63, Tryd.ntmps63
  go_wp2
  go_ret
  exact ⟨rfl, rfl⟩
theorem signs_turns (τ sp : List UInt8) (B p0 : Nat) (hp0 : p0 ≤ τ.length) (hτ : τ.length ≤ 100000) (w : World) (hC : Caps τ sp B p0 w) :
    SeqTurns Fence.wide 2 Tryd.prog 71 #[.pointer (some ⟨B, 0, none⟩), .pointer (some ⟨B + 1, 0, none⟩), .pointer (some ⟨B + 2, 0, none⟩)] sgnV (B + 1) (KeepsAt B) (fun ys => ys = signsF sp τ (τ.length + 1) p0) (fun pre => pre <+: signsF sp τ (τ.length + 1) p0) w := fun l J Jx W hW hJ hJx hY h0 =>
  signs1_in l B τ sp p0 hp0 hτ J Jx hJ hJx hY W (hC.call hW) h0
end Go.Proofs.YtcpgbakdfogilaaDoor
