/- What quote.Unclass tells: plain; contract of strings.HasPrefix for one byte. -/
import Derived.Test.YtcpgbakdfogilaaDoorQuoteL
namespace Go.Proofs.YtcpgbakdfogilaaDoor
open Go.RowKit
set_option maxRecDepth 100000

/-- What stands at an item's place: what is wrong, by how far behind it; or its two bytes and its length. -/
def itemR (t : List UInt8) : Sum (Nat × Int) (Nat × Nat × Nat) :=
  if (oneL t inClass).2.2 ≠ 0 then .inl ((oneL t inClass).2.1, (oneL t inClass).2.2)
  else if (t.drop (oneL t inClass).2.1).head? = some 45 then
    (if (oneL (t.drop ((oneL t inClass).2.1 + 1)) inClass).2.2 ≠ 0 then .inl ((oneL t inClass).2.1 + 1 + (oneL (t.drop ((oneL t inClass).2.1 + 1)) inClass).2.1, (oneL (t.drop ((oneL t inClass).2.1 + 1)) inClass).2.2)
     else if (oneL (t.drop ((oneL t inClass).2.1 + 1)) inClass).1 < (oneL t inClass).1 then .inl (0, 4)
     else .inr ((oneL t inClass).1, (oneL (t.drop ((oneL t inClass).2.1 + 1)) inClass).1, (oneL t inClass).2.1 + 1 + (oneL (t.drop ((oneL t inClass).2.1 + 1)) inClass).2.1))
  else .inr ((oneL t inClass).1, (oneL t inClass).1, (oneL t inClass).2.1)
def unclsF (τ : List UInt8) (neg : Bool) : Nat → Nat → Nat → Nat × Nat × Int
  | 0, _, _ => (0, 0, 4)
  | f + 1, p, s =>
    match τ.drop p with
    | [] => (0, p, 8)
    | c :: r => if c = 93 then (if neg then s ^^^ full else s, p + 1, 0)
      else match itemR (c :: r) with
        | .inl (k, e) => (0, p + k, e)
        | .inr (a, b, k) => unclsF τ neg f (p + k) (s ||| rng (a : Int) ((b : Int) + 1))
def unclassL (τ : List UInt8) : Nat × Nat × Int :=
  match τ with
  | [] => (0, 0, 8)
  | c :: r => if c = 91 then (if r.head? = some 94 then unclsF τ true (τ.length + 1) 2 0 else unclsF τ false (τ.length + 1) 1 0) else (0, 0, 4)

theorem slice_one (c : UInt8) (l : List UInt8) (w : World) : (Instr.slice 9 (.string (strOf (c :: l))) none (some (.int .i64 1)) none).run Tryd.prog w = .ok (.string ⟨#[c]⟩) w := by
  rw [run_slice_string_to_if _ _ _ _ _ tyStr, if_pos ⟨by omega, by rw [strOf_size]; simp; omega⟩]
  congr 2
  unfold strOf
  apply ByteArray.ext
  apply Array.ext'
  simp
set_option maxHeartbeats 4000000 in
/-- strings.HasPrefix: of one byte. -/
theorem prefix_any (τ : List UInt8) (c : UInt8) (hl : τ.length ≤ 100000) (w : World) :
    Calls Tryd.prog 64 #[.string (strOf τ), .string ⟨#[c]⟩] w fun e w' => e = .returned (.bool (decide (τ.head? = some c))) ∧ w' = w := by
  have h1 : (⟨#[c]⟩ : ByteArray).size = 1 := rfl
  cases τ with
  | nil =>
    have h0 : (strOf []).size = 0 := rfl
    go_enter Tryd.func64, Tryd.ntmps64
    go_wp2
    go_ret
    exact ⟨rfl, rfl⟩
  | cons b l =>
    have hs := strOf_size (b :: l)
    have hsl := fun w => slice_one b l w
    have hge : (1 : Int) ≤ ((strOf (b :: l)).size : Int) := by rw [hs]; simp; omega
    clear hs
    go_enter Tryd.func64, Tryd.ntmps64
    go_wp2
    go_ret
    exact ⟨ret_bool (by show (b == c) = _; simp [Bool.beq_eq_decide_eq]), rfl⟩
end Go.Proofs.YtcpgbakdfogilaaDoor
