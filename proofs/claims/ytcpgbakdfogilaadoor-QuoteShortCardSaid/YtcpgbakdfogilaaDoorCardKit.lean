/- What the cards of this seat share: the table, sets as arguments, a law that answers true and turns nothing. -/
import Derived.Test.YtcpgbakdfogilaaDoorCards
import Derived.Test.YtcpgbakdfogilaaDoorTie
import Derived.Test.YtcpgbakdfogilaaDoorSetI
import Derived.WalkKit
import Derived.ProofKit
import Derived.OpenShut
import Derived.ChangeMaps5
import Derived.Deep.DeepHandedRow
import Derived.Lib.LaidTab
import Derived.Laws.IdiomArrays
namespace Go.Proofs.YtcpgbakdfogilaaDoor
open Go.ChangeShapes Go.WideShapes Go.ChangeAt Go.RowKit
set_option maxRecDepth 100000

theorem own : ownKnob Tryd.prog.godebug = none := by kernel_rfl
theorem gTab : Tryd.prog.globalNamed "math/bits.deBruijn64tab" = some 0 := by kernel_rfl
theorem gTabType : (Tryd.prog.globals[0]?).map (·.type) = some 85 := by kernel_rfl
theorem tyTab : Tryd.prog.underlying 85 = some (.array 64 5) := by kernel_rfl
theorem tyU64 : Tryd.prog.underlying 22 = some (.int .u64) := by kernel_rfl
theorem tyBool : Tryd.prog.underlying 4 = some .bool := by kernel_rfl
theorem clTab : Tryd.prog.cellsOf 85 = 64 := by kernel_rfl
theorem clU8 : Tryd.prog.cellsOf 5 = 1 := by kernel_rfl
theorem clU64 : Tryd.prog.cellsOf 22 = 1 := by kernel_rfl
theorem clSet : Tryd.prog.cellsOf 24 = 4 := by kernel_rfl
abbrev laidL : List (String × DataW Unit) := [("math/bits.deBruijn64tab", Rows.laid_math_bits_deBruijn64tab)]
/-- The row's list gives the table. -/
theorem table {W : World} (h : laidMetH Tryd.prog laidL W) : Tb W := by
  have h1 : Lib.TabIs Tryd.prog W "math/bits.deBruijn64tab" .u8 (Lib.deBruijn64tab.map fun n => ((n : Nat) : Int)) :=
    Lib.tabIs_of_head (rest := []) gTab gTabType tyTab tyU8 clU8 clTab h
  intro j hj
  have h2 := h1.cell gTab j (by simpa using hj)
  rw [h2]
  simp [List.getD, hj]

abbrev dataS (H : Type) (s : Nat) : DataW H := .agg [.lit (.int .u64 (w64 s 0)), .lit (.int .u64 (w64 s 1)), .lit (.int .u64 (w64 s 2)), .lit (.int .u64 (w64 s 3))]
theorem list4 {α : Type} (l : List α) (h : (⟨l⟩ : Array α).size = 4) : ∃ a b c d, l = [a, b, c, d] := by
  match l, h with
  | [a, b, c, d], _ => exact ⟨a, b, c, d, rfl⟩
theorem of_words {a b c d : Int} (a0 : 0 ≤ a ∧ a ≤ 18446744073709551615) (b0 : 0 ≤ b ∧ b ≤ 18446744073709551615) (c0 : 0 ≤ c ∧ c ≤ 18446744073709551615) (d0 : 0 ≤ d ∧ d ≤ 18446744073709551615) :
    ∃ s, s < 2 ^ 256 ∧ w64 s 0 = a ∧ w64 s 1 = b ∧ w64 s 2 = c ∧ w64 s 3 = d := by
  refine ⟨a.toNat + 2 ^ 64 * (b.toNat + 2 ^ 64 * (c.toNat + 2 ^ 64 * d.toNat)), by omega, ?_⟩
  unfold w64
  refine ⟨?_, ?_, ?_, ?_⟩ <;> simp only [Nat.mul_zero, Nat.pow_zero, Nat.div_one, Nat.mul_one, show (64 * 2 : Nat) = 128 from rfl, show (64 * 3 : Nat) = 192 from rfl] <;> omega

section
variable {H : Type} {enc : TypeId × Value → H} {W : World} {base : Nat} {sp : Nat → Bool} {held : Bool}
/-- A set that comes in. -/
theorem open_set {r : Reach} {b0 : Nat} {v : Value} {d : DataW H} {ps : List MemPlace} (hval : Value.okWide Tryd.prog W r b0 24 v) (hd : DataW.Trod enc Tryd.prog W base sp held 24 v d ps) :
    ∃ s, v = setV s ∧ d = dataS H s ∧ ps = [] ∧ s < 2 ^ 256 := by
  obtain ⟨cs, rfl, hsz, _⟩ : ∃ cs, v = .agg cs ∧ cs.size = Tryd.prog.cellsOf 24 ∧ Row.okWide Tryd.prog W r b0 24 cs := by
    simpa [Value.okWide, tySet] using hval
  rw [clSet] at hsz
  obtain ⟨l⟩ := cs
  obtain ⟨c0, c1, c2, c3, rfl⟩ := list4 l hsz
  obtain ⟨fuel, hf⟩ := hd
  obtain ⟨y0, y1, y2, y3, m, hx, hy0, hy1, hy2, hy3⟩ := trod_array4 tySet clU64 hf
  obtain ⟨x0, e0, rfl, w0⟩ := DataW.trod_int tyU64 hy0
  obtain ⟨x1, e1, rfl, w1⟩ := DataW.trod_int tyU64 hy1
  obtain ⟨x2, e2, rfl, w2⟩ := DataW.trod_int tyU64 hy2
  obtain ⟨x3, e3, rfl, w3⟩ := DataW.trod_int tyU64 hy3
  simp at e0 e1 e2 e3
  subst e0 e1 e2 e3
  simp only [Prod.mk.injEq] at hx
  obtain ⟨rfl, rfl⟩ := hx
  obtain ⟨s, hs, rfl, rfl, rfl, rfl⟩ := of_words (bounds_u64 w0) (bounds_u64 w1) (bounds_u64 w2) (bounds_u64 w3)
  exact ⟨s, rfl, rfl, rfl, hs⟩
theorem wf_word (s i : Nat) : (Lit.int .u64 (w64 s i)).wf = true := by
  have h0 := w64_nonneg s i
  have h1 := w64_lt s i
  generalize w64 s i = x at *
  simp [Lit.wf, IntKind.min, IntKind.max, IntKind.signed, IntKind.bits]
  omega
/-- A set reads as it did. -/
theorem shut_set (s : Nat) : DataW.Trod enc Tryd.prog W base sp held 24 (setV s) (dataS H s) [] := by
  have w0 := wf_word s 0
  have w1 := wf_word s 1
  have w2 := wf_word s 2
  have w3 := wf_word s 3
  exact ⟨2, by simp [DataW.trod, Value.cells, tySet, tyU64, clSet, clU64, w0, w1, w2, w3, show List.range 4 = [0, 1, 2, 3] from rfl]⟩
end

/-- A law that writes below none of the old blocks, whose arguments hold no places. -/
theorem post_below {H : Type} {enc : TypeId × Value → H} {P : Program} {f : Func} {s : ChangeSpec} {apart fresh handsOn again : Bool} {W W' : World} {args : Array Value} {v : Value} {ds gs : List (DataW H)}
    (hW : DataW.Whole enc P f.params.toList s.vars apart W args.toList ds gs [])
    (hres : ∀ (b : Nat) (sp : Nat → Bool) (hd : Bool), DataW.TrodAll enc P W' b sp hd f.resultTypes.toList (v.resultList f.resultTypes.size) (s.fn H (ds ++ gs)).results [])
    (hargs : ∀ sp : Nat → Bool, DataW.TrodAll enc P W' 0 sp true f.params.toList args.toList (s.fn H (ds ++ gs)).args [])
    (hvars : ∀ sp : Nat → Bool, DataW.TrodVars enc P W' sp s.vars (s.fn H (ds ++ gs)).vars []) (hb : Below W.heap.size W W')
    (hok : ∀ (j : Nat) (t : TypeId) (r : Value), f.resultTypes[j]? = some t → (v.resultList f.resultTypes.size)[j]? = some r → Value.okWide P W' .any 0 t r) :
    s.post enc P f apart fresh handsOn again W args v W' := by
  refine ⟨ds, gs, [], [], [], [], hW, hres _ _ _, hargs _, hvars _, World.keptBut_mono (fun p hp => by cases hp) (hb.frame (fun _ => False)), fun _ => ?_⟩
  exact ⟨hok, _, _, ([] ++ []) ++ [], ⟨[] ++ [], [], trodAll_append (hargs _) (hres _ _ _), hvars _, rfl, (fun b off hp => by cases hp), by simp⟩, by simp⟩

/-- A world for the witness: the settled one, the table holding what its initialiser lays. -/
noncomputable def laidWorld (os : Os) (args : Array Value) : World :=
  { World.holding Tryd.prog os ⟨#[], args, []⟩ with heap := (World.holding Tryd.prog os ⟨#[], args, []⟩).heap.modify 0 fun
      | .cells _ t frozen => .cells ((Lib.deBruijn64tab.map fun n => Value.int .u8 ((n : Nat) : Int)).toArray) t frozen
      | o => o }
end Go.Proofs.YtcpgbakdfogilaaDoor
