/- bonsailaw03.QuoteBack, at every input, answers true and turns nothing; the table of math/bits lies as its initialiser lays it. No other condition. -/
import Derived.Test.YtcpgbakdfogilaaDoorCardKit
import Derived.Test.YtcpgbakdfogilaaDoorQuoteR
import Derived.SizedLaws
namespace Go.Proofs.YtcpgbakdfogilaaDoor.quoteBack
open Go.ChangeShapes Go.WideShapes Go.ChangeAt Go.RowKit Go.ChangeMaps
set_option maxRecDepth 100000

theorem contract (H : Type) (enc : TypeId × Value → H) (W : World) (base : Nat) (args : Array Value) (ds gs : List (DataW H)) (before : List MemPlace)
    (hval : ∀ (j : Nat) t v, Tryd.f9.params[j]? = some t → args[j]? = some v → Value.okWide Tryd.prog W .any base t v)
    (hW : DataW.Whole enc Tryd.prog Tryd.f9.params.toList Rows.quoteBackSpec.vars false W args.toList ds gs before) (hsz : (DataW.weightsEach Tryd.prog (Tryd.f9.params.toList ++ (OpenSpec.ofChange Rows.quoteBackSpec).bare.plain.varTypes Tryd.prog) (ds ++ gs)).all (· ≤ reachBytes) = true) (hL : laidMetH Tryd.prog laidL W) :
    Calls Tryd.prog 9 args W fun e W' => ∃ v, e = .returned v ∧ Rows.quoteBackSpec.post enc Tryd.prog Tryd.f9 false true false false W args v W' := by
  have hT := table hL
  have hW' := hW
  obtain ⟨p, q, hA0, hV, rfl, hfz, hnd⟩ := hW
  have hA : DataW.TrodAll enc Tryd.prog W 0 (fun _ => true) true Tryd.f9.params.toList args.toList ds p := hA0
  rw [Tryd.params9] at hA hval hsz
  obtain ⟨v0, vs0, d0, ds0, p0, q0, hargs, rfl, rfl, h0, r0⟩ := trodAll_cons hA
  obtain ⟨v1, vs1, d1, ds1, p1, q1, rfl, rfl, rfl, h1, r1⟩ := trodAll_cons r0
  obtain ⟨v2, vs2, d2, ds2, p2, q2, rfl, rfl, rfl, h2, r2⟩ := trodAll_cons r1
  obtain ⟨v3, vs3, d3, ds3, p3, q3, rfl, rfl, rfl, h3, r3⟩ := trodAll_cons r2
  obtain ⟨rfl, rfl, rfl⟩ := trodAll_nil r3
  obtain rfl : args = #[v0, v1, v2, v3] := by cases args; simp_all
  obtain ⟨rfl, rfl⟩ := trodVars_none hV
  obtain ⟨σ0, rfl, rfl, rfl, b0⟩ := open_string tyStr (hval 0 9 v0 rfl rfl) h0
  have z0 := sized_string hsz (j := 0) (t := 9) rfl rfl
  obtain ⟨a0, rfl⟩ : ∃ l, σ0 = strOf l := ⟨σ0.data.toList, by simp [strOf]⟩
  replace z0 : a0.length ≤ 2 ^ 60 := by simp [strOf, reachBytes] at z0; omega
  obtain ⟨σ1, rfl, rfl, rfl, b1⟩ := open_string tyStr (hval 1 9 v1 rfl rfl) h1
  have z1 := sized_string hsz (j := 1) (t := 9) rfl rfl
  obtain ⟨a1, rfl⟩ : ∃ l, σ1 = strOf l := ⟨σ1.data.toList, by simp [strOf]⟩
  replace z1 : a1.length ≤ 2 ^ 60 := by simp [strOf, reachBytes] at z1; omega
  obtain ⟨a2, rfl, rfl, rfl, b2⟩ := open_set (hval 2 24 v2 rfl rfl) h2
  obtain ⟨σ3, rfl, rfl, rfl, b3⟩ := open_string tyStr (hval 3 9 v3 rfl rfl) h3
  have z3 := sized_string hsz (j := 3) (t := 9) rfl rfl
  obtain ⟨a3, rfl⟩ : ∃ l, σ3 = strOf l := ⟨σ3.data.toList, by simp [strOf]⟩
  replace z3 : a3.length ≤ 2 ^ 60 := by simp [strOf, reachBytes] at z3; omega
  clear hA0
  simp only [List.append_nil] at hW'
  refine (back_any a0 a1 a3 a2 b2 z0 z1 z3 W hT).mono fun e W' ⟨he, hg⟩ => ?_
  subst he
  exact ⟨_, rfl, post_below hW' (fun _ _ _ => trodAll_cons_mk (shut_bool tyBool _) trodAll_mk0) (fun _ => trodAll_cons_mk (shut_string tyStr b0) (trodAll_cons_mk (shut_string tyStr b1) (trodAll_cons_mk (shut_set a2) (trodAll_cons_mk (shut_string tyStr b3) (trodAll_mk0))))) (fun _ => rfl)
    hg (ok_one (by kernel_rfl) rfl (okWide_bool_mk tyBool _))⟩

abbrev wit : Array Value := #[.string ⟨#[]⟩, .string ⟨#[]⟩, .agg #[.int .u64 0, .int .u64 0, .int .u64 0, .int .u64 0], .string ⟨#[]⟩]
theorem laid_met (os : Os) : laidMet Tryd.prog laidL ((laidWorld os wit).forCall (fun _ _ => 0) ⟨#[], wit, []⟩).memory :=
  laidMet_of_run' 8 (by kernel_rfl) (by kernel_rfl)
theorem reads (os : Os) {H : Type} (enc : TypeId × Value → H) : ∃ places, DataW.whole enc Tryd.prog ((laidWorld os wit).forCall (fun _ _ => 0) ⟨#[], wit, []⟩).memory Tryd.f9.params.toList Rows.quoteBackSpec.vars false wit.toList 8 = some ([.lit (.string []), .lit (.string []), .agg [.lit (.int .u64 0), .lit (.int .u64 0), .lit (.int .u64 0), .lit (.int .u64 0)], .lit (.string [])], [], places) :=
  ⟨[], by kernel_rfl⟩

theorem lifted (os : Os) (started : os.Started) (H : Type) (enc : TypeId × Value → H) (F : Stop.Interp) :
    ReturnsInHanded {} Tryd.checked os 9 .any ((OpenSpec.ofChange Rows.quoteBackSpec).preRow enc Tryd.prog Tryd.f9 Rows.quoteBackRow.domain false Rows.quoteBackRow.laid) (((OpenSpec.ofChange Rows.quoteBackSpec).at F).post enc Tryd.prog Tryd.f9 false true false false) := by
  obtain ⟨places, hx⟩ := reads os enc
  refine returnsInHanded_of_row (C := Tryd.checked) (s := OpenSpec.ofChange Rows.quoteBackSpec) own started (by kernel_rfl) Tryd.func9
    (witness_row_at (enc := enc) (C := Tryd.checked) false (laidWorld os wit) wit rfl (by kernel_rfl) (by kernel_rfl) (by kernel_rfl)
      (OpenSpec.preRow_of_cond 8 hx (by kernel_rfl) (fun k hk => by cases hk) (by kernel_rfl) (laid_met os))) ?_
  intro W base args ds gs before hval hW _ _ hsz hL _ _
  exact contract H enc W base args ds gs before hval hW hsz hL

theorem said : Rows.QuoteBackSaid :=
  OpenClaim.holds_of_cond 9 Tryd.f9 rfl rfl rfl rfl rfl rfl rfl ⟨rfl, rfl, rfl, rfl, rfl⟩ rfl rfl rfl rfl rfl (by kernel_rfl) Tryd.func9 (by kernel_rfl)
    (of_decide_eq_true (by kernel_rfl)) (by unfold Func.isWrapper; first | (rw [if_pos (by decide +kernel)]; kernel_rfl) | (rw [if_neg (by decide +kernel)]; exact ⟨rfl, rfl⟩))
    (fun os started H enc _ F => by rw [OpenClaim.pre_eq_preRow]; exact lifted os started H enc F)

theorem plain (f : FuncId) (fn : Func) (hf : Tryd.pinned.checked.prog.funcNamed "bonsai/bonsailaw03.QuoteBack" = some f) (hfn : Tryd.pinned.checked.prog.funcs[f]? = some fn) :
    false = Tryd.pinned.checked.prog.looks [] ∧ ∀ (j : Nat) t, fn.params[j]? = some t → Tryd.pinned.checked.prog.wantsStandIn t = false := by
  obtain rfl : f = 9 := Option.some.inj ((show Tryd.prog.funcNamed "bonsai/bonsailaw03.QuoteBack" = some 9 by kernel_rfl).symm.trans hf) |>.symm
  obtain rfl : fn = Tryd.f9 := (Option.some.inj (Tryd.func9.symm.trans hfn)).symm
  refine ⟨by kernel_rfl, fun j t ht => ?_⟩
  rw [Tryd.params9] at ht
  have hm : t ∈ ([9, 9, 24, 9] : List TypeId) := by simpa using Array.mem_of_getElem? ht
  have hall : (([9, 9, 24, 9] : List TypeId).all fun u => !Tryd.prog.wantsStandIn u) = true := by kernel_rfl
  exact (show Tryd.prog.wantsStandIn t = false by simpa using List.all_eq_true.1 hall t hm)

theorem card : Rows.QuoteBackCardSaid :=
  Claim7.holds_tied_plain_at .later [] _ _ _ _ said (fun _ h => by cases h) (by kernel_rfl) (fun _ h => by cases h) quoteBack_row_tie rfl ⟨rfl, rfl⟩ (by kernel_rfl) rfl plain (by kernel_rfl)
end Go.Proofs.YtcpgbakdfogilaaDoor.quoteBack
