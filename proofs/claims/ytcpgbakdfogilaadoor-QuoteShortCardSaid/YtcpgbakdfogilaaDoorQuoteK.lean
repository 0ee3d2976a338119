/- Contract of quote.Unliteral. -/
import Derived.Test.YtcpgbakdfogilaaDoorQuoteJ
import Derived.Laws.ResultCell
import Derived.IntWalk
namespace Go.Proofs.YtcpgbakdfogilaaDoor
open Go.RowKit Go.Shelf
set_option maxRecDepth 100000
attribute [local go_sem] Oper.semAt_some

theorem ownsRow_turn {W W' : World} {base k : Nat} {e : TypeId} {size : Nat} {v : Value} {xs : List Value} {A : Nat} (h : W.ownsRow base e size v k xs) (hg : W.grownBy W' (some A)) (hA : A < base) : W'.ownsRow base e size v k xs := by
  obtain ⟨h1, h2⟩ := h
  refine ⟨h1, h2.imp id ?_⟩
  rintro ⟨g, cap, cur, rfl, hb, hh, h3⟩
  exact ⟨g, cap, cur, rfl, hb, (hg.block g (lt_of_heap hh) (fun he => by cases he; omega)).trans hh, h3⟩
theorem ownsRow_from {W W' : World} {base k : Nat} {e : TypeId} {size : Nat} {v : Value} {xs : List Value} {row : Option Nat} (h : W.ownsRow base e size v k xs) (hg : W.grownBy W' row) (hr : ∀ r, row = some r → ∃ o : Obj, W.heap[r]? = some o ∧ o.isCells = false) : W'.ownsRow base e size v k xs := by
  obtain ⟨h1, h2⟩ := h
  refine ⟨h1, h2.imp id ?_⟩
  rintro ⟨g, cap, cur, rfl, hb, hh, h3⟩
  exact ⟨g, cap, cur, rfl, hb, (grownBy_keeps_cells hg hr hh rfl).trans hh, h3⟩
theorem boxed_turn {W W' : World} {B A : Nat} {t : TypeId} {v : Value} (h : Boxed W B t v) (hg : W.grownBy W' (some A)) (hne : B ≠ A) : Boxed W' B t v := h.kept hg (fun e => hne (by cases e; rfl))
theorem boxed_from {W W' : World} {B : Nat} {t : TypeId} {v : Value} {row : Option Nat} (h : Boxed W B t v) (hg : W.grownBy W' row) (hr : ∀ r, row = some r → ∃ o : Obj, W.heap[r]? = some o ∧ o.isCells = false) : Boxed W' B t v := (grownBy_keeps_cells hg hr h rfl).trans h

/-- 'out = append(out, ..)', the slice's box lying below its rows. -/
theorem appended2 {W w1 : World} {n n₀ B : Nat} {t e : TypeId} {size : Nat} {v v' : Value} {k m : Nat} {xs ys : List Value} {tmp : Obj}
    (hv : Boxed W B t v) (hte : t ≠ e) (hrow : W.ownsRow n₀ e size v k xs) (hn₀ : n₀ ≤ W.heap.size) (hn : n ≤ B) (hnn : n ≤ n₀)
    (hown' : w1.ownsRow n₀ e size v' m ys) (hgrow : (W.alloc tmp).grownBy w1 v.ownBlock) :
    Boxed w1 B t v ∧ Boxed (w1.setCell ⟨B, 0, none⟩ v') B t v' ∧ (w1.setCell ⟨B, 0, none⟩ v').ownsRow n₀ e size v' m ys ∧ KeepsOthers W (w1.setCell ⟨B, 0, none⟩ v') ∧ Below n W (w1.setCell ⟨B, 0, none⟩ v') ∧
      (∀ k, k < n₀ → k ≠ B → (w1.setCell ⟨B, 0, none⟩ v').heap[k]? = W.heap[k]?) := by
  have hv1 : Boxed w1 B t v := (hv.alloc tmp).kept hgrow (hv.not_row hte hrow)
  have hge : ∀ j, v.ownBlock = some j → n₀ ≤ j := fun j ej => by
    rcases hrow.2 with ⟨rfl, _⟩ | ⟨g, cap, cur, rfl, hb, _, _⟩
    · simp [Value.ownBlock] at ej
    · obtain rfl : g = j := by simpa [Value.ownBlock] using ej
      exact hb
  refine ⟨hv1, hv1.set v', hown'.kept (grownBy_setCell' w1 B v') (.inr (hv1.not_row hte hown').symm), ?_, ?_, ?_⟩
  · refine ((KeepsOthers.alloc W tmp).trans (KeepsOthers.of_grownBy hgrow fun j o ej hj => ?_)).trans (KeepsOthers.setCell _ _ _)
    rcases (hrow.alloc tmp).2 with ⟨rfl, _⟩ | ⟨g, cap, cur, rfl, _, hgb, _⟩
    · simp [Value.ownBlock] at ej
    · obtain rfl : g = j := by simpa [Value.ownBlock] using ej
      rw [hgb] at hj; cases hj; rfl
  · exact (((Below.refl n W).alloc (by omega) tmp).grown hgrow (by simp; omega) fun j ej => Nat.le_trans hnn (hge j ej)).setCell (p := ⟨B, 0, none⟩) hn v'
  · intro k hk hkB
    refine (Below.heap_setCell _ _ _ _ hkB).trans ((hgrow.block k (by simp; omega) (fun e => ?_)).trans (Below.heap_alloc _ _ _ (by omega)))
    have := hge k e.symm; omega

theorem row_sl {w : World} {b n : Nat} {e : TypeId} {size : Nat} {v : Value} {xs : List Value} (h : w.ownsRow b e size v n xs) : ∃ p c, v = .slice p n c := by
  rcases h.2 with ⟨rfl, rfl⟩ | ⟨g, cap, cur, rfl, _⟩
  · exact ⟨_, _, rfl⟩
  · exact ⟨_, _, rfl⟩

/-- Unliteral's own memory between two rounds. -/
structure UI (n : Nat) (w : World) (τ : List UInt8) (pre : List Sgn) (W : World) : Prop where
  ok : ∀ y ∈ pre, y.2.2.2 = 0
  bt : Boxed W n 9 (.string (strOf τ))
  r1 : Boxed W (n + 1) 9 (.string ⟨#[]⟩)
  r2 : Boxed W (n + 2) 3 (.int .i64 0)
  r3 : Boxed W (n + 3) 50 (.int .i64 0)
  row : ∃ v, Boxed W (n + 4) 41 v ∧ W.ownsRow (n + 8) 5 1 v pre.length (cellsOf (pre.map sgnB))
  below : Below n w W
  size : n + 8 ≤ W.heap.size
theorem UI.stays (n : Nat) (w : World) (τ : List UInt8) : Stays (n + 6) (n + 8) (UI n w τ) := by
  constructor
  · rintro s U U' ⟨h0, h1, h2, h3, h4, ⟨v, h5, h6⟩, h7, h8⟩ hg
    exact ⟨h0, boxed_turn h1 hg (by omega), boxed_turn h2 hg (by omega), boxed_turn h3 hg (by omega), boxed_turn h4 hg (by omega), ⟨v, boxed_turn h5 hg (by omega), ownsRow_turn h6 hg (by omega)⟩, h7.grown hg (by omega) (fun k e => by cases e; omega), Nat.le_trans h8 hg.size⟩
  · rintro s U U' row ⟨h0, h1, h2, h3, h4, ⟨v, h5, h6⟩, h7, h8⟩ hg hr
    have hr2 := fun r e => (hr r e).2
    exact ⟨h0, boxed_from h1 hg hr2, boxed_from h2 hg hr2, boxed_from h3 hg hr2, boxed_from h4 hg hr2, ⟨v, boxed_from h5 hg hr2, ownsRow_from h6 hg hr2⟩, h7.grown hg (by omega) (fun k e => by have := (hr k e).1; omega), Nat.le_trans h8 hg.size⟩
/-- The three results are laid. -/
theorem UI.res3 {n : Nat} {w : World} {τ : List UInt8} {pre : List Sgn} {W : World} (h : UI n w τ pre W) (s : ByteArray) (a e : Int) :
    KeepsOthers W (((W.setCell ⟨n + 1, 0, none⟩ (.string s)).setCell ⟨n + 2, 0, none⟩ (.int .i64 a)).setCell ⟨n + 3, 0, none⟩ (.int .i64 e)) ∧
    Boxed (((W.setCell ⟨n + 1, 0, none⟩ (.string s)).setCell ⟨n + 2, 0, none⟩ (.int .i64 a)).setCell ⟨n + 3, 0, none⟩ (.int .i64 e)) (n + 1) 9 (.string s) ∧
    Boxed (((W.setCell ⟨n + 1, 0, none⟩ (.string s)).setCell ⟨n + 2, 0, none⟩ (.int .i64 a)).setCell ⟨n + 3, 0, none⟩ (.int .i64 e)) (n + 2) 3 (.int .i64 a) ∧
    Boxed (((W.setCell ⟨n + 1, 0, none⟩ (.string s)).setCell ⟨n + 2, 0, none⟩ (.int .i64 a)).setCell ⟨n + 3, 0, none⟩ (.int .i64 e)) (n + 3) 50 (.int .i64 e) ∧
    Below n w (((W.setCell ⟨n + 1, 0, none⟩ (.string s)).setCell ⟨n + 2, 0, none⟩ (.int .i64 a)).setCell ⟨n + 3, 0, none⟩ (.int .i64 e)) ∧
    n + 8 ≤ (((W.setCell ⟨n + 1, 0, none⟩ (.string s)).setCell ⟨n + 2, 0, none⟩ (.int .i64 a)).setCell ⟨n + 3, 0, none⟩ (.int .i64 e)).heap.size :=
  ⟨((KeepsOthers.setCell _ _ _).trans (KeepsOthers.setCell _ _ _)).trans (KeepsOthers.setCell _ _ _), ((h.r1.set _).other (by omega) _).other (by omega) _, ((h.r2.other (by omega) _).set _).other (by omega) _, ((h.r3.other (by omega) _).other (by omega) _).set _,
    ((h.below.setCell (p := ⟨n + 1, 0, none⟩) (Nat.le_add_right _ _) _).setCell (p := ⟨n + 2, 0, none⟩) (Nat.le_add_right _ _) _).setCell (p := ⟨n + 3, 0, none⟩) (Nat.le_add_right _ _) _, by simpa [World.setCell] using h.size⟩
theorem UI.drew {n : Nat} {w : World} {τ : List UInt8} {pre : List Sgn} {W : World} (h : UI n w τ pre W) : UI n w τ pre W.drew := ⟨h.ok, h.bt, h.r1, h.r2, h.r3, h.row, h.below.drew, h.size⟩
/-- What lies behind the round that returns. -/
structure UX (n : Nat) (w : World) (τ : List UInt8) (c : Code) (pre' : List Sgn) (W : World) : Prop where
  ret : c = .ret
  size : n + 8 ≤ W.heap.size
  out : ∃ (pre : List Sgn) (x : Sgn) (R : List UInt8 × Nat × Int), pre' = pre ++ [x] ∧ (∀ y ∈ pre, y.2.2.2 = 0) ∧ x.2.2.2 ≠ 0 ∧ unlitEnd τ (pre.map sgnB) x = R ∧ Boxed W (n + 1) 9 (.string (strOf R.1)) ∧ Boxed W (n + 2) 3 (.int .i64 (R.2.1 : Int)) ∧ Boxed W (n + 3) 50 (.int .i64 R.2.2)
  below : Below n w W
theorem UX.stays (n : Nat) (w : World) (τ : List UInt8) (c : Code) : Stays (n + 6) (n + 8) (UX n w τ c) := by
  constructor
  · rintro s U U' ⟨h0, hz, ⟨pre, x, R, h1, h2, h3, h4, h5, h6, h7⟩, h8⟩ hg
    exact ⟨h0, Nat.le_trans hz hg.size, ⟨pre, x, R, h1, h2, h3, h4, boxed_turn h5 hg (by omega), boxed_turn h6 hg (by omega), boxed_turn h7 hg (by omega)⟩, h8.grown hg (by omega) (fun k e => by cases e; omega)⟩
  · rintro s U U' row ⟨h0, hz, ⟨pre, x, R, h1, h2, h3, h4, h5, h6, h7⟩, h8⟩ hg hr
    have hr2 := fun r e => (hr r e).2
    exact ⟨h0, Nat.le_trans hz hg.size, ⟨pre, x, R, h1, h2, h3, h4, boxed_from h5 hg hr2, boxed_from h6 hg hr2, boxed_from h7 hg hr2⟩, h8.grown hg (by omega) (fun k e => by have := (hr k e).1; omega)⟩
theorem UX_of {n : Nat} {w : World} {τ : List UInt8} {pre : List Sgn} {W : World} (h : UI n w τ pre W) {x : Sgn} (hx : x.2.2.2 ≠ 0) {R : List UInt8 × Nat × Int} (hR : unlitEnd τ (pre.map sgnB) x = R) {s : ByteArray} {a e : Int} (es : s = strOf R.1) (ea : a = (R.2.1 : Int)) (ee : e = R.2.2) {B : Nat} {Kp : World → World → Prop} {I : List Sgn → World → Prop} {a' : Act} {W2 : World}
    (hW : W2 = ((W.setCell ⟨n + 1, 0, none⟩ (.string s)).setCell ⟨n + 2, 0, none⟩ (.int .i64 a)).setCell ⟨n + 3, 0, none⟩ (.int .i64 e) ∨ W2 = (((W.setCell ⟨n + 1, 0, none⟩ (.string s)).setCell ⟨n + 2, 0, none⟩ (.int .i64 a)).setCell ⟨n + 3, 0, none⟩ (.int .i64 e)).drew) :
    ownPostG B Kp I (UX n w τ) (pre ++ [x]) W .ret a' W2 := by
  subst es ea ee
  obtain ⟨h1, h2, h3, h4, h5, h6⟩ := h.res3 (strOf R.1) (R.2.1 : Int) R.2.2
  rcases hW with rfl | rfl
  · exact ⟨h1.from _, rfl, h6, ⟨pre, x, R, rfl, h.ok, hx, hR, h2, h3, h4⟩, h5⟩
  · exact ⟨(h1.trans (KeepsOthers.drew _)).from _, rfl, h6, ⟨pre, x, R, rfl, h.ok, hx, hR, h2, h3, h4⟩, h5.drew⟩
theorem end_not {τ acc : List UInt8} {x : Sgn} (h : ¬ (x.2.2.1 = 0 ∧ x.2.2.2 = 4 ∧ τ[x.2.1]? = some 34)) : unlitEnd τ acc x = ([], x.2.1 + x.2.2.1, x.2.2.2) := by unfold unlitEnd; rw [if_neg h]
/-- A round's frame, and its own variable r. -/
def UA (n : Nat) (w : World) (τ : List UInt8) (fr : Sgn → Nat → Act) (pre : List Sgn) (x : Sgn) (a' : Act) (W : World) : Prop :=
  UI n w τ pre W ∧ ∃ g, n + 8 ≤ g ∧ W.heap[g]? = some (.cells #[.int .u8 (x.1 : Int), .int .i64 (x.2.1 : Int), .int .i64 ((x.2.1 : Int) + (x.2.2.1 : Int))] 76 (0, 0)) ∧ a' = fr x g
theorem UA.stays (n : Nat) (w : World) (τ : List UInt8) (fr : Sgn → Nat → Act) (pre : List Sgn) (x : Sgn) (a' : Act) : OwnFrom (n + 8) (fun (_ : Unit) W => UA n w τ fr pre x a' W) := by
  rintro s U U' row ⟨h0, g, hg8, hg, ha⟩ hgr hr
  exact ⟨(UI.stays n w τ).other _ _ _ _ h0 hgr hr, g, hg8, (grownBy_keeps_cells hgr (fun r e => (hr r e).2) hg rfl).trans hg, ha⟩

abbrev unV (r : List UInt8 × Nat × Int) : Value := .tuple #[.string (strOf r.1), .int .i64 (r.2.1 : Int), .int .i64 r.2.2]
set_option maxHeartbeats 8000000 in
theorem unlit_in (r : List UInt8) (hr : (34 :: r).length ≤ 100000) (w : World) :
    CallsIn Fence.wide 3 Tryd.prog 45 #[.string (strOf (34 :: r))] w fun e w' => e = .returned (unV (unlitF (34 :: r) ((34 :: r).length + 1) 1 [])) ∧ Below w.heap.size w w' := by
  obtain ⟨τ, hτ⟩ : ∃ τ, 34 :: r = τ := ⟨_, rfl⟩
  have h1 : 1 ≤ τ.length := by rw [← hτ]; simp
  have Hf := Lib.hid (show firstL τ 34 = 0 by rw [← hτ]; rfl)
  rw [hτ] at hr ⊢
  clear hτ
  obtain ⟨i0, hi, hz0, hz1, hz2⟩ := info_parts tBytes.info
  refine callsIn_of_wp_marks Tryd.func45 rfl trivial ?_ rfl
  simp only [Tryd.ntmps45, List.size_toArray, List.length_cons, List.length_nil, Nat.reduceAdd, Nat.reduceSub, Array.replicate_succ, Array.replicate_zero, List.push_toArray, List.append_toArray, List.nil_append, List.cons_append]
  gi_wp2_with (first | (refine ⟨trivial, ?_⟩; gi_at_call 62; refine (callsIn_wide.2 (first_any _ 34 _)).mono ?_; rw [Hf.out]; rintro e w' ⟨rfl, rfl⟩) | (refine ⟨trivial, ?_⟩; gi_at_call 63; refine (callsIn_wide.2 (signs_any _ inText 1 _)).mono ?_; rintro e w' ⟨rfl, rfl⟩))
  simp only [Nat.add_assoc, Nat.reduceAdd]
  have hI := ((((((((Inv.start w).alloc (.cells #[.string (strOf τ)] 9)).alloc (.cells #[.string ⟨#[]⟩] 9)).alloc (.cells #[.int .i64 0] 3)).alloc (.cells #[.int .i64 0] 50)).alloc (.cells #[.slice none 0 0] 41)).alloc (.cells #[.string (strOf τ)] 9)).alloc (.cells #[.int .i64 1] 3)).alloc (.cells #[.string (strOf inText)] 9)
  simp only [World.size_alloc, Nat.add_assoc, Nat.reduceAdd] at hI
  have hsz : ((((((((w.alloc (.cells #[.string (strOf τ)] 9)).alloc (.cells #[.string ⟨#[]⟩] 9)).alloc (.cells #[.int .i64 0] 3)).alloc (.cells #[.int .i64 0] 50)).alloc (.cells #[.slice none 0 0] 41)).alloc (.cells #[.string (strOf τ)] 9)).alloc (.cells #[.int .i64 1] 3)).alloc (.cells #[.string (strOf inText)] 9)).heap.size = w.heap.size + 8 := by simp
  generalize ((((((((w.alloc (.cells #[.string (strOf τ)] 9)).alloc (.cells #[.string ⟨#[]⟩] 9)).alloc (.cells #[.int .i64 0] 3)).alloc (.cells #[.int .i64 0] 50)).alloc (.cells #[.slice none 0 0] 41)).alloc (.cells #[.string (strOf τ)] 9)).alloc (.cells #[.int .i64 1] 3)).alloc (.cells #[.string (strOf inText)] 9)) = W0 at *
  have hCaps : Caps τ inText (w.heap.size + 5) 1 W0 := ⟨hI.at (by simp), hI.at (by simp), hI.at (by simp)⟩
  have hUI : UI w.heap.size w τ [] W0 := ⟨by simp, hI.at (by simp), hI.at (by simp), hI.at (by simp), hI.at (by simp), ⟨_, hI.at (g := w.heap.size + 4) (o := .cells #[.slice none 0 0] 41) (by simp), World.ownsRow_nil _ _ _ _⟩, hI.below, by omega⟩
  have hS := UI.stays w.heap.size w τ
  have hX := UX.stays w.heap.size w τ
  have hA := fun fr => UA.stays w.heap.size w τ fr
  rw [← hsz] at hS hX hA
  refine range_turns rfl (by decide) (gf := 71) (lb := #[.pointer (some ⟨w.heap.size + 5, 0, none⟩), .pointer (some ⟨w.heap.size + 5 + 1, 0, none⟩), .pointer (some ⟨w.heap.size + 5 + 2, 0, none⟩)]) rfl trivial (enters_of Tryd.func71 (by kernel_rfl) rfl)
    (signs_turns τ inText (w.heap.size + 5) 1 h1 (by omega) W0 hCaps) (by omega) (fun h k i h1 h2 => (k i h1 h2).trans (h i h1 h2)) (fun W l o o' hl h _ _ i h1 h2 => World.putObj_heap_other (by omega)) (Below.refl _ _) (fun _ => rfl)
    (UI w.heap.size w τ) (UX w.heap.size w τ) hS hX hUI
    (UA w.heap.size w τ (fun x g => { tmps := #[.string (strOf τ), .pointer (some ⟨w.heap.size, 0, none⟩), .pointer (some ⟨w.heap.size + 1, 0, none⟩), .pointer (some ⟨w.heap.size + 2, 0, none⟩), .pointer (some ⟨w.heap.size + 3, 0, none⟩), .int .i64 0, .pointer (some ⟨w.heap.size + 4, 0, none⟩), .pointer (some ⟨g, 0, none⟩), .int .i64 x.2.2.2, .string (strOf τ), .int .i64 0, .int .i64 0, .bool false, undef, .string (strOf τ), .func (.func 71) #[] #[.pointer (some ⟨w.heap.size + 5, 0, none⟩), .pointer (some ⟨w.heap.size + 6, 0, none⟩), .pointer (some ⟨w.heap.size + 7, 0, none⟩)], .agg #[.int .u8 (x.1 : Int), .int .i64 (x.2.1 : Int), .int .i64 ((x.2.1 : Int) + (x.2.2.1 : Int))], .int .i64 x.2.2.2, undef, undef, undef, undef, undef, undef, undef, undef, undef, undef, undef, undef, undef, undef, undef, undef, undef, undef, undef, undef, undef, undef, undef, undef, undef, undef, undef, undef, undef, undef, undef, undef, undef, undef, undef, undef], defers := [] })) (fun pre x a' => hA _ pre x a') ?assign ?body ?done ?stop
  case assign =>
    rintro l pre ⟨b, p, k, e⟩ W K hsp hU hK
    gi_wp2
    exact hK _ _ ((KeepsOthers.alloc _ _).from _) (fun i h1 h2 => Below.heap_alloc _ _ _ (by have := hU.size; omega)) ⟨hS.other.alloc (s := pre) _ hU, W.heap.size, hU.size, heap_alloc_new W _, rfl⟩
  case body =>
    rintro l pre ⟨b, p, k, e⟩ a' W hsp ⟨hU, g, hg8, hg, rfl⟩
    obtain ⟨hp, hke, hb⟩ := signs_mem inText τ _ _ _ h1 (mem_of_pre hsp)
    have hlen := hsp.length_le
    have hlen2 := signs_len inText τ (τ.length + 1) 1
    rw [List.length_append, List.length_singleton] at hlen
    dsimp only at hp hke hb hg
    obtain ⟨v, hv, hrow⟩ := hU.row
    have gsz := lt_of_heap hg
    have c0 := cell_of_row _ g 0 _ _ _ hg
    have c1 := cell_of_row _ g 1 _ _ _ hg
    have c2 := cell_of_row _ g 2 _ _ _ hg
    have ct := hU.bt.cell
    have cb := hv.cell
    have hpk := oneL_le (τ.drop p) inText
    rw [← hke, List.length_drop] at hpk
    by_cases he : e = 0
    · subst he
      have hb256 : b < 256 := by rw [hb]; exact oneL_byte _ _
      have hbU : (b : Int) = ((sgnB (b, p, k, 0)).toNat : Int) := by unfold sgnB; rw [u8_nat _ hb256]
      rw [hbU] at c0
      clear hke hb hpk
      have Hlen := Lib.hid (And.intro hlen hlen2)
      clear hlen hlen2 hbU hb256 c1 c2
      gi_wp2_with (gi_at_builtin; refine wpListIn_append_own _ rfl _ _ 41 rfl (w.heap.size + 8) 5 i0 (.int .u8 0) 1 1 tBytes.slice hi hz0 hz1 hz2 rfl (by decide) _ _ _ rfl (hrow.alloc _) ⟨W.heap.size, 0, none⟩ 1 1 [.int .u8 ((sgnB (b, p, k, 0)).toNat : Int)] rfl rfl (cell_one_new _ _ _) (by simp [Value.oneCell']) (by have := Hlen.out; unfold maxLen; omega) (by have := Hlen.out; omega) (by have := hU.size; simp; omega) ?_; intro v' w1 hown' hgrow _; obtain ⟨g', cap', rfl⟩ := ownsRow_succ hown'; obtain ⟨hv1, hv2, hr2, hk2, hb2, ho2⟩ := appended2 (n := w.heap.size) hv (by decide) hrow hU.size (by omega) (by omega) hown' hgrow; have hc1 := hv1.cell; have hf1 := hv1.frozen)
      have hr3 : (w1.setCell ⟨w.heap.size + 4, 0, none⟩ (.slice (some ⟨g', 0, none⟩) (pre.length + 1) cap')).ownsRow (w.heap.size + 8) 5 1 (.slice (some ⟨g', 0, none⟩) (pre.length + 1) cap') (pre ++ [(b, p, k, 0)]).length (cellsOf ((pre ++ [(b, p, k, 0)]).map sgnB)) := by
        rw [List.map_append, List.map_singleton, ← cells_snoc, List.length_append]; exact hr2
      refine ⟨hk2.from _, fun i h1 h2 => ho2 i (by omega) (by omega), ⟨fun y hy => ?_, (ho2 _ (by omega) (by omega)).trans hU.bt, (ho2 _ (by omega) (by omega)).trans hU.r1, (ho2 _ (by omega) (by omega)).trans hU.r2, (ho2 _ (by omega) (by omega)).trans hU.r3, ⟨_, hv2, hr3⟩, hU.below.trans hb2, Nat.le_trans hU.size hb2.size⟩⟩
      rcases List.mem_append.1 hy with hy | hy
      · exact hU.ok y hy
      · rw [List.mem_singleton.1 hy]
    · have he4 : (e == 0) = false := by simpa using he
      have Hok := Lib.hid (And.intro hU.ok he)
      have hres := hU.res3
      have f1 := hU.r1.cell
      have f2 := hU.r2.cell
      have f3 := hU.r3.cell
      have f4 := hU.r1.frozen
      have f5 := hU.r2.frozen
      have f6 := hU.r3.frozen
      have n1 : w.heap.size + 1 ≠ g := by omega
      have n2 : w.heap.size + 2 ≠ g := by omega
      have n3 : w.heap.size + 3 ≠ g := by omega
      have m1 : g ≠ w.heap.size + 1 := by omega
      have m2 : g ≠ w.heap.size + 2 := by omega
      have m3 : g ≠ w.heap.size + 3 := by omega
      have hple : (p : Int) + (k : Int) ≤ 100000 := by omega
      have Hres := Lib.hid hres
      have Hpk := Lib.hid hpk
      have Hke := Lib.hid hke
      clear hres hpk hke hb hlen hlen2 c0
      by_cases hk : k = 0
      · subst hk
        have c2' : W.cell? ⟨g, 2, none⟩ = some (.int .i64 (p : Int)) := by rw [c2]; simp
        clear c2
        by_cases he44 : e = 4
        · subst he44
          have hpl : p < τ.length := by
            have := oneL_none (t := τ.drop p) (sp := inText) (by rw [← Hke.out])
            rw [List.length_drop] at this; omega
          obtain ⟨σ, hσ, hsz2, hgt⟩ := strOf_name τ
          obtain ⟨c, hc⟩ : ∃ c, τ[p] = c := ⟨_, rfl⟩
          have hs : p < σ.size := by omega
          have ec : σ[p] = c := (hgt.out p hs hpl).trans hc
          have ix : ∀ w : World, (Instr.index 9 (.string (strOf τ)) (.int .i64 (p : Int))).run Tryd.prog w = .ok (.int .u8 (c.toNat : Int)) w := fun w => by
            have := idx_str σ p hs w
            rw [ec, ← hσ] at this
            exact this
          have hq : τ[p]? = some c := by rw [List.getElem?_eq_getElem hpl, hc]
          have Hq := Lib.hid hq
          clear hσ hsz2 hgt hc hs ec hq
          by_cases h34 : c = 34
          · subst h34
            by_cases hbig : 255 < pre.length
            · have hbig2 : (255 : Int) < (pre.length : Int) := by omega
              have hR : unlitEnd τ (pre.map sgnB) (b, p, 0, 4) = ([], 0, 40) := by
                unfold unlitEnd
                rw [if_pos ⟨rfl, rfl, Hq.out⟩, if_pos (by simpa using hbig)]
              have HR := Lib.hid hR
              clear hR hbig
              obtain ⟨pv, cv, rfl⟩ := row_sl hrow
              gi_wp2
              all_goals exact UX_of hU (by exact Hok.out.2) HR.out rfl rfl rfl (Or.inl rfl)
            · have hbig2 : ¬ (255 : Int) < (pre.length : Int) := by omega
              have hR : unlitEnd τ (pre.map sgnB) (b, p, 0, 4) = (pre.map sgnB, p + 1, 0) := by
                unfold unlitEnd
                rw [if_pos ⟨rfl, rfl, Hq.out⟩, if_neg (by simpa using hbig)]
              have HR := Lib.hid hR
              clear hR hbig
              have hpp : IntKind.i64.wrap ((p : Int) + 1) = (p : Int) + 1 := IntWalk.i64_in _ (by omega)
              have hconv := run_conv_str (P := Tryd.prog) (W := W.drew) tBytes.slice tyStr tyU8 (pre.map sgnB) hrow
              obtain ⟨pv, cv, rfl⟩ := row_sl hrow
              gi_wp2
              gi_region
              all_goals gi_wp2
              all_goals exact UX_of hU (by exact Hok.out.2) HR.out rfl (by show (p : Int) + 1 = ((p + 1 : Nat) : Int); omega) rfl (Or.inr rfl)
          · have hne : ((c.toNat : Int) == 34) = false := by
              rw [beq_eq_false_iff_ne]; intro h; exact h34 (UInt8.toNat_inj.1 (by have e34 : (34 : UInt8).toNat = 34 := rfl; omega))
            have HR := Lib.hid (end_not (τ := τ) (acc := pre.map sgnB) (x := (b, p, 0, 4)) (fun h => h34 (by have := h.2.2.symm.trans Hq.out; cases this; rfl)))
            clear h34
            gi_wp2
            gi_region
            all_goals gi_wp2
            all_goals exact UX_of hU (by exact Hok.out.2) HR.out rfl rfl rfl (Or.inr rfl)
        · have he4b : (e == 4) = false := by simpa using he44
          have HR := Lib.hid (end_not (τ := τ) (acc := pre.map sgnB) (x := (b, p, 0, e)) (fun h => he44 h.2.1))
          clear he44
          gi_wp2
          gi_region
          all_goals gi_wp2
          all_goals exact UX_of hU (by exact Hok.out.2) HR.out rfl rfl rfl (Or.inr rfl)
      · have hk2 : ((p : Int) + (k : Int) == (p : Int)) = false := by rw [beq_eq_false_iff_ne]; omega
        have HR := Lib.hid (end_not (τ := τ) (acc := pre.map sgnB) (x := (b, p, k, e)) (fun h => hk h.1))
        clear hk
        gi_wp2
        gi_region
        all_goals gi_wp2
        all_goals exact UX_of hU (by exact Hok.out.2) HR.out rfl (by show (p : Int) + (k : Int) = ((p + k : Nat) : Int); omega) rfl (Or.inr rfl)
  case done =>
    rintro D xs W hD rfl hU hK
    obtain ⟨y, hy, hne⟩ := signs_last inText τ (τ.length + 1) 1 h1 (by omega)
    exact absurd (hU.ok y hy) hne
  case stop =>
    rintro D c pre W hD hsp ⟨rfl, hz, ⟨pre, x, R, rfl, hok, hx, hR, b1, b2, b3⟩, hbl⟩ hK
    have hF : unlitF τ (τ.length + 1) 1 [] = R := by rw [unlit_pre τ pre _ _ [] x hsp hok hx, List.nil_append, hR]
    have hp : ∀ (B : Nat) (t : TypeId) (v : Value), B < D → Boxed W B t v → (W.putObj D (.deferred none)).cell? ⟨B, 0, none⟩ = some v := fun B t v hB h => (show Boxed (W.putObj D (.deferred none)) B t v from (World.putObj_heap_other (by omega)).trans h).cell
    have q1 := hp _ _ _ (by omega) b1
    have q2 := hp _ _ _ (by omega) b2
    have q3 := hp _ _ _ (by omega) b3
    gi_wp2
    refine ⟨by simp, .inl ⟨_, _, rfl, run_takeDeferred hK, ?_⟩⟩
    refine ⟨unV R, ?_, by rw [hF], hbl.trans (belowK_b (w := w) (Nat.le_refl _) W D _ _ (by omega) hK rfl rfl)⟩
    simp [results, Tryd.results45, go_sem, q1, q2, q3]
theorem unlitF_eq (r : List UInt8) : unlitL (34 :: r) = unlitF (34 :: r) ((34 :: r).length + 1) 1 [] := by simp [unlitL]
set_option maxHeartbeats 2000000 in
/-- quote.Unliteral. -/
theorem unliteral_any (τ : List UInt8) (hτ : τ.length ≤ 100000) (w : World) :
    Calls Tryd.prog 45 #[.string (strOf τ)] w fun e w' => e = .returned (unV (unlitL τ)) ∧ Below w.heap.size w w' := by
  by_cases h0 : firstL τ 34 = 0
  · cases τ with
    | nil => simp [firstL] at h0
    | cons c r =>
      obtain rfl : c = 34 := by
        simp only [firstL] at h0
        split at h0
        · assumption
        · simp at h0
      rw [unlitF_eq]
      exact callsIn_wide.1 (unlit_in r hτ w)
  · have he : unlitL τ = ([], 0, firstL τ 34) := by
      cases τ with
      | nil => rfl
      | cons c r =>
        simp only [firstL] at h0
        simp only [unlitL, firstL]
        split at h0
        · exact absurd rfl h0
        · rename_i h; rw [if_neg h, if_neg h]
    rw [he]
    obtain ⟨e, hf⟩ : ∃ e, firstL τ 34 = e := ⟨_, rfl⟩
    rw [hf] at h0
    have h0b : (e == 0) = false := by simpa using h0
    have Hf := Lib.hid hf
    rw [hf]
    clear hf he h0
    have hI := (((Inv.start w).alloc (.cells #[.string (strOf τ)] 9)).alloc (.cells #[.string ⟨#[]⟩] 9)).alloc (.cells #[.int .i64 0] 3) |>.alloc (.cells #[.int .i64 e] 50)
    go_enter Tryd.func45, Tryd.ntmps45
    go_wp2_with (go_at_call 62; refine (first_any _ 34 _).mono ?_; rw [Hf.out]; rintro e w' ⟨rfl, rfl⟩)
    exact bodyPost_ret (v := unV ([], 0, e)) (by simp [results, Tryd.results45, go_sem, strOf]) rfl ⟨rfl, hI.below⟩
end Go.Proofs.YtcpgbakdfogilaaDoor
