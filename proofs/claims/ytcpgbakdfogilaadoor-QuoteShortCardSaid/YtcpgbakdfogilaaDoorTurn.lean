/- A range over a function whose iterator turns one block of its own (a captured variable) from round to round. -/
import Derived.Test.YtcpgbakdfogilaaDoorInv
import Derived.RangeFuncBox
import Derived.RangeFuncNested
import Derived.RangeFuncLeaves
namespace Go.Proofs.YtcpgbakdfogilaaDoor
open Go.RowKit
variable {F : Fence} {n : Nat} {P : Program}

/-- The iterator's contract: what it does between rounds may turn block A (and make blocks); a round keeps Kp. -/
def SeqTurns {α : Type} (F : Fence) (n : Nat) (P : Program) (g : Nat) (lb : Array Value) (encs : α → Array Value) (A : Nat) (Kp : World → World → Prop) (S Sp : List α → Prop) (w0 : World) : Prop :=
  ∀ (l : Nat) (J Jx : List α → World → Prop) (W : World), Below w0.heap.size w0 W →
    (∀ s U U', J s U → U.grownBy U' (some A) → J s U') → (∀ s U U', Jx s U → U.grownBy U' (some A) → Jx s U') →
    (∀ pre x U, Sp (pre ++ [x]) → J pre U → YieldAt F (n - 1) P l (encs x) U fun e U' => (e = .returned (.bool true) ∧ J (pre ++ [x]) U' ∧ Kp U U') ∨ (e = .returned (.bool false) ∧ Jx (pre ++ [x]) U')) →
    J [] W → CallsIn F n P g (#[.func (.yield l) #[] #[]] ++ lb) W fun e U => (∃ v, e = .returned v) ∧ ((∃ xs, S xs ∧ J xs U) ∨ (∃ pre, Sp pre ∧ Jx pre U))

/-- What the loop's own two blocks hold. -/
structure Kept2 (L D : Nat) (r : Loop) (W : World) : Prop where
  loop : W.heap[L]? = some (.loop r)
  defs : W.heap[D]? = some (.deferred (some []))
theorem Kept2.turn {L D A : Nat} {r : Loop} {U U' : World} (h : Kept2 L D r U) (hL : A ≠ L) (hD : A ≠ D) (hg : U.grownBy U' (some A)) : Kept2 L D r U' :=
  ⟨(hg.block L (lt_of_heap h.loop) (fun e => hL (by cases e; rfl))).trans h.loop, (hg.block D (lt_of_heap h.defs) (fun e => hD (by cases e; rfl))).trans h.defs⟩
theorem Kept2.put {L D : Nat} {r r' : Loop} {U : World} (h : Kept2 L D r U) (hne : D ≠ L) : Kept2 L D r' (U.putObj L (.loop r')) :=
  ⟨World.putObj_heap_same (lt_of_heap h.loop), (World.putObj_heap_other hne).trans h.defs⟩
theorem Kept2.from {L D B : Nat} {r : Loop} {U U' : World} (h : Kept2 L D r U) (hk : KeepsFrom B U U') (hL : B ≤ L) (hD : B ≤ D) : Kept2 L D r U' :=
  ⟨hk.same L _ hL h.loop rfl, hk.same D _ hD h.defs rfl⟩

/-- What the caller's invariant abides: a turn of block A; new blocks; a turn of what is no cells, from B on. -/
structure Stays {β : Type} (A B : Nat) (I : β → World → Prop) : Prop where
  turn : ∀ s U U', I s U → U.grownBy U' (some A) → I s U'
  other : OwnFrom B I

theorem range_turns {α : Type} {g : Operand} {ps : Array Tmp} {assign body : Code} {Q : Exit → Act → World → Prop} {a : Act} {w : World}
    (hro : F.round = none) (h1 : 1 ≤ n) {gf : Nat} {lb : Array Value} (hg : a.eval g = .func (.func gf) #[] lb) (hFg : F.fn gf) (eg : ∀ args w, (callFunc gf args).run P w = .ok (.enter gf args) w)
    {encs : α → Array Value} {A : Nat} {Kp : World → World → Prop} {S Sp : List α → Prop} {w0 : World} (hseq : SeqTurns F (n - 1) P gf lb encs A Kp S Sp w0) (hA : A < w.heap.size)
    (hKt : ∀ {X Y Z : World}, Kp X Y → Kp Y Z → Kp X Z) (hKb : ∀ (W : World) (l : Nat) (o o' : Obj), w.heap.size ≤ l → W.heap[l]? = some o → o.isCells = false → o.isWalk = false → Kp W (W.putObj l o')) (hb0 : Below w0.heap.size w0 w) (hps : ∀ x, (encs x).size = ps.size)
    (I : List α → World → Prop) (Ix : Code → List α → World → Prop) (hI : Stays A w.heap.size I) (hIx : ∀ c, Stays A w.heap.size (Ix c)) (h0 : I [] w) (A₁ : List α → α → Act → World → Prop) (hA1 : ∀ pre x a', OwnFrom w.heap.size (fun (_ : Unit) W => A₁ pre x a' W))
    (hassign : ∀ (l : Nat) (pre : List α) (x : α) (W : World) (K : Act → World → Prop), Sp (pre ++ [x]) → I pre W → (∀ a' W', KeepsFrom w.heap.size W W' → Kp W W' → A₁ pre x a' W' → K a' W') →
      assign.wpIn (F.inRound l) (n - 1 - 1) P (Exit.then K (fun _ _ _ => False)) { tmps := (ps.zip (encs x)).foldl (fun t (p, v) => t.setIfInBounds p v) a.tmps, defers := [] } W)
    (hbody : ∀ (l : Nat) (pre : List α) (x : α) (a' : Act) (W : World), Sp (pre ++ [x]) → A₁ pre x a' W → body.wpIn (F.inRound l) (n - 1 - 1) P (ownPostG w.heap.size Kp I Ix (pre ++ [x]) W) a' W)
    (hdone : ∀ (D : Nat) (xs : List α) (W : World), w.heap.size ≤ D → S xs → I xs W → W.heap[D]? = some (.deferred (some [])) → Q .normal { a with defers := { target := .collected D, args := #[] } :: a.defers } W)
    (hstop : ∀ (D : Nat) (c : Code) (pre : List α) (W : World), w.heap.size ≤ D → Sp pre → Ix c pre W → W.heap[D]? = some (.deferred (some [])) → c.wpIn F n P Q { a with defers := { target := .collected D, args := #[] } :: a.defers } W) :
    (Code.rangeFunc g ps assign body).wpIn F n P Q a w := by
  refine wpIn_rangeFunc fun fn hfn => ?_
  rw [hro]
  obtain ⟨L, hL⟩ : ∃ L, L = w.heap.size + 1 := ⟨_, rfl⟩
  obtain ⟨rc, hrc⟩ : ∃ rc : LoopState → Option Code → Loop, rc = fun st pe => { state := st, pending := pe, fn, tmps := a.tmps, params := ps, assign, body, defers := w.heap.size } := ⟨_, rfl⟩
  obtain ⟨V, hV⟩ : ∃ V, V = (w.alloc (.deferred (some []))).alloc (.loop (rc .ready none)) := ⟨_, rfl⟩
  have hL1 : L ≠ A := by omega
  have hD1 : w.heap.size ≠ A := by omega
  have hDL : w.heap.size ≠ L := by omega
  have k0 : Kept2 L w.heap.size (rc .ready none) V := by
    constructor
    · have := World.alloc_heap_new (w.alloc (.deferred (some []))) (.loop (rc .ready none))
      rw [World.size_alloc] at this
      rw [hV, hL]; exact this
    · rw [hV]; exact (Below.heap_alloc _ _ _ (by simp)).trans (World.alloc_heap_new w _)
  have i0 : I [] V := by rw [hV]; exact hI.other.alloc _ (hI.other.alloc _ h0)
  have b0 : Below w0.heap.size w0 V := by
    rw [hV]; exact hb0.trans ((((Below.refl _ w).alloc (Nat.le_refl _) _).alloc (by simp) _).mono hb0.size)
  refine ⟨L, [{ target := .collected w.heap.size, args := #[] }], V, { target := .fn (.func gf) lb, args := #[.func (.yield L) #[] #[]] }, V, gf, #[.func (.yield L) #[] #[]] ++ lb, V, ?_, ?_, ?_, ?_, fun _ => h1, ?_⟩
  · rw [hV, hL, hrc]; exact run_enterLoop_outer _ _ _ _ _
  · simp only [resolve, hg]; simp [go_sem]
  · intro f' hf'; simp [Target.leads] at hf'; subst hf'; exact hFg
  · simp [invoke, go_sem, eg]
  refine (hseq L (fun pre W => I pre W ∧ Kept2 L w.heap.size (rc .ready none) W) (fun pre W => ∃ c, Ix c pre W ∧ Kept2 L w.heap.size (rc .done (some c)) W) V b0
    (fun s U U' h hgr => ⟨hI.turn s U U' h.1 hgr, h.2.turn hL1.symm hD1.symm hgr⟩)
    (fun s U U' h hgr => let ⟨c, hc, hk⟩ := h; ⟨c, (hIx c).turn s U U' hc hgr, hk.turn hL1.symm hD1.symm hgr⟩) ?_ ⟨i0, k0⟩).mono ?_
  · rintro pre x U hsp ⟨hi, hk⟩
    have hy := run_yield (P := P) (args := encs x) hk.loop (by rw [hrc]; exact hps x)
    obtain ⟨rb, hrb⟩ : ∃ rb : Loop, rb = { rc .ready none with state := .busy } := ⟨_, rfl⟩
    have hend : ∀ (jump : Option Code) (W : World), Kept2 L w.heap.size rb W → (Instr.endRound L jump).run P W = .ok (.bool jump.isNone) (W.putObj L (.loop (rc (if jump.isNone then .ready else .done) jump))) := fun jump W hW => by
      have := run_endRound (P := P) jump hW.loop
      rw [hrb, hrc] at this; rw [hrc]; exact this
    rw [hrc] at hy
    refine ⟨fn, _, assign, body, hy, roundIn_of_wpIn hfn (hassign _ pre x U _ hsp hi fun a' V2 hkf2 hkp2 ha2 => ?_)⟩
    have k2 := hk.from hkf2 (by omega) (Nat.le_refl _)
    have hbeg := run_beginRound (P := P) k2.loop (by rw [hrc])
    rw [← hrb] at hbeg
    have kb : Kept2 L w.heap.size rb (V2.putObj L (.loop rb)) := k2.put hDL
    have pb : Kp U (V2.putObj L (.loop rb)) := hKt hkp2 (hKb _ _ _ _ (by omega) k2.loop rfl rfl)
    refine ⟨_, hbeg, ?_⟩
    refine wpIn_mono (hbody _ pre x a' _ hsp ((hA1 pre x a').putObj (s := ()) _ ha2 (by omega) k2.loop rfl)) ?_
    rintro e a3 W3 hp
    have away : ∀ (c : Code), KeepsFrom w.heap.size (V2.putObj L (.loop rb)) W3 → Ix c (pre ++ [x]) W3 → ∃ v w', (Instr.endRound L (some c)).run P W3 = .ok v w' ∧
        ((Ending.returned v = .returned (.bool true) ∧ (I (pre ++ [x]) w' ∧ Kept2 L w.heap.size (rc .ready none) w') ∧ Kp U w') ∨ (Ending.returned v = .returned (.bool false) ∧ ∃ c, Ix c (pre ++ [x]) w' ∧ Kept2 L w.heap.size (rc .done (some c)) w')) := fun c hkf hix => by
      have k3 := kb.from hkf (by omega) (Nat.le_refl _)
      exact ⟨_, _, hend _ _ k3, .inr ⟨rfl, c, (hIx c).other.putObj _ hix (by omega) k3.loop rfl, k3.put hDL⟩⟩
    cases e with
    | normal =>
      obtain ⟨hkf, hkp, hin⟩ := hp
      have k3 := kb.from hkf (by omega) (Nat.le_refl _)
      exact ⟨_, _, hend none _ k3, .inl ⟨rfl, ⟨hI.other.putObj _ hin (by omega) k3.loop rfl, k3.put hDL⟩, hKt (hKt pb hkp) (hKb _ _ _ _ (by omega) k3.loop rfl rfl)⟩⟩
    | ret => exact away .ret hp.1 hp.2
    | exit id => exact away (.exit id) hp.1 hp.2
    | goto t => exact away (.goto t) hp.1 hp.2
    | panic ch => exact hp.elim
    | outgrown => exact hp.elim
  · have hfin : ∀ (st : LoopState) (pe : Option Code) (W : World), st ≠ .busy → Kept2 L w.heap.size (rc st pe) W → (Instr.endLoop L).run P W = .ok pe (W.putObj L (.loop (rc .exhausted pe))) := fun st pe W hst hW => by
      have := run_endLoop (P := P) hW.loop (by rw [hrc]; exact hst)
      rw [hrc] at this; rw [hrc]; exact this
    rintro e W2 ⟨⟨v, rfl⟩, (⟨xs, hS, hi, hk⟩ | ⟨pre, hSp, c, hi, hk⟩)⟩
    · exact ⟨none, _, hfin _ _ _ (by simp) hk, hdone _ xs _ (Nat.le_refl _) hS (hI.other.putObj _ hi (by omega) hk.loop rfl) ((World.putObj_heap_other hDL).trans hk.defs)⟩
    · exact ⟨some c, _, hfin _ _ _ (by simp) hk, hstop _ c pre _ (Nat.le_refl _) hSp ((hIx c).other.putObj _ hi (by omega) hk.loop rfl) ((World.putObj_heap_other hDL).trans hk.defs)⟩
end Go.Proofs.YtcpgbakdfogilaaDoor
