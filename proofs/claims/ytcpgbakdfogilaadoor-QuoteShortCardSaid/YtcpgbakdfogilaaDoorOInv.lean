/- Inv, and one slice that the call itself has made and appends to. -/
import Derived.Test.YtcpgbakdfogilaaDoorInv
import Derived.OwnWalk
import Derived.Laws.BytesString
namespace Go.Proofs.YtcpgbakdfogilaaDoor
open Go.RowKit

theorem addr_add (g j : Nat) : (⟨g, 0, none⟩ : Addr).add j = ⟨g, j, none⟩ := by unfold Addr.add; split <;> simp_all
/-- A type's row of the table. -/
structure ElemT (P : Program) (t e : TypeId) (z : Value) (size bytes : Nat) : Prop where
  slice : P.underlying t = some (.slice e)
  info : (P.info? e).map (fun i => (i.zero, i.size, i.bytes)) = some (some z, size, bytes)
  cells : z.cells.size = size
  pos : 0 < size

/-- The blocks of L lie below 'base'; the slice v owns the cells xs at or above it. -/
structure OInv (n : Nat) (w : World) (L : List (Nat × Obj)) (base : Nat) (e : TypeId) (size : Nat) (v : Value) (k : Nat) (xs : List Value) (W : World) : Prop where
  inv : Inv n w L W
  nb : n ≤ base
  hbase : base ≤ W.heap.size
  low : ∀ p ∈ L, p.1 < base
  own : W.ownsRow base e size v k xs
variable {n base k : Nat} {w W W1 : World} {L : List (Nat × Obj)} {e : TypeId} {size : Nat} {v : Value} {xs : List Value}
theorem ownsRow_below (h : W.ownsRow base e size v k xs) (hb : Below W.heap.size W W1) : W1.ownsRow base e size v k xs := by
  obtain ⟨h1, h2⟩ := h
  refine ⟨h1, h2.imp id ?_⟩
  rintro ⟨g, cap, cur, rfl, hg, hh, h3⟩
  exact ⟨g, cap, cur, rfl, hg, (hb.block g (lt_of_heap hh)).trans hh, h3⟩
theorem OInv.start (h : Inv n w L W) (hn : n ≤ W.heap.size) (hl : ∀ p ∈ L, p.1 < W.heap.size) : OInv n w L W.heap.size e size (.slice none 0 0) 0 [] W := ⟨h, hn, Nat.le_refl _, hl, World.ownsRow_nil _ _ _ _⟩
theorem OInv.call (h : OInv n w L base e size v k xs W) (hb : Below W.heap.size W W1) : OInv n w L base e size v k xs W1 :=
  ⟨h.inv.call hb, h.nb, Nat.le_trans h.hbase hb.size, h.low, ownsRow_below h.own hb⟩
theorem OInv.drew (h : OInv n w L base e size v k xs W) : OInv n w L base e size v k xs W.drew := ⟨h.inv.drew, h.nb, h.hbase, h.low, h.own⟩
theorem OInv.at {g : Nat} {o : Obj} (h : OInv n w L base e size v k xs W) (hp : (g, o) ∈ L) : W.heap[g]? = some o := h.inv.at hp
/-- 'out = append(out, x)': x lies in a new block of its own. -/
theorem app_one {P : Program} {t : TypeId} {z : Value} {bytes : Nat} {ops : Array Oper} {rest : List Oper} {o : Oper} {a : Act} {Q : Exit → Act → World → Prop} (hT : ElemT P t e z size bytes) (hgd : o.guard = none) (s x : Operand)
    (ho : o.op = .call { callee := .builtin .append, args := #[s, x], argTypes := #[t, t] }) (news : Array Value) (hs : a.eval s = v) (hx : a.eval x = .slice (some ⟨W.heap.size, 0, none⟩) 1 1) (hl : news.size = size) (h1 : news.all (·.oneCell') = true)
    (h : OInv n w L base e size v k xs W) (h63 : k + 1 ≤ maxLen) (hby : (k + 1) * bytes ≤ 140737488355328)
    (hk : ∀ v' W', OInv n w L base e size v' (k + 1) (xs ++ news.toList) W' → wpList P ops Q rest (a.put o.dst v') W') :
    wpList P ops Q (o :: rest) a (W.alloc (.cells news e)) := by
  obtain ⟨i, hi, hz, hsz, hb⟩ := info_parts hT.info
  have hnew : (W.alloc (.cells news e)).heap[W.heap.size]? = some (.cells news e) := heap_alloc_new W _
  refine wpList_append_own _ hgd s x t ho base e i z size bytes hT.slice hi hz hsz hb hT.cells hT.pos v k xs hs (ownsRow_below h.own ((Below.refl _ _).alloc (Nat.le_refl _) _)) ⟨W.heap.size, 0, none⟩ 1 1 news.toList hx (by simp [hl]) ?_ ?_ h63 hby (by rw [World.size_alloc]; exact Nat.le_succ_of_le h.hbase) ?_
  · intro j u hj
    rw [addr_add, cell_of_row _ _ _ _ _ _ hnew]
    simpa using hj
  · intro u hu
    exact (Array.all_eq_true_iff_forall_mem.1 h1) u (by simpa using hu)
  · intro v' W' hown hgr _
    have hrow : ∀ g, v.ownBlock = some g → base ≤ g := by
      intro g hg
      rcases h.own.2 with ⟨rfl, _⟩ | ⟨g', cap, cur, rfl, hb', _⟩
      · cases hg
      · cases hg; exact hb'
    have hI : Inv n w L (W.alloc (.cells news e)) := (h.inv.alloc _).sub fun p hp => List.mem_cons_of_mem _ hp
    refine hk v' W' ⟨⟨hI.below.grown hgr hI.size (fun g hg => Nat.le_trans h.nb (hrow g hg)), Nat.le_trans hI.size hgr.size, fun p hp => ?_⟩, h.nb, Nat.le_trans (Nat.le_trans h.hbase (by rw [World.size_alloc]; omega)) hgr.size, h.low, hown⟩
    rw [hgr.block p.1 (lt_of_heap (hI.blk p hp)) (fun hh => by have := hrow p.1 hh.symm; have := h.low p hp; omega)]
    exact hI.blk p hp

theorem foldl_push (bs : List UInt8) : ∀ r : ByteArray, (bs.map fun b : UInt8 => (b.toNat : Int)).foldl (fun r n => r.push (UInt8.ofNat n.toNat)) r = ⟨(r.data.toList ++ bs).toArray⟩ := by
  induction bs with
  | nil => intro r; simp
  | cons b bs ih =>
    intro r
    rw [List.map_cons, List.foldl_cons, ih]
    simp [ByteArray.push]
/-- 'string(b)' of a slice of bytes that the call owns. -/
theorem run_conv_str {P : Program} {t u e' : TypeId} (ht : P.underlying t = some (.slice e')) (hu : P.underlying u = some .string) (he : P.underlying e' = some (.int .u8)) {base : Nat} (bs : List UInt8) (hown : W.ownsRow base e 1 v k (bs.map fun b => .int .u8 (b.toNat : Int))) :
    (convert t u v).run P W = .ok (.string ⟨bs.toArray⟩) W := by
  obtain ⟨hlen, h2⟩ := hown
  rcases h2 with ⟨rfl, rfl⟩ | ⟨g, cap, cur, rfl, hg, hh, hc1, hc2, hc3, hc4⟩
  · have : bs = [] := by cases bs <;> simp_all
    subst this
    simp [convert, Sem.run_bind, run_underlying ht, run_underlying hu, run_underlying he, Conv.bytesToString, Sem.run_pure]
    rfl
  · have hl : (loadCells ⟨g, 0, none⟩ k).run P W = .ok ((bs.map fun b : UInt8 => (b.toNat : Int)).map (Value.int .u8)).toArray W := by
      have hk : k = (cur.toList.take (k * 1)).length := by rw [hc4, hlen, Nat.mul_one]
      have := run_loadCells_list (P := P) W ⟨g, 0, none⟩ (cur.toList.take (k * 1)) (fun j u hj => by
        rw [addr_add, cell_of_row _ _ _ _ _ _ hh]
        rw [List.getElem?_take] at hj
        split at hj
        · simpa using hj
        · cases hj)
      rw [← hk, hc4] at this
      rw [this]
      simp [Function.comp_def]
    have := run_bytesToString (P := P) W ⟨g, 0, none⟩ k cap _ hl
    rw [foldl_push] at this
    simp only [convert, Sem.run_bind, run_underlying ht, run_underlying hu, run_underlying he, Result.andThen_ok, this]
    simp
/-- 'string(b)' of a slice of bytes that the call owns. -/
theorem conv_str {P : Program} {t u e' : TypeId} {ops : Array Oper} {rest : List Oper} {o : Oper} {a : Act} {Q : Exit → Act → World → Prop} (ht : P.underlying t = some (.slice e')) (hu : P.underlying u = some .string) (he : P.underlying e' = some (.int .u8))
    (hgd : Region.wanted o (yielded ops a.tmps) = true) (x : Operand) (ho : o.op = .convert t u x) (hx : a.eval x = v) {base : Nat} (bs : List UInt8) (hown : W.ownsRow base e 1 v k (bs.map fun b => .int .u8 (b.toNat : Int)))
    (h : wpList P ops Q rest (a.put o.dst (.string ⟨bs.toArray⟩)) W) : wpList P ops Q (o :: rest) a W := by
  rw [wpList, if_pos hgd]
  refine .inl ?_
  have hr := run_conv_str (P := P) ht hu he bs hown
  unfold Oper.wp execOp
  simp only [ho, hx, Sem.run_bind, hr, Result.andThen_ok, Sem.run_pure]
  exact h
end Go.Proofs.YtcpgbakdfogilaaDoor
