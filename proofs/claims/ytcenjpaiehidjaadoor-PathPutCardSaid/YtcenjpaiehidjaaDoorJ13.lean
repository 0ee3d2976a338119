/- The reference's way to tell a right arena: plain. -/
import Derived.Test.YtcenjpaiehidjaaDoorJ5
import Derived.Test.YtcenjpaiehidjaaDoorJ6
import Derived.Test.YtcenjpaiehidjaaDoorJ4
import Derived.Test.YtcenjpaiehidjaaDoorJ12
set_option linter.unusedSimpArgs false
set_option linter.unusedVariables false
namespace Go.Proofs.YtcenjpaiehidjaaDoor
open Go.RowKit

def cntL (n : Nat) (S : List Int) : List Int := (List.range n).map fun (j : Nat) => ((S.count (j : Int) : Nat) : Int)
theorem cntL_len (n : Nat) (S : List Int) : (cntL n S).length = n := by simp [cntL]
theorem cntL_get (n : Nat) (S : List Int) (j : Nat) (h : j < n) : (cntL n S)[j]? = some ((S.count (j : Int) : Nat) : Int) := by simp [cntL, h]
theorem int_cell {w : World} {B : Nat} {l : List Int} {t : TypeId} {fr : Nat × Nat} (h : w.heap[B]? = some (.cells (intC l).toArray t fr)) (j : Nat) (x : Int) (hx : l[j]? = some x) : w.cell? ⟨B, j, none⟩ = some (.int .i64 x) := by
  rw [cell_of_row _ _ _ _ _ _ h]
  simp [hx]
theorem cntL_set {n : Nat} {S : List Int} {c : Nat} (h : c < n) : (intC (cntL n S)).toArray.setIfInBounds c (.int .i64 (((S.count (c : Int) : Nat) : Int) + 1)) = (intC (cntL n (S ++ [(c : Int)]))).toArray := by
  apply Array.toList_inj.1
  rw [Array.toList_setIfInBounds]
  show (intC (cntL n S)).set c _ = intC (cntL n (S ++ [(c : Int)]))
  apply List.ext_getElem
  · simp [cntL]
  · intro j h1 h2
    rw [List.getElem_set]
    simp only [cntL, intC, List.getElem_map, List.getElem_range, List.count_append, List.count_singleton]
    split
    · next e => subst e; simp
    · next e =>
      have e2 : ¬ ((c : Int) = (j : Int)) := by omega
      simp [e2]
theorem cntL_none (n : Nat) : cntL n [] = List.replicate n 0 := by
  apply List.ext_getElem
  · simp [cntL]
  · intro j h1 h2; simp [cntL]
/-- The first i nodes are as they should be. -/
def TillR (ns : List Nd) (i : Nat) : Prop := ∀ (j : Nat) nd, j < i → ns[j]? = some nd → fitsB nd.hd nd.kids.length = true ∧ ∀ k ∈ nd.kids, 0 ≤ k ∧ k < j
theorem tillR_mem {ns : List Nd} (h : TillR ns ns.length) {c : Int} (hc : c ∈ kidsAll ns) : 0 ≤ c ∧ c + 1 < ns.length := by
  unfold kidsAll at hc
  obtain ⟨nd, hnd, hk⟩ := List.mem_flatMap.1 hc
  obtain ⟨i, hi, e⟩ := List.getElem_of_mem hnd
  have := (h i nd hi (by rw [List.getElem?_eq_getElem hi, e])).2 c hk
  omega
/-- How many parents each node has. -/
def Parents (ns : List Nd) (root : Int) (i : Nat) : Prop := ∀ j : Nat, j < i → (kidsAll ns).count (j : Int) = if (j : Int) = root then 0 else 1
theorem rightP_iff {ns : List Nd} {root : Int} (h0 : 0 ≤ root) (h1 : root < ns.length) (h : TillR ns ns.length) : RightP ⟨ns, root⟩ ↔ Parents ns root ns.length := by
  constructor
  · intro hr j hj
    have h2 := hr.root
    simp only at h2
    split
    · next e =>
      refine List.count_eq_zero.2 fun hm => ?_
      have := tillR_mem h hm
      omega
    · next e =>
      have a := hr.once j
      have b := hr.all j (by simp only; omega)
      simp only at a b
      omega
  · intro hp
    have hroot : root = (ns.length : Int) - 1 := by
      have h2 := hp (ns.length - 1) (by omega)
      have h3 : (kidsAll ns).count ((ns.length - 1 : Nat) : Int) = 0 := List.count_eq_zero.2 fun hm => by
        have := tillR_mem h hm
        omega
      rw [h3] at h2
      split at h2
      · omega
      · cases h2
    refine ⟨by simp only; omega, hroot, fun i nd e => (h i nd (List.getElem?_eq_some_iff.1 e).1 e).1, fun i nd e => (h i nd (List.getElem?_eq_some_iff.1 e).1 e).2, fun j => ?_, fun j hj => ?_⟩
    · by_cases hm : j ∈ kidsAll ns
      · have h2 := tillR_mem h hm
        have h3 := hp j.toNat (by omega)
        rw [Int.toNat_of_nonneg h2.1] at h3
        simp only
        rw [h3]
        split <;> omega
      · simp only
        rw [List.count_eq_zero.2 hm]; omega
    · simp only at hj ⊢
      rw [hp j (by omega), if_neg (by omega)]
      omega
end Go.Proofs.YtcenjpaiehidjaaDoor

/- Contract of bonsairef04.Right. -/
namespace Go.Proofs.YtcenjpaiehidjaaDoor
open Go.RowKit
set_option maxRecDepth 100000

theorem tyInts : Tryd.prog.underlying 25 = some (.slice 3) := by kernel_rfl
theorem infoInt : (Tryd.prog.info? 3).map (fun i => (i.zero, i.size, i.bytes)) = some (some (.int .i64 0), 1, 8) := by kernel_rfl
theorem szIntR : (Tryd.prog.info? 3).map (·.size) = some 1 := by kernel_rfl
theorem made_cnt (n : Nat) (h : n ≤ 100000) (w : World) : (Instr.makeSlice 25 (.int .i64 (n : Int)) (.int .i64 (n : Int))).run Tryd.prog w = .ok (.slice (some ⟨w.heap.size, 0, none⟩) n n) (w.alloc (.cells (intC (cntL n [])).toArray 3)) := by
  rw [run_make_row' (P := Tryd.prog) 25 3 (.int .i64 0) 8 tyInts infoInt rfl .i64 .i64 n (by omega) (by omega) w]
  congr 3
  rw [cntL_none]
  apply Array.ext
  · simp [madeCells]
  · intro j h1 h2; simp [madeCells, Nat.mod_one]
abbrev cntO (n : Nat) (S : List Int) : Obj := .cells (intC (cntL n S)).toArray 3
theorem kids_step {ns : List Nd} {k : Nat} {nd : Nd} {m : Nat} {c : Int} (h : nd.kids[m]? = some c) : kidsAll (ns.take k) ++ nd.kids.take (m + 1) = kidsAll (ns.take k) ++ nd.kids.take m ++ [c] := by
  obtain ⟨hm, e⟩ := List.getElem?_eq_some_iff.1 h
  rw [List.take_succ_eq_append_getElem hm, e, List.append_assoc]
theorem cnt_set {ns : List Nd} {k : Nat} {nd : Nd} {m : Nat} {cn n : Nat} (h : nd.kids[m]? = some (cn : Int)) (hn : cn < n) :
    (Obj.cells ((intC (cntL n (kidsAll (ns.take k) ++ nd.kids.take m))).toArray.setIfInBounds cn (.int .i64 ((((kidsAll (ns.take k) ++ nd.kids.take m).count (cn : Int) : Nat) : Int) + 1))) 3) = cntO n (kidsAll (ns.take k) ++ nd.kids.take (m + 1)) := by
  rw [cntL_set hn, kids_step h]
theorem cnt_lt {l : List Int} {c : Int} : l.count c ≤ l.length := List.count_le_length
theorem tillR_step {ns : List Nd} {k : Nat} {nd : Nd} (h : TillR ns k) (hnd : ns[k]? = some nd) (hf : fitsB nd.hd nd.kids.length = true) (hp : ∀ c ∈ nd.kids.take nd.kids.length, 0 ≤ c ∧ c < k) : TillR ns (k + 1) := by
  intro j nd' hj e
  by_cases hjk : j < k
  · exact h j nd' hjk e
  · obtain rfl : j = k := by omega
    rw [hnd] at e; injection e with e; subst e
    exact ⟨hf, fun c hc => hp c (by rw [List.take_length]; exact hc)⟩
theorem kidsAll_len {ns : List Nd} (hS : Small ns) : ∀ k, k ≤ ns.length → (kidsAll (ns.take k)).length ≤ k * 100000
  | 0, _ => by simp [kidsAll]
  | k + 1, h => by
    have hnd : ns[k]? = some ns[k] := List.getElem?_eq_getElem (by omega)
    have := kidsAll_len hS k (by omega)
    have := hS.kids _ (List.mem_of_getElem? hnd)
    rw [kidsAll_step hnd, List.length_append]
    omega
theorem cnt_some {ns : List Nd} (hS : Small ns) {k m : Nat} {nd : Nd} (hnd : ns[k]? = some nd) (c : Int) : ∃ x : Int, (((kidsAll (ns.take k) ++ nd.kids.take m).count c : Nat) : Int) = x ∧ 0 ≤ x ∧ x ≤ 20000000000 := by
  refine ⟨_, rfl, by omega, ?_⟩
  have hk := (List.getElem?_eq_some_iff.1 hnd).1
  have h1 := kidsAll_len hS k (by omega)
  have h2 := hS.kids _ (List.mem_of_getElem? hnd)
  have h3 := hS.len
  have h4 : (kidsAll (ns.take k) ++ nd.kids.take m).count c ≤ (kidsAll (ns.take k) ++ nd.kids.take m).length := List.count_le_length
  rw [List.length_append, List.length_take] at h4
  omega

set_option maxHeartbeats 8000000 in
/-- bonsairef04.Right, on an arena whose root is among its nodes. -/
theorem rright_in (ns : List Nd) (root : Int) (h0 : 0 ≤ root) (h1 : root < ns.length) (p : Option Addr) (cap : Nat) (hS : Small ns) (w : World) (F : Nat → TypeId → Prop) (hN : NodesAt w F p ns) :
    Calls Tryd.prog 27 #[arV p ns.length cap root] w fun e w' => Tells e (RightP ⟨ns, root⟩) ∧ Below w.heap.size w w' := by
  have hl := hS.len
  have hmk := made_cnt ns.length hl
  have hI0 := ((Inv.start w).alloc (arO p ns.length cap root)).alloc (cntO ns.length [])
  rw [World.size_alloc] at hI0
  have HN := Lib.hid hN
  have HS := Lib.hid hS
  clear hN hS
  go_enter Tryd.func27, Tryd.ntmps27
  go_wp2
  clear hmk
  go_loopw [4] (fun i wr => ∃ k : Nat, k ≤ ns.length ∧ i = .int .i64 k ∧ Inv w.heap.size w [(w.heap.size + 1, cntO ns.length (kidsAll (ns.take k))), (w.heap.size, arO p ns.length cap root)] wr ∧ Hid (TillR ns k)) (fun i _ => ns.length - (intOf i).toNat)
  case atStart => exact ⟨0, by omega, rfl, hI0, Lib.hid (fun j nd h => absurd h (by omega))⟩
  case round =>
    clear hI0
    obtain ⟨k, hk, rfl, hI, hTl⟩ := hrel
    have c0 := hI.cell (g := w.heap.size) (j := 0) (v := .slice p ns.length cap) (List.mem_cons_of_mem _ List.mem_cons_self) rfl
    by_cases hlt : k < ns.length
    · obtain ⟨b, o, rfl, _, hc⟩ := HN.out (by intro h; rw [h] at hlt; exact absurd hlt (by simp))
      obtain ⟨nd, hnd⟩ : ∃ nd, ns[k]? = some nd := ⟨_, List.getElem?_eq_getElem hlt⟩
      obtain ⟨q, cap', hd, hr, hki⟩ := hc k nd hnd
      have hkl := HS.out.kids nd (List.mem_of_getElem? hnd)
      have Hr := Lib.hid (rangeAt_keep hr (hI.below.block b (block_lt_of_cell (hr 0 _ rfl))))
      have Hki := Lib.hid hki
      have Hnd := Lib.hid hnd
      have Hd := Lib.hid hd
      clear hc hr hki hnd hd
      cases hf : fitsB nd.hd nd.kids.length
      · have Hf := Lib.hid hf
        clear hf
        go_wp2_with (first | (refine load_node rfl _ rfl b (o + k * 9) rfl nd.hd q nd.kids.length cap' Hr.out ?_) | (go_at_call 46; with_reducible refine (rfits_any nd.hd Hd.out q _ cap' nd.kids.length _).mono ?_; rw [Hf.out]; rintro e W3 ⟨rfl, hb⟩; have hI3 := (hI.alloc _).call hb; clear hb c0; have c8 := hI3.cell (j := 8) (v := .slice q nd.kids.length cap') List.mem_cons_self rfl))
        go_ret
        refine ⟨tells_no fun h => ?_, hI3.below⟩
        · have := h.fits _ _ Hnd.out; rw [Hf.out] at this; cases this
      · have Hf := Lib.hid hf
        clear hf
        go_wp2_with (first | (refine load_node rfl _ rfl b (o + k * 9) rfl nd.hd q nd.kids.length cap' Hr.out ?_) | (go_at_call 46; with_reducible refine (rfits_any nd.hd Hd.out q _ cap' nd.kids.length _).mono ?_; rw [Hf.out]; rintro e W3 ⟨rfl, hb⟩; have hI3 := (hI.alloc _).call hb; clear hb c0; have c8 := hI3.cell (j := 8) (v := .slice q nd.kids.length cap') List.mem_cons_self rfl))
        have hG1 : w.heap.size + 1 < wr.heap.size := lt_of_heap (hI.at List.mem_cons_self)
        have hI4 := hI3.sub (L' := [(w.heap.size + 1, cntO ns.length (kidsAll (ns.take k) ++ nd.kids.take 0)), (wr.heap.size, ndO nd.hd q nd.kids.length cap'), (w.heap.size, arO (some ⟨b, o, none⟩) ns.length cap root)]) (by intro x hx; simp at hx ⊢; rcases hx with h | h | h <;> simp [h])
        clear c8 hI3 hI
        generalize wr.heap.size = G at hG1 hI4 ⊢
        have hP0 : Hid (∀ c ∈ nd.kids.take 0, 0 ≤ c ∧ c < (k : Int)) := Lib.hid (by simp)
        go_loopw [6] (fun i wr2 => ∃ m : Nat, m ≤ nd.kids.length ∧ i = .int .i64 m ∧ Inv w.heap.size w [(w.heap.size + 1, cntO ns.length (kidsAll (ns.take k) ++ nd.kids.take m)), (G, ndO nd.hd q nd.kids.length cap'), (w.heap.size, arO (some ⟨b, o, none⟩) ns.length cap root)] wr2 ∧ Hid (∀ c ∈ nd.kids.take m, 0 ≤ c ∧ c < (k : Int))) (fun i _ => nd.kids.length - (intOf i).toNat)
        case atStart => exact ⟨0, by omega, rfl, hI4, hP0⟩
        case round =>
          clear hI4 hP0
          obtain ⟨m, hm, rfl, hJ, hP⟩ := hrel
          have c8 := hJ.cell (g := G) (j := 8) (v := .slice q nd.kids.length cap') (List.mem_cons_of_mem _ List.mem_cons_self) rfl
          by_cases hmt : m < nd.kids.length
          · obtain ⟨bq, oq, rfl, _, hkc⟩ := Hki.out (by intro h; rw [h] at hmt; exact absurd hmt (by simp))
            obtain ⟨c, hc⟩ : ∃ c, nd.kids[m]? = some c := ⟨_, List.getElem?_eq_getElem hmt⟩
            have hck := (hJ.below.cell (p := ⟨bq, oq + m, none⟩) (block_lt_of_cell (hkc m c hc))).trans (hkc m c hc)
            have Hc := Lib.hid hc
            clear hkc hc
            by_cases g0 : c < 0
            · go_wp2
              go_ret
              exact ⟨tells_no fun h => by have := h.down _ _ Hnd.out c (List.mem_of_getElem? Hc.out); omega, hJ.below⟩
            · by_cases g1 : (k : Int) ≤ c
              · go_wp2
                go_ret
                exact ⟨tells_no fun h => by have := h.down _ _ Hnd.out c (List.mem_of_getElem? Hc.out); omega, hJ.below⟩
              · obtain ⟨cn, rfl⟩ := Int.eq_ofNat_of_zero_le (show 0 ≤ c by omega)
                have hcl : cn < ns.length := by omega
                obtain ⟨x, hx, hx0, hx1⟩ := cnt_some HS.out (m := m) Hnd.out (cn : Int)
                have hcb := int_cell (hJ.at List.mem_cons_self) cn x (by rw [cntL_get _ _ _ hcl, hx])
                have hxw : IntKind.i64.wrap (x + 1) = x + 1 := IntWalk.i64_in _ (by omega)
                have Hx := Lib.hid hx
                clear hx
                go_wp2_with (first | (refine inv_store rfl _ _ _ rfl (w.heap.size + 1) cn (intC (cntL ns.length (kidsAll (ns.take k) ++ nd.kids.take m))).toArray 3 (.int .i64 (x + 1)) rfl rfl rfl szIntR (by simp [cntL_len]; omega) hJ (by omega) (by simp; omega) ?_; intro W5 hK hW; clear hW))
                go_roundw
                case rel => exact ⟨m + 1, by omega, by go_num, by rw [← Hx.out, cnt_set Hc.out hcl] at hK; exact hK, Lib.hid (fun a ha => by
                  obtain ⟨hm', e⟩ := List.getElem?_eq_some_iff.1 Hc.out
                  rw [List.take_succ_eq_append_getElem hm', e] at ha
                  rcases List.mem_append.1 ha with ha | ha
                  · exact hP.out a ha
                  · simp at ha; subst ha; omega)⟩
                case measure => simp [intOf]; omega
          · obtain rfl : m = nd.kids.length := by omega
            go_wp2
            go_roundw
            case rel => exact ⟨k + 1, by omega, by go_num, by have h := hJ.sub (L' := [(w.heap.size + 1, cntO ns.length (kidsAll (ns.take k) ++ nd.kids.take nd.kids.length)), (w.heap.size, arO (some ⟨b, o, none⟩) ns.length cap root)]) (by intro x hx; simp at hx ⊢; rcases hx with h | h <;> simp [h]); rw [List.take_length, ← kidsAll_step Hnd.out] at h; exact h, Lib.hid (tillR_step hTl.out Hnd.out Hf.out hP.out)⟩
            case measure => simp [intOf]; omega
    · obtain rfl : k = ns.length := by omega
      rw [List.take_length] at hI
      have hI5 := hI
      clear hI
      have HR := Lib.hid (rightP_iff h0 h1 hTl.out)
      clear hTl
      go_wp2
      clear c0
      go_loopw [7] (fun i wr2 => ∃ k : Nat, k ≤ ns.length ∧ i = .int .i64 k ∧ Inv w.heap.size w [(w.heap.size + 1, cntO ns.length (kidsAll ns)), (w.heap.size, arO p ns.length cap root)] wr2 ∧ Hid (Parents ns root k)) (fun i _ => ns.length - (intOf i).toNat)
      case atStart => exact ⟨0, by omega, rfl, hI5, Lib.hid (fun j h => absurd h (by omega))⟩
      case round =>
        clear hI5
        obtain ⟨k, hk, rfl, hJ, hP⟩ := hrel
        have c1 := hJ.cell (g := w.heap.size) (j := 1) (v := .int .i64 root) (List.mem_cons_of_mem _ List.mem_cons_self) rfl
        by_cases hlt : k < ns.length
        · obtain ⟨x, hx⟩ : ∃ x : Int, (((kidsAll ns).count (k : Int) : Nat) : Int) = x := ⟨_, rfl⟩
          have hcb := int_cell (hJ.at List.mem_cons_self) k x (by rw [cntL_get _ _ _ hlt, hx])
          have Hx := Lib.hid hx
          clear hx
          have hS2 := Lib.hid (fun (h : (kidsAll ns).count (k : Int) = if (k : Int) = root then 0 else 1) => show Parents ns root (k + 1) from fun j hj => by
            by_cases hjk : j < k
            · exact hP.out j hjk
            · obtain rfl : j = k := by omega
              exact h)
          have hNo := Lib.hid (fun (h : ¬ (kidsAll ns).count (k : Int) = if (k : Int) = root then 0 else 1) (hr : RightP ⟨ns, root⟩) => h (HR.out.1 hr k hlt))
          by_cases e : (k : Int) = root
          · obtain rfl : root = (k : Int) := e.symm
            clear e
            by_cases x0 : x = 0
            · go_wp2
              go_roundw
              case rel => exact ⟨k + 1, by omega, by go_num, hJ, Lib.hid (hS2.out (by rw [if_pos rfl]; have := Hx.out; omega))⟩
              case measure => simp [intOf]; omega
            · go_wp2
              go_ret
              exact ⟨tells_no (hNo.out (by have := Hx.out; simp; omega)), hJ.below⟩
          · by_cases x0 : x = 1
            · have E := Lib.hid e
              subst x0
              go_wp2
              have hpk := Lib.hid (hS2.out (by rw [if_neg E.out]; have := Hx.out; omega))
              all_goals exact ⟨⟨k + 1, by omega, by go_num, hJ, hpk⟩, by simp [intOf]; omega⟩
            · have E := Lib.hid e
              have hno := Lib.hid (hNo.out (by rw [if_neg E.out]; have := Hx.out; omega))
              have x1 : (x == 1) = false := by simp [x0]
              have x2 : (x != 1) = true := by simp [x0]
              go_wp2
              all_goals first | (go_ret; exact ⟨tells_no hno.out, hJ.below⟩)
        · obtain rfl : k = ns.length := by omega
          go_wp2
          go_ret
          exact ⟨tells_iff (by simpa using HR.out.2 hP.out), hJ.below⟩
set_option maxHeartbeats 2000000 in
theorem rright_no (ns : List Nd) (root : Int) (p : Option Addr) (cap : Nat) (h : ¬ (0 ≤ root ∧ root < ns.length)) (w : World) :
    Calls Tryd.prog 27 #[arV p ns.length cap root] w fun e w' => Tells e (RightP ⟨ns, root⟩) ∧ Below w.heap.size w w' := by
  have hno : ¬ RightP ⟨ns, root⟩ := fun hr => h ⟨by have := hr.root; have := hr.some; simp only at *; omega, by have := hr.root; simp only at *; omega⟩
  have Hno := Lib.hid hno
  clear hno
  by_cases h1 : root < 0
  · clear h
    go_enter Tryd.func27, Tryd.ntmps27
    go_wp2
    go_ret
    exact ⟨tells_no Hno.out, (Below.refl _ _).alloc (Nat.le_refl _) _⟩
  · have h2 : (ns.length : Int) ≤ root := by omega
    clear h
    go_enter Tryd.func27, Tryd.ntmps27
    go_wp2
    go_ret
    exact ⟨tells_no Hno.out, (Below.refl _ _).alloc (Nat.le_refl _) _⟩
/-- bonsairef04.Right. -/
theorem rright_any (ns : List Nd) (root : Int) (p : Option Addr) (cap : Nat) (hS : Small ns) (w : World) (F : Nat → TypeId → Prop) (hN : NodesAt w F p ns) :
    Calls Tryd.prog 27 #[arV p ns.length cap root] w fun e w' => Tells e (RightP ⟨ns, root⟩) ∧ Below w.heap.size w w' := by
  by_cases h : 0 ≤ root ∧ root < ns.length
  · exact rright_in ns root h.1 h.2 p cap hS w F hN
  · exact rright_no ns root p cap h w
end Go.Proofs.YtcenjpaiehidjaaDoor

/- Contract of bonsairef04.Sub. -/
namespace Go.Proofs.YtcenjpaiehidjaaDoor
open Go.RowKit
set_option maxRecDepth 100000
attribute [local go_sem ↓] Go.wp_at_zero Go.wp_at_succ

theorem rright_true (ns : List Nd) (root : Int) (p : Option Addr) (cap : Nat) (hS : Small ns) (w : World) (F : Nat → TypeId → Prop) (hN : NodesAt w F p ns) (hR : RightP ⟨ns, root⟩) :
    Calls Tryd.prog 27 #[arV p ns.length cap root] w fun e w' => e = .returned (.bool true) ∧ Below w.heap.size w w' :=
  (rright_any ns root p cap hS w F hN).mono fun _ _ ⟨⟨b, h1, h2⟩, hb⟩ => ⟨by rw [h1, h2.2 hR], hb⟩
theorem rright_false (ns : List Nd) (root : Int) (p : Option Addr) (cap : Nat) (hS : Small ns) (w : World) (F : Nat → TypeId → Prop) (hN : NodesAt w F p ns) (hR : ¬ RightP ⟨ns, root⟩) :
    Calls Tryd.prog 27 #[arV p ns.length cap root] w fun e w' => e = .returned (.bool false) ∧ Below w.heap.size w w' :=
  (rright_any ns root p cap hS w F hN).mono fun _ _ ⟨⟨b, h1, h2⟩, hb⟩ => ⟨by cases b; exact h1; exact absurd (h2.1 rfl) hR, hb⟩
/-- The places that were told, one for each node. -/
def placeL (n : Nat) (f : Int → Int) : List Int := (List.range n).map fun (j : Nat) => f (j : Int)
theorem placeL_len (n : Nat) (f : Int → Int) : (placeL n f).length = n := by simp [placeL]
theorem placeL_get {n : Nat} {f : Int → Int} {j : Nat} (h : j < n) : (placeL n f)[j]? = some (f j) := by simp [placeL, h]
theorem placeL_zero (n : Nat) : placeL n (fun _ => 0) = List.replicate n 0 := by
  apply List.ext_getElem
  · simp [placeL]
  · intro j h1 h2; simp [placeL]
theorem placeL_set {n : Nat} {f : Int → Int} {j : Nat} {v : Int} (h : j < n) : (intC (placeL n f)).toArray.setIfInBounds j (.int .i64 v) = (intC (placeL n (fun i => if i = (j : Int) then v else f i))).toArray := by
  apply Array.toList_inj.1
  rw [Array.toList_setIfInBounds]
  show (intC (placeL n f)).set j _ = intC (placeL n _)
  apply List.ext_getElem?
  intro i
  rw [List.getElem?_set]
  by_cases hi : j = i
  · subst hi
    rw [if_pos rfl, if_pos (by rw [intC_len, placeL_len]; exact h)]
    rw [intC_get (placeL_get h)]
    simp
  · rw [if_neg hi]
    by_cases hin : i < n
    · rw [intC_get (placeL_get hin), intC_get (placeL_get hin)]
      have : ¬ ((i : Int) = (j : Int)) := by omega
      simp [this]
    · rw [List.getElem?_eq_none (by rw [intC_len, placeL_len]; omega), List.getElem?_eq_none (by rw [intC_len, placeL_len]; omega)]
theorem rev_get {l : List Int} {k : Nat} (h : k < l.length) : l.reverse[l.length - 1 - k]? = l[k]? := by
  rw [List.getElem?_reverse (by omega)]
  congr 1
  omega
theorem cell_alloc_keep {W : World} {o : Obj} {b j : Nat} {v : Value} (h : W.cell? ⟨b, j, none⟩ = some v) : (W.alloc o).drew.cell? ⟨b, j, none⟩ = some v :=
  (((Below.refl W.heap.size W).alloc (Nat.le_refl _) o).cell (p := ⟨b, j, none⟩) (block_lt_of_cell h)).trans h
/-- Rows, and one block more, that a frame inside may write. -/
def Told (p : Nat) (R : List OwnR) (g : Nat) : Prop := g = p ∨ ∃ r ∈ R, r.v.ownBlock = some g
theorem RInv.again {S : Nat → Prop} {w W : World} {L : List (Nat × Obj)} {R : List OwnR} (h : RInv S w L R W) (p : Nat) : RInv (Told p R) W L R W :=
  ⟨Off.refl _ _, h.blk, h.own, fun r hr g hg => .inr (.inr ⟨r, hr, hg⟩), h.apartL, h.apart⟩
theorem RInv.over {w W W1 : World} {T : Nat → Prop} {L0 L : List (Nat × Obj)} {R0 R : List OwnR} (h0 : RInv noS w L0 R0 W) (h : RInv T W L R W1) (hT : ∀ g, T g → w.heap.size ≤ g) : RInv noS w L R W1 :=
  ⟨h0.off.trans h.off fun g hg ht => absurd (hT g ht) (by omega), h.blk, h.own, fun r hr g hg => .inl ((h.new r hr g hg).elim (fun k => Nat.le_trans h0.size k) (hT g)), h.apartL, h.apart⟩
theorem RInv.told {w W : World} {L : List (Nat × Obj)} {R : List OwnR} (h : RInv noS w L R W) {p : Nat} (hp : w.heap.size ≤ p) : ∀ g, Told p R g → w.heap.size ≤ g := fun g hg => by
  rcases hg with rfl | ⟨r, hr, hg⟩
  · exact hp
  · exact (h.new r hr g hg).elim id False.elim
/-- What one round of a copy does to the nodes that were put. -/
theorem sub_nodes {wo W7 W8 : World} {n k : Nat} {xs : List Value} {out : List Nd} {vo : Value} (hX : NodesIn wo (Own n wo) xs out) (h7 : ∀ b, Own n wo b 3 → b < wo.heap.size → W7.heap[b]? = wo.heap[b]?) (ho : W7.ownsRow 0 56 9 vo k xs) (h8 : W7.grownBy W8 vo.ownBlock) {nd : Nd} (hd : HdOk nd.hd) (q : Option Addr) (cap : Nat)
    (hq : IntsAt W7 (Own n W7) q nd.kids) : NodesIn W8 (Own n W8) (xs ++ ndC nd.hd q nd.kids.length cap) (out ++ [nd]) := by
  have h2 : NodesIn W7 (Own n W7) xs out := hX.turn fun b hb hlt => by
    have := h7 b hb hlt
    exact ⟨this, hb.1, hb.2.imp fun cur h => this.trans h⟩
  refine (h2.push hd q cap hq).turn fun b hb hlt => ?_
  have := h8.block b hlt fun e => by obtain ⟨_, cur, h2⟩ := hb; exact row_other ho (by decide) b cur e.symm h2
  exact ⟨this, hb.1, hb.2.imp fun cur h => this.trans h⟩
theorem told_not {w : World} {n k g1 m c p : Nat} {xs ys : List Value} {vo : Value} (ho : w.ownsRow 0 56 9 vo k xs) (hg : g1 < p) {b : Nat} (hb : Own (p + 1) w b 3) : ¬ Told p [⟨56, 9, vo, k, xs⟩, ⟨3, 1, .slice (some ⟨g1, 0, none⟩) m c, n, ys⟩] b := by
  obtain ⟨hb, cur, h2⟩ := hb
  rintro (rfl | ⟨r, hr, e⟩)
  · omega
  · simp only [List.mem_cons, List.not_mem_nil, or_false] at hr
    rcases hr with rfl | rfl
    · exact row_other ho (by decide) b cur e h2
    · injection e with e
      simp only at e
      omega
theorem row_kids {wo W : World} {n k g1 m c p l ck : Nat} {xs ys : List Value} {zs : List Int} {vo : Value} {qk : Option Addr} {o : Obj} {L : List (Nat × Obj)}
    (hP : RInv (Told p [⟨56, 9, vo, k, xs⟩, ⟨3, 1, .slice (some ⟨g1, 0, none⟩) m c, n, ys⟩]) wo L [⟨3, 1, .slice qk l ck, l, intC zs⟩, ⟨56, 9, vo, k, xs⟩, ⟨3, 1, .slice (some ⟨g1, 0, none⟩) m c, n, ys⟩] W) (hL : (p, o) ∈ L) (hp : p < wo.heap.size) : IntsAt W (Own (p + 1) W) qk zs := by
  refine row_ints hP.own1 fun g hg => ?_
  rcases hP.new _ List.mem_cons_self g hg with h | rfl | ⟨r, hr, e⟩
  · omega
  · exact absurd hg (hP.apartL _ List.mem_cons_self _ hL)
  · exact absurd e ((List.pairwise_cons.1 hP.apart).1 r hr g hg)
set_option maxHeartbeats 8000000 in
/-- bonsairef04.Sub, of a tree that is right, at a node that there is. -/
theorem rsub_yes (ns : List Nd) (y : Xp) (i root : Int) (p : Option Addr) (cap : Nat) (hS : Small ns) (hR : RightP ⟨ns, root⟩) (hy : sits ns y i) (hz : y.size ≤ 100000) (w : World) (F : Nat → TypeId → Prop) (hN : NodesAt w F p ns) :
    Calls Tryd.prog 28 #[arV p ns.length cap root, .int .i64 i] w fun e w' => GetsT w.heap.size w' e (some y) ∧ Below w.heap.size w w' := by
  have hl := hS.len
  have h0 := sits_nonneg hy
  have h1 : i < ns.length := by have := sits_lt hy; omega
  have hlt : ¬ i < 0 := by omega
  have hge : ¬ (ns.length : Int) ≤ i := by omega
  have hyp := y.size_pos
  have HN := Lib.hid hN
  have HS := Lib.hid hS
  have HR := Lib.hid hR
  have Hy := Lib.hid hy
  have H0 := Lib.hid (walkI_start hy)
  have hI := ((RInv.start noS w).alloc (arO p ns.length cap root)).alloc (arO none 0 0 0)
  rw [World.size_alloc] at hI
  clear hN hS hR hy
  go_enter Tryd.func28, Tryd.ntmps28
  go_wp2_with (first | (go_at_call 27; refine (rright_true ns root p cap HS.out _ F (HN.out.below hI.below) HR.out).mono ?_; rintro e W1 ⟨rfl, hb1⟩; have hI1 := hI.call hb1; clear hb1; obtain ⟨c0, c1⟩ := box_cells hI1 (List.mem_cons_of_mem _ List.mem_cons_self)))
  have hI2 := (hI1.lay 3 1 #[.int .i64 i] 1 1 rfl (by omega) (by unfold maxLen; omega)).nil 3 1
  have HI2 := Lib.hid hI2
  clear hI hI1 hI2 c0 c1
  go_loopw [6, 7] (fun v1 v2 wr => ∃ (o l : List Int) (xs : List Xp), RInv noS w [(w.heap.size + 1, arO none 0 0 0), (w.heap.size, arO p ns.length cap root)] (walkR v1 v2 o l) wr ∧ Hid (WalkI ns y i o l xs)) (fun v1 _ _ => y.size - lenOfV v1)
  case atStart => exact ⟨[], [i], [y], HI2.out, H0⟩
  case round =>
    clear HI2 H0
    obtain ⟨o, l, xs, hI, hW⟩ := hrel
    have hown1 := hI.own1
    have hown2 := hI.own2
    have hlv := row_len hown1
    have hsz := hW.out.size
    by_cases hnil : l = []
    · subst hnil
      obtain ⟨q, c2, rfl, _⟩ := row_slice hown2
      have hfin : o = (post ns y i).reverse ∧ o.length = y.size := by
        have h1 := hW.out.row
        have h2 := sitsL_len hW.out.sits
        have h3 : xs = [] := List.eq_nil_of_length_eq_zero h2.symm
        subst h3
        rw [rowOf_nil, List.append_nil] at h1
        rw [sizeL_nil] at hsz
        exact ⟨h1, hsz⟩
      obtain ⟨n, hn⟩ : ∃ l : List Int, l = post ns y i := ⟨_, rfl⟩
      obtain ⟨wp, rfl⟩ : ∃ wp : World, wp = wr := ⟨_, rfl⟩
      rw [← hn] at hfin
      obtain ⟨hrv, hlo⟩ := hfin
      have hol : o.length = n.length := by rw [hrv, List.length_reverse]
      unfold walkR at hI
      rw [hol] at hlo hI
      have Hrv := Lib.hid hrv
      have hn0 : 0 < n.length := by omega
      have hnz : n.length ≤ 100000 := by omega
      obtain ⟨g1, c1, _, rfl, _⟩ := row_form hI.own1 hn0
      obtain ⟨c0, c1'⟩ := box_cells hI (List.mem_cons_of_mem _ List.mem_cons_self)
      have hmk := made_ints ns.length hl
      have hJ := (hI.subR (List.Sublist.cons_cons _ (List.nil_sublist _))).alloc (.cells (Array.replicate ns.length (.int .i64 0)) 3)
      rw [show (Array.replicate ns.length (Value.int .i64 0)) = (intC (placeL ns.length (putTo ns [] n 0).place)).toArray by rw [putTo_zero, placeL_zero]; simp [intC]] at hJ hmk
      have HJ := Lib.hid (hJ.nil 56 9)
      have Hn := Lib.hid hn
      have Hlo := Lib.hid hlo
      have hg1 : Hid (g1 < wp.heap.size) := Lib.hid (own_lt hI List.mem_cons_self rfl)
      have hwpp : w.heap.size + 1 < wp.heap.size := lt_of_heap (hI.at (g := w.heap.size + 1) List.mem_cons_self)
      clear hW hI hown1 hown2 hlv hn hlo hJ hsz hrv hol
      go_wp2_with (first | fail)
      go_loopw [10, 11] (fun vo iv w1 => ∃ (k : Nat) (m : Int) (xs : List Value), k ≤ n.length ∧ m = (n.length : Int) - k - 1 ∧ iv = .int .i64 m ∧
        RInv noS w [(wp.heap.size, .cells (intC (placeL ns.length (putTo ns [] n k).place)).toArray 3), (w.heap.size + 1, arO none 0 0 0), (w.heap.size, arO p ns.length cap root)] [⟨56, 9, vo, k, xs⟩, ⟨3, 1, .slice (some ⟨g1, 0, none⟩) n.length c1, n.length, intC o⟩] w1 ∧
        Hid (NodesIn w1 (Own (wp.heap.size + 1) w1) xs (putTo ns [] n k).out)) (fun _ iv _ => (intOf iv + 1).toNat)
      case atStart => exact ⟨0, _, [], by omega, by omega, rfl, HJ.out, Lib.hid (NodesIn.nil _ _)⟩
      case round =>
        clear HJ hmk c0 c1'
        obtain ⟨k, m, xs', hk, hm, rfl, hI, hX⟩ := hrel
        obtain ⟨wo, rfl⟩ : ∃ wo : World, wo = wr := ⟨_, rfl⟩
        obtain ⟨qo, co, rfl, _, _⟩ := row_slice hI.own1
        by_cases hkt : k < n.length
        · obtain ⟨d, rfl⟩ : ∃ d : Nat, m = d := ⟨n.length - 1 - k, by omega⟩
          obtain ⟨c, hc⟩ : ∃ c, n[k]? = some c := ⟨_, List.getElem?_eq_getElem hkt⟩
          have hmem : c ∈ post ns y i := by rw [← Hn.out]; exact List.mem_of_getElem? hc
          have Hd := Lib.hid (HR.out.down')
          obtain ⟨_, _, yc, hyc⟩ := post_le Hd.out y Hy.out hmem
          obtain ⟨j, nd, rfl, hj, hnd, hkk, hhd, hsk⟩ := walk_idx hyc
          obtain ⟨b, off, hp, hFb, hcc⟩ := HN.out (by intro h; rw [h] at hj; exact absurd hj (by simp))
          subst hp
          obtain ⟨q', cap', hdok, hr, hki⟩ := hcc j nd hnd
          have hkl := HS.out.kids nd (List.mem_of_getElem? hnd)
          have hback : o[d]? = some (j : Int) := by rw [Hrv.out, show d = n.length - 1 - k by omega, rev_get hkt]; exact hc
          have hck := row_cell hI.own2 rfl (intC_get hback)
          have hblt : b < w.heap.size := block_lt_of_cell (hr 0 _ rfl)
          have Hr := Lib.hid (rangeAt_keep hr (hI.off.block b hblt (fun h => h)))
          have Hki := Lib.hid hki
          have c0 := hI.cell (g := w.heap.size) (j := 0) (v := .slice (some ⟨b, off, none⟩) ns.length cap) (List.mem_cons_of_mem _ (List.mem_cons_of_mem _ List.mem_cons_self)) rfl
          have Hnd := Lib.hid hnd
          have Hc := Lib.hid hc
          have Hdok := Lib.hid hdok
          have HI := Lib.hid hI
          have hdn : d < n.length := by omega
          have Hback := Lib.hid hback
          have Hm := Lib.hid hm
          clear hcc hr hki hnd hc hdok hkk hhd hsk hyc hmem hI hback hm
          go_wp2_with (first | fail)
          have n0 := World.new_ne wo _ c0
          have n1 := World.new_ne wo _ hck
          have n2 := World.new_ne wo _ (Hr.out 0 _ rfl)
          have r0 := Hr.out 0 _ rfl
          have r1 := Hr.out 1 _ rfl
          have r2 := Hr.out 2 _ rfl
          have r3 := Hr.out 3 _ rfl
          have r4 := Hr.out 4 _ rfl
          have r5 := Hr.out 5 _ rfl
          have r6 := Hr.out 6 _ rfl
          have r7 := Hr.out 7 _ rfl
          have r8 := Hr.out 8 _ rfl
          go_region_held_law (fun w' => w'.cell? ⟨w.heap.size, 0, none⟩ = some (.slice (some ⟨b, off, none⟩) ns.length cap) ∧ w'.cell? ⟨g1, d, none⟩ = some (.int .i64 (j : Int)) ∧ w'.cell? ⟨b, off + j * 9, none⟩ = some (.int .u8 nd.hd.kind) ∧ w'.cell? ⟨b, off + j * 9 + 1, none⟩ = some (.int .u64 (w64 nd.hd.set 0)) ∧ w'.cell? ⟨b, off + j * 9 + 2, none⟩ = some (.int .u64 (w64 nd.hd.set 1)) ∧ w'.cell? ⟨b, off + j * 9 + 3, none⟩ = some (.int .u64 (w64 nd.hd.set 2)) ∧ w'.cell? ⟨b, off + j * 9 + 4, none⟩ = some (.int .u64 (w64 nd.hd.set 3)) ∧
            w'.cell? ⟨b, off + j * 9 + 5, none⟩ = some (.string (strOf nd.hd.text)) ∧ w'.cell? ⟨b, off + j * 9 + 6, none⟩ = some (.int .i64 nd.hd.lo) ∧ w'.cell? ⟨b, off + j * 9 + 7, none⟩ = some (.int .i64 nd.hd.hi) ∧ w'.cell? ⟨b, off + j * 9 + 8, none⟩ = some (.slice q' nd.kids.length cap')) (first | exact ⟨c0, hck, r0, r1, r2, r3, r4, r5, r6, r7, r8⟩ | exact ⟨cell_alloc_keep c0, cell_alloc_keep hck, cell_alloc_keep r0, cell_alloc_keep r1, cell_alloc_keep r2, cell_alloc_keep r3, cell_alloc_keep r4, cell_alloc_keep r5, cell_alloc_keep r6, cell_alloc_keep r7, cell_alloc_keep r8⟩ | go_keep) (fail)
          clear n0 n1 n2 r0 r1 r2 r3 r4 r5 r6 r7 r8 c0 hck
          have hw1 : wp.heap.size < wo.heap.size := lt_of_heap (HI.out.at (g := wp.heap.size) List.mem_cons_self)
          have hw2 : w.heap.size + 1 < wo.heap.size := lt_of_heap (HI.out.at (g := w.heap.size + 1) (List.mem_cons_of_mem _ List.mem_cons_self))
          have hpn := putTo_node (os := []) Hc.out Hnd.out hkt
          rw [List.length_nil, Nat.zero_add] at hpn
          have Hpn := Lib.hid hpn
          have hwp : w.heap.size + 1 < wp.heap.size := hwpp
          have hJ1 : RInv (Told wp.heap.size [⟨56, 9, .slice qo k co, k, xs'⟩, ⟨3, 1, .slice (some ⟨g1, 0, none⟩) n.length c1, n.length, intC o⟩]) wo
              [(wp.heap.size, .cells (intC (placeL ns.length (putTo ns [] n k).place)).toArray 3), (wo.heap.size, ndO nd.hd q' nd.kids.length cap'), (w.heap.size + 1, arO none 0 0 0), (w.heap.size, arO (some ⟨b, off, none⟩) ns.length cap root)] [⟨56, 9, .slice qo k co, k, xs'⟩, ⟨3, 1, .slice (some ⟨g1, 0, none⟩) n.length c1, n.length, intC o⟩] (wo.alloc (ndO nd.hd q' nd.kids.length cap')).drew :=
            ((HI.out.again wp.heap.size).alloc (ndO nd.hd q' nd.kids.length cap')).drew.subL (fun p hp => by simp only [List.mem_cons, List.not_mem_nil, or_false] at hp ⊢; rcases hp with h | h | h | h <;> subst h <;> simp)
          have hck := row_cell hJ1.own2 rfl (intC_get Hback.out)
          have HJ1 := Lib.hid hJ1
          have hjn : j < (intC (placeL ns.length (putTo ns [] n k).place)).toArray.size := by simp [intC, placeL]; omega
          have Hjn := Lib.hid hjn
          clear hpn hJ1 hjn
          go_wp2_with (first | (refine rinv_store rfl _ _ _ rfl wp.heap.size j (intC (placeL ns.length (putTo ns [] n k).place)).toArray 3 (.int .i64 (k : Int)) rfl rfl rfl szInt Hjn.out HJ1.out (.inr (.inl rfl)) ?_ ?_; (intro p hp; simp only [List.mem_cons, List.not_mem_nil, or_false] at hp; rcases hp with h | h | h <;> subst h <;> simp only <;> omega); intro W5 hK hW; clear hW; rw [placeL_set hj, ← Hpn.out.2] at hK; replace hK := Lib.hid (hK.nil 3 1)))
          clear hck
          go_loopw [13, 14] (fun kv iv w2 => ∃ m : Nat, m ≤ nd.kids.length ∧ iv = .int .i64 m ∧
            RInv (Told wp.heap.size [⟨56, 9, .slice qo k co, k, xs'⟩, ⟨3, 1, .slice (some ⟨g1, 0, none⟩) n.length c1, n.length, intC o⟩]) wo
              [(wp.heap.size, .cells (intC (placeL ns.length (putTo ns [] n (k + 1)).place)).toArray 3), (wo.heap.size, ndO nd.hd q' nd.kids.length cap'), (w.heap.size + 1, arO none 0 0 0), (w.heap.size, arO (some ⟨b, off, none⟩) ns.length cap root)] [⟨3, 1, kv, m, intC ((nd.kids.take m).map (putTo ns [] n (k + 1)).place)⟩, ⟨56, 9, .slice qo k co, k, xs'⟩, ⟨3, 1, .slice (some ⟨g1, 0, none⟩) n.length c1, n.length, intC o⟩] w2) (fun _ iv _ => nd.kids.length - (intOf iv).toNat)
          case atStart => exact ⟨0, by omega, rfl, hK.out⟩
          case round =>
            clear hK
            obtain ⟨m, hm, rfl, hJ⟩ := hrel
            obtain ⟨wi, rfl⟩ : ∃ wi : World, wi = wr := ⟨_, rfl⟩
            by_cases hmt : m < nd.kids.length
            · obtain ⟨c, hc⟩ : ∃ c, nd.kids[m]? = some c := ⟨_, List.getElem?_eq_getElem hmt⟩
              have hcr := kidsAt_lt Hd.out (i := (j : Int)) (k := c) (by rw [kidsAt_some Hnd.out]; exact List.mem_of_getElem? hc)
              obtain ⟨c, rfl⟩ : ∃ c' : Nat, c = c' := ⟨c.toNat, by omega⟩
              have hcn : c < ns.length := by omega
              have hov := HI.out.over hJ (HI.out.told (by omega))
              obtain ⟨b2, o2, rfl, _, hcc⟩ := (Hki.out.keep fun b' _ hf hlt' => hov.below.block b' hlt') (by intro h; rw [h] at hmt; exact absurd hmt (by simp))
              have hcm := hcc m _ hc
              have d8 := hJ.cell (g := wo.heap.size) (j := 8) (v := .slice (some ⟨b2, o2, none⟩) nd.kids.length cap') (List.mem_cons_of_mem _ List.mem_cons_self) rfl
              have hpc := hJ.cell (g := wp.heap.size) (j := c) (v := .int .i64 ((putTo ns [] n (k + 1)).place c)) List.mem_cons_self (intA_get (placeL_get hcn))
              have HJ := Lib.hid hJ
              have Hcm := Lib.hid hc
              clear hov hcc hc hcr hJ
              go_wp2_with (first | (at_builtin; refine app_newB intT rfl (.tmp 92) (.tmp 101) rfl #[.int .i64 ((putTo ns [] n (k + 1)).place c)] rfl rfl rfl (by simp [Value.oneCell']) HJ.out (by unfold maxLen; omega) (by omega) ?_; intro v1 W2 hJ2 hg hbb; clear hg hbb))
              go_roundw
              case rel =>
                refine ⟨m + 1, by omega, by go_num, ?_⟩
                rw [List.toList_toArray, show intC ((nd.kids.take m).map (putTo ns [] n (k + 1)).place) ++ [.int .i64 ((putTo ns [] n (k + 1)).place c)] = intC ((nd.kids.take (m + 1)).map (putTo ns [] n (k + 1)).place) by rw [List.take_add_one, Hcm.out]; simp [intC]] at hJ2
                exact hJ2
              case measure => simp [intOf]; omega
            · obtain rfl : m = nd.kids.length := by omega
              have hov := hJ
              rw [List.take_length] at hov
              have hmap : nd.kids.map (putTo ns [] n (k + 1)).place = nd.kids.map (putTo ns [] n k).place := by
                rw [Hpn.out.2]
                refine List.map_congr_left fun c hc => ?_
                have hcr := kidsAt_lt Hd.out (i := (j : Int)) (k := c) (by rw [kidsAt_some Hnd.out]; exact hc)
                rw [if_neg (by omega)]
              rw [hmap] at hov
              obtain ⟨qk, ck, rfl, _⟩ := row_slice hov.own1
              have d8 := hov.cell (g := wo.heap.size) (j := 8) (v := .slice q' nd.kids.length cap') (List.mem_cons_of_mem _ List.mem_cons_self) rfl
              have HK := Lib.hid (hov.subL (L' := [(wo.heap.size, ndO nd.hd q' nd.kids.length cap'), (wp.heap.size, .cells (intC (placeL ns.length (putTo ns [] n (k + 1)).place)).toArray 3), (w.heap.size + 1, arO none 0 0 0), (w.heap.size, arO (some ⟨b, off, none⟩) ns.length cap root)]) (fun p hp => by simp only [List.mem_cons, List.not_mem_nil, or_false] at hp ⊢; rcases hp with h | h | h | h <;> subst h <;> simp))
              clear hov hJ hmap
              go_wp2_with (first | (refine rinv_store rfl _ _ _ rfl wo.heap.size 8 (ndC nd.hd q' nd.kids.length cap').toArray 56 (.slice qk nd.kids.length ck) rfl rfl rfl szInts (by simp) HK.out (.inl (Nat.le_refl _)) ?_ ?_; (intro p hp; simp only [List.mem_cons, List.not_mem_nil, or_false] at hp; rcases hp with h | h | h <;> subst h <;> simp only <;> omega); intro W6 hP hW; rw [ndO_set] at hP; clear hW; have hP2 := hP.swap) | (refine load_own rfl _ rfl wo.heap.size rfl nd.hd qk nd.kids.length ck (hP.at List.mem_cons_self) ?_) | (at_builtin; refine app_newB nodeT rfl (.tmp 105) (.tmp 107) rfl (ndC nd.hd qk nd.kids.length ck).toArray rfl rfl rfl (by simp [Value.oneCell']) hP2 (by unfold maxLen; omega) (by omega) ?_; intro v8 W8 hE h8 hb8))
              go_roundw
              case rel =>
                have hkids := row_kids hP (List.mem_cons_of_mem _ List.mem_cons_self) hw1
                have h1 := sub_nodes (nd := ⟨nd.hd, nd.kids.map (putTo ns [] n k).place⟩) hX.out (fun b ho hlt => hP.off.block b hlt (told_not HI.out.own1 hg1.out ho)) hP2.own1 h8 Hdok.out qk ck hkids
                rw [List.length_map] at h1
                refine ⟨k + 1, by omega, by have := Hm.out; omega, xs' ++ ndC nd.hd qk nd.kids.length ck, (HI.out.over hE (HI.out.told (by omega))).subL (fun p hp => by simp only [List.mem_cons, List.not_mem_nil, or_false] at hp ⊢; rcases hp with h | h | h <;> subst h <;> simp) |>.subR (List.Sublist.cons_cons _ (List.Sublist.cons _ (List.Sublist.refl _))), Lib.hid (by rw [Hpn.out.1]; exact h1)⟩
              case measure => simp [intOf]; omega
        · obtain rfl : k = n.length := by omega
          have hm1 : m < 0 := by omega
          clear hm
          have hend := putTo_all (os := []) HR.out.down' Hy.out
          rw [← Hn.out, ← Hlo.out, List.nil_append, List.length_nil] at hend
          have hX1 := hX.out
          rw [hend] at hX1
          have Hq := Lib.hid hX1
          have HI := Lib.hid (hI.subL (L' := [(w.heap.size + 1, arO none 0 0 0), (w.heap.size, arO p ns.length cap root)]) (fun p hp => by simp only [List.mem_cons, List.not_mem_nil, or_false] at hp ⊢; rcases hp with h | h <;> subst h <;> simp))
          clear hX hX1 hend hI
          go_wp2_with (first | (refine rinv_row rfl _ _ _ rfl (w.heap.size + 1) #[.slice none 0 0, .int .i64 0] #[.slice qo n.length co, .int .i64 ((n.length : Int) - 1)] 24 rfl rfl (by simp [Value.oneCell']) szTree rfl HI.out (.inl (by omega)) (by simp) ?_; intro W3 hI3 hg3; obtain ⟨c0, c1⟩ := box_cells hI3 List.mem_cons_self))
          have hlt3 : w.heap.size + 1 < wo.heap.size := lt_of_heap (HI.out.at (g := w.heap.size + 1) List.mem_cons_self)
          have hbase : ∀ g, (Value.slice qo n.length co).ownBlock = some g → w.heap.size + 2 ≤ g := fun g hg => by
            have k1 := (HI.out.new _ List.mem_cons_self g hg).elim id False.elim
            have k2 := HI.out.apartL _ List.mem_cons_self _ List.mem_cons_self
            have k3 := HI.out.apartL _ List.mem_cons_self _ (List.mem_cons_of_mem _ List.mem_cons_self)
            simp only [hg, ne_eq, Option.some.injEq] at k2 k3
            omega
          obtain ⟨p2, c2', e2, hq⟩ := (Hq.out.turn (F' := Own (w.heap.size + 2) wo) fun b hb _ => ⟨rfl, by have := hb.1; omega, hb.2⟩).at (n := w.heap.size + 2) (by have := row_base HI.out.own1 hbase; rw [lay_len, ← Hlo.out]; exact this)
          rw [lay_len, ← Hlo.out] at e2
          injection e2 with e2 e3 e4
          subst e2 e4
          rw [Hlo.out] at c0
          rw [Hlo.out] at c1
          refine bodyPost_ret (v := .tuple #[arV qo y.size co ((y.size : Int) - 1), .bool true]) (by simp [results, Tryd.results28, go_sem, c0, c1]) rfl ⟨⟨_, rfl, tree_of (hq.turn (own_low (m := w.heap.size) hg3 (by omega) (by omega)))⟩, hI3.below⟩
    · obtain ⟨ys, x, m, n, rfl, rfl, hml, h1, h2⟩ := stack_last hW.out.sits hnil
      obtain ⟨j, nd, rfl, hj, hnd, hk, hhd, hkk⟩ := walk_idx h2
      have hstep := walkI_step hW.out hml h1 h2
      rw [hk] at hstep
      have hsz2 := hstep.size
      have hlen2 := sitsL_len hstep.sits
      have hle := sizeL_le_len (ys ++ x.kids)
      obtain ⟨g, c2, cur, hv2, _, _, hc2, _⟩ := row_form hown2 (by simp)
      have hv2' : u7 = .slice (some ⟨g, 0, none⟩) (m.length + 1) c2 := by rw [hv2]; simp
      subst hv2'
      obtain ⟨b, off, hp, _, hc⟩ := HN.out (by intro h; rw [h] at hj; exact absurd hj (by simp))
      subst hp
      obtain ⟨q, cap', hd, hr, hki⟩ := hc j nd hnd
      have Hstep := Lib.hid hstep
      have Hki := Lib.hid hki
      have Hhl := Lib.hid hlv
      have hkl := HS.out.kids nd (List.mem_of_getElem? hnd)
      have hcn : wr.cell? ⟨g, m.length, none⟩ = some (.int .i64 j) := row_cell hown2 rfl (by simp)
      have Hlt : Hid (b < w.heap.size) := Lib.hid (block_lt_of_cell (hr 0 _ rfl))
      have Hr := Lib.hid hr
      obtain ⟨hlo, hox⟩ : m.length + nd.kids.length + o.length + 1 ≤ 100000 ∧ o.length + 1 ≤ y.size := by rw [List.length_append] at hlen2; simp only [List.length_append, List.length_singleton] at hsz2; omega
      have hm1 : (m.length : Int) ≤ (c2 : Int) := by rw [List.length_append] at hc2; omega
      have hcut : RInv noS w [(w.heap.size + 1, arO none 0 0 0), (w.heap.size, arO (some ⟨b, off, none⟩) ns.length cap root)] [⟨3, 1, u6, o.length, intC o⟩, ⟨3, 1, .slice (some ⟨g, 0, none⟩) m.length c2, m.length, intC m⟩] wr := by
        have h1 := hI.swap
        have h2 : (m ++ [(j : Int)]).length = m.length + 1 := by simp
        rw [h2] at h1
        have h3 := h1.cut (k' := m.length) (by omega)
        rw [Nat.mul_one, intC_app, List.take_left' (intC_len m)] at h3
        exact h3.swap
      have Hcut := Lib.hid hcut
      clear hstep h1 h2 hhd hkk hnil hc hr hki hv2 hlv hown1 hown2 hsz hle hlen2 hnd hd hk hml hsz2 hcut hI
      go_wp2_with (first | (at_builtin; refine app_new intT rfl (.tmp 46) (.tmp 48) rfl #[.int .i64 j] rfl rfl rfl (by simp [Value.oneCell']) Hcut.out (by unfold maxLen; omega) (by omega) ?_; intro v1 W2 hJ hg; clear hg; have c0 := hJ.cell (g := w.heap.size) (j := 0) (v := .slice (some ⟨b, off, none⟩) ns.length cap) (List.mem_cons_of_mem _ List.mem_cons_self) rfl; have c8 : W2.cell? ⟨b, off + j * 9 + 8, none⟩ = some (.slice q nd.kids.length cap') := (hJ.below.cell (p := ⟨b, off + j * 9 + 8, none⟩) Hlt.out).trans (Hr.out 8 _ rfl); have hJ2 := hJ.swap) | (at_builtin; refine app_row intT rfl (.tmp 50) (.tmp 56) rfl q nd.kids.length cap' (intC nd.kids) rfl rfl (by simp) (src_ints (Hki.out.keep fun b' _ _ hlt => hJ.below.block b' hlt)) (intC_one _) hJ2 (by unfold maxLen; omega) (by omega) ?_; intro v2 W3 hJ3 hg; clear hg))
      go_roundw
      case rel =>
        refine ⟨o ++ [(j : Int)], m ++ nd.kids, ys ++ x.kids, ?_, Hstep⟩
        have h1 := hJ3.swap
        rw [← intC_app, ← List.length_append, List.toList_toArray, show intC o ++ [.int .i64 (j : Int)] = intC (o ++ [(j : Int)]) by rw [intC_app]; rfl, show o.length + 1 = (o ++ [(j : Int)]).length by simp] at h1
        exact h1
      case measure =>
        have := row_len hJ3.own2
        rw [this, Hhl.out]
        omega
set_option maxHeartbeats 2000000 in
/-- bonsairef04.Sub, where it says no. -/
theorem rsub_no (ns : List Nd) (i root : Int) (p : Option Addr) (cap : Nat) (hS : Small ns) (hR : ¬ (RightP ⟨ns, root⟩ ∧ 0 ≤ i ∧ i < ns.length)) (w : World) (F : Nat → TypeId → Prop) (hN : NodesAt w F p ns) :
    Calls Tryd.prog 28 #[arV p ns.length cap root, .int .i64 i] w fun e w' => GetsT w.heap.size w' e none ∧ Below w.heap.size w w' := by
  have hl := hS.len
  have HN := Lib.hid hN
  have HS := Lib.hid hS
  have hI := ((RInv.start noS w).alloc (arO p ns.length cap root)).alloc (arO none 0 0 0)
  rw [World.size_alloc] at hI
  clear hN hS
  by_cases h : RightP ⟨ns, root⟩
  · have HR := Lib.hid h
    have hor : i < 0 ∨ (0 ≤ i ∧ (ns.length : Int) ≤ i) := by
      by_cases h1 : i < 0
      · exact .inl h1
      · exact .inr ⟨by omega, by by_cases h2 : (ns.length : Int) ≤ i; exact h2; exact absurd ⟨h, by omega, by omega⟩ hR⟩
    clear hR h
    rcases hor with hlt | ⟨hlt, hge⟩
    · go_enter Tryd.func28, Tryd.ntmps28
      go_wp2_with (first | (go_at_call 27; refine (rright_true ns root p cap HS.out _ F (HN.out.below hI.below) HR.out).mono ?_; rintro e W1 ⟨rfl, hb1⟩; have hI1 := hI.call hb1; clear hb1; obtain ⟨c0, c1⟩ := box_cells hI1 (List.mem_cons_of_mem _ List.mem_cons_self)) | (refine rinv_row rfl _ _ _ rfl (w.heap.size + 1) #[.slice none 0 0, .int .i64 0] #[.slice none 0 0, .int .i64 0] 24 rfl rfl (by simp [Value.oneCell']) szTree rfl hI1 (.inl (by omega)) (by simp) ?_; intro W3 hI3 hg3; clear c0 c1; have hI4 := box_cells hI3 List.mem_cons_self; obtain ⟨c0, c1⟩ := hI4))
      exact bodyPost_ret (v := .tuple #[arV none 0 0 0, .bool false]) (by simp [results, Tryd.results28, go_sem, c0, c1]) rfl ⟨rfl, hI3.below⟩
    · go_enter Tryd.func28, Tryd.ntmps28
      go_wp2_with (first | (go_at_call 27; refine (rright_true ns root p cap HS.out _ F (HN.out.below hI.below) HR.out).mono ?_; rintro e W1 ⟨rfl, hb1⟩; have hI1 := hI.call hb1; clear hb1; obtain ⟨c0, c1⟩ := box_cells hI1 (List.mem_cons_of_mem _ List.mem_cons_self)) | (refine rinv_row rfl _ _ _ rfl (w.heap.size + 1) #[.slice none 0 0, .int .i64 0] #[.slice none 0 0, .int .i64 0] 24 rfl rfl (by simp [Value.oneCell']) szTree rfl hI1 (.inl (by omega)) (by simp) ?_; intro W3 hI3 hg3; clear c0 c1; have hI4 := box_cells hI3 List.mem_cons_self; obtain ⟨c0, c1⟩ := hI4))
      exact bodyPost_ret (v := .tuple #[arV none 0 0 0, .bool false]) (by simp [results, Tryd.results28, go_sem, c0, c1]) rfl ⟨rfl, hI3.below⟩
  · have HR := Lib.hid h
    clear hR h
    go_enter Tryd.func28, Tryd.ntmps28
    go_wp2_with (first | (go_at_call 27; refine (rright_false ns root p cap HS.out _ F (HN.out.below hI.below) HR.out).mono ?_; rintro e W1 ⟨rfl, hb1⟩; have hI1 := hI.call hb1; clear hb1; obtain ⟨c0, c1⟩ := box_cells hI1 (List.mem_cons_of_mem _ List.mem_cons_self)) | (refine rinv_row rfl _ _ _ rfl (w.heap.size + 1) #[.slice none 0 0, .int .i64 0] #[.slice none 0 0, .int .i64 0] 24 rfl rfl (by simp [Value.oneCell']) szTree rfl hI1 (.inl (by omega)) (by simp) ?_; intro W3 hI3 hg3; clear c0 c1; have hI4 := box_cells hI3 List.mem_cons_self; obtain ⟨c0, c1⟩ := hI4))
    exact bodyPost_ret (v := .tuple #[arV none 0 0 0, .bool false]) (by simp [results, Tryd.results28, go_sem, c0, c1]) rfl ⟨rfl, hI3.below⟩
end Go.Proofs.YtcenjpaiehidjaaDoor
