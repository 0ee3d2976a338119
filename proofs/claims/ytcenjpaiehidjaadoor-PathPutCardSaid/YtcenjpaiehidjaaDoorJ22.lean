/- The walk of bonsailaw18.PathPut. -/
import Derived.Test.YtcenjpaiehidjaaDoorJ21
import Derived.Test.YtcenjpaiehidjaaDoorJ19
set_option linter.unusedSimpArgs false
set_option linter.unusedVariables false
namespace Go.Proofs.YtcenjpaiehidjaaDoor
open Go.RowKit
set_option maxRecDepth 100000

/-- A drawn region's end: a tree in a new box. -/
structure StepT (w W wx : World) (L : List (Nat × Obj)) (g : Nat) (pz : Option Addr) (cz : Nat) (T : Ar) : Prop where
  inv : RInv noS w ((g, arO pz T.nodes.length cz T.root) :: L) [] wx
  tree : NodesAt wx (fun _ _ => True) pz T.nodes
  below : Below W.heap.size W wx
section
variable {w W W1 : World} {L : List (Nat × Obj)} {pz : Option Addr} {cz n : Nat} {T : Ar}
theorem step_one (hI : RInv noS w L [] W) (hb : Below W.drew.heap.size W.drew W1) (h : NodesAt W1 (Own n W1) pz T.nodes) : StepT w W (W1.alloc (arO pz T.nodes.length cz T.root)) L W1.heap.size pz cz T :=
  ⟨(hI.drew.call hb).alloc _, (h.lay _).mono fun _ _ _ => trivial, (((RInv.start noS W).drew.call hb).alloc (arO pz T.nodes.length cz T.root)).below⟩
theorem step_two (hI : RInv noS w L [] W) (hb : Below (W.drew.alloc nilO).heap.size (W.drew.alloc nilO) W1) (h : NodesAt W1 (Own n W1) pz T.nodes) : StepT w W ((W1.setCell ⟨W.heap.size, 0, none⟩ (.slice pz T.nodes.length cz)).setCell ⟨W.heap.size, 1, none⟩ (.int .i64 T.root)) L W.heap.size pz cz T := by
  have k := (hI.drew.alloc nilO).call hb
  have k0 := ((RInv.start noS W).drew.alloc nilO).call hb
  have hlt : ∀ x ∈ L, x.1 ≠ W.heap.size := fun x hx => Nat.ne_of_lt (lt_of_heap (hI.blk x hx))
  exact ⟨put_head k hI.size hlt, (own_put h (k.at List.mem_cons_self)).mono fun _ _ _ => trivial, (put_head k0 (Nat.le_refl _) (by simp)).below⟩
/-- What the store of such a box wants. -/
theorem box_facts {g : Nat} (h : RInv noS w ((g, nilO) :: L) [] W) : (W.cell? ⟨g, 0, none⟩ = some (.slice none 0 0) ∧ W.cell? ⟨g, 1, none⟩ = some (.int .i64 0)) ∧ W.frozen? ⟨g, 0, none⟩ = false ∧ W.frozen? ⟨g, 1, none⟩ = false :=
  ⟨box_cells h List.mem_cons_self, h.free List.mem_cons_self, h.free List.mem_cons_self⟩
end
theorem ints_take {W : World} {F : Nat → TypeId → Prop} {q : Option Addr} {l : List Int} (h : IntsAt W F q l) (k : Nat) : IntsAt W (fun _ _ => True) q (l.take k) := fun hne => by
  have hl : l ≠ [] := by intro e; rw [e] at hne; simp at hne
  obtain ⟨b, o, rfl, _, hc⟩ := h hl
  refine ⟨b, o, rfl, trivial, fun j z hj => hc j z ?_⟩
  have hj1 := (List.getElem?_eq_some_iff.1 hj).1
  rw [List.length_take] at hj1
  rwa [List.getElem?_take_of_lt (by omega)] at hj

theorem ints_drop {W : World} {F : Nat → TypeId → Prop} {q : Option Addr} {l : List Int} (h : IntsAt W F q l) (k c : Nat) (hc : l.length ≤ c) : IntsAt W (fun _ _ => True) (if c = k then q else q.map (·.add k)) (l.drop k) := fun hne => by
  have hl : l ≠ [] := by intro e; rw [e] at hne; simp at hne
  have hkl : k < l.length := by
    have := List.length_pos_iff.2 hne
    rw [List.length_drop] at this
    omega
  obtain ⟨b, o, rfl, _, hcc⟩ := h hl
  refine ⟨b, o + k, ?_, trivial, fun j z hj => ?_⟩
  · rw [if_neg (by omega)]
    show some ((⟨b, o, none⟩ : Addr).add k) = _
    congr 1
    unfold Addr.add
    split
    · next h0 => subst h0; rfl
    · rfl
  · rw [List.getElem?_drop] at hj
    have := hcc _ z hj
    rw [Nat.add_assoc]
    exact this
theorem elInts : Tryd.prog.underlying 25 = some (.slice (Tryd.prog.elem 25)) := by kernel_rfl
theorem szInts1 (W : World) : (sizeOf (Tryd.prog.elem 25)).run Tryd.prog W = .ok 1 W := by
  have h : (Tryd.prog.info? (Tryd.prog.elem 25)).map (·.size) = some 1 := by kernel_rfl
  cases hq : Tryd.prog.info? (Tryd.prog.elem 25) with
  | none => simp [hq] at h
  | some ti =>
    have hsz : ti.size = 1 := by simpa [hq] using h
    simp [sizeOf, typeInfo, hq, hsz]
theorem run_cut1 (q : Option Addr) (n c k : Nat) (h1 : k ≤ n) (h2 : n ≤ c) (W : World) : (Instr.slice 25 (.slice q n c) none (some (.int .i64 (k : Int))) none).run Tryd.prog W = .ok (.slice q k c) W := by
  rw [run_slice_h W 25 q n c elInts .i64 (k : Int) (by omega) (by omega), szInts1]
  have e : q.map (·.add (0 * 1)) = q := by
    cases q with
    | none => rfl
    | some a => rfl
  simp only [Result.andThen, sliced, Int.toNat_natCast, e, ite_self, Nat.sub_zero]
theorem run_cut2 (q : Option Addr) (n c k : Nat) (h1 : k ≤ n) (h2 : n ≤ c) (W : World) : (Instr.slice 25 (.slice q n c) (some (.int .i64 (k : Int))) none none).run Tryd.prog W = .ok (.slice (if c = k then q else q.map (·.add k)) (n - k) (c - k)) W := by
  rw [run_slice_l W 25 q n c elInts .i64 (k : Int) (by omega) (by omega), szInts1]
  simp only [Result.andThen, sliced, Int.toNat_natCast, Nat.mul_one]
theorem part_any (part : Int) (n : Nat) (hn : n ≤ 1500) : ∃ k : Nat, k ≤ n ∧ wrap64 ((IntKind.u64.wrap part).tmod ((n : Int) + 1)) = (k : Int) := by
  have h0 : 0 ≤ IntKind.u64.wrap part := by
    simp only [IntKind.wrap, IntKind.signed, IntKind.bits]
    exact Int.emod_nonneg _ (by decide)
  have h1 := Int.tmod_nonneg ((n : Int) + 1) h0
  have h2 := Int.tmod_lt_of_pos (IntKind.u64.wrap part) (show (0 : Int) < (n : Int) + 1 by omega)
  generalize (IntKind.u64.wrap part).tmod ((n : Int) + 1) = y at *
  refine ⟨y.toNat, by omega, ?_⟩
  unfold wrap64
  omega

set_option maxHeartbeats 16000000 in
theorem putl_any (ns : List Nd) (root : Int) (us : List Nd) (ru : Int) (pl : List Int) (part : Int) (p : Option Addr) (cap : Nat) (pu : Option Addr) (cu : Nat) (q : Option Addr) (c : Nat) (hpc : pl.length ≤ c) (w : World) (F G K : Nat → TypeId → Prop) (hN : NodesAt w F p ns) (hU : NodesAt w G pu us) (hQ : IntsAt w K q pl) (hTb : Tabs w) :
    Calls Tryd.prog 4 #[arV p ns.length cap root, arV pu us.length cu ru, .slice q pl.length c, .int .i64 part] w fun e w' => e = .returned (.bool true) ∧ Below w.heap.size w w' := by
  obtain ⟨n, hn⟩ : ∃ n, pl.length = n := ⟨_, rfl⟩
  rw [hn] at hpc ⊢
  have Hn := Lib.hid hn
  have HN := Lib.hid hN
  have HU := Lib.hid hU
  have HQ := Lib.hid hQ
  have HT := Lib.hid hTb
  have hI := ((RInv.start noS w).alloc (arO p ns.length cap root)).alloc (arO pu us.length cu ru)
  rw [World.size_alloc] at hI
  have HL : Hid (∀ W, Below w.heap.size w W → Calls Tryd.prog 6 #[.agg #[.slice none 0 0], .slice (some ⟨W.heap.size, 0, none⟩) 2 2, .slice (some ⟨W.heap.size + 1, 0, none⟩) 1 1] ((W.alloc (two2 p cap ⟨ns, root⟩ pu cu ⟨us, ru⟩)).alloc (.cells #[.slice q n c] 25)) fun e w' => (∃ b, e = .returned (.bool b) ∧ (b = false → FewT [⟨ns, root⟩, ⟨us, ru⟩] ∧ FewP [pl])) ∧ Below ((W.alloc (two2 p cap ⟨ns, root⟩ pu cu ⟨us, ru⟩)).alloc (.cells #[.slice q n c] 25)).heap.size ((W.alloc (two2 p cap ⟨ns, root⟩ pu cu ⟨us, ru⟩)).alloc (.cells #[.slice q n c] 25)) w') := Lib.hid fun W hb => by
    have h1 := trees2 (c1 := cap) (c2 := cu) (T1 := ⟨ns, root⟩) (T2 := ⟨us, ru⟩) (hN.below hb) (hU.below hb)
    have h2 := h1.below ((Below.refl _ _).alloc (Nat.le_refl _) (.cells #[.slice q n c] 25))
    have h3 := lens1 (q := q) (c := c) pl hn (W.alloc (two2 p cap ⟨ns, root⟩ pu cu ⟨us, ru⟩))
    rw [World.size_alloc] at h3
    exact long_none [⟨ns, root⟩, ⟨us, ru⟩] (by simp) [pl] (by simp) _ 2 _ 1 _ _ h2 h3
  clear hN hU hQ hTb hn
  have hb0 := hI.below
  go_enter Tryd.func4, Tryd.ntmps4
  go_upto_region 3 with (first
    | (go_at_call 6; refine (HL.out _ hI1.below).mono ?_; rintro e W2 ⟨⟨b, rfl, hfew⟩, hb2⟩; have hI2 := (((hI1.alloc (two2 p cap ⟨ns, root⟩ pu cu ⟨us, ru⟩)).alloc (.cells #[.slice q n c] 25)).call hb2).subL (L' := [(w.heap.size + 1, arO pu us.length cu ru), (w.heap.size, arO p ns.length cap root)]) (fun x hx => List.mem_cons_of_mem _ (List.mem_cons_of_mem _ hx)); have HF := Lib.hid hfew; clear hfew hb2 t0 t1 s0 s1)
    | (go_at_call 7; have _k := hI2; refine (works_any _ (HT.out.keep hI2.below)).mono ?_; rintro e W3 ⟨rfl, hb3⟩; have hI3 := hI2.call hb3)
    | (go_at_call 7; refine (works_any _ (HT.out.keep hb0)).mono ?_; rintro e W1 ⟨rfl, hb1⟩; have hI1 := hI.call hb1; clear hb1; obtain ⟨t0, t1⟩ := box_cells hI1 (List.mem_cons_of_mem _ List.mem_cons_self); obtain ⟨s0, s1⟩ := box_cells hI1 List.mem_cons_self))
  · exact bodyPost_ret (v := .bool true) (by simp [results, Tryd.results4, go_sem]) rfl ⟨rfl, hI3.below⟩
  · obtain rfl : b = false := by first | assumption | exact Bool.eq_false_of_not_eq_true (by assumption)
    obtain ⟨hfT, hfP⟩ := HF.out rfl
    have hs1 := hfT ⟨ns, root⟩ (by simp)
    have hs2 := hfT ⟨us, ru⟩ (by simp)
    have hs3 := hfP pl (by simp)
    have HS1 := Lib.hid (few_small hs1.1 hs1.2)
    have HS2 := Lib.hid (few_small hs2.1 hs2.2)
    have hpl3 : n < 1500 := by have := Hn.out; omega
    have hsz : ns.length + us.length ≤ 9999 := by simp only at hs1 hs2; omega
    have Hsz := Lib.hid hsz
    clear hfT hfP hs1 hs2 hs3 HF HL hb0 hI hI1 hsz
    obtain ⟨t0, t1⟩ := box_cells hI2 (List.mem_cons_of_mem _ List.mem_cons_self)
    obtain ⟨s0, s1⟩ := box_cells hI2 List.mem_cons_self
    by_cases hA : ∃ x z, RightP ⟨ns, root⟩ ∧ sits ns x root ∧ okX x = true ∧ x.size = ns.length ∧ getX x pl = some z
    · obtain ⟨x, z, hR, hx, hok, hxz, hg⟩ := hA
      obtain ⟨k, hkn, hkv⟩ := part_any part n (by omega)
      have HK := Lib.hid hkv
      clear hkv
      have HQk := Lib.hid (ints_take HQ.out k)
      have HQd := Lib.hid (ints_drop HQ.out k c (by rw [Hn.out]; exact hpc))
      have hs1 := run_cut1 q n c k hkn hpc
      have hs2 := run_cut2 q n c k hkn hpc
      generalize (if c = k then q else q.map (·.add k)) = q2 at HQd hs2
      obtain ⟨TZ, TB, TN, TH, TW, bB, bN, hPF⟩ := pf_any ns root us ru pl HS1.out HS2.out n k Hn.out (by omega) hkn Hsz.out hR x z hx hok hxz hg
      have F1 := Lib.hid hPF.c1
      have F2 := Lib.hid hPF.c2
      have F3 := Lib.hid hPF.c3
      have F4x := Lib.hid hPF.c4
      have F5 := Lib.hid hPF.c5
      have F6 := Lib.hid hPF.c6
      have SN := Lib.hid hPF.sN
      have SB := Lib.hid hPF.sB
      have F8 := Lib.hid hPF.c8
      have F9 := Lib.hid hPF.c9
      have F10 := Lib.hid hPF.c10
      have F11 := Lib.hid hPF.c11
      have F12x := Lib.hid hPF.c12
      clear hPF hR hx hok hxz hg
      cases bB with
      | true =>
        have F4 := Lib.hid (F4x.out rfl)
        have F12 := Lib.hid (F12x.out rfl)
        clear F4x F12x
        cases bN with
        | true =>
          go_upto_region 16 with (first
            | (go_at_call 18; refine (F9.out _ _ _ p cap pn cn (HN.out.below hI10.below) (hK10 (pn, TN) (List.mem_cons_of_mem _ List.mem_cons_self)) (HT.out.keep hI10.below)).mono ?_; rintro e W11 ⟨rfl, hb11⟩; have hI11 := hI10.call hb11; have hK11 := hK10.call hb11)
            | (go_at_call 16; have _k := hI9; refine (F8.out _ _ p cap (HN.out.below hI9.below) (HT.out.keep hI9.below)).mono ?_; rintro e W10 ⟨rfl, hb10⟩; have hI10 := hI9.call hb10; have hK10 := hK9.call hb10; clear t0 t1 u0 u1; obtain ⟨t0, t1⟩ := box_cells hI10 (List.mem_cons_of_mem _ (List.mem_cons_of_mem _ (List.mem_cons_of_mem _ (List.mem_cons_of_mem _ (List.mem_cons_of_mem _ List.mem_cons_self))))); obtain ⟨u0, u1⟩ := box_cells hI10 (List.mem_cons_of_mem _ List.mem_cons_self))
            | (go_at_call 13; refine (exactO TN SN.out pn cn pm cm _ _ _ (hK8 (pn, TN) (List.mem_cons_of_mem _ List.mem_cons_self)) (hK8 (pm, TN) List.mem_cons_self)).mono ?_; rintro e W9 ⟨rfl, hb9⟩; have hI9 := hI8.call hb9; have hK9 := hK8.call hb9; clear u0 u1 v0 v1; obtain ⟨t0, t1⟩ := box_cells hI9 (List.mem_cons_of_mem _ (List.mem_cons_of_mem _ (List.mem_cons_of_mem _ (List.mem_cons_of_mem _ (List.mem_cons_of_mem _ List.mem_cons_self))))); obtain ⟨u0, u1⟩ := box_cells hI9 (List.mem_cons_of_mem _ List.mem_cons_self))
            | (go_at_call 17; refine (F6.out _ _ p cap (HN.out.below hI7.below) (HT.out.keep hI7.below)).mono ?_; rintro e W8 ⟨⟨pm, cm, rfl, hm8⟩, hb8⟩; have hI8 := (hI7.call hb8).alloc (arO pm TN.nodes.length cm TN.root); have hK8 := (Keeps.cons hm8 (hK7.call hb8)).lay (arO pm TN.nodes.length cm TN.root); clear t0 t1; obtain ⟨u0, u1⟩ := box_cells hI8 (List.mem_cons_of_mem _ List.mem_cons_self); obtain ⟨v0, v1⟩ := box_cells hI8 List.mem_cons_self)
            | (go_at_call 11; have _k := hI6; refine (F5.out _ _ _ _ p cap q c pz cz (HN.out.below hI6.below) (HQ.out.below hI6.below) (hK6 (pz, TZ) (List.mem_cons_of_mem _ List.mem_cons_self)) (HT.out.keep hI6.below)).mono ?_; rintro e W7 ⟨⟨pn, cn, rfl, hn7⟩, hb7⟩; have hI7 := (hI6.call hb7).alloc (arO pn TN.nodes.length cn TN.root); have hK7 := (Keeps.cons hn7 (hK6.call hb7)).lay (arO pn TN.nodes.length cn TN.root); clear t0 t1 u0 u1; obtain ⟨t0, t1⟩ := box_cells hI7 (List.mem_cons_of_mem _ (List.mem_cons_of_mem _ (List.mem_cons_of_mem _ (List.mem_cons_of_mem _ List.mem_cons_self)))))
            | (go_at_call 16; refine (F4.out _ _ pb cb (hK5 (pb, TB) List.mem_cons_self) (HT.out.keep hI5.below)).mono ?_; rintro e W6 ⟨rfl, hb6⟩; have hI6 := hI5.call hb6; have hK6 := hK5.call hb6; clear u0 u1; obtain ⟨t0, t1⟩ := box_cells hI6 (List.mem_cons_of_mem _ (List.mem_cons_of_mem _ (List.mem_cons_of_mem _ List.mem_cons_self))); obtain ⟨u0, u1⟩ := box_cells hI6 (List.mem_cons_of_mem _ List.mem_cons_self))
            | (go_at_call 15; refine (F3.out _ _ pu cu (HU.out.below hI4.below) (HT.out.keep hI4.below)).mono ?_; rintro e W5 ⟨rfl, hb5⟩; have hI5 := hI4.call hb5; have hK5 := hK4.call hb5; clear s0 s1; obtain ⟨u0, u1⟩ := box_cells hI5 List.mem_cons_self)
            | (go_at_call 11; refine (F2.out _ _ _ _ p cap q c pu cu (HN.out.below hI3.below) (HQ.out.below hI3.below) (HU.out.below hI3.below) (HT.out.keep hI3.below)).mono ?_; rintro e W4 ⟨⟨pb, cb, rfl, hb⟩, hb4⟩; have hI4 := (hI3.call hb4).alloc (arO pb TB.nodes.length cb TB.root); have hK4 := (Keeps.cons hb (hK3.call hb4)).lay (arO pb TB.nodes.length cb TB.root); clear t0 t1 s0 s1; obtain ⟨s0, s1⟩ := box_cells hI4 (List.mem_cons_of_mem _ (List.mem_cons_of_mem _ List.mem_cons_self)))
            | (go_at_call 9; refine (F1.out _ _ _ p cap q c (HN.out.below hI2.below) (HQ.out.below hI2.below) (HT.out.keep hI2.below)).mono ?_; rintro e W3 ⟨⟨pz, cz, rfl, hz⟩, hb3⟩; have hI3 := (hI2.call hb3).alloc (arO pz TZ.nodes.length cz TZ.root); have hK3 := (Keeps.cons hz (Keeps.nil _)).lay (arO pz TZ.nodes.length cz TZ.root); clear t0 t1 s0 s1; obtain ⟨t0, t1⟩ := box_cells hI3 (List.mem_cons_of_mem _ (List.mem_cons_of_mem _ List.mem_cons_self)); obtain ⟨s0, s1⟩ := box_cells hI3 (List.mem_cons_of_mem _ List.mem_cons_self)))
          simp only [HK.out]
          have hIe := hI11.subL (L' := [(W4.heap.size, arO pb TB.nodes.length cb TB.root), (w.heap.size + 1, arO pu us.length cu ru), (w.heap.size, arO p ns.length cap root)]) (by intro x hx; simp only [List.mem_cons, List.not_mem_nil, or_false] at hx ⊢; rcases hx with h | h | h <;> simp [h])
          have hBe := hK11 (pb, TB) (List.mem_cons_of_mem _ (List.mem_cons_of_mem _ List.mem_cons_self))
          clear hI2 hI3 hI4 hI5 hI6 hI7 hI8 hI9 hI10 hI11 hK3 hK4 hK5 hK6 hK7 hK8 hK9 hK10 hK11 hb3 hb4 hb5 hb6 hb7 hb8 hb9 hb10 hb11 hz hb hn7 hm8 t0 t1 u0 u1
          go_cut [17, 18] from 101 to 108 (fun a b wx => ∃ g p' c', a = .pointer (some ⟨g, 0, none⟩) ∧ b = .bool true ∧ Hid (StepT w W11 wx [(W4.heap.size, arO pb TB.nodes.length cb TB.root), (w.heap.size + 1, arO pu us.length cu ru), (w.heap.size, arO p ns.length cap root)] g p' c' TH))
          case first =>
            have l0 : w.heap.size < W11.heap.size := lt_of_heap (hIe.at (List.mem_cons_of_mem _ (List.mem_cons_of_mem _ List.mem_cons_self)))
            obtain ⟨t0, t1⟩ := box_cells hIe (List.mem_cons_of_mem _ (List.mem_cons_of_mem _ List.mem_cons_self))
            have hI1 := hIe.drew
            go_region_held_law (fun w' => w'.cell? ⟨w.heap.size, 0, none⟩ = some (.slice p ns.length cap) ∧ w'.cell? ⟨w.heap.size, 1, none⟩ = some (.int .i64 root))
              (first | exact ⟨(box_cells hI1 (List.mem_cons_of_mem _ (List.mem_cons_of_mem _ List.mem_cons_self))).1, (box_cells hI1 (List.mem_cons_of_mem _ (List.mem_cons_of_mem _ List.mem_cons_self))).2⟩ | exact ⟨(box_cells hI1 (List.mem_cons_of_mem _ (List.mem_cons_of_mem _ (List.mem_cons_of_mem _ List.mem_cons_self)))).1, (box_cells hI1 (List.mem_cons_of_mem _ (List.mem_cons_of_mem _ (List.mem_cons_of_mem _ List.mem_cons_self)))).2⟩ | exact ⟨(box_cells (hI1.alloc _) (List.mem_cons_of_mem _ (List.mem_cons_of_mem _ (List.mem_cons_of_mem _ List.mem_cons_self)))).1, (box_cells (hI1.alloc _) (List.mem_cons_of_mem _ (List.mem_cons_of_mem _ (List.mem_cons_of_mem _ List.mem_cons_self)))).2⟩ | exact ⟨two_set (box_cells hI1 (List.mem_cons_of_mem _ (List.mem_cons_of_mem _ (List.mem_cons_of_mem _ List.mem_cons_self)))).1 (by omega), two_set (box_cells hI1 (List.mem_cons_of_mem _ (List.mem_cons_of_mem _ (List.mem_cons_of_mem _ List.mem_cons_self)))).2 (by omega)⟩)
              (first | (go_at_call 9; (first | refine (F10.out _ _ _ p cap q c (HN.out.below hI1.below) (HQk.out.below hI1.below) (HT.out.keep hI1.below)).mono ?_ | refine (F10.out _ _ _ p cap q c (HN.out.below (hI1.alloc nilO).below) (HQk.out.below (hI1.alloc nilO).below) (HT.out.keep (hI1.alloc nilO).below)).mono ?_); rintro e W' ⟨⟨p', c', rfl, h'⟩, hb'⟩; (first | replace hI1 := hI1.call hb' | (replace hI1 := (hI1.alloc nilO).call hb'; obtain ⟨⟨y0, y1⟩, f0, f1⟩ := box_facts hI1; (try simp only [World.drew] at y0 y1 f0 f1)))))
            all_goals
              go_wp2
              go_meet
              refine ⟨_, p', c', rfl, rfl, Lib.hid ?_⟩
              first
                | with_reducible exact step_one hIe hb' h'
                | with_reducible exact step_two hIe hb' h'
          case rest =>
            obtain ⟨g16, p16, c16, rfl, rfl, HX16⟩ := hcut
            obtain ⟨w16, rfl⟩ : ∃ w16 : World, w16 = wc := ⟨_, rfl⟩
            have hIe := HX16.out.inv
            have hTH := Lib.hid HX16.out.tree
            replace hBe := hBe.below HX16.out.below
            go_upto_region 17 with fail
            go_cut [19, 20] from 109 to 117 (fun a b wx => ∃ g p' c', a = .pointer (some ⟨g, 0, none⟩) ∧ b = .bool true ∧ Hid (StepT w w16 wx [(g16, arO p16 TH.nodes.length c16 TH.root), (W4.heap.size, arO pb TB.nodes.length cb TB.root), (w.heap.size + 1, arO pu us.length cu ru), (w.heap.size, arO p ns.length cap root)] g p' c' TW))
            case first =>
              have l0 : g16 < w16.heap.size := lt_of_heap (hIe.at List.mem_cons_self)
              obtain ⟨t0, t1⟩ := box_cells hIe List.mem_cons_self
              have l1 : w.heap.size + 1 < w16.heap.size := lt_of_heap (hIe.at (List.mem_cons_of_mem _ (List.mem_cons_of_mem _ List.mem_cons_self)))
              obtain ⟨t2, t3⟩ := box_cells hIe (List.mem_cons_of_mem _ (List.mem_cons_of_mem _ List.mem_cons_self))
              have hI1 := hIe.drew
              have hJ1 := (RInv.start noS w16).drew
              go_region_held_law (fun w' => w'.cell? ⟨g16, 0, none⟩ = some (.slice p16 TH.nodes.length c16) ∧ w'.cell? ⟨g16, 1, none⟩ = some (.int .i64 TH.root) ∧ w'.cell? ⟨w.heap.size + 1, 0, none⟩ = some (.slice pu us.length cu) ∧ w'.cell? ⟨w.heap.size + 1, 1, none⟩ = some (.int .i64 ru))
                (first | exact ⟨(box_cells hI1 List.mem_cons_self).1, (box_cells hI1 List.mem_cons_self).2, (box_cells hI1 (List.mem_cons_of_mem _ (List.mem_cons_of_mem _ List.mem_cons_self))).1, (box_cells hI1 (List.mem_cons_of_mem _ (List.mem_cons_of_mem _ List.mem_cons_self))).2⟩ | exact ⟨(box_cells hI1 (List.mem_cons_of_mem _ List.mem_cons_self)).1, (box_cells hI1 (List.mem_cons_of_mem _ List.mem_cons_self)).2, (box_cells hI1 (List.mem_cons_of_mem _ (List.mem_cons_of_mem _ (List.mem_cons_of_mem _ List.mem_cons_self)))).1, (box_cells hI1 (List.mem_cons_of_mem _ (List.mem_cons_of_mem _ (List.mem_cons_of_mem _ List.mem_cons_self)))).2⟩ | exact ⟨(box_cells (hI1.alloc _) (List.mem_cons_of_mem _ List.mem_cons_self)).1, (box_cells (hI1.alloc _) (List.mem_cons_of_mem _ List.mem_cons_self)).2, (box_cells (hI1.alloc _) (List.mem_cons_of_mem _ (List.mem_cons_of_mem _ (List.mem_cons_of_mem _ List.mem_cons_self)))).1, (box_cells (hI1.alloc _) (List.mem_cons_of_mem _ (List.mem_cons_of_mem _ (List.mem_cons_of_mem _ List.mem_cons_self)))).2⟩ | exact ⟨two_set (box_cells hI1 (List.mem_cons_of_mem _ List.mem_cons_self)).1 (by omega), two_set (box_cells hI1 (List.mem_cons_of_mem _ List.mem_cons_self)).2 (by omega), two_set (box_cells hI1 (List.mem_cons_of_mem _ (List.mem_cons_of_mem _ (List.mem_cons_of_mem _ List.mem_cons_self)))).1 (by omega), two_set (box_cells hI1 (List.mem_cons_of_mem _ (List.mem_cons_of_mem _ (List.mem_cons_of_mem _ List.mem_cons_self)))).2 (by omega)⟩)
                (first | (go_at_call 11; (first | refine (F11.out _ _ _ _ p16 c16 _ (c - k) pu cu (hTH.out.below hJ1.below) (HQd.out.below hI1.below) (HU.out.below hI1.below) (HT.out.keep hI1.below)).mono ?_ | refine (F11.out _ _ _ _ p16 c16 _ (c - k) pu cu (hTH.out.below (hJ1.alloc nilO).below) (HQd.out.below (hI1.alloc nilO).below) (HU.out.below (hI1.alloc nilO).below) (HT.out.keep (hI1.alloc nilO).below)).mono ?_); rintro e W' ⟨⟨p', c', rfl, h'⟩, hb'⟩; (first | replace hI1 := hI1.call hb' | (replace hI1 := (hI1.alloc nilO).call hb'; obtain ⟨⟨y0, y1⟩, f0, f1⟩ := box_facts hI1; (try simp only [World.drew] at y0 y1 f0 f1)))))
              all_goals
                go_wp2
                go_meet
                refine ⟨_, p', c', rfl, rfl, Lib.hid ?_⟩
                first
                  | with_reducible exact step_one hIe hb' h'
                  | with_reducible exact step_two hIe hb' h'
            case rest =>
              obtain ⟨g17, p17, c17, rfl, rfl, HX17⟩ := hcut
              obtain ⟨w17, rfl⟩ : ∃ w17 : World, w17 = wc := ⟨_, rfl⟩
              have hIe := HX17.out.inv
              have hTW := Lib.hid HX17.out.tree
              replace hBe := hBe.below HX17.out.below
              go_upto_region 22 with fail
              go_cut [21, 22] from 123 to 131 (fun a b wx => ∃ g p' c', a = .pointer (some ⟨g, 0, none⟩) ∧ b = .bool true ∧ Hid (StepT w w17 wx [(g17, arO p17 TW.nodes.length c17 TW.root), (g16, arO p16 TH.nodes.length c16 TH.root), (W4.heap.size, arO pb TB.nodes.length cb TB.root), (w.heap.size + 1, arO pu us.length cu ru), (w.heap.size, arO p ns.length cap root)] g p' c' TB))
              case first =>
                have l0 : w.heap.size < w17.heap.size := lt_of_heap (hIe.at (List.mem_cons_of_mem _ (List.mem_cons_of_mem _ (List.mem_cons_of_mem _ (List.mem_cons_of_mem _ List.mem_cons_self)))))
                obtain ⟨t0, t1⟩ := box_cells hIe (List.mem_cons_of_mem _ (List.mem_cons_of_mem _ (List.mem_cons_of_mem _ (List.mem_cons_of_mem _ List.mem_cons_self))))
                have l1 : g17 < w17.heap.size := lt_of_heap (hIe.at List.mem_cons_self)
                obtain ⟨t2, t3⟩ := box_cells hIe List.mem_cons_self
                have hI1 := hIe.drew
                have hJ1 := (RInv.start noS w17).drew
                go_region_held_law (fun w' => w'.cell? ⟨w.heap.size, 0, none⟩ = some (.slice p ns.length cap) ∧ w'.cell? ⟨w.heap.size, 1, none⟩ = some (.int .i64 root) ∧ w'.cell? ⟨g17, 0, none⟩ = some (.slice p17 TW.nodes.length c17) ∧ w'.cell? ⟨g17, 1, none⟩ = some (.int .i64 TW.root))
                  (first | exact ⟨(box_cells hI1 (List.mem_cons_of_mem _ (List.mem_cons_of_mem _ (List.mem_cons_of_mem _ (List.mem_cons_of_mem _ List.mem_cons_self))))).1, (box_cells hI1 (List.mem_cons_of_mem _ (List.mem_cons_of_mem _ (List.mem_cons_of_mem _ (List.mem_cons_of_mem _ List.mem_cons_self))))).2, (box_cells hI1 List.mem_cons_self).1, (box_cells hI1 List.mem_cons_self).2⟩ | exact ⟨(box_cells hI1 (List.mem_cons_of_mem _ (List.mem_cons_of_mem _ (List.mem_cons_of_mem _ (List.mem_cons_of_mem _ (List.mem_cons_of_mem _ List.mem_cons_self)))))).1, (box_cells hI1 (List.mem_cons_of_mem _ (List.mem_cons_of_mem _ (List.mem_cons_of_mem _ (List.mem_cons_of_mem _ (List.mem_cons_of_mem _ List.mem_cons_self)))))).2, (box_cells hI1 (List.mem_cons_of_mem _ List.mem_cons_self)).1, (box_cells hI1 (List.mem_cons_of_mem _ List.mem_cons_self)).2⟩ | exact ⟨(box_cells (hI1.alloc _) (List.mem_cons_of_mem _ (List.mem_cons_of_mem _ (List.mem_cons_of_mem _ (List.mem_cons_of_mem _ (List.mem_cons_of_mem _ List.mem_cons_self)))))).1, (box_cells (hI1.alloc _) (List.mem_cons_of_mem _ (List.mem_cons_of_mem _ (List.mem_cons_of_mem _ (List.mem_cons_of_mem _ (List.mem_cons_of_mem _ List.mem_cons_self)))))).2, (box_cells (hI1.alloc _) (List.mem_cons_of_mem _ List.mem_cons_self)).1, (box_cells (hI1.alloc _) (List.mem_cons_of_mem _ List.mem_cons_self)).2⟩ | exact ⟨two_set (box_cells hI1 (List.mem_cons_of_mem _ (List.mem_cons_of_mem _ (List.mem_cons_of_mem _ (List.mem_cons_of_mem _ (List.mem_cons_of_mem _ List.mem_cons_self)))))).1 (by omega), two_set (box_cells hI1 (List.mem_cons_of_mem _ (List.mem_cons_of_mem _ (List.mem_cons_of_mem _ (List.mem_cons_of_mem _ (List.mem_cons_of_mem _ List.mem_cons_self)))))).2 (by omega), two_set (box_cells hI1 (List.mem_cons_of_mem _ List.mem_cons_self)).1 (by omega), two_set (box_cells hI1 (List.mem_cons_of_mem _ List.mem_cons_self)).2 (by omega)⟩)
                  (first | (go_at_call 11; (first | refine (F12.out _ _ _ _ p cap q c p17 c17 (HN.out.below hI1.below) (HQk.out.below hI1.below) (hTW.out.below hJ1.below) (HT.out.keep hI1.below)).mono ?_ | refine (F12.out _ _ _ _ p cap q c p17 c17 (HN.out.below (hI1.alloc nilO).below) (HQk.out.below (hI1.alloc nilO).below) (hTW.out.below (hJ1.alloc nilO).below) (HT.out.keep (hI1.alloc nilO).below)).mono ?_); rintro e W' ⟨⟨p', c', rfl, h'⟩, hb'⟩; (first | replace hI1 := hI1.call hb' | (replace hI1 := (hI1.alloc nilO).call hb'; obtain ⟨⟨y0, y1⟩, f0, f1⟩ := box_facts hI1; (try simp only [World.drew] at y0 y1 f0 f1)))))
                all_goals
                  go_wp2
                  go_meet
                  refine ⟨_, p', c', rfl, rfl, Lib.hid ?_⟩
                  first
                    | with_reducible exact step_one hIe hb' h'
                    | with_reducible exact step_two hIe hb' h'
              case rest =>
                obtain ⟨g22, p22, c22, rfl, rfl, HX22⟩ := hcut
                obtain ⟨w22, rfl⟩ : ∃ w22 : World, w22 = wc := ⟨_, rfl⟩
                have hIe := HX22.out.inv
                have hTB := Lib.hid HX22.out.tree
                replace hBe := hBe.below HX22.out.below
                obtain ⟨t0, t1⟩ := box_cells hIe List.mem_cons_self
                obtain ⟨s0, s1⟩ := box_cells hIe (List.mem_cons_of_mem _ (List.mem_cons_of_mem _ (List.mem_cons_of_mem _ List.mem_cons_self)))
                go_wp2_with (first | (go_at_call 13; refine (exactO TB SB.out p22 c22 pb cb _ _ _ hTB.out hBe).mono ?_; rintro e W' ⟨rfl, hb'⟩; have hI' := hIe.call hb'))
                exact bodyPost_ret (v := .bool true) (by simp [results, Tryd.results4, go_sem]) rfl ⟨rfl, hI'.below⟩
        | false =>
          go_upto_region 16 with (first
            | (go_at_call 16; have _k := hI9; refine (F8.out _ _ p cap (HN.out.below hI9.below) (HT.out.keep hI9.below)).mono ?_; rintro e W10 ⟨rfl, hb10⟩; have hI10 := hI9.call hb10; have hK10 := hK9.call hb10; clear t0 t1 u0 u1; obtain ⟨t0, t1⟩ := box_cells hI10 (List.mem_cons_of_mem _ (List.mem_cons_of_mem _ (List.mem_cons_of_mem _ (List.mem_cons_of_mem _ (List.mem_cons_of_mem _ List.mem_cons_self))))); obtain ⟨u0, u1⟩ := box_cells hI10 (List.mem_cons_of_mem _ List.mem_cons_self))
            | (go_at_call 13; refine (exactO TN SN.out pn cn pm cm _ _ _ (hK8 (pn, TN) (List.mem_cons_of_mem _ List.mem_cons_self)) (hK8 (pm, TN) List.mem_cons_self)).mono ?_; rintro e W9 ⟨rfl, hb9⟩; have hI9 := hI8.call hb9; have hK9 := hK8.call hb9; clear u0 u1 v0 v1; obtain ⟨t0, t1⟩ := box_cells hI9 (List.mem_cons_of_mem _ (List.mem_cons_of_mem _ (List.mem_cons_of_mem _ (List.mem_cons_of_mem _ (List.mem_cons_of_mem _ List.mem_cons_self))))); obtain ⟨u0, u1⟩ := box_cells hI9 (List.mem_cons_of_mem _ List.mem_cons_self))
            | (go_at_call 17; refine (F6.out _ _ p cap (HN.out.below hI7.below) (HT.out.keep hI7.below)).mono ?_; rintro e W8 ⟨⟨pm, cm, rfl, hm8⟩, hb8⟩; have hI8 := (hI7.call hb8).alloc (arO pm TN.nodes.length cm TN.root); have hK8 := (Keeps.cons hm8 (hK7.call hb8)).lay (arO pm TN.nodes.length cm TN.root); clear t0 t1; obtain ⟨u0, u1⟩ := box_cells hI8 (List.mem_cons_of_mem _ List.mem_cons_self); obtain ⟨v0, v1⟩ := box_cells hI8 List.mem_cons_self)
            | (go_at_call 11; have _k := hI6; refine (F5.out _ _ _ _ p cap q c pz cz (HN.out.below hI6.below) (HQ.out.below hI6.below) (hK6 (pz, TZ) (List.mem_cons_of_mem _ List.mem_cons_self)) (HT.out.keep hI6.below)).mono ?_; rintro e W7 ⟨⟨pn, cn, rfl, hn7⟩, hb7⟩; have hI7 := (hI6.call hb7).alloc (arO pn TN.nodes.length cn TN.root); have hK7 := (Keeps.cons hn7 (hK6.call hb7)).lay (arO pn TN.nodes.length cn TN.root); clear t0 t1 u0 u1; obtain ⟨t0, t1⟩ := box_cells hI7 (List.mem_cons_of_mem _ (List.mem_cons_of_mem _ (List.mem_cons_of_mem _ (List.mem_cons_of_mem _ List.mem_cons_self)))))
            | (go_at_call 16; refine (F4.out _ _ pb cb (hK5 (pb, TB) List.mem_cons_self) (HT.out.keep hI5.below)).mono ?_; rintro e W6 ⟨rfl, hb6⟩; have hI6 := hI5.call hb6; have hK6 := hK5.call hb6; clear u0 u1; obtain ⟨t0, t1⟩ := box_cells hI6 (List.mem_cons_of_mem _ (List.mem_cons_of_mem _ (List.mem_cons_of_mem _ List.mem_cons_self))); obtain ⟨u0, u1⟩ := box_cells hI6 (List.mem_cons_of_mem _ List.mem_cons_self))
            | (go_at_call 15; refine (F3.out _ _ pu cu (HU.out.below hI4.below) (HT.out.keep hI4.below)).mono ?_; rintro e W5 ⟨rfl, hb5⟩; have hI5 := hI4.call hb5; have hK5 := hK4.call hb5; clear s0 s1; obtain ⟨u0, u1⟩ := box_cells hI5 List.mem_cons_self)
            | (go_at_call 11; refine (F2.out _ _ _ _ p cap q c pu cu (HN.out.below hI3.below) (HQ.out.below hI3.below) (HU.out.below hI3.below) (HT.out.keep hI3.below)).mono ?_; rintro e W4 ⟨⟨pb, cb, rfl, hb⟩, hb4⟩; have hI4 := (hI3.call hb4).alloc (arO pb TB.nodes.length cb TB.root); have hK4 := (Keeps.cons hb (hK3.call hb4)).lay (arO pb TB.nodes.length cb TB.root); clear t0 t1 s0 s1; obtain ⟨s0, s1⟩ := box_cells hI4 (List.mem_cons_of_mem _ (List.mem_cons_of_mem _ List.mem_cons_self)))
            | (go_at_call 9; refine (F1.out _ _ _ p cap q c (HN.out.below hI2.below) (HQ.out.below hI2.below) (HT.out.keep hI2.below)).mono ?_; rintro e W3 ⟨⟨pz, cz, rfl, hz⟩, hb3⟩; have hI3 := (hI2.call hb3).alloc (arO pz TZ.nodes.length cz TZ.root); have hK3 := (Keeps.cons hz (Keeps.nil _)).lay (arO pz TZ.nodes.length cz TZ.root); clear t0 t1 s0 s1; obtain ⟨t0, t1⟩ := box_cells hI3 (List.mem_cons_of_mem _ (List.mem_cons_of_mem _ List.mem_cons_self)); obtain ⟨s0, s1⟩ := box_cells hI3 (List.mem_cons_of_mem _ List.mem_cons_self)))
          simp only [HK.out]
          have hIe := hI10.subL (L' := [(W4.heap.size, arO pb TB.nodes.length cb TB.root), (w.heap.size + 1, arO pu us.length cu ru), (w.heap.size, arO p ns.length cap root)]) (by intro x hx; simp only [List.mem_cons, List.not_mem_nil, or_false] at hx ⊢; rcases hx with h | h | h <;> simp [h])
          have hBe := hK10 (pb, TB) (List.mem_cons_of_mem _ (List.mem_cons_of_mem _ List.mem_cons_self))
          clear hI2 hI3 hI4 hI5 hI6 hI7 hI8 hI9 hI10  hK3 hK4 hK5 hK6 hK7 hK8 hK9 hK10  hb3 hb4 hb5 hb6 hb7 hb8 hb9 hb10  hz hb hn7 hm8 t0 t1 u0 u1
          go_cut [17, 18] from 101 to 108 (fun a b wx => ∃ g p' c', a = .pointer (some ⟨g, 0, none⟩) ∧ b = .bool true ∧ Hid (StepT w W10 wx [(W4.heap.size, arO pb TB.nodes.length cb TB.root), (w.heap.size + 1, arO pu us.length cu ru), (w.heap.size, arO p ns.length cap root)] g p' c' TH))
          case first =>
            have l0 : w.heap.size < W10.heap.size := lt_of_heap (hIe.at (List.mem_cons_of_mem _ (List.mem_cons_of_mem _ List.mem_cons_self)))
            obtain ⟨t0, t1⟩ := box_cells hIe (List.mem_cons_of_mem _ (List.mem_cons_of_mem _ List.mem_cons_self))
            have hI1 := hIe.drew
            go_region_held_law (fun w' => w'.cell? ⟨w.heap.size, 0, none⟩ = some (.slice p ns.length cap) ∧ w'.cell? ⟨w.heap.size, 1, none⟩ = some (.int .i64 root))
              (first | exact ⟨(box_cells hI1 (List.mem_cons_of_mem _ (List.mem_cons_of_mem _ List.mem_cons_self))).1, (box_cells hI1 (List.mem_cons_of_mem _ (List.mem_cons_of_mem _ List.mem_cons_self))).2⟩ | exact ⟨(box_cells hI1 (List.mem_cons_of_mem _ (List.mem_cons_of_mem _ (List.mem_cons_of_mem _ List.mem_cons_self)))).1, (box_cells hI1 (List.mem_cons_of_mem _ (List.mem_cons_of_mem _ (List.mem_cons_of_mem _ List.mem_cons_self)))).2⟩ | exact ⟨(box_cells (hI1.alloc _) (List.mem_cons_of_mem _ (List.mem_cons_of_mem _ (List.mem_cons_of_mem _ List.mem_cons_self)))).1, (box_cells (hI1.alloc _) (List.mem_cons_of_mem _ (List.mem_cons_of_mem _ (List.mem_cons_of_mem _ List.mem_cons_self)))).2⟩ | exact ⟨two_set (box_cells hI1 (List.mem_cons_of_mem _ (List.mem_cons_of_mem _ (List.mem_cons_of_mem _ List.mem_cons_self)))).1 (by omega), two_set (box_cells hI1 (List.mem_cons_of_mem _ (List.mem_cons_of_mem _ (List.mem_cons_of_mem _ List.mem_cons_self)))).2 (by omega)⟩)
              (first | (go_at_call 9; (first | refine (F10.out _ _ _ p cap q c (HN.out.below hI1.below) (HQk.out.below hI1.below) (HT.out.keep hI1.below)).mono ?_ | refine (F10.out _ _ _ p cap q c (HN.out.below (hI1.alloc nilO).below) (HQk.out.below (hI1.alloc nilO).below) (HT.out.keep (hI1.alloc nilO).below)).mono ?_); rintro e W' ⟨⟨p', c', rfl, h'⟩, hb'⟩; (first | replace hI1 := hI1.call hb' | (replace hI1 := (hI1.alloc nilO).call hb'; obtain ⟨⟨y0, y1⟩, f0, f1⟩ := box_facts hI1; (try simp only [World.drew] at y0 y1 f0 f1)))))
            all_goals
              go_wp2
              go_meet
              refine ⟨_, p', c', rfl, rfl, Lib.hid ?_⟩
              first
                | with_reducible exact step_one hIe hb' h'
                | with_reducible exact step_two hIe hb' h'
          case rest =>
            obtain ⟨g16, p16, c16, rfl, rfl, HX16⟩ := hcut
            obtain ⟨w16, rfl⟩ : ∃ w16 : World, w16 = wc := ⟨_, rfl⟩
            have hIe := HX16.out.inv
            have hTH := Lib.hid HX16.out.tree
            replace hBe := hBe.below HX16.out.below
            go_upto_region 17 with fail
            go_cut [19, 20] from 109 to 117 (fun a b wx => ∃ g p' c', a = .pointer (some ⟨g, 0, none⟩) ∧ b = .bool true ∧ Hid (StepT w w16 wx [(g16, arO p16 TH.nodes.length c16 TH.root), (W4.heap.size, arO pb TB.nodes.length cb TB.root), (w.heap.size + 1, arO pu us.length cu ru), (w.heap.size, arO p ns.length cap root)] g p' c' TW))
            case first =>
              have l0 : g16 < w16.heap.size := lt_of_heap (hIe.at List.mem_cons_self)
              obtain ⟨t0, t1⟩ := box_cells hIe List.mem_cons_self
              have l1 : w.heap.size + 1 < w16.heap.size := lt_of_heap (hIe.at (List.mem_cons_of_mem _ (List.mem_cons_of_mem _ List.mem_cons_self)))
              obtain ⟨t2, t3⟩ := box_cells hIe (List.mem_cons_of_mem _ (List.mem_cons_of_mem _ List.mem_cons_self))
              have hI1 := hIe.drew
              have hJ1 := (RInv.start noS w16).drew
              go_region_held_law (fun w' => w'.cell? ⟨g16, 0, none⟩ = some (.slice p16 TH.nodes.length c16) ∧ w'.cell? ⟨g16, 1, none⟩ = some (.int .i64 TH.root) ∧ w'.cell? ⟨w.heap.size + 1, 0, none⟩ = some (.slice pu us.length cu) ∧ w'.cell? ⟨w.heap.size + 1, 1, none⟩ = some (.int .i64 ru))
                (first | exact ⟨(box_cells hI1 List.mem_cons_self).1, (box_cells hI1 List.mem_cons_self).2, (box_cells hI1 (List.mem_cons_of_mem _ (List.mem_cons_of_mem _ List.mem_cons_self))).1, (box_cells hI1 (List.mem_cons_of_mem _ (List.mem_cons_of_mem _ List.mem_cons_self))).2⟩ | exact ⟨(box_cells hI1 (List.mem_cons_of_mem _ List.mem_cons_self)).1, (box_cells hI1 (List.mem_cons_of_mem _ List.mem_cons_self)).2, (box_cells hI1 (List.mem_cons_of_mem _ (List.mem_cons_of_mem _ (List.mem_cons_of_mem _ List.mem_cons_self)))).1, (box_cells hI1 (List.mem_cons_of_mem _ (List.mem_cons_of_mem _ (List.mem_cons_of_mem _ List.mem_cons_self)))).2⟩ | exact ⟨(box_cells (hI1.alloc _) (List.mem_cons_of_mem _ List.mem_cons_self)).1, (box_cells (hI1.alloc _) (List.mem_cons_of_mem _ List.mem_cons_self)).2, (box_cells (hI1.alloc _) (List.mem_cons_of_mem _ (List.mem_cons_of_mem _ (List.mem_cons_of_mem _ List.mem_cons_self)))).1, (box_cells (hI1.alloc _) (List.mem_cons_of_mem _ (List.mem_cons_of_mem _ (List.mem_cons_of_mem _ List.mem_cons_self)))).2⟩ | exact ⟨two_set (box_cells hI1 (List.mem_cons_of_mem _ List.mem_cons_self)).1 (by omega), two_set (box_cells hI1 (List.mem_cons_of_mem _ List.mem_cons_self)).2 (by omega), two_set (box_cells hI1 (List.mem_cons_of_mem _ (List.mem_cons_of_mem _ (List.mem_cons_of_mem _ List.mem_cons_self)))).1 (by omega), two_set (box_cells hI1 (List.mem_cons_of_mem _ (List.mem_cons_of_mem _ (List.mem_cons_of_mem _ List.mem_cons_self)))).2 (by omega)⟩)
                (first | (go_at_call 11; (first | refine (F11.out _ _ _ _ p16 c16 _ (c - k) pu cu (hTH.out.below hJ1.below) (HQd.out.below hI1.below) (HU.out.below hI1.below) (HT.out.keep hI1.below)).mono ?_ | refine (F11.out _ _ _ _ p16 c16 _ (c - k) pu cu (hTH.out.below (hJ1.alloc nilO).below) (HQd.out.below (hI1.alloc nilO).below) (HU.out.below (hI1.alloc nilO).below) (HT.out.keep (hI1.alloc nilO).below)).mono ?_); rintro e W' ⟨⟨p', c', rfl, h'⟩, hb'⟩; (first | replace hI1 := hI1.call hb' | (replace hI1 := (hI1.alloc nilO).call hb'; obtain ⟨⟨y0, y1⟩, f0, f1⟩ := box_facts hI1; (try simp only [World.drew] at y0 y1 f0 f1)))))
              all_goals
                go_wp2
                go_meet
                refine ⟨_, p', c', rfl, rfl, Lib.hid ?_⟩
                first
                  | with_reducible exact step_one hIe hb' h'
                  | with_reducible exact step_two hIe hb' h'
            case rest =>
              obtain ⟨g17, p17, c17, rfl, rfl, HX17⟩ := hcut
              obtain ⟨w17, rfl⟩ : ∃ w17 : World, w17 = wc := ⟨_, rfl⟩
              have hIe := HX17.out.inv
              have hTW := Lib.hid HX17.out.tree
              replace hBe := hBe.below HX17.out.below
              go_upto_region 22 with fail
              go_cut [21, 22] from 123 to 131 (fun a b wx => ∃ g p' c', a = .pointer (some ⟨g, 0, none⟩) ∧ b = .bool true ∧ Hid (StepT w w17 wx [(g17, arO p17 TW.nodes.length c17 TW.root), (g16, arO p16 TH.nodes.length c16 TH.root), (W4.heap.size, arO pb TB.nodes.length cb TB.root), (w.heap.size + 1, arO pu us.length cu ru), (w.heap.size, arO p ns.length cap root)] g p' c' TB))
              case first =>
                have l0 : w.heap.size < w17.heap.size := lt_of_heap (hIe.at (List.mem_cons_of_mem _ (List.mem_cons_of_mem _ (List.mem_cons_of_mem _ (List.mem_cons_of_mem _ List.mem_cons_self)))))
                obtain ⟨t0, t1⟩ := box_cells hIe (List.mem_cons_of_mem _ (List.mem_cons_of_mem _ (List.mem_cons_of_mem _ (List.mem_cons_of_mem _ List.mem_cons_self))))
                have l1 : g17 < w17.heap.size := lt_of_heap (hIe.at List.mem_cons_self)
                obtain ⟨t2, t3⟩ := box_cells hIe List.mem_cons_self
                have hI1 := hIe.drew
                have hJ1 := (RInv.start noS w17).drew
                go_region_held_law (fun w' => w'.cell? ⟨w.heap.size, 0, none⟩ = some (.slice p ns.length cap) ∧ w'.cell? ⟨w.heap.size, 1, none⟩ = some (.int .i64 root) ∧ w'.cell? ⟨g17, 0, none⟩ = some (.slice p17 TW.nodes.length c17) ∧ w'.cell? ⟨g17, 1, none⟩ = some (.int .i64 TW.root))
                  (first | exact ⟨(box_cells hI1 (List.mem_cons_of_mem _ (List.mem_cons_of_mem _ (List.mem_cons_of_mem _ (List.mem_cons_of_mem _ List.mem_cons_self))))).1, (box_cells hI1 (List.mem_cons_of_mem _ (List.mem_cons_of_mem _ (List.mem_cons_of_mem _ (List.mem_cons_of_mem _ List.mem_cons_self))))).2, (box_cells hI1 List.mem_cons_self).1, (box_cells hI1 List.mem_cons_self).2⟩ | exact ⟨(box_cells hI1 (List.mem_cons_of_mem _ (List.mem_cons_of_mem _ (List.mem_cons_of_mem _ (List.mem_cons_of_mem _ (List.mem_cons_of_mem _ List.mem_cons_self)))))).1, (box_cells hI1 (List.mem_cons_of_mem _ (List.mem_cons_of_mem _ (List.mem_cons_of_mem _ (List.mem_cons_of_mem _ (List.mem_cons_of_mem _ List.mem_cons_self)))))).2, (box_cells hI1 (List.mem_cons_of_mem _ List.mem_cons_self)).1, (box_cells hI1 (List.mem_cons_of_mem _ List.mem_cons_self)).2⟩ | exact ⟨(box_cells (hI1.alloc _) (List.mem_cons_of_mem _ (List.mem_cons_of_mem _ (List.mem_cons_of_mem _ (List.mem_cons_of_mem _ (List.mem_cons_of_mem _ List.mem_cons_self)))))).1, (box_cells (hI1.alloc _) (List.mem_cons_of_mem _ (List.mem_cons_of_mem _ (List.mem_cons_of_mem _ (List.mem_cons_of_mem _ (List.mem_cons_of_mem _ List.mem_cons_self)))))).2, (box_cells (hI1.alloc _) (List.mem_cons_of_mem _ List.mem_cons_self)).1, (box_cells (hI1.alloc _) (List.mem_cons_of_mem _ List.mem_cons_self)).2⟩ | exact ⟨two_set (box_cells hI1 (List.mem_cons_of_mem _ (List.mem_cons_of_mem _ (List.mem_cons_of_mem _ (List.mem_cons_of_mem _ (List.mem_cons_of_mem _ List.mem_cons_self)))))).1 (by omega), two_set (box_cells hI1 (List.mem_cons_of_mem _ (List.mem_cons_of_mem _ (List.mem_cons_of_mem _ (List.mem_cons_of_mem _ (List.mem_cons_of_mem _ List.mem_cons_self)))))).2 (by omega), two_set (box_cells hI1 (List.mem_cons_of_mem _ List.mem_cons_self)).1 (by omega), two_set (box_cells hI1 (List.mem_cons_of_mem _ List.mem_cons_self)).2 (by omega)⟩)
                  (first | (go_at_call 11; (first | refine (F12.out _ _ _ _ p cap q c p17 c17 (HN.out.below hI1.below) (HQk.out.below hI1.below) (hTW.out.below hJ1.below) (HT.out.keep hI1.below)).mono ?_ | refine (F12.out _ _ _ _ p cap q c p17 c17 (HN.out.below (hI1.alloc nilO).below) (HQk.out.below (hI1.alloc nilO).below) (hTW.out.below (hJ1.alloc nilO).below) (HT.out.keep (hI1.alloc nilO).below)).mono ?_); rintro e W' ⟨⟨p', c', rfl, h'⟩, hb'⟩; (first | replace hI1 := hI1.call hb' | (replace hI1 := (hI1.alloc nilO).call hb'; obtain ⟨⟨y0, y1⟩, f0, f1⟩ := box_facts hI1; (try simp only [World.drew] at y0 y1 f0 f1)))))
                all_goals
                  go_wp2
                  go_meet
                  refine ⟨_, p', c', rfl, rfl, Lib.hid ?_⟩
                  first
                    | with_reducible exact step_one hIe hb' h'
                    | with_reducible exact step_two hIe hb' h'
              case rest =>
                obtain ⟨g22, p22, c22, rfl, rfl, HX22⟩ := hcut
                obtain ⟨w22, rfl⟩ : ∃ w22 : World, w22 = wc := ⟨_, rfl⟩
                have hIe := HX22.out.inv
                have hTB := Lib.hid HX22.out.tree
                replace hBe := hBe.below HX22.out.below
                obtain ⟨t0, t1⟩ := box_cells hIe List.mem_cons_self
                obtain ⟨s0, s1⟩ := box_cells hIe (List.mem_cons_of_mem _ (List.mem_cons_of_mem _ (List.mem_cons_of_mem _ List.mem_cons_self)))
                go_wp2_with (first | (go_at_call 13; refine (exactO TB SB.out p22 c22 pb cb _ _ _ hTB.out hBe).mono ?_; rintro e W' ⟨rfl, hb'⟩; have hI' := hIe.call hb'))
                exact bodyPost_ret (v := .bool true) (by simp [results, Tryd.results4, go_sem]) rfl ⟨rfl, hI'.below⟩
      | false =>
        clear F4x F12x
        cases bN with
        | true =>
          go_upto_region 16 with (first
            | (go_at_call 18; refine (F9.out _ _ _ p cap pn cn (HN.out.below hI10.below) (hK10 (pn, TN) (List.mem_cons_of_mem _ List.mem_cons_self)) (HT.out.keep hI10.below)).mono ?_; rintro e W11 ⟨rfl, hb11⟩; have hI11 := hI10.call hb11; have hK11 := hK10.call hb11)
            | (go_at_call 16; have _k := hI9; refine (F8.out _ _ p cap (HN.out.below hI9.below) (HT.out.keep hI9.below)).mono ?_; rintro e W10 ⟨rfl, hb10⟩; have hI10 := hI9.call hb10; have hK10 := hK9.call hb10; clear t0 t1 u0 u1; obtain ⟨t0, t1⟩ := box_cells hI10 (List.mem_cons_of_mem _ (List.mem_cons_of_mem _ (List.mem_cons_of_mem _ (List.mem_cons_of_mem _ (List.mem_cons_of_mem _ List.mem_cons_self))))); obtain ⟨u0, u1⟩ := box_cells hI10 (List.mem_cons_of_mem _ List.mem_cons_self))
            | (go_at_call 13; refine (exactO TN SN.out pn cn pm cm _ _ _ (hK8 (pn, TN) (List.mem_cons_of_mem _ List.mem_cons_self)) (hK8 (pm, TN) List.mem_cons_self)).mono ?_; rintro e W9 ⟨rfl, hb9⟩; have hI9 := hI8.call hb9; have hK9 := hK8.call hb9; clear u0 u1 v0 v1; obtain ⟨t0, t1⟩ := box_cells hI9 (List.mem_cons_of_mem _ (List.mem_cons_of_mem _ (List.mem_cons_of_mem _ (List.mem_cons_of_mem _ (List.mem_cons_of_mem _ List.mem_cons_self))))); obtain ⟨u0, u1⟩ := box_cells hI9 (List.mem_cons_of_mem _ List.mem_cons_self))
            | (go_at_call 17; refine (F6.out _ _ p cap (HN.out.below hI7.below) (HT.out.keep hI7.below)).mono ?_; rintro e W8 ⟨⟨pm, cm, rfl, hm8⟩, hb8⟩; have hI8 := (hI7.call hb8).alloc (arO pm TN.nodes.length cm TN.root); have hK8 := (Keeps.cons hm8 (hK7.call hb8)).lay (arO pm TN.nodes.length cm TN.root); clear t0 t1; obtain ⟨u0, u1⟩ := box_cells hI8 (List.mem_cons_of_mem _ List.mem_cons_self); obtain ⟨v0, v1⟩ := box_cells hI8 List.mem_cons_self)
            | (go_at_call 11; have _k := hI5; refine (F5.out _ _ _ _ p cap q c pz cz (HN.out.below hI5.below) (HQ.out.below hI5.below) (hK5 (pz, TZ) (List.mem_cons_of_mem _ List.mem_cons_self)) (HT.out.keep hI5.below)).mono ?_; rintro e W7 ⟨⟨pn, cn, rfl, hn7⟩, hb7⟩; have hI7 := (hI5.call hb7).alloc (arO pn TN.nodes.length cn TN.root); have hK7 := (Keeps.cons hn7 (hK5.call hb7)).lay (arO pn TN.nodes.length cn TN.root); clear t0 t1 u0 u1; obtain ⟨t0, t1⟩ := box_cells hI7 (List.mem_cons_of_mem _ (List.mem_cons_of_mem _ (List.mem_cons_of_mem _ (List.mem_cons_of_mem _ List.mem_cons_self)))))
            | (go_at_call 15; refine (F3.out _ _ pu cu (HU.out.below hI4.below) (HT.out.keep hI4.below)).mono ?_; rintro e W5 ⟨rfl, hb5⟩; have hI5 := hI4.call hb5; have hK5 := hK4.call hb5; clear s0 s1; obtain ⟨t0, t1⟩ := box_cells hI5 (List.mem_cons_of_mem _ (List.mem_cons_of_mem _ (List.mem_cons_of_mem _ List.mem_cons_self))); obtain ⟨u0, u1⟩ := box_cells hI5 (List.mem_cons_of_mem _ List.mem_cons_self))
            | (go_at_call 11; refine (F2.out _ _ _ _ p cap q c pu cu (HN.out.below hI3.below) (HQ.out.below hI3.below) (HU.out.below hI3.below) (HT.out.keep hI3.below)).mono ?_; rintro e W4 ⟨⟨pb, cb, rfl, hb⟩, hb4⟩; have hI4 := (hI3.call hb4).alloc (arO pb TB.nodes.length cb TB.root); have hK4 := (Keeps.cons hb (hK3.call hb4)).lay (arO pb TB.nodes.length cb TB.root); clear t0 t1 s0 s1; obtain ⟨s0, s1⟩ := box_cells hI4 (List.mem_cons_of_mem _ (List.mem_cons_of_mem _ List.mem_cons_self)))
            | (go_at_call 9; refine (F1.out _ _ _ p cap q c (HN.out.below hI2.below) (HQ.out.below hI2.below) (HT.out.keep hI2.below)).mono ?_; rintro e W3 ⟨⟨pz, cz, rfl, hz⟩, hb3⟩; have hI3 := (hI2.call hb3).alloc (arO pz TZ.nodes.length cz TZ.root); have hK3 := (Keeps.cons hz (Keeps.nil _)).lay (arO pz TZ.nodes.length cz TZ.root); clear t0 t1 s0 s1; obtain ⟨t0, t1⟩ := box_cells hI3 (List.mem_cons_of_mem _ (List.mem_cons_of_mem _ List.mem_cons_self)); obtain ⟨s0, s1⟩ := box_cells hI3 (List.mem_cons_of_mem _ List.mem_cons_self)))
          simp only [HK.out]
          have hIe := hI11.subL (L' := [(W4.heap.size, arO pb TB.nodes.length cb TB.root), (w.heap.size + 1, arO pu us.length cu ru), (w.heap.size, arO p ns.length cap root)]) (by intro x hx; simp only [List.mem_cons, List.not_mem_nil, or_false] at hx ⊢; rcases hx with h | h | h <;> simp [h])
          have hBe := hK11 (pb, TB) (List.mem_cons_of_mem _ (List.mem_cons_of_mem _ List.mem_cons_self))
          clear hI2 hI3 hI4 hI5  hI7 hI8 hI9 hI10 hI11 hK3 hK4 hK5  hK7 hK8 hK9 hK10 hK11 hb3 hb4 hb5  hb7 hb8 hb9 hb10 hb11 hz hb hn7 hm8 t0 t1 u0 u1
          go_cut [17, 18] from 101 to 108 (fun a b wx => ∃ g p' c', a = .pointer (some ⟨g, 0, none⟩) ∧ b = .bool true ∧ Hid (StepT w W11 wx [(W4.heap.size, arO pb TB.nodes.length cb TB.root), (w.heap.size + 1, arO pu us.length cu ru), (w.heap.size, arO p ns.length cap root)] g p' c' TH))
          case first =>
            have l0 : w.heap.size < W11.heap.size := lt_of_heap (hIe.at (List.mem_cons_of_mem _ (List.mem_cons_of_mem _ List.mem_cons_self)))
            obtain ⟨t0, t1⟩ := box_cells hIe (List.mem_cons_of_mem _ (List.mem_cons_of_mem _ List.mem_cons_self))
            have hI1 := hIe.drew
            go_region_held_law (fun w' => w'.cell? ⟨w.heap.size, 0, none⟩ = some (.slice p ns.length cap) ∧ w'.cell? ⟨w.heap.size, 1, none⟩ = some (.int .i64 root))
              (first | exact ⟨(box_cells hI1 (List.mem_cons_of_mem _ (List.mem_cons_of_mem _ List.mem_cons_self))).1, (box_cells hI1 (List.mem_cons_of_mem _ (List.mem_cons_of_mem _ List.mem_cons_self))).2⟩ | exact ⟨(box_cells hI1 (List.mem_cons_of_mem _ (List.mem_cons_of_mem _ (List.mem_cons_of_mem _ List.mem_cons_self)))).1, (box_cells hI1 (List.mem_cons_of_mem _ (List.mem_cons_of_mem _ (List.mem_cons_of_mem _ List.mem_cons_self)))).2⟩ | exact ⟨(box_cells (hI1.alloc _) (List.mem_cons_of_mem _ (List.mem_cons_of_mem _ (List.mem_cons_of_mem _ List.mem_cons_self)))).1, (box_cells (hI1.alloc _) (List.mem_cons_of_mem _ (List.mem_cons_of_mem _ (List.mem_cons_of_mem _ List.mem_cons_self)))).2⟩ | exact ⟨two_set (box_cells hI1 (List.mem_cons_of_mem _ (List.mem_cons_of_mem _ (List.mem_cons_of_mem _ List.mem_cons_self)))).1 (by omega), two_set (box_cells hI1 (List.mem_cons_of_mem _ (List.mem_cons_of_mem _ (List.mem_cons_of_mem _ List.mem_cons_self)))).2 (by omega)⟩)
              (first | (go_at_call 9; (first | refine (F10.out _ _ _ p cap q c (HN.out.below hI1.below) (HQk.out.below hI1.below) (HT.out.keep hI1.below)).mono ?_ | refine (F10.out _ _ _ p cap q c (HN.out.below (hI1.alloc nilO).below) (HQk.out.below (hI1.alloc nilO).below) (HT.out.keep (hI1.alloc nilO).below)).mono ?_); rintro e W' ⟨⟨p', c', rfl, h'⟩, hb'⟩; (first | replace hI1 := hI1.call hb' | (replace hI1 := (hI1.alloc nilO).call hb'; obtain ⟨⟨y0, y1⟩, f0, f1⟩ := box_facts hI1; (try simp only [World.drew] at y0 y1 f0 f1)))))
            all_goals
              go_wp2
              go_meet
              refine ⟨_, p', c', rfl, rfl, Lib.hid ?_⟩
              first
                | with_reducible exact step_one hIe hb' h'
                | with_reducible exact step_two hIe hb' h'
          case rest =>
            obtain ⟨g16, p16, c16, rfl, rfl, HX16⟩ := hcut
            obtain ⟨w16, rfl⟩ : ∃ w16 : World, w16 = wc := ⟨_, rfl⟩
            have hIe := HX16.out.inv
            have hTH := Lib.hid HX16.out.tree
            replace hBe := hBe.below HX16.out.below
            go_upto_region 17 with fail
            go_cut [19, 20] from 109 to 117 (fun a b wx => ∃ g p' c', a = .pointer (some ⟨g, 0, none⟩) ∧ b = .bool false ∧ Hid (StepT w w16 wx [(g16, arO p16 TH.nodes.length c16 TH.root), (W4.heap.size, arO pb TB.nodes.length cb TB.root), (w.heap.size + 1, arO pu us.length cu ru), (w.heap.size, arO p ns.length cap root)] g p' c' TW))
            case first =>
              have l0 : g16 < w16.heap.size := lt_of_heap (hIe.at List.mem_cons_self)
              obtain ⟨t0, t1⟩ := box_cells hIe List.mem_cons_self
              have l1 : w.heap.size + 1 < w16.heap.size := lt_of_heap (hIe.at (List.mem_cons_of_mem _ (List.mem_cons_of_mem _ List.mem_cons_self)))
              obtain ⟨t2, t3⟩ := box_cells hIe (List.mem_cons_of_mem _ (List.mem_cons_of_mem _ List.mem_cons_self))
              have hI1 := hIe.drew
              have hJ1 := (RInv.start noS w16).drew
              go_region_held_law (fun w' => w'.cell? ⟨g16, 0, none⟩ = some (.slice p16 TH.nodes.length c16) ∧ w'.cell? ⟨g16, 1, none⟩ = some (.int .i64 TH.root) ∧ w'.cell? ⟨w.heap.size + 1, 0, none⟩ = some (.slice pu us.length cu) ∧ w'.cell? ⟨w.heap.size + 1, 1, none⟩ = some (.int .i64 ru))
                (first | exact ⟨(box_cells hI1 List.mem_cons_self).1, (box_cells hI1 List.mem_cons_self).2, (box_cells hI1 (List.mem_cons_of_mem _ (List.mem_cons_of_mem _ List.mem_cons_self))).1, (box_cells hI1 (List.mem_cons_of_mem _ (List.mem_cons_of_mem _ List.mem_cons_self))).2⟩ | exact ⟨(box_cells hI1 (List.mem_cons_of_mem _ List.mem_cons_self)).1, (box_cells hI1 (List.mem_cons_of_mem _ List.mem_cons_self)).2, (box_cells hI1 (List.mem_cons_of_mem _ (List.mem_cons_of_mem _ (List.mem_cons_of_mem _ List.mem_cons_self)))).1, (box_cells hI1 (List.mem_cons_of_mem _ (List.mem_cons_of_mem _ (List.mem_cons_of_mem _ List.mem_cons_self)))).2⟩ | exact ⟨(box_cells (hI1.alloc _) (List.mem_cons_of_mem _ List.mem_cons_self)).1, (box_cells (hI1.alloc _) (List.mem_cons_of_mem _ List.mem_cons_self)).2, (box_cells (hI1.alloc _) (List.mem_cons_of_mem _ (List.mem_cons_of_mem _ (List.mem_cons_of_mem _ List.mem_cons_self)))).1, (box_cells (hI1.alloc _) (List.mem_cons_of_mem _ (List.mem_cons_of_mem _ (List.mem_cons_of_mem _ List.mem_cons_self)))).2⟩ | exact ⟨two_set (box_cells hI1 (List.mem_cons_of_mem _ List.mem_cons_self)).1 (by omega), two_set (box_cells hI1 (List.mem_cons_of_mem _ List.mem_cons_self)).2 (by omega), two_set (box_cells hI1 (List.mem_cons_of_mem _ (List.mem_cons_of_mem _ (List.mem_cons_of_mem _ List.mem_cons_self)))).1 (by omega), two_set (box_cells hI1 (List.mem_cons_of_mem _ (List.mem_cons_of_mem _ (List.mem_cons_of_mem _ List.mem_cons_self)))).2 (by omega)⟩)
                (first | (go_at_call 11; (first | refine (F11.out _ _ _ _ p16 c16 _ (c - k) pu cu (hTH.out.below hJ1.below) (HQd.out.below hI1.below) (HU.out.below hI1.below) (HT.out.keep hI1.below)).mono ?_ | refine (F11.out _ _ _ _ p16 c16 _ (c - k) pu cu (hTH.out.below (hJ1.alloc nilO).below) (HQd.out.below (hI1.alloc nilO).below) (HU.out.below (hI1.alloc nilO).below) (HT.out.keep (hI1.alloc nilO).below)).mono ?_); rintro e W' ⟨⟨p', c', rfl, h'⟩, hb'⟩; (first | replace hI1 := hI1.call hb' | (replace hI1 := (hI1.alloc nilO).call hb'; obtain ⟨⟨y0, y1⟩, f0, f1⟩ := box_facts hI1; (try simp only [World.drew] at y0 y1 f0 f1)))))
              all_goals
                go_wp2
                go_meet
                refine ⟨_, p', c', rfl, rfl, Lib.hid ?_⟩
                first
                  | with_reducible exact step_one hIe hb' h'
                  | with_reducible exact step_two hIe hb' h'
            case rest =>
              obtain ⟨g17, p17, c17, rfl, rfl, HX17⟩ := hcut
              obtain ⟨w17, rfl⟩ : ∃ w17 : World, w17 = wc := ⟨_, rfl⟩
              have hI17 := HX17.out.inv
              go_wp2
              exact bodyPost_ret (v := .bool true) (by simp [results, Tryd.results4, go_sem]) rfl ⟨rfl, hI17.below⟩
        | false =>
          go_upto_region 16 with (first
            | (go_at_call 16; have _k := hI9; refine (F8.out _ _ p cap (HN.out.below hI9.below) (HT.out.keep hI9.below)).mono ?_; rintro e W10 ⟨rfl, hb10⟩; have hI10 := hI9.call hb10; have hK10 := hK9.call hb10; clear t0 t1 u0 u1; obtain ⟨t0, t1⟩ := box_cells hI10 (List.mem_cons_of_mem _ (List.mem_cons_of_mem _ (List.mem_cons_of_mem _ (List.mem_cons_of_mem _ (List.mem_cons_of_mem _ List.mem_cons_self))))); obtain ⟨u0, u1⟩ := box_cells hI10 (List.mem_cons_of_mem _ List.mem_cons_self))
            | (go_at_call 13; refine (exactO TN SN.out pn cn pm cm _ _ _ (hK8 (pn, TN) (List.mem_cons_of_mem _ List.mem_cons_self)) (hK8 (pm, TN) List.mem_cons_self)).mono ?_; rintro e W9 ⟨rfl, hb9⟩; have hI9 := hI8.call hb9; have hK9 := hK8.call hb9; clear u0 u1 v0 v1; obtain ⟨t0, t1⟩ := box_cells hI9 (List.mem_cons_of_mem _ (List.mem_cons_of_mem _ (List.mem_cons_of_mem _ (List.mem_cons_of_mem _ (List.mem_cons_of_mem _ List.mem_cons_self))))); obtain ⟨u0, u1⟩ := box_cells hI9 (List.mem_cons_of_mem _ List.mem_cons_self))
            | (go_at_call 17; refine (F6.out _ _ p cap (HN.out.below hI7.below) (HT.out.keep hI7.below)).mono ?_; rintro e W8 ⟨⟨pm, cm, rfl, hm8⟩, hb8⟩; have hI8 := (hI7.call hb8).alloc (arO pm TN.nodes.length cm TN.root); have hK8 := (Keeps.cons hm8 (hK7.call hb8)).lay (arO pm TN.nodes.length cm TN.root); clear t0 t1; obtain ⟨u0, u1⟩ := box_cells hI8 (List.mem_cons_of_mem _ List.mem_cons_self); obtain ⟨v0, v1⟩ := box_cells hI8 List.mem_cons_self)
            | (go_at_call 11; have _k := hI5; refine (F5.out _ _ _ _ p cap q c pz cz (HN.out.below hI5.below) (HQ.out.below hI5.below) (hK5 (pz, TZ) (List.mem_cons_of_mem _ List.mem_cons_self)) (HT.out.keep hI5.below)).mono ?_; rintro e W7 ⟨⟨pn, cn, rfl, hn7⟩, hb7⟩; have hI7 := (hI5.call hb7).alloc (arO pn TN.nodes.length cn TN.root); have hK7 := (Keeps.cons hn7 (hK5.call hb7)).lay (arO pn TN.nodes.length cn TN.root); clear t0 t1 u0 u1; obtain ⟨t0, t1⟩ := box_cells hI7 (List.mem_cons_of_mem _ (List.mem_cons_of_mem _ (List.mem_cons_of_mem _ (List.mem_cons_of_mem _ List.mem_cons_self)))))
            | (go_at_call 15; refine (F3.out _ _ pu cu (HU.out.below hI4.below) (HT.out.keep hI4.below)).mono ?_; rintro e W5 ⟨rfl, hb5⟩; have hI5 := hI4.call hb5; have hK5 := hK4.call hb5; clear s0 s1; obtain ⟨t0, t1⟩ := box_cells hI5 (List.mem_cons_of_mem _ (List.mem_cons_of_mem _ (List.mem_cons_of_mem _ List.mem_cons_self))); obtain ⟨u0, u1⟩ := box_cells hI5 (List.mem_cons_of_mem _ List.mem_cons_self))
            | (go_at_call 11; refine (F2.out _ _ _ _ p cap q c pu cu (HN.out.below hI3.below) (HQ.out.below hI3.below) (HU.out.below hI3.below) (HT.out.keep hI3.below)).mono ?_; rintro e W4 ⟨⟨pb, cb, rfl, hb⟩, hb4⟩; have hI4 := (hI3.call hb4).alloc (arO pb TB.nodes.length cb TB.root); have hK4 := (Keeps.cons hb (hK3.call hb4)).lay (arO pb TB.nodes.length cb TB.root); clear t0 t1 s0 s1; obtain ⟨s0, s1⟩ := box_cells hI4 (List.mem_cons_of_mem _ (List.mem_cons_of_mem _ List.mem_cons_self)))
            | (go_at_call 9; refine (F1.out _ _ _ p cap q c (HN.out.below hI2.below) (HQ.out.below hI2.below) (HT.out.keep hI2.below)).mono ?_; rintro e W3 ⟨⟨pz, cz, rfl, hz⟩, hb3⟩; have hI3 := (hI2.call hb3).alloc (arO pz TZ.nodes.length cz TZ.root); have hK3 := (Keeps.cons hz (Keeps.nil _)).lay (arO pz TZ.nodes.length cz TZ.root); clear t0 t1 s0 s1; obtain ⟨t0, t1⟩ := box_cells hI3 (List.mem_cons_of_mem _ (List.mem_cons_of_mem _ List.mem_cons_self)); obtain ⟨s0, s1⟩ := box_cells hI3 (List.mem_cons_of_mem _ List.mem_cons_self)))
          simp only [HK.out]
          have hIe := hI10.subL (L' := [(W4.heap.size, arO pb TB.nodes.length cb TB.root), (w.heap.size + 1, arO pu us.length cu ru), (w.heap.size, arO p ns.length cap root)]) (by intro x hx; simp only [List.mem_cons, List.not_mem_nil, or_false] at hx ⊢; rcases hx with h | h | h <;> simp [h])
          have hBe := hK10 (pb, TB) (List.mem_cons_of_mem _ (List.mem_cons_of_mem _ List.mem_cons_self))
          clear hI2 hI3 hI4 hI5  hI7 hI8 hI9 hI10  hK3 hK4 hK5  hK7 hK8 hK9 hK10  hb3 hb4 hb5  hb7 hb8 hb9 hb10  hz hb hn7 hm8 t0 t1 u0 u1
          go_cut [17, 18] from 101 to 108 (fun a b wx => ∃ g p' c', a = .pointer (some ⟨g, 0, none⟩) ∧ b = .bool true ∧ Hid (StepT w W10 wx [(W4.heap.size, arO pb TB.nodes.length cb TB.root), (w.heap.size + 1, arO pu us.length cu ru), (w.heap.size, arO p ns.length cap root)] g p' c' TH))
          case first =>
            have l0 : w.heap.size < W10.heap.size := lt_of_heap (hIe.at (List.mem_cons_of_mem _ (List.mem_cons_of_mem _ List.mem_cons_self)))
            obtain ⟨t0, t1⟩ := box_cells hIe (List.mem_cons_of_mem _ (List.mem_cons_of_mem _ List.mem_cons_self))
            have hI1 := hIe.drew
            go_region_held_law (fun w' => w'.cell? ⟨w.heap.size, 0, none⟩ = some (.slice p ns.length cap) ∧ w'.cell? ⟨w.heap.size, 1, none⟩ = some (.int .i64 root))
              (first | exact ⟨(box_cells hI1 (List.mem_cons_of_mem _ (List.mem_cons_of_mem _ List.mem_cons_self))).1, (box_cells hI1 (List.mem_cons_of_mem _ (List.mem_cons_of_mem _ List.mem_cons_self))).2⟩ | exact ⟨(box_cells hI1 (List.mem_cons_of_mem _ (List.mem_cons_of_mem _ (List.mem_cons_of_mem _ List.mem_cons_self)))).1, (box_cells hI1 (List.mem_cons_of_mem _ (List.mem_cons_of_mem _ (List.mem_cons_of_mem _ List.mem_cons_self)))).2⟩ | exact ⟨(box_cells (hI1.alloc _) (List.mem_cons_of_mem _ (List.mem_cons_of_mem _ (List.mem_cons_of_mem _ List.mem_cons_self)))).1, (box_cells (hI1.alloc _) (List.mem_cons_of_mem _ (List.mem_cons_of_mem _ (List.mem_cons_of_mem _ List.mem_cons_self)))).2⟩ | exact ⟨two_set (box_cells hI1 (List.mem_cons_of_mem _ (List.mem_cons_of_mem _ (List.mem_cons_of_mem _ List.mem_cons_self)))).1 (by omega), two_set (box_cells hI1 (List.mem_cons_of_mem _ (List.mem_cons_of_mem _ (List.mem_cons_of_mem _ List.mem_cons_self)))).2 (by omega)⟩)
              (first | (go_at_call 9; (first | refine (F10.out _ _ _ p cap q c (HN.out.below hI1.below) (HQk.out.below hI1.below) (HT.out.keep hI1.below)).mono ?_ | refine (F10.out _ _ _ p cap q c (HN.out.below (hI1.alloc nilO).below) (HQk.out.below (hI1.alloc nilO).below) (HT.out.keep (hI1.alloc nilO).below)).mono ?_); rintro e W' ⟨⟨p', c', rfl, h'⟩, hb'⟩; (first | replace hI1 := hI1.call hb' | (replace hI1 := (hI1.alloc nilO).call hb'; obtain ⟨⟨y0, y1⟩, f0, f1⟩ := box_facts hI1; (try simp only [World.drew] at y0 y1 f0 f1)))))
            all_goals
              go_wp2
              go_meet
              refine ⟨_, p', c', rfl, rfl, Lib.hid ?_⟩
              first
                | with_reducible exact step_one hIe hb' h'
                | with_reducible exact step_two hIe hb' h'
          case rest =>
            obtain ⟨g16, p16, c16, rfl, rfl, HX16⟩ := hcut
            obtain ⟨w16, rfl⟩ : ∃ w16 : World, w16 = wc := ⟨_, rfl⟩
            have hIe := HX16.out.inv
            have hTH := Lib.hid HX16.out.tree
            replace hBe := hBe.below HX16.out.below
            go_upto_region 17 with fail
            go_cut [19, 20] from 109 to 117 (fun a b wx => ∃ g p' c', a = .pointer (some ⟨g, 0, none⟩) ∧ b = .bool false ∧ Hid (StepT w w16 wx [(g16, arO p16 TH.nodes.length c16 TH.root), (W4.heap.size, arO pb TB.nodes.length cb TB.root), (w.heap.size + 1, arO pu us.length cu ru), (w.heap.size, arO p ns.length cap root)] g p' c' TW))
            case first =>
              have l0 : g16 < w16.heap.size := lt_of_heap (hIe.at List.mem_cons_self)
              obtain ⟨t0, t1⟩ := box_cells hIe List.mem_cons_self
              have l1 : w.heap.size + 1 < w16.heap.size := lt_of_heap (hIe.at (List.mem_cons_of_mem _ (List.mem_cons_of_mem _ List.mem_cons_self)))
              obtain ⟨t2, t3⟩ := box_cells hIe (List.mem_cons_of_mem _ (List.mem_cons_of_mem _ List.mem_cons_self))
              have hI1 := hIe.drew
              have hJ1 := (RInv.start noS w16).drew
              go_region_held_law (fun w' => w'.cell? ⟨g16, 0, none⟩ = some (.slice p16 TH.nodes.length c16) ∧ w'.cell? ⟨g16, 1, none⟩ = some (.int .i64 TH.root) ∧ w'.cell? ⟨w.heap.size + 1, 0, none⟩ = some (.slice pu us.length cu) ∧ w'.cell? ⟨w.heap.size + 1, 1, none⟩ = some (.int .i64 ru))
                (first | exact ⟨(box_cells hI1 List.mem_cons_self).1, (box_cells hI1 List.mem_cons_self).2, (box_cells hI1 (List.mem_cons_of_mem _ (List.mem_cons_of_mem _ List.mem_cons_self))).1, (box_cells hI1 (List.mem_cons_of_mem _ (List.mem_cons_of_mem _ List.mem_cons_self))).2⟩ | exact ⟨(box_cells hI1 (List.mem_cons_of_mem _ List.mem_cons_self)).1, (box_cells hI1 (List.mem_cons_of_mem _ List.mem_cons_self)).2, (box_cells hI1 (List.mem_cons_of_mem _ (List.mem_cons_of_mem _ (List.mem_cons_of_mem _ List.mem_cons_self)))).1, (box_cells hI1 (List.mem_cons_of_mem _ (List.mem_cons_of_mem _ (List.mem_cons_of_mem _ List.mem_cons_self)))).2⟩ | exact ⟨(box_cells (hI1.alloc _) (List.mem_cons_of_mem _ List.mem_cons_self)).1, (box_cells (hI1.alloc _) (List.mem_cons_of_mem _ List.mem_cons_self)).2, (box_cells (hI1.alloc _) (List.mem_cons_of_mem _ (List.mem_cons_of_mem _ (List.mem_cons_of_mem _ List.mem_cons_self)))).1, (box_cells (hI1.alloc _) (List.mem_cons_of_mem _ (List.mem_cons_of_mem _ (List.mem_cons_of_mem _ List.mem_cons_self)))).2⟩ | exact ⟨two_set (box_cells hI1 (List.mem_cons_of_mem _ List.mem_cons_self)).1 (by omega), two_set (box_cells hI1 (List.mem_cons_of_mem _ List.mem_cons_self)).2 (by omega), two_set (box_cells hI1 (List.mem_cons_of_mem _ (List.mem_cons_of_mem _ (List.mem_cons_of_mem _ List.mem_cons_self)))).1 (by omega), two_set (box_cells hI1 (List.mem_cons_of_mem _ (List.mem_cons_of_mem _ (List.mem_cons_of_mem _ List.mem_cons_self)))).2 (by omega)⟩)
                (first | (go_at_call 11; (first | refine (F11.out _ _ _ _ p16 c16 _ (c - k) pu cu (hTH.out.below hJ1.below) (HQd.out.below hI1.below) (HU.out.below hI1.below) (HT.out.keep hI1.below)).mono ?_ | refine (F11.out _ _ _ _ p16 c16 _ (c - k) pu cu (hTH.out.below (hJ1.alloc nilO).below) (HQd.out.below (hI1.alloc nilO).below) (HU.out.below (hI1.alloc nilO).below) (HT.out.keep (hI1.alloc nilO).below)).mono ?_); rintro e W' ⟨⟨p', c', rfl, h'⟩, hb'⟩; (first | replace hI1 := hI1.call hb' | (replace hI1 := (hI1.alloc nilO).call hb'; obtain ⟨⟨y0, y1⟩, f0, f1⟩ := box_facts hI1; (try simp only [World.drew] at y0 y1 f0 f1)))))
              all_goals
                go_wp2
                go_meet
                refine ⟨_, p', c', rfl, rfl, Lib.hid ?_⟩
                first
                  | with_reducible exact step_one hIe hb' h'
                  | with_reducible exact step_two hIe hb' h'
            case rest =>
              obtain ⟨g17, p17, c17, rfl, rfl, HX17⟩ := hcut
              obtain ⟨w17, rfl⟩ : ∃ w17 : World, w17 = wc := ⟨_, rfl⟩
              have hI17 := HX17.out.inv
              go_wp2
              exact bodyPost_ret (v := .bool true) (by simp [results, Tryd.results4, go_sem]) rfl ⟨rfl, hI17.below⟩
    · have hPN := pn_any ns root us ru pl HS1.out n Hn.out (by omega) (by have := Hsz.out; omega) (fun x h1 h2 h3 => by
        cases hc : getX x pl with
        | none => rfl
        | some z => exact absurd ⟨x, z, h1, h2, ok_of_fits h1.fits x h2, h3, hc⟩ hA)
      obtain ⟨N, hNN⟩ : ∃ N, arOf none = N := ⟨_, rfl⟩
      rw [hNN] at hPN
      have CN1 := Lib.hid hPN.c1
      have CN2 := Lib.hid hPN.c2
      clear hPN hNN hA
      go_wp2_with (first
        | (go_at_call 11; refine (CN2.out _ _ _ _ p cap q c pu cu (HN.out.below hI3.below) (HQ.out.below hI3.below) (HU.out.below hI3.below) (HT.out.keep hI3.below)).mono ?_; rintro e W4 ⟨⟨pb, cb, rfl, hb⟩, hb4⟩; have hI4 := (hI3.call hb4).alloc (arO pb N.nodes.length cb N.root); clear t0 t1 s0 s1)
        | (go_at_call 9; refine (CN1.out _ _ _ p cap q c (HN.out.below hI2.below) (HQ.out.below hI2.below) (HT.out.keep hI2.below)).mono ?_; rintro e W3 ⟨⟨pz, cz, rfl, hz⟩, hb3⟩; have hI3 := (hI2.call hb3).alloc (arO pz N.nodes.length cz N.root); clear t0 t1 s0 s1; obtain ⟨t0, t1⟩ := box_cells hI3 (List.mem_cons_of_mem _ (List.mem_cons_of_mem _ List.mem_cons_self)); obtain ⟨s0, s1⟩ := box_cells hI3 (List.mem_cons_of_mem _ List.mem_cons_self)))
      exact bodyPost_ret (v := .bool true) (by simp [results, Tryd.results4, go_sem]) rfl ⟨rfl, hI4.below⟩
end Go.Proofs.YtcenjpaiehidjaaDoor
