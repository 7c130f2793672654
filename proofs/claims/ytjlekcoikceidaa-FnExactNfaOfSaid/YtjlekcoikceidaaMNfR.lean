/- NfaOf's closure: arcs from one state to a set of states are put behind the others. Conditions: the set within the labels, the lengths. The automaton of a path: what it is, and that the program's arcs in order are the reference's. Plain. -/
import Derived.Test.YtjlekcoikceidaaConn
namespace Go.Proofs.Ytjlekcoikceidaa
open Go.RowKit

/-- The automaton in the making. -/
structure ArI (ga q : Nat) (x0 va x2 : Value) (ar : List Ed) (w : World) : Prop where
  box : w.heap[ga]? = some (.cells #[x0, va, x2] 29 (0, 0))
  ao : w.ownsRow q 64 3 va ar.length (edCells ar)
def arOf (fr : Int) (labs : List Int) (zs : List Int) : List Ed := zs.map (fun z => ⟨fr, labs.getD z.toNat 0, z + 1⟩)
theorem arOf_take {fr : Int} {labs zs : List Int} {k : Nat} (h : k < zs.length) : arOf fr labs (zs.take (k + 1)) = arOf fr labs (zs.take k) ++ [⟨fr, labs.getD (zs.getD k 0).toNat 0, zs.getD k 0 + 1⟩] := by
  unfold arOf
  rw [List.take_succ_eq_append_getElem h, List.map_append]
  simp [List.getD, h]
theorem arOf_len (fr : Int) (labs zs : List Int) : (arOf fr labs zs).length = zs.length := by simp [arOf]
theorem Rd.new3e (w : World) (a b d : Value) (e : TypeId) : Rd (w.alloc (.cells #[a, b, d] e)).drew 3 (some ⟨w.heap.size, 0, none⟩) 1 [a, b, d] := by
  refine ⟨rfl, fun _ => ⟨_, rfl, fun j u hu => ?_⟩⟩
  have hadd : (⟨w.heap.size, 0, none⟩ : Addr).add j = ⟨w.heap.size, j, none⟩ := by unfold Addr.add; split <;> simp_all
  show (w.alloc (.cells #[a, b, d] e)).cell? _ = _
  rw [hadd, cell_of_row _ w.heap.size j #[a, b, d] e (0, 0) (heap_alloc_new w _)]
  simpa using hu
theorem edCells_two (ar : List Ed) (x : Ed) : edCells (ar ++ [x]) = edCells ar ++ [.int .i64 x.f, .int .u8 x.l, .int .i64 x.t] := by simp [edCells_append, edCells]

theorem Rd.cellz {w : World} {a : Addr} {n : Nat} {xs : List Value} {u : Value} (h : Rd w 1 (some a) n xs) (j : Nat) (hj : j < n) (hu : xs[j]? = some u) : w.cell? (a.add j) = some u := by
  obtain ⟨ad, e, hc⟩ := h.2 (by omega)
  injection e with e
  subst e
  exact hc j u hu
set_option maxRecDepth 100000 in
set_option maxHeartbeats 6400000 in
theorem arcs_any (ga gs q b : Nat) (x0 va x2 P vf : Value) (L : Option Addr) (cl : Nat) (ar : List Ed) (labs : List Int) (fr : Int) (S : Nat) (w : World) (h : ArI ga q x0 va x2 ar w) (hs : w.heap[gs]? = some (.cells #[P, .slice L labs.length cl, vf] 57 (0, 0)))
    (hl : w.ownsRow b 5 1 (.slice L labs.length cl) labs.length (labs.map (Value.int .u8))) (hS : S < 16777216) (hb : ∀ i, S.testBit i = true → i < labs.length) (hq : q ≤ w.heap.size) (hqg : q ≤ ga) (hll : labs.length ≤ 24) (hal : ar.length ≤ 1000000) :
    Calls Try.prog 22 #[.int .i64 fr, .int .u32 S, .pointer (some ⟨ga, 0, none⟩), .pointer (some ⟨gs, 0, none⟩)] w
      (fun e w' => e = .returned (.tuple #[]) ∧ (∃ va', ArI ga q x0 va' x2 (ar ++ arOf fr labs (bitsTo S 32)) w') ∧ Kq [64] q ga w w') := by
  obtain ⟨i0, hi, hz0, hz1, hz2⟩ := info_parts Try.infoArc
  have H := Lib.hid h
  have HS := Lib.hid hs
  have HL := Lib.hid hl
  have HB := Lib.hid hb
  have HQ := Lib.hid hq
  have HQG := Lib.hid hqg
  have HGS : Hid (gs ≠ ga) := Lib.hid (fun e => by
    have := h.box
    rw [← e, hs] at this
    injection this with this
    injection this with _ this _
    exact absurd this (by decide))
  clear h hs hl hb hq hqg
  have BI := Lib.hid (bitsIn_any S w (by omega))
  have HZ : Hid (∀ k z, k < (bitsTo S 32).length → (bitsTo S 32).getD k 0 = z → ∃ j : Nat, z = j ∧ j < labs.length) := Lib.hid (fun k z hk hz => by
    have hm : (bitsTo S 32).getD k 0 ∈ bitsTo S 32 := by
      have e : (bitsTo S 32).getD k 0 = (bitsTo S 32)[k] := by simp [List.getD, hk]
      rw [e]; exact List.getElem_mem hk
    rw [hz] at hm
    obtain ⟨j, e, _, hbit⟩ := bitsTo_mem.1 hm
    exact ⟨j, e, HB.out j hbit⟩)
  have hzl := bitsTo_len S 32
  obtain ⟨zs, hzs⟩ : ∃ zs, bitsTo S 32 = zs := ⟨_, rfl⟩
  rw [hzs] at HZ BI hzl ⊢
  clear hzs
  go_enter Try.func22, Try.ntmps22
  go_wp2_with fail
  refine BI.out.mono ?_
  rintro e w1 ⟨A, c, rfl, own1, k1⟩
  have OWN1 := Lib.hid own1
  have K1 := Lib.hid k1
  have HI0 : Hid (ArI ga q x0 va x2 (ar ++ arOf fr labs (zs.take 0)) w1) := Lib.hid ⟨blk_below k1 H.out.box, by have := own_below H.out.ao k1; simpa [arOf] using this⟩
  have HS1 := Lib.hid (blk_below k1 HS.out)
  have HL1 := Lib.hid (own_below HL.out k1)
  have HNA : Hid ((Value.slice A zs.length c).ownBlock ≠ some ga) := Lib.hid (row_ne own1 (blk_below k1 H.out.box) (by decide))
  have HNL : Hid ((Value.slice L labs.length cl).ownBlock ≠ some ga) := Lib.hid (row_ne HL1.out (blk_below k1 H.out.box) (by decide))
  have HQ1 := Lib.hid (Nat.le_trans HQ.out k1.size)
  clear own1 k1
  go_wp2
  go_loopw [11] (fun i wr => ∃ (k : Nat) (va' : Value), k ≤ zs.length ∧ i = .int .i64 k ∧ ArI ga q x0 va' x2 (ar ++ arOf fr labs (zs.take k)) wr ∧ Kq [64] q ga w1 wr) (fun i _ => zs.length - (intOf i).toNat)
  case atStart => exact ⟨0, va, Nat.zero_le _, rfl, HI0.out, Kq.refl _ _ _ _⟩
  case round =>
    clear HI0
    obtain ⟨k, v1, hk, rfl, hI, hg⟩ := hrel
    have HI := Lib.hid hI
    have HG := Lib.hid hg
    by_cases hlt : k < zs.length
    · have ro := Rd.of_own (hg.own OWN1.out HNA.out (by decide))
      obtain ⟨ad, rfl, cz⟩ := RdI.at_ ro hlt
      have hsb := hg.block HS1.out HGS.out (by decide)
      have hlb := hg.own HL1.out HNL.out (by decide)
      obtain ⟨z, hz⟩ : ∃ z, zs.getD k 0 = z := ⟨_, rfl⟩
      obtain ⟨j, rfl, hj⟩ := HZ.out k z hlt hz
      have hst := arOf_take (fr := fr) (labs := labs) hlt
      rw [hz] at cz hst
      rw [Int.toNat_natCast] at hst
      obtain ⟨la, rfl, hcl⟩ := (Rd.of_own hlb).2 (by omega)
      obtain ⟨l, hl⟩ : ∃ l, labs.getD j 0 = l := ⟨_, rfl⟩
      have cL := hcl j (.int .u8 l) (by rw [← hl]; simp [List.getD, hj])
      rw [hl] at hst
      have HST := Lib.hid hst
      have HLL : Hid ((labs.map (Value.int .u8))[j]? = some (.int .u8 l)) := Lib.hid (by rw [← hl]; simp [List.getD, hj])
      have hal2 := arOf_len fr labs (zs.take k)
      have hal3 : (zs.take k).length ≤ 32 := by rw [List.length_take]; omega
      obtain ⟨ar2, har2⟩ : ∃ ar2, ar ++ arOf fr labs (zs.take k) = ar2 := ⟨_, rfl⟩
      have hal4 : ar2.length ≤ 1000032 := by rw [← har2, List.length_append]; omega
      rw [har2] at HI
      have HAR := Lib.hid har2
      have s1 : wr.cell? ⟨gs, 1, none⟩ = some (.slice (some la) labs.length cl) := blk_cell (o := 1) hsb rfl
      have a1 : wr.cell? ⟨ga, 1, none⟩ = some v1 := blk_cell (o := 1) HI.out.box rfl
      have ka : Below wr.heap.size wr (wr.alloc (.cells #[.int .i64 fr, .int .u8 l, .int .i64 ((j : Int) + 1)] 64)).drew := (below_alloc wr _).drew
      have HIA : Hid (ArI ga q x0 v1 x2 ar2 (wr.alloc (.cells #[.int .i64 fr, .int .u8 l, .int .i64 ((j : Int) + 1)] 64)).drew) := Lib.hid ⟨blk_below ka HI.out.box, own_below HI.out.ao ka⟩
      have a1a : (wr.alloc (.cells #[.int .i64 fr, .int .u8 l, .int .i64 ((j : Int) + 1)] 64)).drew.cell? ⟨ga, 1, none⟩ = some v1 := blk_cell (o := 1) HIA.out.box rfl
      have KA := Lib.hid ka
      have hba : q ≤ (wr.alloc (.cells #[.int .i64 fr, .int .u8 l, .int .i64 ((j : Int) + 1)] 64)).drew.heap.size := Nat.le_trans HQ1.out (Nat.le_trans hg.size ka.size)
      have hgl : ga < wr.heap.size := blk_lt HI.out.box
      have nL : la.block ≠ ga := fun e => HNL.out (by rw [← e]; rfl)
      have NL := Lib.hid nL
      have SA := Lib.hid s1
      have CL := Lib.hid cL
      have k0 : (0 : Int) ≤ (k : Int) := by omega
      have k1 : (k : Int) < (zs.length : Int) := by omega
      have j0 : (0 : Int) ≤ (j : Int) := by omega
      have j1 : (j : Int) < (labs.length : Int) := by omega
      have hadd : IntKind.i64.wrap ((j : Int) + 1) = (j : Int) + 1 := IntWalk.i64_in _ (by omega)
      clear hI hg ro hz hst hl hsb hlb hcl hal2 hal3 har2 ka nL
      go_wp2_with fail
      refine wp_region_held_drew (S := fun w' => w'.cell? ⟨gs, 1, none⟩ = some (.slice (some la) labs.length cl) ∧ w'.cell? (la.add j) = some (.int .u8 l)) (by kernel_rfl) ⟨s1, cL⟩ (fun hHeld => ?_)
      refine wpAnyH_take (i := 0) (oi := _) (v := ?_) rfl (by kernel_rfl) (by kernel_rfl) (by kernel_rfl) (fun _ _ _ h => h) (Or.inl ⟨by rfl, ?_⟩) (by assumption) ?_
      rotate_left 1
      · intro w hSw; (try dsimp only at hSw); go_simp; try with_reducible rfl
      simp only [Act.put, List.setIfInBounds_toArray]
      refine wpAnyH_take (i := 2) (oi := _) (v := ?_) rfl (by kernel_rfl) (by kernel_rfl) (by kernel_rfl) (fun _ _ _ h => h) (Or.inl ⟨by rfl, ?_⟩) (by assumption) ?_
      rotate_left 1
      · intro w hSw; (try dsimp only at hSw); go_simp; try with_reducible rfl
      simp only [Act.put]
      refine wpAnyH_take (i := 3) (oi := _) (v := ?_) rfl (by kernel_rfl) (by kernel_rfl) (by kernel_rfl) (fun _ _ _ h => h) (Or.inl ⟨by rfl, ?_⟩) (by assumption) ?_
      rotate_left 1
      · intro w hSw; (try dsimp only at hSw); go_simp; try with_reducible rfl
      simp only [Act.put]
      refine wpAnyH_take (i := 4) (oi := _) (v := ?_) rfl (by kernel_rfl) (by kernel_rfl) (by kernel_rfl) (fun _ _ _ h => h) (Or.inl ⟨by rfl, ?_⟩) (by assumption) ?_
      rotate_left 1
      · intro w hSw; (try dsimp only at hSw); go_simp; try with_reducible rfl
      simp only [Act.put]
      refine wpAnyH_take (i := 5) (oi := _) (v := ?_) rfl (by kernel_rfl) (by kernel_rfl) (by kernel_rfl) (fun _ _ _ h => h) (Or.inl ⟨by rfl, ?_⟩) (by assumption) ?_
      rotate_left 1
      · intro w hSw; (try dsimp only at hSw); go_simp; try with_reducible rfl
      simp only [Act.put]
      refine wpAnyH_take (i := 6) (oi := _) (v := ?_) rfl (by kernel_rfl) (by kernel_rfl) (by kernel_rfl) (fun _ _ _ h => h) (Or.inl ⟨by rfl, ?_⟩) (by assumption) ?_
      rotate_left 1
      · intro w hSw; (try dsimp only at hSw); go_simp; try with_reducible rfl
      simp only [Act.put]
      refine wpAnyH_take (i := 7) (oi := _) (v := ?_) rfl (by kernel_rfl) (by kernel_rfl) (by kernel_rfl) (fun _ _ _ h => h) (Or.inl ⟨by rfl, ?_⟩) (by assumption) ?_
      rotate_left 1
      · intro w hSw; (try dsimp only at hSw); go_simp; try with_reducible rfl
      simp only [Act.put]
      refine wpAnyH_take (i := 8) (oi := _) (v := ?_) rfl (by kernel_rfl) (by kernel_rfl) (by kernel_rfl) (fun _ _ _ h => h) (Or.inl ⟨by rfl, ?_⟩) (by assumption) ?_
      rotate_left 1
      · intro w hSw; (try dsimp only at hSw); go_simp; try with_reducible rfl
      simp only [Act.put]
      refine wpAnyH_take (i := 9) (oi := _) (v := ?_) rfl (by kernel_rfl) (by kernel_rfl) (by kernel_rfl) (fun _ _ _ h => h) (Or.inl ⟨by rfl, ?_⟩) (by assumption) ?_
      rotate_left 1
      · intro w hSw; (try dsimp only at hSw); go_simp; try with_reducible rfl
      simp only [Act.put]
      refine wpAnyH_take (i := 10) (oi := _) (v := ?_) rfl (by kernel_rfl) (by kernel_rfl) (by kernel_rfl) (fun _ _ _ h => h) (Or.inl ⟨by rfl, ?_⟩) (by assumption) ?_
      rotate_left 1
      · intro w hSw; (try dsimp only at hSw); go_simp; try with_reducible rfl
      simp only [Act.put]
      refine wpAnyH_ready (rs := [1, 11]) (by kernel_rfl) (by simp) ?_
      refine AllReadyH.cons (o := _) rfl (fun K hK => ?_) (AllReadyH.cons (o := _) rfl (fun K hK => ?_) AllReadyH.nil)
      · go_simp
        refine hK.out _ _ hHeld (fun hHeld => ?_)
        clear hK K
        try simp only [Act.put]
        refine wpAnyH_ready (rs := [11]) (by kernel_rfl) (by simp) ?_
        refine AllReadyH.cons (o := _) rfl (fun K hK => ?_) AllReadyH.nil
        go_simp
        refine hK.out _ _ ⟨held_step (below_alloc _ _) hHeld.1, held_step (below_alloc _ _) hHeld.2⟩ (fun hHeld => ?_)
        clear hK K
        try simp only [Act.put]
        refine wpAnyH_ready (rs := [12]) (by kernel_rfl) (by simp) ?_
        refine AllReadyH.cons (o := _) rfl (fun K hK => ?_) AllReadyH.nil
        refine step_append_any _ rfl (.tmp 16) (.tmp 26) 26 rfl q 64 i0 _ 3 24 Try.underlying26 hi hz0 hz1 hz2 rfl (by decide) v1 ar2.length _ rfl HIA.out.ao (some ⟨wr.heap.size, 0, none⟩) 1 1 [.int .i64 fr, .int .u8 l, .int .i64 ((j : Int) + 1)] rfl (Rd.new3e _ _ _ _ _) (by intro u hu; simp at hu; rcases hu with rfl | rfl | rfl <;> rfl) (by unfold maxLen; omega) (by omega) hba ?_
        intro v8 w8 hown8 hg8 hv8
        obtain ⟨A8, c8, rfl, _, _⟩ := own_slice hown8
        have HK8 : Hid (Kq [64] q ga w1 w8) := Lib.hid ((HG.out.below KA.out).row (by simp) HIA.out.ao hg8)
        have hb8 := (hg8.block _ (blk_lt HIA.out.box) (fun e => row_ne HIA.out.ao HIA.out.box (by decide) e.symm)).trans HIA.out.box
        have HB8 := Lib.hid hb8
        have HO8 : Hid (w8.ownsRow q 64 3 (.slice A8 (ar2.length + 1) c8) (ar2 ++ [(⟨fr, l, (j : Int) + 1⟩ : Ed)]).length (edCells (ar2 ++ [⟨fr, l, (j : Int) + 1⟩]))) := Lib.hid (by rw [List.length_append, edCells_two]; exact hown8)
        have g1 : w8.cell? ⟨ga, 1, none⟩ = some v1 := blk_cell (o := 1) hb8 rfl
        have gf : w8.frozen? ⟨ga, 1, none⟩ = false := frozen_of_row w8 _ 1 _ _ hb8
        have s18 : w8.cell? ⟨gs, 1, none⟩ = some (.slice (some la) labs.length cl) := blk_cell (o := 1) (HK8.out.block HS1.out HGS.out (by decide)) rfl
        have cL8 : w8.cell? (la.add j) = some (.int .u8 l) := (Rd.of_own (HK8.out.own HL1.out HNL.out (by decide))).cellz j hj HLL.out
        clear hown8 hg8 hv8 hb8
        refine hK.out _ _ (And.intro s18 cL8) (fun hHeld => ?_)
        clear hK K
        try simp only [Act.put]
        refine wpAnyH_take (i := 13) (oi := _) (v := ?_) rfl (by kernel_rfl) (by kernel_rfl) (by kernel_rfl) (fun _ _ _ h => h) (Or.inl ⟨by rfl, ?_⟩) (by assumption) ?_
        rotate_left 1
        · intro w hSw; (try dsimp only at hSw); go_simp; try with_reducible rfl
        simp only [Act.put, List.setIfInBounds_toArray]
        refine wpAnyH_ready (rs := [14]) (by kernel_rfl) (by simp) ?_
        refine AllReadyH.cons (o := _) rfl (fun K hK => ?_) AllReadyH.nil
        go_simp
        refine hK.out _ _ ⟨(World.cell?_setCell_far _ _ _ _ (Ne.symm HGS.out)).trans hHeld.1, (World.cell?_of_block (Below.heap_setCell _ _ _ _ (by rw [block_of_add]; exact NL.out))).trans hHeld.2⟩ (fun hHeld => ?_)
        clear hK K
        try simp only [Act.put]
        refine wpAnyH_done (by kernel_rfl) ?_ _
        clear hHeld s1 cL a1 a1a g1 gf s18 cL8 cz hba
        go_wp2
        go_roundw
        case rel =>
          refine ⟨k + 1, .slice A8 (ar2.length + 1) c8, by omega, by go_num, ?_, HK8.out.only HQG.out (only_setCell (World.grownBy.refl _ _) _ _)⟩
          rw [HST.out, ← List.append_assoc, HAR.out]
          exact ⟨by simp [World.setCell, Array.getElem?_modify, HB8.out], own_setCell_other HO8.out (row_ne (t := 29) HO8.out HB8.out (by decide)) _⟩
        case measure => simp [intOf]; omega
      · go_simp
        refine hK.out _ _ ⟨held_step (below_alloc _ _) hHeld.1, held_step (below_alloc _ _) hHeld.2⟩ (fun hHeld => ?_)
        clear hK K
        try simp only [Act.put]
        refine wpAnyH_ready (rs := [1]) (by kernel_rfl) (by simp) ?_
        refine AllReadyH.cons (o := _) rfl (fun K hK => ?_) AllReadyH.nil
        go_simp
        refine hK.out _ _ hHeld (fun hHeld => ?_)
        clear hK K
        try simp only [Act.put]
        refine wpAnyH_ready (rs := [12]) (by kernel_rfl) (by simp) ?_
        refine AllReadyH.cons (o := _) rfl (fun K hK => ?_) AllReadyH.nil
        refine step_append_any _ rfl (.tmp 16) (.tmp 26) 26 rfl q 64 i0 _ 3 24 Try.underlying26 hi hz0 hz1 hz2 rfl (by decide) v1 ar2.length _ rfl HIA.out.ao (some ⟨wr.heap.size, 0, none⟩) 1 1 [.int .i64 fr, .int .u8 l, .int .i64 ((j : Int) + 1)] rfl (Rd.new3e _ _ _ _ _) (by intro u hu; simp at hu; rcases hu with rfl | rfl | rfl <;> rfl) (by unfold maxLen; omega) (by omega) hba ?_
        intro v8 w8 hown8 hg8 hv8
        obtain ⟨A8, c8, rfl, _, _⟩ := own_slice hown8
        have HK8 : Hid (Kq [64] q ga w1 w8) := Lib.hid ((HG.out.below KA.out).row (by simp) HIA.out.ao hg8)
        have hb8 := (hg8.block _ (blk_lt HIA.out.box) (fun e => row_ne HIA.out.ao HIA.out.box (by decide) e.symm)).trans HIA.out.box
        have HB8 := Lib.hid hb8
        have HO8 : Hid (w8.ownsRow q 64 3 (.slice A8 (ar2.length + 1) c8) (ar2 ++ [(⟨fr, l, (j : Int) + 1⟩ : Ed)]).length (edCells (ar2 ++ [⟨fr, l, (j : Int) + 1⟩]))) := Lib.hid (by rw [List.length_append, edCells_two]; exact hown8)
        have g1 : w8.cell? ⟨ga, 1, none⟩ = some v1 := blk_cell (o := 1) hb8 rfl
        have gf : w8.frozen? ⟨ga, 1, none⟩ = false := frozen_of_row w8 _ 1 _ _ hb8
        have s18 : w8.cell? ⟨gs, 1, none⟩ = some (.slice (some la) labs.length cl) := blk_cell (o := 1) (HK8.out.block HS1.out HGS.out (by decide)) rfl
        have cL8 : w8.cell? (la.add j) = some (.int .u8 l) := (Rd.of_own (HK8.out.own HL1.out HNL.out (by decide))).cellz j hj HLL.out
        clear hown8 hg8 hv8 hb8
        refine hK.out _ _ (And.intro s18 cL8) (fun hHeld => ?_)
        clear hK K
        try simp only [Act.put]
        refine wpAnyH_take (i := 13) (oi := _) (v := ?_) rfl (by kernel_rfl) (by kernel_rfl) (by kernel_rfl) (fun _ _ _ h => h) (Or.inl ⟨by rfl, ?_⟩) (by assumption) ?_
        rotate_left 1
        · intro w hSw; (try dsimp only at hSw); go_simp; try with_reducible rfl
        simp only [Act.put, List.setIfInBounds_toArray]
        refine wpAnyH_ready (rs := [14]) (by kernel_rfl) (by simp) ?_
        refine AllReadyH.cons (o := _) rfl (fun K hK => ?_) AllReadyH.nil
        go_simp
        refine hK.out _ _ ⟨(World.cell?_setCell_far _ _ _ _ (Ne.symm HGS.out)).trans hHeld.1, (World.cell?_of_block (Below.heap_setCell _ _ _ _ (by rw [block_of_add]; exact NL.out))).trans hHeld.2⟩ (fun hHeld => ?_)
        clear hK K
        try simp only [Act.put]
        refine wpAnyH_done (by kernel_rfl) ?_ _
        clear hHeld s1 cL a1 a1a g1 gf s18 cL8 cz hba
        go_wp2
        go_roundw
        case rel =>
          refine ⟨k + 1, .slice A8 (ar2.length + 1) c8, by omega, by go_num, ?_, HK8.out.only HQG.out (only_setCell (World.grownBy.refl _ _) _ _)⟩
          rw [HST.out, ← List.append_assoc, HAR.out]
          exact ⟨by simp [World.setCell, Array.getElem?_modify, HB8.out], own_setCell_other HO8.out (row_ne (t := 29) HO8.out HB8.out (by decide)) _⟩
        case measure => simp [intOf]; omega
    · obtain rfl : k = zs.length := by omega
      have HE : Hid (zs.take zs.length = zs) := Lib.hid (List.take_of_length_le (Nat.le_refl _))
      clear hI hg
      go_wp2
      go_end0
      refine ⟨rfl, ⟨v1, ?_⟩, ((Kq.refl _ _ _ _).below K1.out).trans HG.out⟩
      have := HI.out
      rw [HE.out] at this
      exact this
end Go.Proofs.Ytjlekcoikceidaa
namespace Go.Proofs.Ytjlekcoikceidaa
open Go.RowKit

/-- What a call that makes an automaton and a bool leaves. -/
def MadeNB (w : World) (s : Int) (es : List Ed) (bs : List Bool) (ok : Bool) (e : Ending) (w' : World) : Prop :=
  ∃ A c B d, e = .returned (.tuple #[.agg #[.int .i64 s, .slice A es.length c, .slice B bs.length d], .bool ok]) ∧ (w'.ownsRow w.heap.size 64 3 (.slice A es.length c) es.length (edCells es) ∧ w'.ownsRow w.heap.size 4 1 (.slice B bs.length d) bs.length (bs.map Value.bool)) ∧ Below w.heap.size w w'
theorem MadeNB.no {w w' : World} (h : Below w.heap.size w w') : MadeNB w 0 [] [] false (.returned (.tuple #[.agg #[.int .i64 0, .slice none 0 0, .slice none 0 0], .bool false])) w' :=
  ⟨none, 0, none, 0, rfl, ⟨World.ownsRow_nil _ _ _ _, World.ownsRow_nil _ _ _ _⟩, h⟩

def NfP (ps : List Pc) : Prop := PaOk ps ∧ ¬ 24 ≤ (lkAll ps).2.labs.length
/-- All arcs, in order. -/
def nfArcs (r : Lk × LkS) : List Ed := arcsOf r.2.labs (r.2.prs ++ prsOf [0] r.1.fi)
def nfEnds (r : Lk × LkS) : List Bool := r.1.nul :: (List.range r.2.labs.length).map (fun i => (bitsOf r.1.la).testBit i)
noncomputable def nfS (ps : List Pc) : Int := if PP (NfP ps) = true then ((lkAll ps).2.labs.length : Int) + 1 else 0
noncomputable def nfA (ps : List Pc) : List Ed := if PP (NfP ps) = true then nfArcs (lkAll ps) else []
noncomputable def nfE (ps : List Pc) : List Bool := if PP (NfP ps) = true then nfEnds (lkAll ps) else []
theorem nf_yes {ps : List Pc} (h : NfP ps) {w w' : World} {e : Ending} : MadeNB w (nfS ps) (nfA ps) (nfE ps) (PP (NfP ps)) e w' ↔ MadeNB w (((lkAll ps).2.labs.length : Int) + 1) (nfArcs (lkAll ps)) (nfEnds (lkAll ps)) true e w' := by
  unfold nfS nfA nfE
  rw [PP_yes h, if_pos rfl, if_pos rfl, if_pos rfl]
theorem nf_no {ps : List Pc} (h : ¬ NfP ps) {w w' : World} {e : Ending} : MadeNB w (nfS ps) (nfA ps) (nfE ps) (PP (NfP ps)) e w' ↔ MadeNB w 0 [] [] false e w' := by
  unfold nfS nfA nfE
  rw [PP_no h, if_neg (by simp), if_neg (by simp), if_neg (by simp)]

/-- The program's arcs: of the first k steps. -/
def arTo (labs : List Int) (fi : List Nat) (fw : List Nat) (k : Nat) : List Ed := arOf 0 labs (bitsTo (bitsOf fi) 32) ++ (List.range k).flatMap (fun (i : Nat) => arOf ((i : Int) + 1) labs (bitsTo (fw.getD i 0) 32))
theorem arTo_succ (labs : List Int) (fi fw : List Nat) (k : Nat) : arTo labs fi fw (k + 1) = arTo labs fi fw k ++ arOf ((k : Int) + 1) labs (bitsTo (fw.getD k 0) 32) := by
  unfold arTo
  rw [List.range_succ, List.flatMap_append, List.append_assoc]
  simp
theorem arTo_len (labs : List Int) (fi fw : List Nat) : ∀ k, (arTo labs fi fw k).length ≤ 32 * (k + 1)
  | 0 => by
    have := bitsTo_len (bitsOf fi) 32
    simp [arTo, arOf_len]
    omega
  | k + 1 => by
    have := bitsTo_len (fw.getD k 0) 32
    have := arTo_len labs fi fw k
    rw [arTo_succ, List.length_append, arOf_len]
    omega
theorem mem_arOf {fr : Int} {labs : List Int} {S : Nat} {y : Ed} : y ∈ arOf fr labs (bitsTo S 32) ↔ ∃ j : Nat, j < 32 ∧ S.testBit j = true ∧ y = ⟨fr, labs.getD j 0, (j : Int) + 1⟩ := by
  unfold arOf
  constructor
  · intro h
    obtain ⟨z, hz, rfl⟩ := List.mem_map.1 h
    obtain ⟨j, rfl, h1, h2⟩ := bitsTo_mem.1 hz
    exact ⟨j, h1, h2, by simp⟩
  · rintro ⟨j, h1, h2, rfl⟩
    exact List.mem_map.2 ⟨(j : Int), bitsTo_mem.2 ⟨j, rfl, h1, h2⟩, by simp⟩
theorem nodup_bits (S k : Nat) : (bitsTo S k).Nodup := by
  unfold bitsTo
  refine List.Pairwise.map _ (fun a b h e => h (by omega)) ((List.nodup_range).filter _)
theorem nodup_arOf (fr : Int) (labs : List Int) (S : Nat) : (arOf fr labs (bitsTo S 32)).Nodup := by
  unfold arOf
  refine List.Pairwise.map _ (fun a b h e => h (by injection e with _ _ e; omega)) (nodup_bits S 32)
theorem from_arOf {fr : Int} {labs : List Int} {S : Nat} {y : Ed} (h : y ∈ arOf fr labs (bitsTo S 32)) : y.f = fr := by
  obtain ⟨j, _, _, rfl⟩ := mem_arOf.1 h
  rfl
theorem from_arTo {labs : List Int} {fi fw : List Nat} {y : Ed} : ∀ k, y ∈ arTo labs fi fw k → 0 ≤ y.f ∧ y.f ≤ k
  | 0, h => by
    have := from_arOf (show y ∈ arOf 0 labs (bitsTo (bitsOf fi) 32) by simpa [arTo] using h)
    omega
  | k + 1, h => by
    rw [arTo_succ] at h
    rcases List.mem_append.1 h with h | h
    · have := from_arTo k h
      omega
    · have := from_arOf h
      omega
theorem nodup_arTo (labs : List Int) (fi fw : List Nat) : ∀ k, (arTo labs fi fw k).Nodup
  | 0 => by simpa [arTo] using nodup_arOf 0 labs (bitsOf fi)
  | k + 1 => by
    rw [arTo_succ]
    refine List.nodup_append.2 ⟨nodup_arTo labs fi fw k, nodup_arOf _ _ _, fun a ha b hb e => ?_⟩
    subst e
    have h1 := from_arTo k ha
    have h2 := from_arOf hb
    omega
theorem mem_arTo {labs : List Int} {fi fw : List Nat} {y : Ed} : ∀ k, y ∈ arTo labs fi fw k ↔ (∃ j : Nat, j < 32 ∧ (bitsOf fi).testBit j = true ∧ y = ⟨0, labs.getD j 0, (j : Int) + 1⟩) ∨ ∃ i : Nat, i < k ∧ ∃ j : Nat, j < 32 ∧ (fw.getD i 0).testBit j = true ∧ y = ⟨(i : Int) + 1, labs.getD j 0, (j : Int) + 1⟩
  | 0 => by
    have h := mem_arOf (fr := 0) (labs := labs) (S := bitsOf fi) (y := y)
    simp only [arTo, List.range_zero, List.flatMap_nil, List.append_nil, h]
    constructor
    · exact .inl
    · rintro (h | ⟨i, hi, _⟩)
      · exact h
      · omega
  | k + 1 => by
    rw [arTo_succ, List.mem_append, mem_arTo k, mem_arOf]
    constructor
    · rintro ((h | ⟨i, hi, h⟩) | h)
      · exact .inl h
      · exact .inr ⟨i, by omega, h⟩
      · exact .inr ⟨k, by omega, h⟩
    · rintro (h | ⟨i, hi, h⟩)
      · exact .inl (.inl h)
      · by_cases e : i = k
        · subst e; exact .inr h
        · exact .inl (.inr ⟨i, by omega, h⟩)
/-- The arcs of the program are those of the reference. -/
theorem mem_nf {s : LkS} (hs : StOk s) {fi : List Nat} (hf : ∀ x ∈ fi, 1 ≤ x ∧ x ≤ s.labs.length) {y : Ed} :
    y ∈ arTo s.labs fi (fwOf s.labs.length s.prs) s.labs.length ↔ y ∈ arcsOf s.labs (s.prs ++ prsOf [0] fi) := by
  have h24 := hs.len
  have hp2 : ∀ p ∈ s.prs, 1 ≤ p.2 := fun p hp => ((hs.prs p hp).2).1
  rw [mem_arTo, mem_arcsOf]
  constructor
  · rintro (⟨j, hj, hb, rfl⟩ | ⟨i, hi, j, hj, hb, rfl⟩)
    · exact ⟨(0, j + 1), List.mem_append.2 (.inr (prsOf_mem.2 ⟨by simp, (bitsOf_iff (fun x hx => (hf x hx).1)).1 hb⟩)), by simp [arcOf]⟩
    · rw [fwOf_at hi, fwAt_iff hp2] at hb
      exact ⟨(i + 1, j + 1), List.mem_append.2 (.inl hb), by simp [arcOf]⟩
  · rintro ⟨⟨a, b⟩, h, rfl⟩
    rcases List.mem_append.1 h with h | h
    · have hr := hs.prs _ h
      simp only at hr
      obtain ⟨i, rfl⟩ : ∃ i, a = i + 1 := ⟨a - 1, by omega⟩
      obtain ⟨j, rfl⟩ : ∃ j, b = j + 1 := ⟨b - 1, by omega⟩
      exact .inr ⟨i, by omega, j, by omega, by rw [fwOf_at (by omega), fwAt_iff hp2]; exact h, by simp [arcOf]⟩
    · obtain ⟨h1, h2⟩ := prsOf_mem.1 h
      have h3 := hf b h2
      have e : a = 0 := by simpa using h1
      subst e
      obtain ⟨j, rfl⟩ : ∃ j, b = j + 1 := ⟨b - 1, by omega⟩
      exact .inl ⟨j, by omega, (bitsOf_iff (fun x hx => (hf x hx).1)).2 h2, by simp [arcOf]⟩
theorem asc_of_sorted : ∀ {fs : List Ed}, fs.Nodup → fs.Pairwise (fun x y => edLess y x = false) → Asc fs
  | [], _, _ => List.Pairwise.nil
  | a :: r, h1, h2 => by
    rw [List.pairwise_cons] at h2
    rw [List.nodup_cons] at h1
    refine List.pairwise_cons.2 ⟨fun b hb => ?_, asc_of_sorted h1.2 h2.2⟩
    rcases edLess_tri a b with h | h | h
    · exact h
    · subst h; exact absurd hb h1.1
    · rw [h2.1 b hb] at h; cases h
theorem sorted_nf {r : Lk × LkS} (hr : LkOk ⟨[], []⟩ r) {fs : List Ed} (hp : fs.Perm (arTo r.2.labs r.1.fi (fwOf r.2.labs.length r.2.prs) r.2.labs.length)) (hs : fs.Pairwise fun x y => edLess y x = false) : fs = nfArcs r := by
  have hf : ∀ x ∈ r.1.fi, 1 ≤ x ∧ x ≤ r.2.labs.length := fun x hx => by have := hr.fi.2 x hx; omega
  refine asc_ext (asc_of_sorted (hp.nodup_iff.2 (nodup_arTo _ _ _ _)) hs) (asc_arcsOf _ _) (fun y => ?_)
  rw [hp.mem_iff]
  exact mem_nf hr.st hf
theorem nfArcs_len {r : Lk × LkS} (hr : LkOk ⟨[], []⟩ r) : (nfArcs r).length ≤ 1638400 := by
  refine arcs_len hr.st.len (asc_arcsOf _ _) (fun e he => ?_)
  obtain ⟨p, hp, rfl⟩ := mem_arcsOf.1 he
  rcases List.mem_append.1 hp with hp | hp
  · have := hr.st.prs p hp
    exact arOk_of hr.st.lab (by omega) this.2
  · obtain ⟨a, b⟩ := p
    obtain ⟨h1, h2⟩ := prsOf_mem.1 hp
    have := hr.fi.2 b h2
    have e : a = 0 := by simpa using h1
    exact arOk_of hr.st.lab (by simp only; omega) (by simp only; omega)
theorem nfArcs_lab {r : Lk × LkS} (hr : LkOk ⟨[], []⟩ r) : ∀ e ∈ nfArcs r, ArOk r.2.labs.length e := by
  intro e he
  obtain ⟨p, hp, rfl⟩ := mem_arcsOf.1 he
  rcases List.mem_append.1 hp with hp | hp
  · have := hr.st.prs p hp
    exact arOk_of hr.st.lab (by omega) this.2
  · obtain ⟨a, b⟩ := p
    obtain ⟨h1, h2⟩ := prsOf_mem.1 hp
    have := hr.fi.2 b h2
    have e : a = 0 := by simpa using h1
    exact arOk_of hr.st.lab (by simp only; omega) (by simp only; omega)
theorem nfEnds_len (r : Lk × LkS) : (nfEnds r).length = r.2.labs.length + 1 := by simp [nfEnds]
theorem Kq.bel {T : List TypeId} {q gm B : Nat} {w wr w' : World} (h : Kq T q gm wr w') (hb : Below B w wr) (hB : B ≤ q) (hs : B ≤ w.heap.size) : Below B w w' :=
  ⟨h.os.trans hb.os, h.tape.trans hb.tape, h.output.trans hb.output, Nat.le_trans hb.size h.size, fun k hk => (h.blk k (Nat.lt_of_lt_of_le hk (Nat.le_trans hs hb.size)) (.inl (Nat.lt_of_lt_of_le hk hB))).trans (hb.block k hk)⟩
end Go.Proofs.Ytjlekcoikceidaa
