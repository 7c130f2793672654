/- spec.DrawBags: two drawn bags that are right. No conditions but the length of the code. Printed by xdrawbs.py. -/
import Derived.Test.YtdikkfhdogkniaaDrawB
namespace Go.Proofs.Ytdikkfhdogkniaa
open Go.RowKit

theorem Code0.keep {w w' : World} {A : Option Addr} {n : Nat} {zs : List Int} (h : Code0 w A n zs) (hb : Below w.heap.size w w') : Code0 w' A n zs := ⟨Rd.below h.rd hb, h.le, h.bd⟩
/-- Two drawn bags. -/
def DrawnBags (w : World) (e : Ending) (w' : World) : Prop :=
  ∃ A c ps B d qs, e = .returned (.tuple #[.agg #[.slice A ps.length c], .agg #[.slice B qs.length d]]) ∧ DOk 2 7 ps ∧ DOk 2 7 qs ∧ OwnQ w' w.heap.size A c ps ∧ OwnQ w' w.heap.size B d qs ∧ Below w.heap.size w w'
theorem OwnQ.setBag {w : World} {base c g j : Nat} {A : Option Addr} {ps : List It} {u : Value} {cs : Array Value} {fz : Nat × Nat} (h : OwnQ w base A c ps) (hq : w.heap[g]? = some (.cells cs 29 fz)) : OwnQ (w.setCell ⟨g, j, none⟩ u) base A c ps :=
  h.kept (g := g) ⟨rfl, rfl, rfl, by simp [World.setCell], fun i _ hi => Below.heap_setCell _ _ _ _ (fun h => hi (by rw [h]))⟩ hq (by decide) (by decide)

set_option maxRecDepth 100000 in
set_option maxHeartbeats 6400000 in
theorem DrawBags_any (A : Option Addr) (n c : Nat) (zs : List Int) (w : World) (hc : Code0 w A n zs) :
    Calls Try.prog 33 #[.slice A n c] w (DrawnBags w) := by
  have ka := below_alloc w (.cells #[.slice none 0 0] 29)
  have kb := below_alloc (w.alloc (.cells #[.slice none 0 0] 29)) (.cells #[.slice none 0 0] 29)
  have r0 := blk_below kb (heap_alloc_new w (.cells #[.slice none 0 0] 29))
  have r1 := heap_alloc_new (w.alloc (.cells #[.slice none 0 0] 29)) (.cells #[.slice none 0 0] 29)
  rw [show (w.alloc (.cells #[.slice none 0 0] 29)).heap.size = w.heap.size + 1 by simp] at r1
  have hB := below_step ka kb
  have hs : ((w.alloc (.cells #[.slice none 0 0] 29)).alloc (.cells #[.slice none 0 0] 29)).heap.size = w.heap.size + 2 := by simp
  have hcode := hc.keep hB
  obtain ⟨W1, hW1⟩ : ∃ W, (w.alloc (.cells #[.slice none 0 0] 29)).alloc (.cells #[.slice none 0 0] 29) = W := ⟨_, rfl⟩
  rw [hW1] at r0 r1 hB hs hcode
  have C := Lib.hid (l01New_any A n c zs W1 hcode)
  clear hc ka kb hcode
  go_enter Try.func33, Try.ntmps33
  go_wp2_with fail
  clear hW1
  refine C.out.mono ?_
  rintro e w2 ⟨rfl, hc2, hb2⟩
  replace r0 := blk_below hb2 r0
  replace r1 := blk_below hb2 r1
  replace hB := below_step hB hb2
  obtain ⟨g, hg⟩ : ∃ g, W1.heap.size = g := ⟨_, rfl⟩
  rw [hg] at hc2 hs ⊢
  have HG := Lib.hid hg
  have hsg : w.heap.size + 2 ≤ g := by omega
  clear hg C hs
  go_wp2_with fail
  refine (l03Draw_any 2 W1 g w2 (by omega) hc2 hb2).mono ?_
  rintro e w3 ⟨A1, c1, ps, rfl, hd1, o1, hc3, hg3, hb3⟩
  have hgl := hc2.lt
  replace r0 := (hg3.block _ (blk_lt r0) (fun e => by injection e with e; omega)).trans r0
  replace r1 := (hg3.block _ (blk_lt r1) (fun e => by injection e with e; omega)).trans r1
  replace hB := below_only hB hg3 (by omega)
  have hsz3 := hg3.size
  have HD1 := Lib.hid hd1
  have kc := below_alloc w3 (.cells #[.slice A1 ps.length c1] 29)
  have q1 := heap_alloc_new w3 (.cells #[.slice A1 ps.length c1] 29)
  replace r0 := blk_below kc r0
  replace r1 := blk_below kc r1
  replace hB := below_step hB kc
  have hb4 := below_step hb3 kc
  have hc4 := hc3.below kc
  replace o1 := o1.keep kc
  obtain ⟨W4, hW4⟩ : ∃ W, w3.alloc (.cells #[.slice A1 ps.length c1] 29) = W := ⟨_, rfl⟩
  obtain ⟨gp, hgp⟩ : ∃ g, w3.heap.size = g := ⟨_, rfl⟩
  rw [hW4] at q1 r0 r1 hB hb4 hc4 o1
  rw [hgp] at q1 hsz3
  clear hd1 hb3 hc3 hg3 kc hc2 hb2
  go_upto_region 3 with fail
  try rw [hW4]
  try rw [hgp]
  clear hW4 hgp
  have b0 := blk_cell (o := 0) q1 rfl
  have b0' : W4.drew.cell? ⟨gp, 0, none⟩ = some (.slice A1 ps.length c1) := b0
  have R0 : Hid (W4.drew.heap[w.heap.size]? = some (.cells #[.slice none 0 0] 29 (0, 0))) := Lib.hid r0
  have R1 : Hid (W4.drew.heap[w.heap.size + 1]? = some (.cells #[.slice none 0 0] 29 (0, 0))) := Lib.hid r1
  have Q1 : Hid (W4.drew.heap[gp]? = some (.cells #[.slice A1 ps.length c1] 29 (0, 0))) := Lib.hid q1
  have HC4 : Hid (CurAt W1 g W4.drew) := Lib.hid hc4
  have HB4 : Hid (Below W1.heap.size W1 W4.drew) := Lib.hid hb4.drew
  have HBW : Hid (Below w.heap.size w W4.drew) := Lib.hid hB.drew
  have O1 : Hid (OwnQ W4.drew w2.heap.size A1 c1 ps) := Lib.hid (o1.keep (Below.refl _ _).drew)
  clear r0 r1 q1 hc4 hb4 hB o1
  refine wp_region_held_drew (S := fun _ => True) (by kernel_rfl) (trivial) (fun hHeld => ?_)
  refine wpAnyH_take (i := 1) (v := ?_) rfl (by kernel_rfl) (by kernel_rfl) (by kernel_rfl) (fun _ _ _ h => h) (Or.inl ⟨by rfl, ?_⟩) hHeld ?_
  rotate_left
  · intro w hSw
    (try dsimp only at hSw)
    go_simp
    try with_reducible rfl
  try simp only [List.getElem_toArray, List.getElem_cons_zero, List.getElem_cons_succ, Act.put, List.setIfInBounds_toArray, List.set_cons_zero, List.set_cons_succ]
  refine wpAnyH_ready (rs := [0, 2]) (by kernel_rfl) (by simp) ?_
  refine AllReadyH.cons rfl (fun K hK => ?_) ?_
  · skip
    go_simp
    refine hK.out _ _ (trivial) (fun hHeld => ?_)
    clear hK K
    try simp only [List.getElem_toArray, List.getElem_cons_zero, Act.put, List.setIfInBounds_toArray, List.set_cons_zero, List.set_cons_succ]
    refine wpAnyH_ready (rs := [2]) (by kernel_rfl) (by simp) ?_
    refine AllReadyH.cons rfl (fun K hK => ?_) ?_
    · skip
      go_simp
      go_at_call 65
      refine (l03Draw_any 2 W1 g W4.drew (by omega) HC4.out HB4.out).mono ?_
      rintro e w6 ⟨A2, c2, qs, rfl, hd2, o2, hc6, hg6, hb6⟩
      have HD2 := Lib.hid hd2
      have P1 := O1.out.cur HC4.out hg6
      have r0 := (hg6.block _ (blk_lt R0.out) (fun e => by injection e with e; omega)).trans R0.out
      have r1 := (hg6.block _ (blk_lt R1.out) (fun e => by injection e with e; omega)).trans R1.out
      have q6 := (hg6.block _ (blk_lt Q1.out) (fun e => by injection e with e; omega)).trans Q1.out
      have hw6 := below_only HBW.out hg6 (by omega)
      have b6 := blk_cell (o := 0) q6 rfl
      have e0 := blk_cell (o := 0) r0 rfl
      have e1 := blk_cell (o := 0) r1 rfl
      have f0 : w6.frozen? ⟨w.heap.size, 0, none⟩ = false := frozen_of_row w6 _ 0 _ _ r0
      have f1 : w6.frozen? ⟨w.heap.size + 1, 0, none⟩ = false := frozen_of_row w6 _ 0 _ _ r1
      have l0 := blk_lt r0
      have l1 := blk_lt r1
      have r1' := blk_set_ne (g' := w.heap.size) (j := 0) (u := .slice A1 ps.length c1) r1 (by omega)
      have PA := Lib.hid ((P1.setBag r0 (j := 0) (u := .slice A1 ps.length c1)).setBag r1' (j := 0) (u := .slice A2 qs.length c2))
      have PB := Lib.hid ((o2.setBag r0 (j := 0) (u := .slice A1 ps.length c1)).setBag r1' (j := 0) (u := .slice A2 qs.length c2))
      have PW := Lib.hid (show Below w.heap.size w ((w6.setCell ⟨w.heap.size, 0, none⟩ (.slice A1 ps.length c1)).setCell ⟨w.heap.size + 1, 0, none⟩ (.slice A2 qs.length c2)) from (hw6.setCell (Nat.le_refl _) _).setCell (by show w.heap.size ≤ w.heap.size + 1; omega) _)
      have E0 := Lib.hid (blk_cell (o := 0) (blk_set_ne (g' := w.heap.size + 1) (j := 0) (u := .slice A2 qs.length c2) (blk_set1 (u := .slice A1 ps.length c1) r0) (by omega)) rfl)
      have E1 := Lib.hid (blk_cell (o := 0) (blk_set1 (u := .slice A2 qs.length c2) r1') rfl)
      have F1 := frozen_of_row _ (w.heap.size + 1) 0 _ _ r1'
      have e1' := blk_cell (o := 0) r1' rfl
      clear hd2 o2 hc6 hg6 hb6 P1 r0 r1 q6 hw6 r1'
      go_simp
      refine hK.out _ _ (trivial) (fun hHeld => ?_)
      clear hK K
      try simp only [List.getElem_toArray, List.getElem_cons_zero, List.getElem_cons_succ, Act.put, List.setIfInBounds_toArray, List.set_cons_zero, List.set_cons_succ]
      refine wpAnyH_ready (rs := [3]) (by kernel_rfl) (by simp) ?_
      refine AllReadyH.cons rfl (fun K hK => ?_) ?_
      · skip
        go_simp
        refine hK.out _ _ (trivial) (fun hHeld => ?_)
        clear hK K
        try simp only [List.getElem_toArray, List.getElem_cons_zero, List.getElem_cons_succ, Act.put, List.setIfInBounds_toArray, List.set_cons_zero, List.set_cons_succ]
        refine wpAnyH_ready (rs := [4]) (by kernel_rfl) (by simp) ?_
        refine AllReadyH.cons rfl (fun K hK => ?_) ?_
        · skip
          go_simp
          refine hK.out _ _ (trivial) (fun hHeld => ?_)
          clear hK K
          try simp only [List.getElem_toArray, List.getElem_cons_zero, List.getElem_cons_succ, Act.put, List.setIfInBounds_toArray, List.set_cons_zero, List.set_cons_succ]
          refine wpAnyH_done (by kernel_rfl) ?_ _
          clear b0 b0' b6
          have d0 := E0.out
          have d1 := E1.out
          go_wp2
          refine bodyPost_ret (v := .tuple #[.agg #[.slice A1 ps.length c1], .agg #[.slice A2 qs.length c2]]) (by simp [results, Try.results33, go_sem, d0, d1]) rfl ⟨A1, c1, ps, A2, c2, qs, rfl, HD1.out, HD2.out, PA.out.mono (by omega), PB.out.mono (by have := HBW.out.size; omega), PW.out⟩
        exact AllReadyH.nil
      exact AllReadyH.nil
    exact AllReadyH.nil
  refine AllReadyH.cons rfl (fun K hK => ?_) ?_
  · skip
    go_simp
    go_at_call 65
    refine (l03Draw_any 2 W1 g W4.drew (by omega) HC4.out HB4.out).mono ?_
    rintro e w6 ⟨A2, c2, qs, rfl, hd2, o2, hc6, hg6, hb6⟩
    have HD2 := Lib.hid hd2
    have P1 := O1.out.cur HC4.out hg6
    have r0 := (hg6.block _ (blk_lt R0.out) (fun e => by injection e with e; omega)).trans R0.out
    have r1 := (hg6.block _ (blk_lt R1.out) (fun e => by injection e with e; omega)).trans R1.out
    have q6 := (hg6.block _ (blk_lt Q1.out) (fun e => by injection e with e; omega)).trans Q1.out
    have hw6 := below_only HBW.out hg6 (by omega)
    have b6 := blk_cell (o := 0) q6 rfl
    have e0 := blk_cell (o := 0) r0 rfl
    have e1 := blk_cell (o := 0) r1 rfl
    have f0 : w6.frozen? ⟨w.heap.size, 0, none⟩ = false := frozen_of_row w6 _ 0 _ _ r0
    have f1 : w6.frozen? ⟨w.heap.size + 1, 0, none⟩ = false := frozen_of_row w6 _ 0 _ _ r1
    have l0 := blk_lt r0
    have l1 := blk_lt r1
    have r1' := blk_set_ne (g' := w.heap.size) (j := 0) (u := .slice A1 ps.length c1) r1 (by omega)
    have PA := Lib.hid ((P1.setBag r0 (j := 0) (u := .slice A1 ps.length c1)).setBag r1' (j := 0) (u := .slice A2 qs.length c2))
    have PB := Lib.hid ((o2.setBag r0 (j := 0) (u := .slice A1 ps.length c1)).setBag r1' (j := 0) (u := .slice A2 qs.length c2))
    have PW := Lib.hid (show Below w.heap.size w ((w6.setCell ⟨w.heap.size, 0, none⟩ (.slice A1 ps.length c1)).setCell ⟨w.heap.size + 1, 0, none⟩ (.slice A2 qs.length c2)) from (hw6.setCell (Nat.le_refl _) _).setCell (by show w.heap.size ≤ w.heap.size + 1; omega) _)
    have E0 := Lib.hid (blk_cell (o := 0) (blk_set_ne (g' := w.heap.size + 1) (j := 0) (u := .slice A2 qs.length c2) (blk_set1 (u := .slice A1 ps.length c1) r0) (by omega)) rfl)
    have E1 := Lib.hid (blk_cell (o := 0) (blk_set1 (u := .slice A2 qs.length c2) r1') rfl)
    have F1 := frozen_of_row _ (w.heap.size + 1) 0 _ _ r1'
    have e1' := blk_cell (o := 0) r1' rfl
    clear hd2 o2 hc6 hg6 hb6 P1 r0 r1 q6 hw6 r1'
    go_simp
    refine hK.out _ _ (trivial) (fun hHeld => ?_)
    clear hK K
    try simp only [List.getElem_toArray, List.getElem_cons_zero, List.getElem_cons_succ, Act.put, List.setIfInBounds_toArray, List.set_cons_zero, List.set_cons_succ]
    refine wpAnyH_ready (rs := [0]) (by kernel_rfl) (by simp) ?_
    refine AllReadyH.cons rfl (fun K hK => ?_) ?_
    · skip
      go_simp
      refine hK.out _ _ (trivial) (fun hHeld => ?_)
      clear hK K
      try simp only [List.getElem_toArray, List.getElem_cons_zero, Act.put, List.setIfInBounds_toArray, List.set_cons_zero, List.set_cons_succ]
      refine wpAnyH_ready (rs := [3]) (by kernel_rfl) (by simp) ?_
      refine AllReadyH.cons rfl (fun K hK => ?_) ?_
      · skip
        go_simp
        refine hK.out _ _ (trivial) (fun hHeld => ?_)
        clear hK K
        try simp only [List.getElem_toArray, List.getElem_cons_zero, List.getElem_cons_succ, Act.put, List.setIfInBounds_toArray, List.set_cons_zero, List.set_cons_succ]
        refine wpAnyH_ready (rs := [4]) (by kernel_rfl) (by simp) ?_
        refine AllReadyH.cons rfl (fun K hK => ?_) ?_
        · skip
          go_simp
          refine hK.out _ _ (trivial) (fun hHeld => ?_)
          clear hK K
          try simp only [List.getElem_toArray, List.getElem_cons_zero, List.getElem_cons_succ, Act.put, List.setIfInBounds_toArray, List.set_cons_zero, List.set_cons_succ]
          refine wpAnyH_done (by kernel_rfl) ?_ _
          clear b0 b0' b6
          have d0 := E0.out
          have d1 := E1.out
          go_wp2
          refine bodyPost_ret (v := .tuple #[.agg #[.slice A1 ps.length c1], .agg #[.slice A2 qs.length c2]]) (by simp [results, Try.results33, go_sem, d0, d1]) rfl ⟨A1, c1, ps, A2, c2, qs, rfl, HD1.out, HD2.out, PA.out.mono (by omega), PB.out.mono (by have := HBW.out.size; omega), PW.out⟩
        exact AllReadyH.nil
      exact AllReadyH.nil
    exact AllReadyH.nil
  exact AllReadyH.nil
end Go.Proofs.Ytdikkfhdogkniaa
