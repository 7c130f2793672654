/- spec.l03Any: a drawn bag, right or not. No conditions but the width. Printed by xdrawba.py. -/
import Derived.Test.YtdikkfhdogkniaaDrawB
import Derived.Test.YtdikkfhdogkniaaSCopyB
import Derived.Test.YtdikkfhdogkniaaPutB
import Derived.Test.YtdikkfhdogkniaaPickI
namespace Go.Proofs.Ytdikkfhdogkniaa
open Go.RowKit

theorem OwnBx.q {w : World} {base c : Nat} {A : Option Addr} {xs : List ItX} (h : OwnBx w base A c xs) : OwnQ w base A c (xs.map ItX.p) := ⟨xs, rfl, by rw [List.length_map]; exact h.row, h.kids⟩
/-- What the drawing of a bag of any kind keeps: the copy, in its variable. -/
structure DA (w0 : World) (g : Nat) (w : World) (q : Nat) (A : Option Addr) (c : Nat) (xs : List ItX) (W : World) : Prop where
  lt : g < w.heap.size
  qlt : w.heap.size < q
  box : W.heap[q]? = some (.cells #[.slice A xs.length c] 29 (0, 0))
  res : W.heap[w.heap.size]? = some (.cells #[.slice none 0 0] 29 (0, 0))
  own : OwnBx W w.heap.size A c xs
  cur : CurAt w0 g W
  bel : Below w0.heap.size w0 W
  grow : w.grownBy W (some g)
/-- .. and at its end. -/
structure DZ (w0 : World) (g : Nat) (w : World) (q : Nat) (A : Option Addr) (c : Nat) (L : List It) (W : World) : Prop where
  lt : g < w.heap.size
  qlt : w.heap.size < q
  box : W.heap[q]? = some (.cells #[.slice A L.length c] 29 (0, 0))
  res : W.heap[w.heap.size]? = some (.cells #[.slice none 0 0] 29 (0, 0))
  own : OwnQ W w.heap.size A c L
  cur : CurAt w0 g W
  bel : Below w0.heap.size w0 W
  grow : w.grownBy W (some g)
section
variable {w0 w W W' : World} {g q c : Nat} {A : Option Addr} {xs : List ItX}
theorem grown_set (W : World) (g j : Nat) (u : Value) : W.grownBy (W.setCell ⟨g, j, none⟩ u) (some g) := ⟨rfl, rfl, rfl, by simp [World.setCell], fun i _ hi => Below.heap_setCell _ _ _ _ (fun h => hi (by rw [h]))⟩
theorem DA.keep (h : DA w0 g w q A c xs W) (hb : Below W.heap.size W W') : DA w0 g w q A c xs W' :=
  ⟨h.lt, h.qlt, blk_below hb h.box, blk_below hb h.res, h.own.keep hb, h.cur.below hb, below_step h.bel hb, only_below h.grow hb⟩
theorem DA.draw (h : DA w0 g w q A c xs W) (hg : W.grownBy W' (some g)) (hc : CurAt w0 g W') : DA w0 g w q A c xs W' := by
  have h1 := h.lt
  have h2 := h.qlt
  obtain ⟨_, _, _, _, _, _, _, _, _, hq⟩ := h.cur
  exact ⟨h.lt, h.qlt, (hg.block _ (blk_lt h.box) (fun e => by injection e with e; omega)).trans h.box, (hg.block _ (blk_lt h.res) (fun e => by injection e with e; omega)).trans h.res,
    ⟨h.own.row.kept hg (.inr (row_ne h.own.row hq (by decide))), fun x hx => (h.own.kids x hx).kept hg (.inr (row_ne (h.own.kids x hx) hq (by decide))), h.own.apart⟩, hc, below_only h.bel hg hc.ge, only_trans h.grow hg⟩
theorem DA.done (h : DA w0 g w q A c xs W) : DZ w0 g w q A c (xs.map ItX.p) W := ⟨h.lt, h.qlt, by rw [List.length_map]; exact h.box, h.res, h.own.q, h.cur, h.bel, h.grow⟩
/-- A row of the call's own, or a new one, is grown, and the variable set. -/
theorem DZ.of {L : List It} {A1 : Option Addr} {c1 : Nat} {row : Option Nat} (h : DA w0 g w q A c xs W) (hg : W.grownBy W' row) (hr : row = (Value.slice A xs.length c).ownBlock) (ho : OwnQ W' w.heap.size A1 c1 L) : DZ w0 g w q A1 c1 L (W'.setCell ⟨q, 0, none⟩ (.slice A1 L.length c1)) := by
  have h1 := h.lt
  have h2 := h.qlt
  obtain ⟨_, _, _, _, _, _, _, _, _, hq⟩ := h.cur
  have nb : (some q : Option Nat) ≠ row := fun e => row_ne h.own.row h.box (by decide) (by rw [← hr, ← e])
  have nr : (some w.heap.size : Option Nat) ≠ row := fun e => row_ne h.own.row h.res (by decide) (by rw [← hr, ← e])
  have ng : (some g : Option Nat) ≠ row := fun e => row_ne h.own.row hq (by decide) (by rw [← hr, ← e])
  have b1 := (hg.block _ (blk_lt h.box) nb).trans h.box
  have r1 := (hg.block _ (blk_lt h.res) nr).trans h.res
  have hc := h.cur.grown hg ng
  have hw := h.bel.size
  have hge : w0.heap.size ≤ w.heap.size := by have := h.cur.ge; omega
  have hrow : ∀ r, row = some r → w.heap.size ≤ r := fun r e => (h.own.row.lt r (by rw [← hr, e])).1
  have hb : Below w0.heap.size w0 W' := h.bel.grown hg hw (fun r e => by have := hrow r e; omega)
  have hgr := only_row h.grow hg hrow
  refine ⟨h.lt, h.qlt, blk_set1 b1, blk_set_ne r1 (by omega), ho.kept (grown_set _ _ _ _) b1 (by decide) (by decide), hc.grown (grown_set _ _ _ _) (fun e => by injection e with e; omega), hb.setCell (by show w0.heap.size ≤ q; omega) _, ⟨hgr.os, hgr.tape, hgr.output, by have := hgr.size; simpa using this, fun i hi hne => (Below.heap_setCell _ _ _ _ (by show i ≠ q; omega)).trans (hgr.block i hi hne)⟩⟩
theorem DA.push {A1 K : Option Addr} {c1 kc : Nat} {p : It} {o : Obj} (h : DA w0 g w q A c xs W)
    (hk : W.ownsRow w.heap.size 3 1 (.slice K p.r.length kc) p.r.length (p.r.map (Value.int .i64)))
    (hown : W'.ownsRow w.heap.size 54 2 (.slice A1 (xs.length + 1) c1) (xs.length + 1) (ixCells xs ++ [.slice K p.r.length kc, .int .i64 p.t]))
    (hg : (W.alloc o).grownBy W' (Value.slice A xs.length c).ownBlock) : DZ w0 g w q A1 c1 (xs.map ItX.p ++ [p]) (W'.setCell ⟨q, 0, none⟩ (.slice A1 (xs.length + 1) c1)) := by
  have h2 := h.keep (below_alloc W o)
  have hl : (xs.map ItX.p ++ [p]).length = xs.length + 1 := by simp
  rw [← hl]
  refine DZ.of h2 hg rfl ⟨xs ++ [⟨p, K, kc⟩], by simp, ?_, fun x hx => ?_⟩
  · rw [hl, ixCells_append]; exact hown
  · rcases List.mem_append.1 hx with hx | hx
    · exact (h2.own.kids x hx).kept hg (own_ne (h2.own.kids x hx) h2.own.row (by decide))
    · simp only [List.mem_cons, List.not_mem_nil, or_false] at hx
      subst hx
      have k2 := own_below hk (below_alloc W o)
      exact k2.kept hg (own_ne k2 h2.own.row (by decide))
theorem DA.twice {A1 : Option Addr} {c1 : Nat} (h : DA w0 g w q A c xs W)
    (hown : W'.ownsRow w.heap.size 54 2 (.slice A1 (xs.length + xs.length) c1) (xs.length + xs.length) (ixCells xs ++ ixCells xs))
    (hg : W.grownBy W' (Value.slice A xs.length c).ownBlock) : DZ w0 g w q A1 c1 (xs.map ItX.p ++ xs.map ItX.p) (W'.setCell ⟨q, 0, none⟩ (.slice A1 (xs.length + xs.length) c1)) := by
  have hl : (xs.map ItX.p ++ xs.map ItX.p).length = xs.length + xs.length := by simp
  have hcells : ∀ ys : List ItX, ixCells (xs ++ ys) = ixCells xs ++ ixCells ys := fun ys => by simp [ixCells]
  rw [← hl]
  refine DZ.of h hg rfl ⟨xs ++ xs, by simp, ?_, fun x hx => ?_⟩
  · rw [hl, hcells]; exact hown
  · have hx : x ∈ xs := by simpa using hx
    exact (h.own.kids x hx).kept hg (own_ne (h.own.kids x hx) h.own.row (by decide))
theorem DA.count {gA kc : Nat} {K : Option Addr} {p : It} {z : Int} (h : DA w0 g w q (some ⟨gA, 0, none⟩) c xs W) (h0 : 0 < xs.length) (hx : xs[0] = ⟨p, K, kc⟩) : DZ w0 g w q (some ⟨gA, 0, none⟩) c ((xs.set 0 ⟨⟨p.r, z⟩, K, kc⟩).map ItX.p) (W.setCell ⟨gA, 1, none⟩ (.int .i64 z)) := by
  have h1 := h.lt
  have h2 := h.qlt
  obtain ⟨_, _, _, _, _, _, _, _, _, hq⟩ := h.cur
  have nb : q ≠ gA := fun e => row_ne h.own.row h.box (by decide) (by rw [e]; rfl)
  have nr : w.heap.size ≠ gA := fun e => row_ne h.own.row h.res (by decide) (by rw [e]; rfl)
  have ng : g ≠ gA := fun e => row_ne h.own.row hq (by decide) (by rw [e]; rfl)
  have hga := (h.own.row.lt gA rfl).1
  have hge : w0.heap.size ≤ w.heap.size := by have := h.cur.ge; omega
  have ho := (h.own.count (t := z) h0 hx).q
  refine ⟨h.lt, h.qlt, blk_set_ne (by simpa using h.box) nb, blk_set_ne h.res nr, by simpa using ho, h.cur.grown (grown_set _ _ _ _) (fun e => by injection e with e; omega), h.bel.setCell (by show w0.heap.size ≤ gA; omega) _, ⟨h.grow.os, h.grow.tape, h.grow.output, by have := h.grow.size; simpa using this, fun i hi hne => (Below.heap_setCell _ _ _ _ (by show i ≠ gA; omega)).trans (h.grow.block i hi hne)⟩⟩
end
/-- What the drawing of a bag of any kind leaves. -/
def DrawnAny (w0 : World) (g : Nat) (w : World) (e : Ending) (w' : World) : Prop :=
  ∃ A c L, e = .returned (.agg #[.slice A L.length c]) ∧ L.length ≤ 14 ∧ (∀ p ∈ L, p.r.length ≤ 3) ∧ OwnQ w' w.heap.size A c L ∧ CurAt w0 g w' ∧ w.grownBy w' (some g)
theorem DZ.made {w0 w W : World} {g q c : Nat} {A : Option Addr} {L : List It} (h : DZ w0 g w q A c L W) (h1 : L.length ≤ 14) (h2 : ∀ p ∈ L, p.r.length ≤ 3) : DrawnAny w0 g w (.returned (.agg #[.slice A L.length c])) (W.setCell ⟨w.heap.size, 0, none⟩ (.slice A L.length c)) := by
  have hl := h.lt
  exact ⟨A, c, L, rfl, h1, h2, h.own.kept (grown_set _ _ _ _) h.res (by decide) (by decide), h.cur.grown (grown_set _ _ _ _) (fun e => by injection e with e; omega), ⟨h.grow.os, h.grow.tape, h.grow.output, by have := h.grow.size; simpa using this, fun i hi hne => (Below.heap_setCell _ _ _ _ (by show i ≠ w.heap.size; omega)).trans (h.grow.block i hi hne)⟩⟩

set_option maxRecDepth 100000 in
set_option maxHeartbeats 6400000 in
theorem l03Any_any (wide : Nat) (w0 : World) (g : Nat) (w : World) (hw : wide ≤ 3) (hcur : CurAt w0 g w) (hB : Below w0.heap.size w0 w) :
    Calls Try.prog 72 #[.pointer (some ⟨g, 0, none⟩), .int .i64 wide] w (DrawnAny w0 g w) := by
  obtain ⟨i0, hi, hz0, hz1, hz2⟩ := info_parts Try.infoItem
  have hgl := hcur.lt
  have C10 := Lib.hid (fun w h1 h2 => l01Below_any w0 g w 10 (by omega) h1 h2)
  have ka := below_alloc w (.cells #[.slice none 0 0] 29)
  have R0 := heap_alloc_new w (.cells #[.slice none 0 0] 29)
  have hc1 := hcur.below ka
  have hb1 := below_step hB ka
  have hg1 : w.grownBy (w.alloc (.cells #[.slice none 0 0] 29)) (some g) := only_below2 ka
  have hs1 : w.heap.size < (w.alloc (.cells #[.slice none 0 0] 29)).heap.size := by simp
  obtain ⟨W1, hW1⟩ : ∃ W, w.alloc (.cells #[.slice none 0 0] 29) = W := ⟨_, rfl⟩
  rw [hW1] at R0 hc1 hb1 hg1 hs1
  clear ka hcur
  go_enter Try.func72, Try.ntmps72
  go_wp2_with fail
  clear hW1
  refine (l03Draw_any wide w0 g W1 hw hc1 hb1).mono ?_
  rintro e w2 ⟨A1, c1, ps, rfl, hd, o1, hc2, hg2, hb2⟩
  replace R0 := (hg2.block _ (blk_lt R0) (fun e => by injection e with e; omega)).trans R0
  have hg2' := only_trans hg1 hg2
  have hs2 := hg2.size
  have hpl := hd.2.1
  have HD := Lib.hid (fun p hp => by have := (hd.2.2 p hp).1; omega : ∀ p ∈ ps, p.r.length ≤ 3)
  have rd := o1.rd
  clear o1 hc1 hb1 hg1 hg2 hd
  go_wp2_with fail
  refine (l03Copy_any A1 c1 ps w2 rd (by omega) (fun p hp => by have := HD.out p hp; omega)).mono ?_
  rintro e w3 ⟨A2, c2, rfl, o3, k3⟩
  have kb := below_alloc w3 (.cells #[.slice A2 ps.length c2] 29)
  have kk := below_step k3 kb
  have hs3 := k3.size
  obtain ⟨xs, hxs, hin⟩ := o3
  have hxl : xs.length = ps.length := by rw [← hxs]; simp
  have HDA : Hid (DA w0 g w w3.heap.size A2 c2 xs (w3.alloc (.cells #[.slice A2 ps.length c2] 29))) := Lib.hid ⟨hgl, by omega, by rw [hxl]; exact heap_alloc_new _ _, blk_below kk R0, (hin.mono (by omega)).keep kb, hc2.below kk, below_step hb2 kk, only_below hg2' kk⟩
  have HXS : Hid (xs.map ItX.p = ps) := Lib.hid hxs
  have hxl7 : xs.length ≤ 7 := by omega
  have HXL := Lib.hid hxl
  have hbx : (.cells #[.slice A2 ps.length c2] 29 : Obj) = .cells #[.slice A2 xs.length c2] 29 := by rw [hxl]
  rw [hbx] at HDA
  obtain ⟨W4, hW4⟩ : ∃ W, w3.alloc (.cells #[.slice A2 xs.length c2] 29) = W := ⟨_, rfl⟩
  have hW4' : w3.alloc (.cells #[.slice A2 ps.length c2] 29) = W4 := by rw [← hW4, hbx]
  obtain ⟨q, hq⟩ : ∃ q, w3.heap.size = q := ⟨_, rfl⟩
  rw [hW4, hq] at HDA
  clear hxs hin hxl k3 kb kk R0 hc2 hb2 hg2' rd hs1 hs2 hs3 hW4 hbx
  go_wp2_with fail
  clear hW4' hq
  refine (C10.out _ HDA.out.cur HDA.out.bel).mono ?_
  rintro e w5 ⟨z, rfl, ⟨hz0', hz1'⟩, hc5, hg5⟩
  replace HDA := Lib.hid (HDA.out.draw hg5 hc5)
  clear hc5 hg5 hz1' C10
  by_cases z0 : z = 0
  · subst z0
    have HDD : Hid (DA w0 g w q A2 c2 xs w5.drew) := Lib.hid (HDA.out.keep (Below.refl _ _).drew)
    have b0 := blk_cell (o := 0) HDA.out.box rfl
    have b0' : w5.drew.cell? ⟨q, 0, none⟩ = some (.slice A2 xs.length c2) := b0
    have hq5 := blk_lt HDA.out.box
    have hq5' : q < w5.drew.heap.size := hq5
    have hcl5 := HDA.out.cur.lt
    go_upto_region 4 with fail
    refine wp_region_held_drew (S := fun _ => True) (by kernel_rfl) (trivial) (fun hHeld => ?_)
    refine wpAnyH_take (i := 0) (v := ?_) rfl (by kernel_rfl) (by kernel_rfl) (by kernel_rfl) (fun _ _ _ h => h) (Or.inl ⟨by rfl, ?_⟩) hHeld ?_
    rotate_left
    · intro w hSw
      (try dsimp only at hSw)
      go_simp
      try with_reducible rfl
    try simp only [List.getElem_toArray, List.getElem_cons_zero, Act.put, List.setIfInBounds_toArray, List.set_cons_zero, List.set_cons_succ]
    refine wpAnyH_take (i := 2) (v := ?_) rfl (by kernel_rfl) (by kernel_rfl) (by kernel_rfl) (fun _ _ _ h => h) (Or.inl ⟨by rfl, ?_⟩) hHeld ?_
    rotate_left
    · intro w hSw
      (try dsimp only at hSw)
      go_simp
      try with_reducible rfl
    try simp only [List.getElem_toArray, List.getElem_cons_zero, List.getElem_cons_succ, Act.put, List.setIfInBounds_toArray, List.set_cons_zero, List.set_cons_succ]
    refine wpAnyH_ready (rs := [1, 3]) (by kernel_rfl) (by simp) ?_
    refine AllReadyH.cons rfl (fun K hK => ?_) ?_
    · skip
      go_simp
      refine hK.out _ _ (trivial) (fun hHeld => ?_)
      clear hK K
      try simp only [List.getElem_toArray, List.getElem_cons_zero, List.getElem_cons_succ, Act.put, List.setIfInBounds_toArray, List.set_cons_zero, List.set_cons_succ]
      refine wpAnyH_ready (rs := [3]) (by kernel_rfl) (by simp) ?_
      refine AllReadyH.cons rfl (fun K hK => ?_) ?_
      · skip
        have HK3 := Lib.hid (below_alloc w5.drew (.cells #[.int .i64 (-1), .int .i64 3, .int .i64 99, .int .i64 100] 3))
        have HN1 := Lib.hid (HDD.out.keep HK3.out)
        have HR3 : Hid (RdI (w5.drew.alloc (.cells #[.int .i64 (-1), .int .i64 3, .int .i64 99, .int .i64 100] 3)) (some ⟨w5.heap.size, 0, none⟩) 4 [-1, 3, 99, 100]) := Lib.hid (Rd.new w5.drew #[.int .i64 (-1), .int .i64 3, .int .i64 99, .int .i64 100] 3 rfl rfl)
        go_simp
        refine hK.out _ _ (trivial) (fun hHeld => ?_)
        clear hK K
        try simp only [List.getElem_toArray, List.getElem_cons_zero, List.getElem_cons_succ, Act.put, List.setIfInBounds_toArray, List.set_cons_zero, List.set_cons_succ]
        refine wpAnyH_ready (rs := [4]) (by kernel_rfl) (by simp) ?_
        refine AllReadyH.cons rfl (fun K hK => ?_) ?_
        · skip
          go_simp
          go_at_call 85
          refine (l01PickInt_any w0 g _ _ 4 4 _ HR3.out (by omega) HN1.out.cur HN1.out.bel (fun ad h => by injection h with h; subst h; show w5.heap.size ≠ g; omega)).mono ?_
          rintro e w6 ⟨y, rfl, hc6, hg6⟩
          have HN2 := Lib.hid (HN1.out.draw hg6 hc6)
          clear hc6 hg6
          go_simp
          refine hK.out _ _ (trivial) (fun hHeld => ?_)
          clear hK K
          try simp only [List.getElem_toArray, List.getElem_cons_zero, List.getElem_cons_succ, Act.put, List.setIfInBounds_toArray, List.set_cons_zero, List.set_cons_succ]
          refine wpAnyH_ready (rs := [5]) (by kernel_rfl) (by simp) ?_
          refine AllReadyH.cons rfl (fun K hK => ?_) ?_
          · skip
            have HK5 := Lib.hid (below_alloc w6 (.cells #[.int .i64 y] 3))
            have HN3 := Lib.hid (HN2.out.keep HK5.out)
            have HO5 : Hid ((w6.alloc (.cells #[.int .i64 y] 3)).ownsRow w.heap.size 3 1 (.slice (some ⟨w6.heap.size, 0, none⟩) 1 1) 1 [.int .i64 y]) := Lib.hid (World.ownsRow_lit w6 #[.int .i64 y] 1 (by have := HN2.out.grow.size; omega) (by unfold maxLen; omega) rfl)
            go_simp
            refine hK.out _ _ (trivial) (fun hHeld => ?_)
            clear hK K
            try simp only [List.getElem_toArray, List.getElem_cons_zero, List.getElem_cons_succ, Act.put, List.setIfInBounds_toArray, List.set_cons_zero, List.set_cons_succ]
            refine wpAnyH_take (i := 6) (v := ?_) rfl (by kernel_rfl) (by kernel_rfl) (by kernel_rfl) (fun _ _ _ h => h) (Or.inl ⟨by rfl, ?_⟩) hHeld ?_
            rotate_left
            · intro w hSw
              (try dsimp only at hSw)
              go_simp
              try with_reducible rfl
            try simp only [List.getElem_toArray, List.getElem_cons_zero, List.getElem_cons_succ, Act.put, List.setIfInBounds_toArray, List.set_cons_zero, List.set_cons_succ]
            refine wpAnyH_ready (rs := [7]) (by kernel_rfl) (by simp) ?_
            refine AllReadyH.cons rfl (fun K hK => ?_) ?_
            · skip
              have HN4 := Lib.hid (HN3.out.keep (below_alloc (w6.alloc (.cells #[.int .i64 y] 3)) (.cells #[.slice (some ⟨w6.heap.size, 0, none⟩) 1 1, .int .i64 1] 54)))
              have HRD : Hid (Rd ((w6.alloc (.cells #[.int .i64 y] 3)).alloc (.cells #[.slice (some ⟨w6.heap.size, 0, none⟩) 1 1, .int .i64 1] 54)) 2 (some ⟨w6.heap.size + 1, 0, none⟩) 1 [.slice (some ⟨w6.heap.size, 0, none⟩) 1 1, .int .i64 1]) := Lib.hid (by have h := rd_new2 (w6.alloc (.cells #[.int .i64 y] 3)) (.slice (some ⟨w6.heap.size, 0, none⟩) 1 1) (.int .i64 1) 54; rw [show (w6.alloc (.cells #[.int .i64 y] 3)).heap.size = w6.heap.size + 1 by simp] at h; exact h)
              go_simp
              refine hK.out _ _ (trivial) (fun hHeld => ?_)
              clear hK K
              try simp only [List.getElem_toArray, List.getElem_cons_zero, List.getElem_cons_succ, Act.put, List.setIfInBounds_toArray, List.set_cons_zero, List.set_cons_succ]
              refine wpAnyH_ready (rs := [8]) (by kernel_rfl) (by simp) ?_
              refine AllReadyH.cons rfl (fun K hK => ?_) ?_
              · skip
                refine step_append_any _ rfl (.tmp 15) (.tmp 21) 27 rfl w.heap.size 54 i0 _ 2 32 Try.underlying27 hi hz0 hz1 hz2 rfl (by decide) (.slice A2 xs.length c2) xs.length (ixCells xs) rfl HN4.out.own.row (some ⟨w6.heap.size + 1, 0, none⟩) 1 1 [.slice (some ⟨w6.heap.size, 0, none⟩) 1 1, .int .i64 1] rfl HRD.out (by intro u hu; simp at hu; rcases hu with rfl | rfl <;> rfl) (by unfold maxLen; omega) (by omega) (by have := HN3.out.grow.size; simp at this ⊢; omega) ?_
                intro v1 w8 hown8 hg8 _
                obtain ⟨A8, c8, rfl, _, _⟩ := own_slice hown8
                have HF := Lib.hid (HN3.out.push (p := ⟨[y], 1⟩) HO5.out hown8 hg8)
                have bx8 := (hg8.block q (by have := blk_lt HN3.out.box; simp at this ⊢; omega) (fun e => row_ne HN4.out.own.row HN4.out.box (by decide) e.symm)).trans HN4.out.box
                have b8 := blk_cell (o := 0) bx8 rfl
                have f8 : w8.frozen? ⟨q, 0, none⟩ = false := frozen_of_row w8 q 0 _ _ bx8
                have l8 := blk_lt bx8
                clear hown8 hg8 bx8
                refine hK.out _ _ (trivial) (fun hHeld => ?_)
                clear hK K
                try simp only [List.getElem_toArray, List.getElem_cons_zero, List.getElem_cons_succ, Act.put, List.setIfInBounds_toArray, List.set_cons_zero, List.set_cons_succ]
                refine wpAnyH_take (i := 9) (v := ?_) rfl (by kernel_rfl) (by kernel_rfl) (by kernel_rfl) (fun _ _ _ h => h) (Or.inl ⟨by rfl, ?_⟩) hHeld ?_
                rotate_left
                · intro w hSw
                  (try dsimp only at hSw)
                  go_simp
                  try with_reducible rfl
                try simp only [List.getElem_toArray, List.getElem_cons_zero, List.getElem_cons_succ, Act.put, List.setIfInBounds_toArray, List.set_cons_zero, List.set_cons_succ]
                refine wpAnyH_ready (rs := [10]) (by kernel_rfl) (by simp) ?_
                refine AllReadyH.cons rfl (fun K hK => ?_) ?_
                · skip
                  go_simp
                  refine hK.out _ _ (trivial) (fun hHeld => ?_)
                  clear hK K
                  try simp only [List.getElem_toArray, List.getElem_cons_zero, List.getElem_cons_succ, Act.put, List.setIfInBounds_toArray, List.set_cons_zero, List.set_cons_succ]
                  refine wpAnyH_done (by kernel_rfl) ?_ _
                  clear b0 b0'
                  have hZ := HF.out
                  have HM := Lib.hid (hZ.made (by simp; omega) (fun p hp => by rw [HXS.out] at hp; rcases List.mem_append.1 hp with h | h; exact HD.out p h; (simp only [List.mem_cons, List.not_mem_nil, or_false] at h; subst h; simp)))
                  have b0 := blk_cell (o := 0) hZ.box rfl
                  have d0 := blk_cell (o := 0) hZ.res rfl
                  have f0 : (w8.setCell ⟨q, 0, none⟩ (.slice A8 (xs.length + 1) c8)).frozen? ⟨w.heap.size, 0, none⟩ = false := frozen_of_row _ _ 0 _ _ hZ.res
                  have hl0 := blk_lt hZ.res
                  have hl1 := blk_lt hZ.box
                  rw [show (xs.map ItX.p ++ [(⟨[y], 1⟩ : It)]).length = xs.length + 1 by simp] at HM b0
                  clear hZ
                  go_wp2
                  refine bodyPost_ret (v := .agg #[.slice A8 (xs.length + 1) c8]) (by simp [results, Try.results72, go_sem, d0]) rfl HM.out
                exact AllReadyH.nil
              exact AllReadyH.nil
            exact AllReadyH.nil
          exact AllReadyH.nil
        exact AllReadyH.nil
      exact AllReadyH.nil
    refine AllReadyH.cons rfl (fun K hK => ?_) ?_
    · skip
      have HK3 := Lib.hid (below_alloc w5.drew (.cells #[.int .i64 (-1), .int .i64 3, .int .i64 99, .int .i64 100] 3))
      have HN1 := Lib.hid (HDD.out.keep HK3.out)
      have HR3 : Hid (RdI (w5.drew.alloc (.cells #[.int .i64 (-1), .int .i64 3, .int .i64 99, .int .i64 100] 3)) (some ⟨w5.heap.size, 0, none⟩) 4 [-1, 3, 99, 100]) := Lib.hid (Rd.new w5.drew #[.int .i64 (-1), .int .i64 3, .int .i64 99, .int .i64 100] 3 rfl rfl)
      go_simp
      refine hK.out _ _ (trivial) (fun hHeld => ?_)
      clear hK K
      try simp only [List.getElem_toArray, List.getElem_cons_zero, List.getElem_cons_succ, Act.put, List.setIfInBounds_toArray, List.set_cons_zero, List.set_cons_succ]
      refine wpAnyH_ready (rs := [1, 4]) (by kernel_rfl) (by simp) ?_
      refine AllReadyH.cons rfl (fun K hK => ?_) ?_
      · skip
        have b0l := blk_cell (o := 0) HN1.out.box rfl
        go_simp
        refine hK.out _ _ (trivial) (fun hHeld => ?_)
        clear hK K
        try simp only [List.getElem_toArray, List.getElem_cons_zero, List.getElem_cons_succ, Act.put, List.setIfInBounds_toArray, List.set_cons_zero, List.set_cons_succ]
        refine wpAnyH_ready (rs := [4]) (by kernel_rfl) (by simp) ?_
        refine AllReadyH.cons rfl (fun K hK => ?_) ?_
        · skip
          go_simp
          go_at_call 85
          refine (l01PickInt_any w0 g _ _ 4 4 _ HR3.out (by omega) HN1.out.cur HN1.out.bel (fun ad h => by injection h with h; subst h; show w5.heap.size ≠ g; omega)).mono ?_
          rintro e w6 ⟨y, rfl, hc6, hg6⟩
          have HN2 := Lib.hid (HN1.out.draw hg6 hc6)
          clear hc6 hg6
          go_simp
          refine hK.out _ _ (trivial) (fun hHeld => ?_)
          clear hK K
          try simp only [List.getElem_toArray, List.getElem_cons_zero, List.getElem_cons_succ, Act.put, List.setIfInBounds_toArray, List.set_cons_zero, List.set_cons_succ]
          refine wpAnyH_ready (rs := [5]) (by kernel_rfl) (by simp) ?_
          refine AllReadyH.cons rfl (fun K hK => ?_) ?_
          · skip
            have HK5 := Lib.hid (below_alloc w6 (.cells #[.int .i64 y] 3))
            have HN3 := Lib.hid (HN2.out.keep HK5.out)
            have HO5 : Hid ((w6.alloc (.cells #[.int .i64 y] 3)).ownsRow w.heap.size 3 1 (.slice (some ⟨w6.heap.size, 0, none⟩) 1 1) 1 [.int .i64 y]) := Lib.hid (World.ownsRow_lit w6 #[.int .i64 y] 1 (by have := HN2.out.grow.size; omega) (by unfold maxLen; omega) rfl)
            go_simp
            refine hK.out _ _ (trivial) (fun hHeld => ?_)
            clear hK K
            try simp only [List.getElem_toArray, List.getElem_cons_zero, List.getElem_cons_succ, Act.put, List.setIfInBounds_toArray, List.set_cons_zero, List.set_cons_succ]
            refine wpAnyH_take (i := 6) (v := ?_) rfl (by kernel_rfl) (by kernel_rfl) (by kernel_rfl) (fun _ _ _ h => h) (Or.inl ⟨by rfl, ?_⟩) hHeld ?_
            rotate_left
            · intro w hSw
              (try dsimp only at hSw)
              go_simp
              try with_reducible rfl
            try simp only [List.getElem_toArray, List.getElem_cons_zero, List.getElem_cons_succ, Act.put, List.setIfInBounds_toArray, List.set_cons_zero, List.set_cons_succ]
            refine wpAnyH_ready (rs := [7]) (by kernel_rfl) (by simp) ?_
            refine AllReadyH.cons rfl (fun K hK => ?_) ?_
            · skip
              have HN4 := Lib.hid (HN3.out.keep (below_alloc (w6.alloc (.cells #[.int .i64 y] 3)) (.cells #[.slice (some ⟨w6.heap.size, 0, none⟩) 1 1, .int .i64 1] 54)))
              have HRD : Hid (Rd ((w6.alloc (.cells #[.int .i64 y] 3)).alloc (.cells #[.slice (some ⟨w6.heap.size, 0, none⟩) 1 1, .int .i64 1] 54)) 2 (some ⟨w6.heap.size + 1, 0, none⟩) 1 [.slice (some ⟨w6.heap.size, 0, none⟩) 1 1, .int .i64 1]) := Lib.hid (by have h := rd_new2 (w6.alloc (.cells #[.int .i64 y] 3)) (.slice (some ⟨w6.heap.size, 0, none⟩) 1 1) (.int .i64 1) 54; rw [show (w6.alloc (.cells #[.int .i64 y] 3)).heap.size = w6.heap.size + 1 by simp] at h; exact h)
              go_simp
              refine hK.out _ _ (trivial) (fun hHeld => ?_)
              clear hK K
              try simp only [List.getElem_toArray, List.getElem_cons_zero, List.getElem_cons_succ, Act.put, List.setIfInBounds_toArray, List.set_cons_zero, List.set_cons_succ]
              refine wpAnyH_ready (rs := [8]) (by kernel_rfl) (by simp) ?_
              refine AllReadyH.cons rfl (fun K hK => ?_) ?_
              · skip
                refine step_append_any _ rfl (.tmp 15) (.tmp 21) 27 rfl w.heap.size 54 i0 _ 2 32 Try.underlying27 hi hz0 hz1 hz2 rfl (by decide) (.slice A2 xs.length c2) xs.length (ixCells xs) rfl HN4.out.own.row (some ⟨w6.heap.size + 1, 0, none⟩) 1 1 [.slice (some ⟨w6.heap.size, 0, none⟩) 1 1, .int .i64 1] rfl HRD.out (by intro u hu; simp at hu; rcases hu with rfl | rfl <;> rfl) (by unfold maxLen; omega) (by omega) (by have := HN3.out.grow.size; simp at this ⊢; omega) ?_
                intro v1 w8 hown8 hg8 _
                obtain ⟨A8, c8, rfl, _, _⟩ := own_slice hown8
                have HF := Lib.hid (HN3.out.push (p := ⟨[y], 1⟩) HO5.out hown8 hg8)
                have bx8 := (hg8.block q (by have := blk_lt HN3.out.box; simp at this ⊢; omega) (fun e => row_ne HN4.out.own.row HN4.out.box (by decide) e.symm)).trans HN4.out.box
                have b8 := blk_cell (o := 0) bx8 rfl
                have f8 : w8.frozen? ⟨q, 0, none⟩ = false := frozen_of_row w8 q 0 _ _ bx8
                have l8 := blk_lt bx8
                clear hown8 hg8 bx8
                refine hK.out _ _ (trivial) (fun hHeld => ?_)
                clear hK K
                try simp only [List.getElem_toArray, List.getElem_cons_zero, List.getElem_cons_succ, Act.put, List.setIfInBounds_toArray, List.set_cons_zero, List.set_cons_succ]
                refine wpAnyH_take (i := 9) (v := ?_) rfl (by kernel_rfl) (by kernel_rfl) (by kernel_rfl) (fun _ _ _ h => h) (Or.inl ⟨by rfl, ?_⟩) hHeld ?_
                rotate_left
                · intro w hSw
                  (try dsimp only at hSw)
                  go_simp
                  try with_reducible rfl
                try simp only [List.getElem_toArray, List.getElem_cons_zero, List.getElem_cons_succ, Act.put, List.setIfInBounds_toArray, List.set_cons_zero, List.set_cons_succ]
                refine wpAnyH_ready (rs := [10]) (by kernel_rfl) (by simp) ?_
                refine AllReadyH.cons rfl (fun K hK => ?_) ?_
                · skip
                  go_simp
                  refine hK.out _ _ (trivial) (fun hHeld => ?_)
                  clear hK K
                  try simp only [List.getElem_toArray, List.getElem_cons_zero, List.getElem_cons_succ, Act.put, List.setIfInBounds_toArray, List.set_cons_zero, List.set_cons_succ]
                  refine wpAnyH_done (by kernel_rfl) ?_ _
                  clear b0 b0'
                  have hZ := HF.out
                  have HM := Lib.hid (hZ.made (by simp; omega) (fun p hp => by rw [HXS.out] at hp; rcases List.mem_append.1 hp with h | h; exact HD.out p h; (simp only [List.mem_cons, List.not_mem_nil, or_false] at h; subst h; simp)))
                  have b0 := blk_cell (o := 0) hZ.box rfl
                  have d0 := blk_cell (o := 0) hZ.res rfl
                  have f0 : (w8.setCell ⟨q, 0, none⟩ (.slice A8 (xs.length + 1) c8)).frozen? ⟨w.heap.size, 0, none⟩ = false := frozen_of_row _ _ 0 _ _ hZ.res
                  have hl0 := blk_lt hZ.res
                  have hl1 := blk_lt hZ.box
                  rw [show (xs.map ItX.p ++ [(⟨[y], 1⟩ : It)]).length = xs.length + 1 by simp] at HM b0
                  clear hZ
                  go_wp2
                  refine bodyPost_ret (v := .agg #[.slice A8 (xs.length + 1) c8]) (by simp [results, Try.results72, go_sem, d0]) rfl HM.out
                exact AllReadyH.nil
              exact AllReadyH.nil
            exact AllReadyH.nil
          exact AllReadyH.nil
        exact AllReadyH.nil
      refine AllReadyH.cons rfl (fun K hK => ?_) ?_
      · skip
        go_simp
        go_at_call 85
        refine (l01PickInt_any w0 g _ _ 4 4 _ HR3.out (by omega) HN1.out.cur HN1.out.bel (fun ad h => by injection h with h; subst h; show w5.heap.size ≠ g; omega)).mono ?_
        rintro e w6 ⟨y, rfl, hc6, hg6⟩
        have HN2 := Lib.hid (HN1.out.draw hg6 hc6)
        clear hc6 hg6
        go_simp
        refine hK.out _ _ (trivial) (fun hHeld => ?_)
        clear hK K
        try simp only [List.getElem_toArray, List.getElem_cons_zero, List.getElem_cons_succ, Act.put, List.setIfInBounds_toArray, List.set_cons_zero, List.set_cons_succ]
        refine wpAnyH_ready (rs := [1, 5]) (by kernel_rfl) (by simp) ?_
        refine AllReadyH.cons rfl (fun K hK => ?_) ?_
        · skip
          have b0l := blk_cell (o := 0) HN2.out.box rfl
          go_simp
          refine hK.out _ _ (trivial) (fun hHeld => ?_)
          clear hK K
          try simp only [List.getElem_toArray, List.getElem_cons_zero, List.getElem_cons_succ, Act.put, List.setIfInBounds_toArray, List.set_cons_zero, List.set_cons_succ]
          refine wpAnyH_ready (rs := [5]) (by kernel_rfl) (by simp) ?_
          refine AllReadyH.cons rfl (fun K hK => ?_) ?_
          · skip
            have HK5 := Lib.hid (below_alloc w6 (.cells #[.int .i64 y] 3))
            have HN3 := Lib.hid (HN2.out.keep HK5.out)
            have HO5 : Hid ((w6.alloc (.cells #[.int .i64 y] 3)).ownsRow w.heap.size 3 1 (.slice (some ⟨w6.heap.size, 0, none⟩) 1 1) 1 [.int .i64 y]) := Lib.hid (World.ownsRow_lit w6 #[.int .i64 y] 1 (by have := HN2.out.grow.size; omega) (by unfold maxLen; omega) rfl)
            go_simp
            refine hK.out _ _ (trivial) (fun hHeld => ?_)
            clear hK K
            try simp only [List.getElem_toArray, List.getElem_cons_zero, List.getElem_cons_succ, Act.put, List.setIfInBounds_toArray, List.set_cons_zero, List.set_cons_succ]
            refine wpAnyH_take (i := 6) (v := ?_) rfl (by kernel_rfl) (by kernel_rfl) (by kernel_rfl) (fun _ _ _ h => h) (Or.inl ⟨by rfl, ?_⟩) hHeld ?_
            rotate_left
            · intro w hSw
              (try dsimp only at hSw)
              go_simp
              try with_reducible rfl
            try simp only [List.getElem_toArray, List.getElem_cons_zero, List.getElem_cons_succ, Act.put, List.setIfInBounds_toArray, List.set_cons_zero, List.set_cons_succ]
            refine wpAnyH_ready (rs := [7]) (by kernel_rfl) (by simp) ?_
            refine AllReadyH.cons rfl (fun K hK => ?_) ?_
            · skip
              have HN4 := Lib.hid (HN3.out.keep (below_alloc (w6.alloc (.cells #[.int .i64 y] 3)) (.cells #[.slice (some ⟨w6.heap.size, 0, none⟩) 1 1, .int .i64 1] 54)))
              have HRD : Hid (Rd ((w6.alloc (.cells #[.int .i64 y] 3)).alloc (.cells #[.slice (some ⟨w6.heap.size, 0, none⟩) 1 1, .int .i64 1] 54)) 2 (some ⟨w6.heap.size + 1, 0, none⟩) 1 [.slice (some ⟨w6.heap.size, 0, none⟩) 1 1, .int .i64 1]) := Lib.hid (by have h := rd_new2 (w6.alloc (.cells #[.int .i64 y] 3)) (.slice (some ⟨w6.heap.size, 0, none⟩) 1 1) (.int .i64 1) 54; rw [show (w6.alloc (.cells #[.int .i64 y] 3)).heap.size = w6.heap.size + 1 by simp] at h; exact h)
              go_simp
              refine hK.out _ _ (trivial) (fun hHeld => ?_)
              clear hK K
              try simp only [List.getElem_toArray, List.getElem_cons_zero, List.getElem_cons_succ, Act.put, List.setIfInBounds_toArray, List.set_cons_zero, List.set_cons_succ]
              refine wpAnyH_ready (rs := [8]) (by kernel_rfl) (by simp) ?_
              refine AllReadyH.cons rfl (fun K hK => ?_) ?_
              · skip
                refine step_append_any _ rfl (.tmp 15) (.tmp 21) 27 rfl w.heap.size 54 i0 _ 2 32 Try.underlying27 hi hz0 hz1 hz2 rfl (by decide) (.slice A2 xs.length c2) xs.length (ixCells xs) rfl HN4.out.own.row (some ⟨w6.heap.size + 1, 0, none⟩) 1 1 [.slice (some ⟨w6.heap.size, 0, none⟩) 1 1, .int .i64 1] rfl HRD.out (by intro u hu; simp at hu; rcases hu with rfl | rfl <;> rfl) (by unfold maxLen; omega) (by omega) (by have := HN3.out.grow.size; simp at this ⊢; omega) ?_
                intro v1 w8 hown8 hg8 _
                obtain ⟨A8, c8, rfl, _, _⟩ := own_slice hown8
                have HF := Lib.hid (HN3.out.push (p := ⟨[y], 1⟩) HO5.out hown8 hg8)
                have bx8 := (hg8.block q (by have := blk_lt HN3.out.box; simp at this ⊢; omega) (fun e => row_ne HN4.out.own.row HN4.out.box (by decide) e.symm)).trans HN4.out.box
                have b8 := blk_cell (o := 0) bx8 rfl
                have f8 : w8.frozen? ⟨q, 0, none⟩ = false := frozen_of_row w8 q 0 _ _ bx8
                have l8 := blk_lt bx8
                clear hown8 hg8 bx8
                refine hK.out _ _ (trivial) (fun hHeld => ?_)
                clear hK K
                try simp only [List.getElem_toArray, List.getElem_cons_zero, List.getElem_cons_succ, Act.put, List.setIfInBounds_toArray, List.set_cons_zero, List.set_cons_succ]
                refine wpAnyH_take (i := 9) (v := ?_) rfl (by kernel_rfl) (by kernel_rfl) (by kernel_rfl) (fun _ _ _ h => h) (Or.inl ⟨by rfl, ?_⟩) hHeld ?_
                rotate_left
                · intro w hSw
                  (try dsimp only at hSw)
                  go_simp
                  try with_reducible rfl
                try simp only [List.getElem_toArray, List.getElem_cons_zero, List.getElem_cons_succ, Act.put, List.setIfInBounds_toArray, List.set_cons_zero, List.set_cons_succ]
                refine wpAnyH_ready (rs := [10]) (by kernel_rfl) (by simp) ?_
                refine AllReadyH.cons rfl (fun K hK => ?_) ?_
                · skip
                  go_simp
                  refine hK.out _ _ (trivial) (fun hHeld => ?_)
                  clear hK K
                  try simp only [List.getElem_toArray, List.getElem_cons_zero, List.getElem_cons_succ, Act.put, List.setIfInBounds_toArray, List.set_cons_zero, List.set_cons_succ]
                  refine wpAnyH_done (by kernel_rfl) ?_ _
                  clear b0 b0'
                  have hZ := HF.out
                  have HM := Lib.hid (hZ.made (by simp; omega) (fun p hp => by rw [HXS.out] at hp; rcases List.mem_append.1 hp with h | h; exact HD.out p h; (simp only [List.mem_cons, List.not_mem_nil, or_false] at h; subst h; simp)))
                  have b0 := blk_cell (o := 0) hZ.box rfl
                  have d0 := blk_cell (o := 0) hZ.res rfl
                  have f0 : (w8.setCell ⟨q, 0, none⟩ (.slice A8 (xs.length + 1) c8)).frozen? ⟨w.heap.size, 0, none⟩ = false := frozen_of_row _ _ 0 _ _ hZ.res
                  have hl0 := blk_lt hZ.res
                  have hl1 := blk_lt hZ.box
                  rw [show (xs.map ItX.p ++ [(⟨[y], 1⟩ : It)]).length = xs.length + 1 by simp] at HM b0
                  clear hZ
                  go_wp2
                  refine bodyPost_ret (v := .agg #[.slice A8 (xs.length + 1) c8]) (by simp [results, Try.results72, go_sem, d0]) rfl HM.out
                exact AllReadyH.nil
              exact AllReadyH.nil
            exact AllReadyH.nil
          exact AllReadyH.nil
        refine AllReadyH.cons rfl (fun K hK => ?_) ?_
        · skip
          have HK5 := Lib.hid (below_alloc w6 (.cells #[.int .i64 y] 3))
          have HN3 := Lib.hid (HN2.out.keep HK5.out)
          have HO5 : Hid ((w6.alloc (.cells #[.int .i64 y] 3)).ownsRow w.heap.size 3 1 (.slice (some ⟨w6.heap.size, 0, none⟩) 1 1) 1 [.int .i64 y]) := Lib.hid (World.ownsRow_lit w6 #[.int .i64 y] 1 (by have := HN2.out.grow.size; omega) (by unfold maxLen; omega) rfl)
          go_simp
          refine hK.out _ _ (trivial) (fun hHeld => ?_)
          clear hK K
          try simp only [List.getElem_toArray, List.getElem_cons_zero, List.getElem_cons_succ, Act.put, List.setIfInBounds_toArray, List.set_cons_zero, List.set_cons_succ]
          refine wpAnyH_take (i := 6) (v := ?_) rfl (by kernel_rfl) (by kernel_rfl) (by kernel_rfl) (fun _ _ _ h => h) (Or.inl ⟨by rfl, ?_⟩) hHeld ?_
          rotate_left
          · intro w hSw
            (try dsimp only at hSw)
            go_simp
            try with_reducible rfl
          try simp only [List.getElem_toArray, List.getElem_cons_zero, List.getElem_cons_succ, Act.put, List.setIfInBounds_toArray, List.set_cons_zero, List.set_cons_succ]
          refine wpAnyH_ready (rs := [1, 7]) (by kernel_rfl) (by simp) ?_
          refine AllReadyH.cons rfl (fun K hK => ?_) ?_
          · skip
            have b0l := blk_cell (o := 0) HN3.out.box rfl
            go_simp
            refine hK.out _ _ (trivial) (fun hHeld => ?_)
            clear hK K
            try simp only [List.getElem_toArray, List.getElem_cons_zero, List.getElem_cons_succ, Act.put, List.setIfInBounds_toArray, List.set_cons_zero, List.set_cons_succ]
            refine wpAnyH_ready (rs := [7]) (by kernel_rfl) (by simp) ?_
            refine AllReadyH.cons rfl (fun K hK => ?_) ?_
            · skip
              have HN4 := Lib.hid (HN3.out.keep (below_alloc (w6.alloc (.cells #[.int .i64 y] 3)) (.cells #[.slice (some ⟨w6.heap.size, 0, none⟩) 1 1, .int .i64 1] 54)))
              have HRD : Hid (Rd ((w6.alloc (.cells #[.int .i64 y] 3)).alloc (.cells #[.slice (some ⟨w6.heap.size, 0, none⟩) 1 1, .int .i64 1] 54)) 2 (some ⟨w6.heap.size + 1, 0, none⟩) 1 [.slice (some ⟨w6.heap.size, 0, none⟩) 1 1, .int .i64 1]) := Lib.hid (by have h := rd_new2 (w6.alloc (.cells #[.int .i64 y] 3)) (.slice (some ⟨w6.heap.size, 0, none⟩) 1 1) (.int .i64 1) 54; rw [show (w6.alloc (.cells #[.int .i64 y] 3)).heap.size = w6.heap.size + 1 by simp] at h; exact h)
              go_simp
              refine hK.out _ _ (trivial) (fun hHeld => ?_)
              clear hK K
              try simp only [List.getElem_toArray, List.getElem_cons_zero, List.getElem_cons_succ, Act.put, List.setIfInBounds_toArray, List.set_cons_zero, List.set_cons_succ]
              refine wpAnyH_ready (rs := [8]) (by kernel_rfl) (by simp) ?_
              refine AllReadyH.cons rfl (fun K hK => ?_) ?_
              · skip
                refine step_append_any _ rfl (.tmp 15) (.tmp 21) 27 rfl w.heap.size 54 i0 _ 2 32 Try.underlying27 hi hz0 hz1 hz2 rfl (by decide) (.slice A2 xs.length c2) xs.length (ixCells xs) rfl HN4.out.own.row (some ⟨w6.heap.size + 1, 0, none⟩) 1 1 [.slice (some ⟨w6.heap.size, 0, none⟩) 1 1, .int .i64 1] rfl HRD.out (by intro u hu; simp at hu; rcases hu with rfl | rfl <;> rfl) (by unfold maxLen; omega) (by omega) (by have := HN3.out.grow.size; simp at this ⊢; omega) ?_
                intro v1 w8 hown8 hg8 _
                obtain ⟨A8, c8, rfl, _, _⟩ := own_slice hown8
                have HF := Lib.hid (HN3.out.push (p := ⟨[y], 1⟩) HO5.out hown8 hg8)
                have bx8 := (hg8.block q (by have := blk_lt HN3.out.box; simp at this ⊢; omega) (fun e => row_ne HN4.out.own.row HN4.out.box (by decide) e.symm)).trans HN4.out.box
                have b8 := blk_cell (o := 0) bx8 rfl
                have f8 : w8.frozen? ⟨q, 0, none⟩ = false := frozen_of_row w8 q 0 _ _ bx8
                have l8 := blk_lt bx8
                clear hown8 hg8 bx8
                refine hK.out _ _ (trivial) (fun hHeld => ?_)
                clear hK K
                try simp only [List.getElem_toArray, List.getElem_cons_zero, List.getElem_cons_succ, Act.put, List.setIfInBounds_toArray, List.set_cons_zero, List.set_cons_succ]
                refine wpAnyH_take (i := 9) (v := ?_) rfl (by kernel_rfl) (by kernel_rfl) (by kernel_rfl) (fun _ _ _ h => h) (Or.inl ⟨by rfl, ?_⟩) hHeld ?_
                rotate_left
                · intro w hSw
                  (try dsimp only at hSw)
                  go_simp
                  try with_reducible rfl
                try simp only [List.getElem_toArray, List.getElem_cons_zero, List.getElem_cons_succ, Act.put, List.setIfInBounds_toArray, List.set_cons_zero, List.set_cons_succ]
                refine wpAnyH_ready (rs := [10]) (by kernel_rfl) (by simp) ?_
                refine AllReadyH.cons rfl (fun K hK => ?_) ?_
                · skip
                  go_simp
                  refine hK.out _ _ (trivial) (fun hHeld => ?_)
                  clear hK K
                  try simp only [List.getElem_toArray, List.getElem_cons_zero, List.getElem_cons_succ, Act.put, List.setIfInBounds_toArray, List.set_cons_zero, List.set_cons_succ]
                  refine wpAnyH_done (by kernel_rfl) ?_ _
                  clear b0 b0'
                  have hZ := HF.out
                  have HM := Lib.hid (hZ.made (by simp; omega) (fun p hp => by rw [HXS.out] at hp; rcases List.mem_append.1 hp with h | h; exact HD.out p h; (simp only [List.mem_cons, List.not_mem_nil, or_false] at h; subst h; simp)))
                  have b0 := blk_cell (o := 0) hZ.box rfl
                  have d0 := blk_cell (o := 0) hZ.res rfl
                  have f0 : (w8.setCell ⟨q, 0, none⟩ (.slice A8 (xs.length + 1) c8)).frozen? ⟨w.heap.size, 0, none⟩ = false := frozen_of_row _ _ 0 _ _ hZ.res
                  have hl0 := blk_lt hZ.res
                  have hl1 := blk_lt hZ.box
                  rw [show (xs.map ItX.p ++ [(⟨[y], 1⟩ : It)]).length = xs.length + 1 by simp] at HM b0
                  clear hZ
                  go_wp2
                  refine bodyPost_ret (v := .agg #[.slice A8 (xs.length + 1) c8]) (by simp [results, Try.results72, go_sem, d0]) rfl HM.out
                exact AllReadyH.nil
              exact AllReadyH.nil
            exact AllReadyH.nil
          refine AllReadyH.cons rfl (fun K hK => ?_) ?_
          · skip
            have HN4 := Lib.hid (HN3.out.keep (below_alloc (w6.alloc (.cells #[.int .i64 y] 3)) (.cells #[.slice (some ⟨w6.heap.size, 0, none⟩) 1 1, .int .i64 1] 54)))
            have HRD : Hid (Rd ((w6.alloc (.cells #[.int .i64 y] 3)).alloc (.cells #[.slice (some ⟨w6.heap.size, 0, none⟩) 1 1, .int .i64 1] 54)) 2 (some ⟨w6.heap.size + 1, 0, none⟩) 1 [.slice (some ⟨w6.heap.size, 0, none⟩) 1 1, .int .i64 1]) := Lib.hid (by have h := rd_new2 (w6.alloc (.cells #[.int .i64 y] 3)) (.slice (some ⟨w6.heap.size, 0, none⟩) 1 1) (.int .i64 1) 54; rw [show (w6.alloc (.cells #[.int .i64 y] 3)).heap.size = w6.heap.size + 1 by simp] at h; exact h)
            go_simp
            refine hK.out _ _ (trivial) (fun hHeld => ?_)
            clear hK K
            try simp only [List.getElem_toArray, List.getElem_cons_zero, List.getElem_cons_succ, Act.put, List.setIfInBounds_toArray, List.set_cons_zero, List.set_cons_succ]
            refine wpAnyH_ready (rs := [1]) (by kernel_rfl) (by simp) ?_
            refine AllReadyH.cons rfl (fun K hK => ?_) ?_
            · skip
              have b0l := blk_cell (o := 0) HN4.out.box rfl
              go_simp
              refine hK.out _ _ (trivial) (fun hHeld => ?_)
              clear hK K
              try simp only [List.getElem_toArray, List.getElem_cons_zero, List.getElem_cons_succ, Act.put, List.setIfInBounds_toArray, List.set_cons_zero, List.set_cons_succ]
              refine wpAnyH_ready (rs := [8]) (by kernel_rfl) (by simp) ?_
              refine AllReadyH.cons rfl (fun K hK => ?_) ?_
              · skip
                refine step_append_any _ rfl (.tmp 15) (.tmp 21) 27 rfl w.heap.size 54 i0 _ 2 32 Try.underlying27 hi hz0 hz1 hz2 rfl (by decide) (.slice A2 xs.length c2) xs.length (ixCells xs) rfl HN4.out.own.row (some ⟨w6.heap.size + 1, 0, none⟩) 1 1 [.slice (some ⟨w6.heap.size, 0, none⟩) 1 1, .int .i64 1] rfl HRD.out (by intro u hu; simp at hu; rcases hu with rfl | rfl <;> rfl) (by unfold maxLen; omega) (by omega) (by have := HN3.out.grow.size; simp at this ⊢; omega) ?_
                intro v1 w8 hown8 hg8 _
                obtain ⟨A8, c8, rfl, _, _⟩ := own_slice hown8
                have HF := Lib.hid (HN3.out.push (p := ⟨[y], 1⟩) HO5.out hown8 hg8)
                have bx8 := (hg8.block q (by have := blk_lt HN3.out.box; simp at this ⊢; omega) (fun e => row_ne HN4.out.own.row HN4.out.box (by decide) e.symm)).trans HN4.out.box
                have b8 := blk_cell (o := 0) bx8 rfl
                have f8 : w8.frozen? ⟨q, 0, none⟩ = false := frozen_of_row w8 q 0 _ _ bx8
                have l8 := blk_lt bx8
                clear hown8 hg8 bx8
                refine hK.out _ _ (trivial) (fun hHeld => ?_)
                clear hK K
                try simp only [List.getElem_toArray, List.getElem_cons_zero, List.getElem_cons_succ, Act.put, List.setIfInBounds_toArray, List.set_cons_zero, List.set_cons_succ]
                refine wpAnyH_take (i := 9) (v := ?_) rfl (by kernel_rfl) (by kernel_rfl) (by kernel_rfl) (fun _ _ _ h => h) (Or.inl ⟨by rfl, ?_⟩) hHeld ?_
                rotate_left
                · intro w hSw
                  (try dsimp only at hSw)
                  go_simp
                  try with_reducible rfl
                try simp only [List.getElem_toArray, List.getElem_cons_zero, List.getElem_cons_succ, Act.put, List.setIfInBounds_toArray, List.set_cons_zero, List.set_cons_succ]
                refine wpAnyH_ready (rs := [10]) (by kernel_rfl) (by simp) ?_
                refine AllReadyH.cons rfl (fun K hK => ?_) ?_
                · skip
                  go_simp
                  refine hK.out _ _ (trivial) (fun hHeld => ?_)
                  clear hK K
                  try simp only [List.getElem_toArray, List.getElem_cons_zero, List.getElem_cons_succ, Act.put, List.setIfInBounds_toArray, List.set_cons_zero, List.set_cons_succ]
                  refine wpAnyH_done (by kernel_rfl) ?_ _
                  clear b0 b0'
                  have hZ := HF.out
                  have HM := Lib.hid (hZ.made (by simp; omega) (fun p hp => by rw [HXS.out] at hp; rcases List.mem_append.1 hp with h | h; exact HD.out p h; (simp only [List.mem_cons, List.not_mem_nil, or_false] at h; subst h; simp)))
                  have b0 := blk_cell (o := 0) hZ.box rfl
                  have d0 := blk_cell (o := 0) hZ.res rfl
                  have f0 : (w8.setCell ⟨q, 0, none⟩ (.slice A8 (xs.length + 1) c8)).frozen? ⟨w.heap.size, 0, none⟩ = false := frozen_of_row _ _ 0 _ _ hZ.res
                  have hl0 := blk_lt hZ.res
                  have hl1 := blk_lt hZ.box
                  rw [show (xs.map ItX.p ++ [(⟨[y], 1⟩ : It)]).length = xs.length + 1 by simp] at HM b0
                  clear hZ
                  go_wp2
                  refine bodyPost_ret (v := .agg #[.slice A8 (xs.length + 1) c8]) (by simp [results, Try.results72, go_sem, d0]) rfl HM.out
                exact AllReadyH.nil
              exact AllReadyH.nil
            exact AllReadyH.nil
          exact AllReadyH.nil
        exact AllReadyH.nil
      exact AllReadyH.nil
    exact AllReadyH.nil
  by_cases z1 : z = 1
  · subst z1
    by_cases h0 : 0 < xs.length
    · have h0' : (0 : Int) < (xs.length : Int) := by omega
      obtain ⟨gA, cap, hv, _, _⟩ := HDA.out.own.row.form h0
      injection hv with e1 e2 e3
      subst e1 e3
      obtain ⟨x, hx⟩ : ∃ x, xs[0] = x := ⟨_, rfl⟩
      have HX0 := Lib.hid hx
      have hxm : x.p ∈ ps := by rw [← HXS.out, ← hx]; exact List.mem_map_of_mem (List.getElem_mem h0)
      have hxr := HD.out _ hxm
      obtain ⟨xp, K, kc⟩ := x
      simp only at hxr
      clear hx hxm
      have HDD : Hid (DA w0 g w q (some ⟨gA, 0, none⟩) c2 xs w5.drew) := Lib.hid (HDA.out.keep (Below.refl _ _).drew)
      have b0 := blk_cell (o := 0) HDA.out.box rfl
      have hq5 := blk_lt HDA.out.box
      have hcl5 := HDA.out.cur.lt
      have KY := Lib.hid (fun (w' : World) (h : w'.heap[q]? = some (.cells #[.slice (some ⟨gA, 0, none⟩) xs.length c2] 29 (0, 0))) => (blk_cell (o := 0) h rfl : w'.cell? ⟨q, 0, none⟩ = some (.slice (some ⟨gA, 0, none⟩) xs.length c2)))
      go_upto_region 7 with fail
      refine wp_region_held_drew (S := fun w' => w'.cell? ⟨q, 0, none⟩ = some (.slice (some ⟨gA, 0, none⟩) xs.length c2)) (by kernel_rfl) (KY.out _ HDD.out.box) (fun hHeld => ?_)
      refine wpAnyH_take (i := 0) (v := ?_) rfl (by kernel_rfl) (by kernel_rfl) (by kernel_rfl) (fun _ _ _ h => h) (Or.inl ⟨by rfl, ?_⟩) hHeld ?_
      rotate_left
      · intro w hSw
        (try dsimp only at hSw)
        go_simp
        try with_reducible rfl
      try simp only [List.getElem_toArray, List.getElem_cons_zero, Act.put, List.setIfInBounds_toArray, List.set_cons_zero, List.set_cons_succ]
      refine wpAnyH_take (i := 1) (v := ?_) rfl (by kernel_rfl) (by kernel_rfl) (by kernel_rfl) (fun _ _ _ h => h) (Or.inl ⟨by rfl, ?_⟩) hHeld ?_
      rotate_left
      · intro w hSw
        (try dsimp only at hSw)
        go_simp
        try with_reducible rfl
      try simp only [List.getElem_toArray, List.getElem_cons_zero, List.getElem_cons_succ, Act.put, List.setIfInBounds_toArray, List.set_cons_zero, List.set_cons_succ]
      refine wpAnyH_take (i := 2) (v := ?_) rfl (by kernel_rfl) (by kernel_rfl) (by kernel_rfl) (fun _ _ _ h => h) (Or.inl ⟨by rfl, ?_⟩) hHeld ?_
      rotate_left
      · intro w hSw
        (try dsimp only at hSw)
        go_simp
        try with_reducible rfl
      try simp only [List.getElem_toArray, List.getElem_cons_zero, List.getElem_cons_succ, Act.put, List.setIfInBounds_toArray, List.set_cons_zero, List.set_cons_succ]
      refine wpAnyH_ready (rs := [3]) (by kernel_rfl) (by simp) ?_
      refine AllReadyH.cons rfl (fun K hK => ?_) ?_
      · skip
        have HK3 := Lib.hid (below_alloc w5.drew (.cells #[.int .i64 0, .int .i64 1, .int .i64 1000000, .int .i64 1000001] 3))
        have HN1 := Lib.hid (HDD.out.keep HK3.out)
        have HR3 : Hid (RdI (w5.drew.alloc (.cells #[.int .i64 0, .int .i64 1, .int .i64 1000000, .int .i64 1000001] 3)) (some ⟨w5.heap.size, 0, none⟩) 4 [0, 1, 1000000, 1000001]) := Lib.hid (Rd.new w5.drew #[.int .i64 0, .int .i64 1, .int .i64 1000000, .int .i64 1000001] 3 rfl rfl)
        go_simp
        refine hK.out _ _ (KY.out _ HN1.out.box) (fun hHeld => ?_)
        clear hK K
        try simp only [List.getElem_toArray, List.getElem_cons_zero, List.getElem_cons_succ, Act.put, List.setIfInBounds_toArray, List.set_cons_zero, List.set_cons_succ]
        refine wpAnyH_ready (rs := [4]) (by kernel_rfl) (by simp) ?_
        refine AllReadyH.cons rfl (fun K hK => ?_) ?_
        · skip
          go_simp
          go_at_call 85
          refine (l01PickInt_any w0 g _ _ 4 4 _ HR3.out (by omega) HN1.out.cur HN1.out.bel (fun ad h => by injection h with h; subst h; show w5.heap.size ≠ g; omega)).mono ?_
          rintro e w6 ⟨y, rfl, hc6, hg6⟩
          have HN2 := Lib.hid (HN1.out.draw hg6 hc6)
          have c1' := HN2.out.own.row.cellAt 1 (by omega)
          rw [show (1 : Nat) = 0 * 2 + 1 by rfl, (ixCells_at xs 0 h0).2] at c1'
          have f1' := HN2.out.own.row.frozenAt 1
          have HF := Lib.hid (HN2.out.count (z := y) h0 HX0.out)
          clear hc6 hg6
          go_simp
          refine hK.out _ _ (KY.out _ HN2.out.box) (fun hHeld => ?_)
          clear hK K
          try simp only [List.getElem_toArray, List.getElem_cons_zero, List.getElem_cons_succ, Act.put, List.setIfInBounds_toArray, List.set_cons_zero, List.set_cons_succ]
          refine wpAnyH_take (i := 5) (v := ?_) rfl (by kernel_rfl) (by kernel_rfl) (by kernel_rfl) (fun _ _ _ h => h) (Or.inl ⟨by rfl, ?_⟩) hHeld ?_
          rotate_left
          · intro w hSw
            (try dsimp only at hSw)
            go_simp
            try with_reducible rfl
          try simp only [List.getElem_toArray, List.getElem_cons_zero, List.getElem_cons_succ, Act.put, List.setIfInBounds_toArray, List.set_cons_zero, List.set_cons_succ]
          refine wpAnyH_take (i := 6) (v := ?_) rfl (by kernel_rfl) (by kernel_rfl) (by kernel_rfl) (fun _ _ _ h => h) (Or.inl ⟨by rfl, ?_⟩) hHeld ?_
          rotate_left
          · intro w hSw
            (try dsimp only at hSw)
            go_simp
            try with_reducible rfl
          try simp only [List.getElem_toArray, List.getElem_cons_zero, List.getElem_cons_succ, Act.put, List.setIfInBounds_toArray, List.set_cons_zero, List.set_cons_succ]
          refine wpAnyH_ready (rs := [7]) (by kernel_rfl) (by simp) ?_
          refine AllReadyH.cons rfl (fun K hK => ?_) ?_
          · skip
            go_simp
            refine hK.out _ _ (KY.out _ (by simpa using HF.out.box)) (fun hHeld => ?_)
            clear hK K
            try simp only [List.getElem_toArray, List.getElem_cons_zero, List.getElem_cons_succ, Act.put, List.setIfInBounds_toArray, List.set_cons_zero, List.set_cons_succ]
            refine wpAnyH_done (by kernel_rfl) ?_ _
            clear b0
            have hZ := HF.out
            have HM := Lib.hid (hZ.made (by simp; omega) (fun p hp => by simp only [List.map_set, HXS.out] at hp; rcases List.mem_or_eq_of_mem_set hp with h | h; exact HD.out p h; (rw [h]; exact hxr)))
            have b0 := blk_cell (o := 0) hZ.box rfl
            have d0 := blk_cell (o := 0) hZ.res rfl
            have f0 : (w6.setCell ⟨gA, 1, none⟩ (.int .i64 y)).frozen? ⟨w.heap.size, 0, none⟩ = false := frozen_of_row _ _ 0 _ _ hZ.res
            have hl0 := blk_lt hZ.res
            have hl1 := blk_lt hZ.box
            rw [show ((xs.set 0 ⟨⟨xp.r, y⟩, K, kc⟩).map ItX.p).length = xs.length by simp] at HM b0
            clear hZ
            go_wp2
            refine bodyPost_ret (v := .agg #[.slice (some ⟨gA, 0, none⟩) xs.length c2]) (by simp [results, Try.results72, go_sem, d0]) rfl HM.out
          exact AllReadyH.nil
        exact AllReadyH.nil
      exact AllReadyH.nil
    · have h0' : ¬ ((0 : Int) < (xs.length : Int)) := by omega
      have hZ := HDA.out.done
      have HM := Lib.hid (hZ.made (by rw [HXS.out]; omega) (by rw [HXS.out]; exact HD.out))
      have b0 := blk_cell (o := 0) hZ.box rfl
      have d0 := blk_cell (o := 0) hZ.res rfl
      have f0 : w5.frozen? ⟨w.heap.size, 0, none⟩ = false := frozen_of_row _ _ 0 _ _ hZ.res
      have hl0 := blk_lt hZ.res
      have hl1 := blk_lt hZ.box
      rw [List.length_map] at HM b0
      clear hZ
      go_wp2
      refine bodyPost_ret (v := .agg #[.slice A2 xs.length c2]) (by simp [results, Try.results72, go_sem, d0]) rfl HM.out
  by_cases z2 : z = 2
  · subst z2
    have HN := HDA
    have b0 := blk_cell (o := 0) HDA.out.box rfl
    have hq5 := blk_lt HDA.out.box
    go_wp2_with (first
      | (at_builtin
         refine wpList_append_any _ rfl (.tmp 40) (.tmp 42) 27 rfl w.heap.size 54 i0 _ 2 32 Try.underlying27 hi hz0 hz1 hz2 rfl (by decide) (.slice A2 xs.length c2) xs.length (ixCells xs) rfl HN.out.own.row A2 xs.length c2 (ixCells xs) rfl (Rd.of_own HN.out.own.row) (oneCell_ix xs) (by unfold maxLen; omega) (by omega) (by have := HN.out.grow.size; omega) ?_
         intro v1 w8 hown8 hg8 _
         obtain ⟨A8, c8, rfl, _, _⟩ := own_slice hown8
         have HF := Lib.hid (HN.out.twice hown8 hg8)
         have bx8 := (hg8.block q (blk_lt HN.out.box) (fun e => row_ne HN.out.own.row HN.out.box (by decide) e.symm)).trans HN.out.box
         have b8 := blk_cell (o := 0) bx8 rfl
         have f8 : w8.frozen? ⟨q, 0, none⟩ = false := frozen_of_row w8 q 0 _ _ bx8
         have l8 := blk_lt bx8
         have hZ := HF.out
         have HM := Lib.hid (hZ.made (by simp; omega) (fun p hp => by rw [HXS.out] at hp; rcases List.mem_append.1 hp with h | h <;> exact HD.out p h))
         have d0 := blk_cell (o := 0) hZ.res rfl
         have d1 := blk_cell (o := 0) hZ.box rfl
         have f0 := frozen_of_row _ _ 0 _ _ hZ.res
         have l0 := blk_lt hZ.res
         rw [show (xs.map ItX.p ++ xs.map ItX.p).length = xs.length + xs.length by simp] at HM d1
         clear hown8 hg8 bx8 hZ))
    refine bodyPost_ret (v := .agg #[.slice A8 (xs.length + xs.length) c8]) (by simp [results, Try.results72, go_sem, d0]) rfl HM.out
  have hZ := HDA.out.done
  have HM := Lib.hid (hZ.made (by rw [HXS.out]; omega) (by rw [HXS.out]; exact HD.out))
  have b0 := blk_cell (o := 0) hZ.box rfl
  have d0 := blk_cell (o := 0) hZ.res rfl
  have f0 : w5.frozen? ⟨w.heap.size, 0, none⟩ = false := frozen_of_row _ _ 0 _ _ hZ.res
  have hl0 := blk_lt hZ.res
  have hl1 := blk_lt hZ.box
  rw [List.length_map] at HM b0
  clear hZ
  go_wp2
  refine bodyPost_ret (v := .agg #[.slice A2 xs.length c2]) (by simp [results, Try.results72, go_sem, d0]) rfl HM.out
end Go.Proofs.Ytdikkfhdogkniaa
