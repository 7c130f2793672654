/- spec.l03Put: a row put into a bag, item by item. Conditions: the sizes of the lengths. Printed by xsput.py. -/
import Derived.Test.YtdikkfhdogkniaaCopyB
import Derived.Test.YtdikkfhdogkniaaJoinP
import Derived.Test.YtdikkfhdogkniaaRow2
namespace Go.Proofs.Ytdikkfhdogkniaa
open Go.RowKit
set_option maxRecDepth 100000 in

set_option maxHeartbeats 800000 in
theorem l03Same_any (A B : Option Addr) (n m c d : Nat) (xs ys : List Int) (w : World) (hx : RdI w A n xs) (hy : RdI w B m ys) (hn : n ≤ 4294967296) :
    Calls Try.prog 70 #[.slice A n c, .slice B m d] w fun e w' => e = .returned (.bool (eqL xs ys)) ∧ Below w.heap.size w w' := by
  have l1 := hx.len
  have l2 := hy.len
  by_cases hnm : n = m
  · subst hnm
    have HX := Lib.hid hx
    have HY := Lib.hid hy
    have L1 := Lib.hid l1
    have L2 := Lib.hid l2
    clear hx hy l1 l2
    go_enter Try.func70, Try.ntmps70
    go_wp2
    go_loopw [5] (fun i wr => ∃ k : Nat, k ≤ n ∧ i = .int .i64 k ∧ Hid (xs.take k = ys.take k) ∧ Below w.heap.size w wr) (fun i _ => n - (intOf i).toNat)
    case atStart => exact ⟨0, Nat.zero_le _, rfl, by show _ = _; simp, Below.refl _ _⟩
    case round =>
      obtain ⟨k, hk, rfl, HE, hb⟩ := hrel
      by_cases hlt : k < n
      · obtain ⟨ad, rfl, hc⟩ := (RdI.below HX.out hb).at_ hlt
        obtain ⟨bd, rfl, hd⟩ := (RdI.below HY.out hb).at_ hlt
        obtain ⟨x, hxx⟩ : ∃ x, xs.getD k 0 = x := ⟨_, rfl⟩
        obtain ⟨y, hyy⟩ : ∃ y, ys.getD k 0 = y := ⟨_, rfl⟩
        rw [hxx] at hc
        rw [hyy] at hd
        have EX := Lib.hid hxx
        have EY := Lib.hid hyy
        clear hxx hyy
        have k0 : (0 : Int) ≤ (k : Int) := by omega
        have k1 : (k : Int) < (n : Int) := by omega
        by_cases hxy : x = y
        · have b1 : (x != y) = false := by rw [bne_eq_false_iff_eq]; exact hxy
          have HXY := Lib.hid hxy
          clear hxy
          go_wp2_with fail
          go_quiet (fail)
          go_wp2
          go_roundw
          case rel => exact ⟨k + 1, by omega, by go_num, by show _ = _; rw [take_next (by have := L1.out; omega), take_next (l := ys) (by have := L2.out; omega), HE.out, EX.out, EY.out, HXY.out], below_drewN hb _⟩
          case measure => simp [intOf]; omega
        · have b1 : (x != y) = true := by rw [bne_iff_ne]; exact hxy
          have HXY := Lib.hid hxy
          clear hxy
          go_wp2_with fail
          go_quiet (fail)
          go_wp2
          go_ret
          exact ⟨ret_b (eqL_no fun h => HXY.out (by rw [← EX.out, ← EY.out, h])).symm, below_drewN hb _⟩
      · obtain rfl : k = n := by omega
        go_wp2
        go_ret
        refine ⟨ret_b (eqL_yes ?_).symm, hb⟩
        have := HE.out
        rw [List.take_of_length_le (by have := L1.out; omega), List.take_of_length_le (by have := L2.out; omega)] at this
        exact this
  · have b1 : ((n : Int) != (m : Int)) = true := by rw [bne_iff_ne]; omega
    have hne : eqL xs ys = false := eqL_no fun h => hnm (by rw [← l1, ← l2, h])
    rw [hne]
    clear hx hy l1 l2 hne
    go_enter Try.func70, Try.ntmps70
    go_wp2
    go_ret
    exact ⟨rfl, Below.refl _ _⟩


/-- A bag in the making whose rows are the argument's or the call's own. -/
structure LP (w : World) (B : Option Addr) (n d : Nat) (A : Option Addr) (c : Nat) (xs : List ItX) (W : World) : Prop where
  row : W.ownsRow (w.heap.size + 3) 54 2 (.slice A xs.length c) xs.length (ixCells xs)
  kids : ∀ x ∈ xs, RdI w x.K x.p.r.length x.p.r ∨ W.ownsRow (w.heap.size + 3) 3 1 x.v x.p.r.length (x.p.r.map (Value.int .i64))
  arg : W.heap[w.heap.size]? = some (.cells #[.slice B n d] 29 (0, 0))
  out : W.heap[w.heap.size + 1]? = some (.cells #[.slice none 0 0] 29 (0, 0))
  box : W.heap[w.heap.size + 2]? = some (.cells #[.slice A xs.length c] 29 (0, 0))
  bel : Below w.heap.size w W
section
variable {w W W' : World} {B A : Option Addr} {n d c : Nat} {xs : List ItX}
theorem LP.sz (h : LP w B n d A c xs W) : w.heap.size + 3 ≤ W.heap.size := blk_lt h.box
theorem LP.keep (h : LP w B n d A c xs W) (hb : Below W.heap.size W W') : LP w B n d A c xs W' :=
  ⟨own_below h.row hb, fun x hx => (h.kids x hx).imp id (fun k => own_below k hb), blk_below hb h.arg, blk_below hb h.out, blk_below hb h.box, below_step h.bel hb⟩
/-- A cell of another block is set. -/
theorem LP.cell (h : LP w B n d A c xs W) {g : Nat} {cs : Array Value} {fz : Nat × Nat} (hg : w.heap.size + 3 ≤ g) (hA : ∀ r, (Value.slice A xs.length c).ownBlock = some r → r < g) (hq : W.heap[g]? = some (.cells cs 54 fz)) (j : Nat) (u : Value) : LP w B n d A c xs (W.setCell ⟨g, j, none⟩ u) := by
  have hg' : W.grownBy (W.setCell ⟨g, j, none⟩ u) (some g) := ⟨rfl, rfl, rfl, by simp [World.setCell], fun i _ hi => Below.heap_setCell _ _ _ _ (fun h => hi (by rw [h]))⟩
  refine ⟨h.row.kept hg' (.inr fun e => by have := hA g e; omega), fun x hx => (h.kids x hx).imp id (fun k => k.kept hg' (.inr (row_ne k hq (by decide)))), blk_set_ne h.arg (by omega), blk_set_ne h.out (by omega), blk_set_ne h.box (by omega), h.bel.setCell (by simp; omega) _⟩
theorem LP.push {A1 K : Option Addr} {c1 kc : Nat} {p : It} {o : Obj} {W3 : World} (h : LP w B n d A c xs W)
    (hk : RdI w K p.r.length p.r ∨ W.ownsRow (w.heap.size + 3) 3 1 (.slice K p.r.length kc) p.r.length (p.r.map (Value.int .i64)))
    (hown : W3.ownsRow (w.heap.size + 3) 54 2 (.slice A1 (xs.length + 1) c1) (xs.length + 1) (ixCells xs ++ [.slice K p.r.length kc, .int .i64 p.t]))
    (hg : (W.alloc o).grownBy W3 (Value.slice A xs.length c).ownBlock) : LP w B n d A1 c1 (xs ++ [⟨p, K, kc⟩]) (W3.setCell ⟨w.heap.size + 2, 0, none⟩ (.slice A1 (xs.length + 1) c1)) := by
  have hs := h.sz
  have h2 := h.keep (below_alloc W o)
  have hblk : ∀ g o', g < w.heap.size + 3 → (W.alloc o).heap[g]? = some o' → W3.heap[g]? = some o' := fun g o' hl ho => (hg.block g (blk_lt ho) (fun e => by have := (h2.row.lt g e.symm).1; omega)).trans ho
  have hlen : (xs ++ [(⟨p, K, kc⟩ : ItX)]).length = xs.length + 1 := by simp
  refine ⟨?_, ?_, ?_, ?_, ?_, ?_⟩
  · rw [hlen, ixCells_append]
    exact ownsRow_setCell_below hown (by simp) _
  · intro x hx
    rcases List.mem_append.1 hx with hx | hx
    · exact (h2.kids x hx).imp id (fun k => ownsRow_setCell_below (k.kept hg (own_ne k h2.row (by decide))) (by simp) _)
    · simp only [List.mem_cons, List.not_mem_nil, or_false] at hx
      subst hx
      refine hk.imp id (fun k => ?_)
      have k2 := own_below k (below_alloc W o)
      exact ownsRow_setCell_below (k2.kept hg (own_ne k2 h2.row (by decide))) (by simp) _
  · exact blk_set_ne (hblk _ _ (by omega) h2.arg) (by omega)
  · exact blk_set_ne (hblk _ _ (by omega) h2.out) (by omega)
  · rw [hlen]
    exact blk_set1 (hblk _ _ (by omega) h2.box)
  · exact (h2.bel.grown hg (by simp; omega) (fun k hk => by have := (h2.row.lt k hk).1; omega)).setCell (by simp) _
end
/-- What a call that makes a bag to be read leaves. -/
def MadeRB (w : World) (ps : List It) (e : Ending) (w' : World) : Prop := ∃ A c, e = .returned (.agg #[.slice A ps.length c]) ∧ RdB w' A ps ∧ Below w.heap.size w w'
theorem LP.made {w W : World} {B A : Option Addr} {n d c : Nat} {xs : List ItX} {ps : List It} (h : LP w B n d A c xs W) (hp : xs.map ItX.p = ps) : MadeRB w ps (.returned (.agg #[.slice A xs.length c])) (W.setCell ⟨w.heap.size + 1, 0, none⟩ (.slice A xs.length c)) := by
  subst hp
  have hr := ownsRow_setCell_below h.row (a := ⟨w.heap.size + 1, 0, none⟩) (by simp) (.slice A xs.length c)
  have hb : Below w.heap.size w (W.setCell ⟨w.heap.size + 1, 0, none⟩ (.slice A xs.length c)) := h.bel.setCell (by simp) _
  refine ⟨A, c, by simp, ⟨xs, rfl, by rw [List.length_map]; exact Rd.of_own hr, fun x hx => ?_⟩, hb⟩
  rcases h.kids x hx with k | k
  · exact RdI.below k hb
  · exact Rd.of_own (ownsRow_setCell_below k (a := ⟨w.heap.size + 1, 0, none⟩) (by simp) _)
theorem LP.start {w : World} {B : Option Addr} {n d : Nat} : LP w B n d none 0 [] (((w.alloc (.cells #[.slice B n d] 29)).alloc (.cells #[.slice none 0 0] 29)).alloc (.cells #[.slice none 0 0] 29)) := by
  have h := BB.start (w := w) (B := B) (n := n) (d := d)
  exact ⟨World.ownsRow_nil _ _ _ _, by simp, h.arg, h.out, h.box, h.bel⟩

def LInv (ps : List It) (row : List Int) (t : Int) (b : Bool) (out : List It) (k : Nat) : Prop := lput ps row t = out ++ (if b = true then ps.drop k else lput (ps.drop k) row t)
theorem LInv.start (ps : List It) (row : List Int) (t : Int) : LInv ps row t false [] 0 := by simp [LInv]
section
variable {ps out : List It} {row xr : List Int} {t xt : Int} {k : Nat}
theorem LInv.on (h : LInv ps row t true out k) (hk : k < ps.length) (hx : ps[k] = ⟨xr, xt⟩) : LInv ps row t true (out ++ [⟨xr, xt⟩]) (k + 1) := by
  unfold LInv at h ⊢
  rw [h, List.drop_eq_getElem_cons hk, hx]
  simp
theorem LInv.same (h : LInv ps row t false out k) (hk : k < ps.length) (hx : ps[k] = ⟨xr, xt⟩) (he : xr = row) : LInv ps row t true (out ++ [⟨xr, min (xt + t) 1000000⟩]) (k + 1) := by
  unfold LInv at h ⊢
  rw [h, List.drop_eq_getElem_cons hk, hx]
  subst he
  simp [lput]
theorem LInv.less (h : LInv ps row t false out k) (hk : k < ps.length) (hx : ps[k] = ⟨xr, xt⟩) (he : xr ≠ row) (hl : cmpI row xr < 0) : LInv ps row t true ((out ++ [⟨row, t⟩]) ++ [⟨xr, xt⟩]) (k + 1) := by
  unfold LInv at h ⊢
  rw [h, List.drop_eq_getElem_cons hk, hx]
  simp [lput, he, hl]
theorem LInv.more (h : LInv ps row t false out k) (hk : k < ps.length) (hx : ps[k] = ⟨xr, xt⟩) (he : xr ≠ row) (hl : 0 ≤ cmpI row xr) : LInv ps row t false (out ++ [⟨xr, xt⟩]) (k + 1) := by
  unfold LInv at h ⊢
  rw [h, List.drop_eq_getElem_cons hk, hx]
  have hl' : ¬ cmpI row xr < 0 := by omega
  simp [lput, he, hl']
end
set_option maxRecDepth 100000 in

set_option maxHeartbeats 6400000 in
theorem l03Put_any (B E : Option Addr) (d m : Nat) (ps : List It) (row : List Int) (t : Int) (w : World) (hx : RdB w B ps) (hy : RdI w E row.length row) (hn : ps.length ≤ 4294967296) (hk : ∀ p ∈ ps, p.r.length ≤ 4294967296) (hrl : row.length ≤ 4294967296) (ht : 0 ≤ t ∧ t ≤ 1000000000) (hpt : ∀ p ∈ ps, 0 ≤ p.t ∧ p.t ≤ 1000000000) :
    Calls Try.prog 61 #[.agg #[.slice B ps.length d], .slice E row.length m, .int .i64 t] w (MadeRB w (lput ps row t)) := by
  obtain ⟨i0, hi, hz0, hz1, hz2⟩ := info_parts Try.infoItem
  obtain ⟨j0, hj, jz0, jz1, jz2⟩ := info_parts Try.infoInt
  have HX := Lib.hid hx
  have HY := Lib.hid hy
  have HK := Lib.hid hk
  have HPT := Lib.hid hpt
  obtain ⟨ht0, ht1⟩ := ht
  clear hx hy hk hpt
  go_enter Try.func61, Try.ntmps61
  go_wp2
  go_loopw [8, 9] (fun dn i wr => ∃ (k : Nat) (b : Bool) (xs : List ItX) (A : Option Addr) (c : Nat), k ≤ ps.length ∧ i = .int .i64 k ∧ dn = .bool b ∧ xs.length ≤ k + b.toNat ∧ Hid (LInv ps row t b (xs.map ItX.p) k) ∧ LP w B ps.length d A c xs wr) (fun _ i _ => ps.length - (intOf i).toNat)
  case atStart => exact ⟨0, false, [], none, 0, Nat.zero_le _, rfl, rfl, by simp, Lib.hid (LInv.start _ _ _), LP.start⟩
  case round =>
    obtain ⟨k, b, xs, A, c, hk, rfl, rfl, hxl, HI, hlp⟩ := hrel
    have a0 := blk_cell (o := 0) hlp.arg rfl
    by_cases hlt : k < ps.length
    · obtain ⟨ba, o, Kk, ck, rfl, c0w, c1w, hrkw⟩ := HX.out.at_ hlt
      have c0 := held_step hlp.bel c0w
      have c1 := held_step hlp.bel c1w
      have hkl := HK.out ps[k] (List.getElem_mem hlt)
      have hpt := HPT.out ps[k] (List.getElem_mem hlt)
      obtain ⟨x, hxx⟩ : ∃ x, ps[k] = x := ⟨_, rfl⟩
      rw [hxx] at c0 c1 hkl hrkw hpt
      have EX := Lib.hid hxx
      have k0 : (0 : Int) ≤ (k : Int) := by omega
      have k1 : (k : Int) < (ps.length : Int) := by omega
      obtain ⟨xr, xt⟩ := x
      simp only at c0 c1 hkl hrkw hpt
      obtain ⟨hpt0, hpt1⟩ := hpt
      have HRK := Lib.hid hrkw
      have ka := below_alloc wr (.cells #[.slice Kk xr.length ck, .int .i64 xt] 54)
      have y := heap_alloc_new wr (.cells #[.slice Kk xr.length ck, .int .i64 xt] 54)
      have hlpa := hlp.keep ka
      have hA : ∀ r, (Value.slice A xs.length c).ownBlock = some r → r < wr.heap.size := fun r hr => (hlp.row.lt r hr).2
      have hsz := hlp.sz
      obtain ⟨W1, hW1⟩ : ∃ W, wr.alloc (.cells #[.slice Kk xr.length ck, .int .i64 xt] 54) = W := ⟨_, rfl⟩
      obtain ⟨gx, hgx⟩ : ∃ g, wr.heap.size = g := ⟨_, rfl⟩
      rw [hW1] at ka y hlpa
      rw [hgx] at y hA hsz
      have HL := Lib.hid hlpa
      have HYc := Lib.hid y
      have HAX := Lib.hid hA
      have RY1 := Lib.hid (HY.out.below hlpa.bel)
      have RK1 := Lib.hid (RdI.below hrkw hlpa.bel)
      have y0 := blk_cell (o := 0) y rfl
      clear c0w c1w hrkw hxx hlp ka y hlpa hA
      cases b
      · have hxl1 : xs.length ≤ k := by simpa using hxl
        by_cases he : xr = row
        · have S := Lib.hid (l03Same_any Kk E xr.length row.length ck m xr row W1 RK1.out RY1.out hkl)
          rw [eqL_yes he] at S
          have HE := Lib.hid he
          clear he
          go_wp2_with fail
          refine S.out.mono ?_
          clear hW1 hgx
          rintro e w2 ⟨rfl, k2⟩
          replace HYc := Lib.hid (blk_below k2 HYc.out)
          replace HL := Lib.hid (HL.out.keep k2)
          clear k2 y0
          have y0 := blk_cell (o := 0) HYc.out rfl
          have y1 := blk_cell (o := 1) HYc.out rfl
          have fy1 : w2.frozen? ⟨gx, 1, none⟩ = false := frozen_of_row w2 gx 1 _ _ HYc.out
          obtain ⟨v, hv⟩ : ∃ v, xt + t = v := ⟨_, rfl⟩
          have hw : IntKind.i64.wrap v = v := IntWalk.i64_in _ (by omega)
          have HQ : Hid (xt + t = v) := Lib.hid hv
          have L3 := HL.out.cell hsz HAX.out HYc.out 1 (.int .i64 v)
          have Y3 := heap_setCell_same w2 gx 1 _ _ (.int .i64 v) HYc.out
          obtain ⟨W3, hW3⟩ : ∃ W, w2.setCell ⟨gx, 1, none⟩ (.int .i64 v) = W := ⟨_, rfl⟩
          rw [hW3] at L3 Y3
          have z1 : W3.cell? ⟨gx, 1, none⟩ = some (.int .i64 v) := blk_cell (o := 1) Y3 rfl
          by_cases hm : v ≤ 1000000
          · replace HL := Lib.hid L3
            replace HYc : Hid (W3.heap[gx]? = some (.cells #[.slice Kk xr.length ck, .int .i64 v] 54 (0, 0))) := Lib.hid (by simpa using Y3)
            clear L3 Y3
            have b0 := blk_cell (o := 0) HL.out.box rfl
            have b0' : W3.cell? ⟨w.heap.size + 1 + 1, 0, none⟩ = some (.slice A (xs.length) c) := b0
            have y0 := blk_cell (o := 0) HYc.out rfl
            have y1 := blk_cell (o := 1) HYc.out rfl
            have l6 : w.heap.size + 2 < W3.heap.size := blk_lt HL.out.box
            have l7 : gx < W3.heap.size := blk_lt HYc.out
            go_wp2_with (first
              | (at_builtin
                 refine wpList_append_any _ rfl (.tmp 60) (.tmp 62) 27 rfl (w.heap.size + 3) 54 i0 _ 2 32 Try.underlying27 hi hz0 hz1 hz2 rfl (by decide) (.slice A (xs.length) c) (xs.length) (ixCells xs) rfl (own_below HL.out.row (below_alloc _ _)) (some ⟨W3.heap.size, 0, none⟩) 1 1 [.slice Kk xr.length ck, .int .i64 v] rfl (rd_new2 W3 _ _ _) (by intro u hu; simp at hu; rcases hu with rfl | rfl <;> rfl) (by unfold maxLen; omega) (by omega) (by simp; omega) ?_
                 intro v1 w7 hown7 hg7 _
                 obtain ⟨A7, c7, rfl, _, _⟩ := own_slice hown7
                 have HF := Lib.hid (HL.out.push (p := ⟨xr, v⟩) (.inl HRK.out) hown7 hg7)
                 have bx7 := (hg7.block _ (by simp; omega) (fun e => by have := (HL.out.row.lt _ e.symm).1; omega)).trans (blk_below (below_alloc W3 _) HL.out.box)
                 have f7 : w7.frozen? ⟨w.heap.size + 2, 0, none⟩ = false := frozen_of_row w7 _ 0 _ _ bx7
                 have e7 : w7.cell? ⟨w.heap.size + 2, 0, none⟩ = some (.slice A (xs.length) c) := blk_cell (o := 0) bx7 rfl
                 clear bx7 hown7 hg7))
            go_roundw
            case rel => exact ⟨k + 1, true, xs ++ [⟨⟨xr, v⟩, Kk, ck⟩], A7, c7, by omega, by go_num, rfl, by simp; try omega, Lib.hid (by rw [List.map_append]; exact (by have := HI.out.same hlt EX.out HE.out; rw [HQ.out, show min v 1000000 = v by omega] at this; exact this)), by simpa using HF.out⟩
            case measure => simp [intOf]; omega
          · have fz1 : W3.frozen? ⟨gx, 1, none⟩ = false := frozen_of_row W3 gx 1 _ _ Y3
            have L4 := L3.cell hsz HAX.out Y3 1 (.int .i64 1000000)
            have Y4 := heap_setCell_same W3 gx 1 _ _ (.int .i64 1000000) Y3
            obtain ⟨W4, hW4⟩ : ∃ W, W3.setCell ⟨gx, 1, none⟩ (.int .i64 1000000) = W := ⟨_, rfl⟩
            rw [hW4] at L4 Y4
            replace HL := Lib.hid L4
            replace HYc : Hid (W4.heap[gx]? = some (.cells #[.slice Kk xr.length ck, .int .i64 1000000] 54 (0, 0))) := Lib.hid (by simpa using Y4)
            clear L3 Y3 L4 Y4
            have b0 := blk_cell (o := 0) HL.out.box rfl
            have b0' : W4.cell? ⟨w.heap.size + 1 + 1, 0, none⟩ = some (.slice A (xs.length) c) := b0
            have y0 := blk_cell (o := 0) HYc.out rfl
            have y1 := blk_cell (o := 1) HYc.out rfl
            have l6 : w.heap.size + 2 < W4.heap.size := blk_lt HL.out.box
            have l7 : gx < W4.heap.size := blk_lt HYc.out
            go_wp2_with (first
              | (at_builtin
                 refine wpList_append_any _ rfl (.tmp 60) (.tmp 62) 27 rfl (w.heap.size + 3) 54 i0 _ 2 32 Try.underlying27 hi hz0 hz1 hz2 rfl (by decide) (.slice A (xs.length) c) (xs.length) (ixCells xs) rfl (own_below HL.out.row (below_alloc _ _)) (some ⟨W4.heap.size, 0, none⟩) 1 1 [.slice Kk xr.length ck, .int .i64 1000000] rfl (rd_new2 W4 _ _ _) (by intro u hu; simp at hu; rcases hu with rfl | rfl <;> rfl) (by unfold maxLen; omega) (by omega) (by simp; omega) ?_
                 intro v1 w7 hown7 hg7 _
                 obtain ⟨A7, c7, rfl, _, _⟩ := own_slice hown7
                 have HF := Lib.hid (HL.out.push (p := ⟨xr, 1000000⟩) (.inl HRK.out) hown7 hg7)
                 have bx7 := (hg7.block _ (by simp; omega) (fun e => by have := (HL.out.row.lt _ e.symm).1; omega)).trans (blk_below (below_alloc W4 _) HL.out.box)
                 have f7 : w7.frozen? ⟨w.heap.size + 2, 0, none⟩ = false := frozen_of_row w7 _ 0 _ _ bx7
                 have e7 : w7.cell? ⟨w.heap.size + 2, 0, none⟩ = some (.slice A (xs.length) c) := blk_cell (o := 0) bx7 rfl
                 clear bx7 hown7 hg7))
            go_roundw
            case rel => exact ⟨k + 1, true, xs ++ [⟨⟨xr, 1000000⟩, Kk, ck⟩], A7, c7, by omega, by go_num, rfl, by simp; try omega, Lib.hid (by rw [List.map_append]; exact (by have := HI.out.same hlt EX.out HE.out; rw [HQ.out, show min v 1000000 = 1000000 by omega] at this; exact this)), by simpa using HF.out⟩
            case measure => simp [intOf]; omega
        · have S := Lib.hid (l03Same_any Kk E xr.length row.length ck m xr row W1 RK1.out RY1.out hkl)
          rw [eqL_no he] at S
          have HE := Lib.hid he
          clear he
          go_wp2_with fail
          refine S.out.mono ?_
          clear hW1 hgx
          rintro e w2 ⟨rfl, k2⟩
          replace HYc := Lib.hid (blk_below k2 HYc.out)
          replace HL := Lib.hid (HL.out.keep k2)
          replace RY1 := Lib.hid (RdI.below RY1.out k2)
          replace RK1 := Lib.hid (RdI.below RK1.out k2)
          clear k2 y0
          have y0 := blk_cell (o := 0) HYc.out rfl
          have C := Lib.hid (spec_RowLess_any E Kk row.length xr.length m ck row xr w2 RY1.out RK1.out hrl hkl)
          obtain ⟨ls, hls⟩ : ∃ b, rowLess row xr = b := ⟨_, rfl⟩
          rw [hls] at C
          have HLB := Lib.hid hls
          clear hls
          go_wp2_with fail
          refine C.out.mono ?_
          rintro e w3 ⟨rfl, k3⟩
          replace HYc := Lib.hid (blk_below k3 HYc.out)
          replace HL := Lib.hid (HL.out.keep k3)
          replace RY1 := Lib.hid (RdI.below RY1.out k3)
          clear k3 y0 C
          cases ls
          · have HLS : Hid (0 ≤ cmpI row xr) := Lib.hid (by have := HLB.out; unfold rowLess at this; have := of_decide_eq_false this; omega)
            have b0 := blk_cell (o := 0) HL.out.box rfl
            have b0' : w3.cell? ⟨w.heap.size + 1 + 1, 0, none⟩ = some (.slice A (xs.length) c) := b0
            have y0 := blk_cell (o := 0) HYc.out rfl
            have y1 := blk_cell (o := 1) HYc.out rfl
            have l6 : w.heap.size + 2 < w3.heap.size := blk_lt HL.out.box
            have l7 : gx < w3.heap.size := blk_lt HYc.out
            go_wp2_with (first
              | (at_builtin
                 refine wpList_append_any _ rfl (.tmp 60) (.tmp 62) 27 rfl (w.heap.size + 3) 54 i0 _ 2 32 Try.underlying27 hi hz0 hz1 hz2 rfl (by decide) (.slice A (xs.length) c) (xs.length) (ixCells xs) rfl (own_below HL.out.row (below_alloc _ _)) (some ⟨w3.heap.size, 0, none⟩) 1 1 [.slice Kk xr.length ck, .int .i64 xt] rfl (rd_new2 w3 _ _ _) (by intro u hu; simp at hu; rcases hu with rfl | rfl <;> rfl) (by unfold maxLen; omega) (by omega) (by simp; omega) ?_
                 intro v1 w7 hown7 hg7 _
                 obtain ⟨A7, c7, rfl, _, _⟩ := own_slice hown7
                 have HF := Lib.hid (HL.out.push (p := ⟨xr, xt⟩) (.inl HRK.out) hown7 hg7)
                 have bx7 := (hg7.block _ (by simp; omega) (fun e => by have := (HL.out.row.lt _ e.symm).1; omega)).trans (blk_below (below_alloc w3 _) HL.out.box)
                 have f7 : w7.frozen? ⟨w.heap.size + 2, 0, none⟩ = false := frozen_of_row w7 _ 0 _ _ bx7
                 have e7 : w7.cell? ⟨w.heap.size + 2, 0, none⟩ = some (.slice A (xs.length) c) := blk_cell (o := 0) bx7 rfl
                 clear bx7 hown7 hg7))
            go_roundw
            case rel => exact ⟨k + 1, false, xs ++ [⟨⟨xr, xt⟩, Kk, ck⟩], A7, c7, by omega, by go_num, rfl, by simp; try omega, Lib.hid (by rw [List.map_append]; exact (HI.out.more hlt EX.out HE.out HLS.out)), by simpa using HF.out⟩
            case measure => simp [intOf]; omega
          · have HLS : Hid (cmpI row xr < 0) := Lib.hid (by have := HLB.out; unfold rowLess at this; exact of_decide_eq_true this)
            have b0 := blk_cell (o := 0) HL.out.box rfl
            have b0' : w3.cell? ⟨w.heap.size + 1 + 1, 0, none⟩ = some (.slice A xs.length c) := b0
            have l0 : w.heap.size + 2 < w3.heap.size := blk_lt HL.out.box
            have l0' : w.heap.size + 1 + 1 < w3.heap.size := l0
            have HE0 : Hid ((w3.drew.alloc (.cells #[] 3)).ownsRow w3.heap.size 3 1 (.slice (some ⟨w3.heap.size, 0, none⟩) 0 0) 0 []) := Lib.hid (World.ownsRow_made w3.drew #[] 0 (Nat.le_refl _) (by unfold maxLen; omega) rfl)
            have HYD : Hid (RdI w3.drew E row.length row) := Lib.hid RY1.out
            have hxl2 : xs.length ≤ k := by simpa using hxl
            go_upto_region 13 with fail
            refine wp_region_held_drew (S := fun _ => True) (by kernel_rfl) (trivial) (fun hHeld => ?_)
            refine wpAnyH_take (i := 0) (v := ?_) rfl (by kernel_rfl) (by kernel_rfl) (by kernel_rfl) (fun _ _ _ h => h) (Or.inl ⟨by rfl, ?_⟩) hHeld ?_
            rotate_left
            · intro w hSw
              (try dsimp only at hSw)
              go_simp
              try with_reducible rfl
            try simp only [List.getElem_toArray, List.getElem_cons_zero, Act.put, List.setIfInBounds_toArray, List.set_cons_zero, List.set_cons_succ]
            refine wpAnyH_take (i := 3) (v := ?_) rfl (by kernel_rfl) (by kernel_rfl) (by kernel_rfl) (fun _ _ _ h => h) (Or.inl ⟨by rfl, ?_⟩) hHeld ?_
            rotate_left
            · intro w hSw
              (try dsimp only at hSw)
              go_simp
              try with_reducible rfl
            try simp only [List.getElem_toArray, List.getElem_cons_zero, List.getElem_cons_succ, Act.put, List.setIfInBounds_toArray, List.set_cons_zero, List.set_cons_succ]
            refine wpAnyH_take (i := 5) (v := ?_) rfl (by kernel_rfl) (by kernel_rfl) (by kernel_rfl) (fun _ _ _ h => h) (Or.inl ⟨by rfl, ?_⟩) hHeld ?_
            rotate_left
            · intro w hSw
              (try dsimp only at hSw)
              go_simp
              try with_reducible rfl
            try simp only [List.getElem_toArray, List.getElem_cons_zero, List.getElem_cons_succ, Act.put, List.setIfInBounds_toArray, List.set_cons_zero, List.set_cons_succ]
            refine wpAnyH_ready (rs := [1, 2]) (by kernel_rfl) (by simp) ?_
            refine AllReadyH.cons rfl (fun K hK => ?_) ?_
            · skip
              go_simp
              refine hK.out _ _ (trivial) (fun hHeld => ?_)
              clear hK K
              try simp only [List.getElem_toArray, List.getElem_cons_zero, List.getElem_cons_succ, Act.put, List.setIfInBounds_toArray, List.set_cons_zero, List.set_cons_succ]
              refine wpAnyH_ready (rs := [2]) (by kernel_rfl) (by simp) ?_
              refine AllReadyH.cons rfl (fun K hK => ?_) ?_
              · skip
                go_simp
                refine hK.out _ _ (trivial) (fun hHeld => ?_)
                clear hK K
                try simp only [List.getElem_toArray, List.getElem_cons_zero, List.getElem_cons_succ, Act.put, List.setIfInBounds_toArray, List.set_cons_zero, List.set_cons_succ]
                refine wpAnyH_ready (rs := [4]) (by kernel_rfl) (by simp) ?_
                refine AllReadyH.cons rfl (fun K hK => ?_) ?_
                · skip
                  refine step_append_any _ rfl (.tmp 51) (.tmp 52) 40 rfl w3.heap.size 3 j0 _ 1 8 Try.underlying40 hj jz0 jz1 jz2 rfl (by decide) (.slice (some ⟨w3.heap.size, 0, none⟩) 0 0) 0 [] rfl HE0.out E row.length m (row.map (Value.int .i64)) rfl (RdI.alloc HYD.out _) (oneCell_ints row .i64) (by unfold maxLen; omega) (by omega) (by simp) ?_
                  intro v1 w4 hown4 hg4 _
                  rw [Nat.zero_add, List.nil_append] at hown4
                  obtain ⟨K1, d1, rfl, _, _⟩ := own_slice hown4
                  have hb4 : Below w3.heap.size w3 w4 := ((Below.refl _ _).drew).trans (((Below.refl w3.drew.heap.size w3.drew).alloc (Nat.le_refl _) _).grown hg4 (by simp) (fun r hr => by cases hr; exact Nat.le_refl _))
                  have hL4 := HL.out.keep hb4
                  have d0 := blk_cell (o := 0) hL4.box rfl
                  have d0' : w4.cell? ⟨w.heap.size + 1 + 1, 0, none⟩ = some (.slice A xs.length c) := d0
                  have l4 : w.heap.size + 1 + 1 < w4.heap.size := blk_lt hL4.box
                  have HL4 := Lib.hid hL4
                  have HO4 := Lib.hid (own_mono hown4 (by have := HL.out.sz; omega) : w4.ownsRow (w.heap.size + 3) 3 1 (.slice K1 row.length d1) row.length (row.map (Value.int .i64)))
                  have HY4 := Lib.hid (blk_below hb4 HYc.out)
                  clear hown4 hb4 hL4 hg4
                  refine hK.out _ _ (trivial) (fun hHeld => ?_)
                  clear hK K
                  try simp only [List.getElem_toArray, List.getElem_cons_zero, List.getElem_cons_succ, Act.put, List.setIfInBounds_toArray, List.set_cons_zero, List.set_cons_succ]
                  refine wpAnyH_take (i := 6) (v := ?_) rfl (by kernel_rfl) (by kernel_rfl) (by kernel_rfl) (fun _ _ _ h => h) (Or.inl ⟨by rfl, ?_⟩) hHeld ?_
                  rotate_left
                  · intro w hSw
                    (try dsimp only at hSw)
                    go_simp
                    try with_reducible rfl
                  try simp only [List.getElem_toArray, List.getElem_cons_zero, List.getElem_cons_succ, Act.put, List.setIfInBounds_toArray, List.set_cons_zero, List.set_cons_succ]
                  refine wpAnyH_ready (rs := [7]) (by kernel_rfl) (by simp) ?_
                  refine AllReadyH.cons rfl (fun K hK => ?_) ?_
                  · skip
                    go_simp
                    refine hK.out _ _ (trivial) (fun hHeld => ?_)
                    clear hK K
                    try simp only [List.getElem_toArray, List.getElem_cons_zero, List.getElem_cons_succ, Act.put, List.setIfInBounds_toArray, List.set_cons_zero, List.set_cons_succ]
                    refine wpAnyH_ready (rs := [8]) (by kernel_rfl) (by simp) ?_
                    refine AllReadyH.cons rfl (fun K hK => ?_) ?_
                    · skip
                      refine step_append_any _ rfl (.tmp 50) (.tmp 56) 27 rfl (w.heap.size + 3) 54 i0 _ 2 32 Try.underlying27 hi hz0 hz1 hz2 rfl (by decide) (.slice A xs.length c) xs.length (ixCells xs) rfl (own_below HL4.out.row (below_alloc _ _)) (some ⟨w4.heap.size, 0, none⟩) 1 1 [.slice K1 row.length d1, .int .i64 t] rfl (rd_new2 w4 _ _ _) (by intro u hu; simp at hu; rcases hu with rfl | rfl <;> rfl) (by unfold maxLen; omega) (by omega) (by simp; omega) ?_
                      intro v1 w5 hown5 hg5 _
                      obtain ⟨A5, c5, rfl, _, _⟩ := own_slice hown5
                      have HF5 := Lib.hid (HL4.out.push (p := ⟨row, t⟩) (.inr HO4.out) hown5 hg5)
                      have bx5 := (hg5.block _ (by simp; omega) (fun e => by have := (HL4.out.row.lt _ e.symm).1; omega)).trans (blk_below (below_alloc w4 _) HL4.out.box)
                      have f5 : w5.frozen? ⟨w.heap.size + 2, 0, none⟩ = false := frozen_of_row w5 _ 0 _ _ bx5
                      have e5 : w5.cell? ⟨w.heap.size + 2, 0, none⟩ = some (.slice A xs.length c) := blk_cell (o := 0) bx5 rfl
                      have HY5 := Lib.hid (blk_set_ne (g' := w.heap.size + 2) (j := 0) (u := .slice A5 (xs.length + 1) c5) ((hg5.block gx (by have := blk_lt HY4.out; simp; omega) (fun e => by have := HAX.out _ e.symm; omega)).trans (blk_below (below_alloc w4 _) HY4.out)) (by omega))
                      clear bx5 hown5 hg5
                      refine hK.out _ _ (trivial) (fun hHeld => ?_)
                      clear hK K
                      try simp only [List.getElem_toArray, List.getElem_cons_zero, List.getElem_cons_succ, Act.put, List.setIfInBounds_toArray, List.set_cons_zero, List.set_cons_succ]
                      refine wpAnyH_take (i := 9) (v := ?_) rfl (by kernel_rfl) (by kernel_rfl) (by kernel_rfl) (fun _ _ _ h => h) (Or.inl ⟨by rfl, ?_⟩) hHeld ?_
                      rotate_left
                      · intro w hSw
                        (try dsimp only at hSw)
                        go_simp
                        try with_reducible rfl
                      try simp only [List.getElem_toArray, List.getElem_cons_zero, List.getElem_cons_succ, Act.put, List.setIfInBounds_toArray, List.set_cons_zero, List.set_cons_succ]
                      refine wpAnyH_ready (rs := [10]) (by kernel_rfl) (by simp) ?_
                      refine AllReadyH.cons rfl (fun K hK => ?_) ?_
                      · skip
                        go_simp
                        refine hK.out _ _ (trivial) (fun hHeld => ?_)
                        clear hK K
                        try simp only [List.getElem_toArray, List.getElem_cons_zero, List.getElem_cons_succ, Act.put, List.setIfInBounds_toArray, List.set_cons_zero, List.set_cons_succ]
                        refine wpAnyH_done (by kernel_rfl) ?_ _
                        clear b0 b0'
                        obtain ⟨W5, hW5⟩ : ∃ W, w5.setCell ⟨w.heap.size + 2, 0, none⟩ (.slice A5 (xs.length + 1) c5) = W := ⟨_, rfl⟩
                        have hlen5 : (xs ++ [(⟨⟨row, t⟩, K1, d1⟩ : ItX)]).length = xs.length + 1 := by simp
                        obtain ⟨xz, hxz⟩ : ∃ z : List ItX, xs ++ [(⟨⟨row, t⟩, K1, d1⟩ : ItX)] = z := ⟨_, rfl⟩
                        rw [hxz] at hlen5
                        have HXZ := Lib.hid hxz
                        have HLEN5 := Lib.hid hlen5
                        clear hlen5
                        have HL := HF5
                        rw [hW5, hxz] at HL
                        have HYc := HY5
                        rw [hW5] at HYc
                        rw [hW5]
                        clear hxz hW5
                        have b0 := blk_cell (o := 0) HL.out.box rfl
                        rw [HLEN5.out] at b0
                        have b0' : W5.cell? ⟨w.heap.size + 1 + 1, 0, none⟩ = some (.slice A5 (xs.length + 1) c5) := b0
                        have y0 := blk_cell (o := 0) HYc.out rfl
                        have y1 := blk_cell (o := 1) HYc.out rfl
                        have l6 : w.heap.size + 2 < W5.heap.size := blk_lt HL.out.box
                        have l7 : gx < W5.heap.size := blk_lt HYc.out
                        go_wp2_with (first
                          | (at_builtin
                             refine wpList_append_any _ rfl (.tmp 60) (.tmp 62) 27 rfl (w.heap.size + 3) 54 i0 _ 2 32 Try.underlying27 hi hz0 hz1 hz2 rfl (by decide) (.slice A5 (xs.length + 1) c5) (xs.length + 1) (ixCells xz) rfl (by rw [← HLEN5.out]; exact own_below HL.out.row (below_alloc _ _)) (some ⟨W5.heap.size, 0, none⟩) 1 1 [.slice Kk xr.length ck, .int .i64 xt] rfl (rd_new2 W5 _ _ _) (by intro u hu; simp at hu; rcases hu with rfl | rfl <;> rfl) (by unfold maxLen; omega) (by omega) (by simp; omega) ?_
                             intro v1 w7 hown7 hg7 _
                             obtain ⟨A7, c7, rfl, _, _⟩ := own_slice hown7
                             rw [← HLEN5.out] at hown7 hg7
                             have HF := Lib.hid (HL.out.push (p := ⟨xr, xt⟩) (.inl HRK.out) hown7 hg7)
                             have bx7 := (hg7.block _ (by simp; omega) (fun e => by have := (HL.out.row.lt _ e.symm).1; omega)).trans (blk_below (below_alloc W5 _) HL.out.box)
                             rw [HLEN5.out] at bx7
                             have f7 : w7.frozen? ⟨w.heap.size + 2, 0, none⟩ = false := frozen_of_row w7 _ 0 _ _ bx7
                             have e7 : w7.cell? ⟨w.heap.size + 2, 0, none⟩ = some (.slice A5 (xs.length + 1) c5) := blk_cell (o := 0) bx7 rfl
                             clear bx7 hown7 hg7))
                        go_roundw
                        case rel => exact ⟨k + 1, true, xz ++ [⟨⟨xr, xt⟩, Kk, ck⟩], A7, c7, by omega, by go_num, rfl, by have := HLEN5.out; simp; try omega, Lib.hid (by rw [List.map_append]; exact (by have := HI.out.less hlt EX.out HE.out HLS.out; rw [← HXZ.out, List.map_append]; exact this)), by have := HF.out; rw [HLEN5.out] at this; simpa using this⟩
                        case measure => simp [intOf]; omega
                      exact AllReadyH.nil
                    exact AllReadyH.nil
                  exact AllReadyH.nil
                exact AllReadyH.nil
              exact AllReadyH.nil
            refine AllReadyH.cons rfl (fun K hK => ?_) ?_
            · skip
              go_simp
              refine hK.out _ _ (trivial) (fun hHeld => ?_)
              clear hK K
              try simp only [List.getElem_toArray, List.getElem_cons_zero, List.getElem_cons_succ, Act.put, List.setIfInBounds_toArray, List.set_cons_zero, List.set_cons_succ]
              refine wpAnyH_ready (rs := [1, 4]) (by kernel_rfl) (by simp) ?_
              refine AllReadyH.cons rfl (fun K hK => ?_) ?_
              · skip
                go_simp
                refine hK.out _ _ (trivial) (fun hHeld => ?_)
                clear hK K
                try simp only [List.getElem_toArray, List.getElem_cons_zero, List.getElem_cons_succ, Act.put, List.setIfInBounds_toArray, List.set_cons_zero, List.set_cons_succ]
                refine wpAnyH_ready (rs := [4]) (by kernel_rfl) (by simp) ?_
                refine AllReadyH.cons rfl (fun K hK => ?_) ?_
                · skip
                  refine step_append_any _ rfl (.tmp 51) (.tmp 52) 40 rfl w3.heap.size 3 j0 _ 1 8 Try.underlying40 hj jz0 jz1 jz2 rfl (by decide) (.slice (some ⟨w3.heap.size, 0, none⟩) 0 0) 0 [] rfl HE0.out E row.length m (row.map (Value.int .i64)) rfl (RdI.alloc HYD.out _) (oneCell_ints row .i64) (by unfold maxLen; omega) (by omega) (by simp) ?_
                  intro v1 w4 hown4 hg4 _
                  rw [Nat.zero_add, List.nil_append] at hown4
                  obtain ⟨K1, d1, rfl, _, _⟩ := own_slice hown4
                  have hb4 : Below w3.heap.size w3 w4 := ((Below.refl _ _).drew).trans (((Below.refl w3.drew.heap.size w3.drew).alloc (Nat.le_refl _) _).grown hg4 (by simp) (fun r hr => by cases hr; exact Nat.le_refl _))
                  have hL4 := HL.out.keep hb4
                  have d0 := blk_cell (o := 0) hL4.box rfl
                  have d0' : w4.cell? ⟨w.heap.size + 1 + 1, 0, none⟩ = some (.slice A xs.length c) := d0
                  have l4 : w.heap.size + 1 + 1 < w4.heap.size := blk_lt hL4.box
                  have HL4 := Lib.hid hL4
                  have HO4 := Lib.hid (own_mono hown4 (by have := HL.out.sz; omega) : w4.ownsRow (w.heap.size + 3) 3 1 (.slice K1 row.length d1) row.length (row.map (Value.int .i64)))
                  have HY4 := Lib.hid (blk_below hb4 HYc.out)
                  clear hown4 hb4 hL4 hg4
                  refine hK.out _ _ (trivial) (fun hHeld => ?_)
                  clear hK K
                  try simp only [List.getElem_toArray, List.getElem_cons_zero, List.getElem_cons_succ, Act.put, List.setIfInBounds_toArray, List.set_cons_zero, List.set_cons_succ]
                  refine wpAnyH_take (i := 6) (v := ?_) rfl (by kernel_rfl) (by kernel_rfl) (by kernel_rfl) (fun _ _ _ h => h) (Or.inl ⟨by rfl, ?_⟩) hHeld ?_
                  rotate_left
                  · intro w hSw
                    (try dsimp only at hSw)
                    go_simp
                    try with_reducible rfl
                  try simp only [List.getElem_toArray, List.getElem_cons_zero, List.getElem_cons_succ, Act.put, List.setIfInBounds_toArray, List.set_cons_zero, List.set_cons_succ]
                  refine wpAnyH_ready (rs := [7]) (by kernel_rfl) (by simp) ?_
                  refine AllReadyH.cons rfl (fun K hK => ?_) ?_
                  · skip
                    go_simp
                    refine hK.out _ _ (trivial) (fun hHeld => ?_)
                    clear hK K
                    try simp only [List.getElem_toArray, List.getElem_cons_zero, List.getElem_cons_succ, Act.put, List.setIfInBounds_toArray, List.set_cons_zero, List.set_cons_succ]
                    refine wpAnyH_ready (rs := [8]) (by kernel_rfl) (by simp) ?_
                    refine AllReadyH.cons rfl (fun K hK => ?_) ?_
                    · skip
                      refine step_append_any _ rfl (.tmp 50) (.tmp 56) 27 rfl (w.heap.size + 3) 54 i0 _ 2 32 Try.underlying27 hi hz0 hz1 hz2 rfl (by decide) (.slice A xs.length c) xs.length (ixCells xs) rfl (own_below HL4.out.row (below_alloc _ _)) (some ⟨w4.heap.size, 0, none⟩) 1 1 [.slice K1 row.length d1, .int .i64 t] rfl (rd_new2 w4 _ _ _) (by intro u hu; simp at hu; rcases hu with rfl | rfl <;> rfl) (by unfold maxLen; omega) (by omega) (by simp; omega) ?_
                      intro v1 w5 hown5 hg5 _
                      obtain ⟨A5, c5, rfl, _, _⟩ := own_slice hown5
                      have HF5 := Lib.hid (HL4.out.push (p := ⟨row, t⟩) (.inr HO4.out) hown5 hg5)
                      have bx5 := (hg5.block _ (by simp; omega) (fun e => by have := (HL4.out.row.lt _ e.symm).1; omega)).trans (blk_below (below_alloc w4 _) HL4.out.box)
                      have f5 : w5.frozen? ⟨w.heap.size + 2, 0, none⟩ = false := frozen_of_row w5 _ 0 _ _ bx5
                      have e5 : w5.cell? ⟨w.heap.size + 2, 0, none⟩ = some (.slice A xs.length c) := blk_cell (o := 0) bx5 rfl
                      have HY5 := Lib.hid (blk_set_ne (g' := w.heap.size + 2) (j := 0) (u := .slice A5 (xs.length + 1) c5) ((hg5.block gx (by have := blk_lt HY4.out; simp; omega) (fun e => by have := HAX.out _ e.symm; omega)).trans (blk_below (below_alloc w4 _) HY4.out)) (by omega))
                      clear bx5 hown5 hg5
                      refine hK.out _ _ (trivial) (fun hHeld => ?_)
                      clear hK K
                      try simp only [List.getElem_toArray, List.getElem_cons_zero, List.getElem_cons_succ, Act.put, List.setIfInBounds_toArray, List.set_cons_zero, List.set_cons_succ]
                      refine wpAnyH_take (i := 9) (v := ?_) rfl (by kernel_rfl) (by kernel_rfl) (by kernel_rfl) (fun _ _ _ h => h) (Or.inl ⟨by rfl, ?_⟩) hHeld ?_
                      rotate_left
                      · intro w hSw
                        (try dsimp only at hSw)
                        go_simp
                        try with_reducible rfl
                      try simp only [List.getElem_toArray, List.getElem_cons_zero, List.getElem_cons_succ, Act.put, List.setIfInBounds_toArray, List.set_cons_zero, List.set_cons_succ]
                      refine wpAnyH_ready (rs := [10]) (by kernel_rfl) (by simp) ?_
                      refine AllReadyH.cons rfl (fun K hK => ?_) ?_
                      · skip
                        go_simp
                        refine hK.out _ _ (trivial) (fun hHeld => ?_)
                        clear hK K
                        try simp only [List.getElem_toArray, List.getElem_cons_zero, List.getElem_cons_succ, Act.put, List.setIfInBounds_toArray, List.set_cons_zero, List.set_cons_succ]
                        refine wpAnyH_done (by kernel_rfl) ?_ _
                        clear b0 b0'
                        obtain ⟨W5, hW5⟩ : ∃ W, w5.setCell ⟨w.heap.size + 2, 0, none⟩ (.slice A5 (xs.length + 1) c5) = W := ⟨_, rfl⟩
                        have hlen5 : (xs ++ [(⟨⟨row, t⟩, K1, d1⟩ : ItX)]).length = xs.length + 1 := by simp
                        obtain ⟨xz, hxz⟩ : ∃ z : List ItX, xs ++ [(⟨⟨row, t⟩, K1, d1⟩ : ItX)] = z := ⟨_, rfl⟩
                        rw [hxz] at hlen5
                        have HXZ := Lib.hid hxz
                        have HLEN5 := Lib.hid hlen5
                        clear hlen5
                        have HL := HF5
                        rw [hW5, hxz] at HL
                        have HYc := HY5
                        rw [hW5] at HYc
                        rw [hW5]
                        clear hxz hW5
                        have b0 := blk_cell (o := 0) HL.out.box rfl
                        rw [HLEN5.out] at b0
                        have b0' : W5.cell? ⟨w.heap.size + 1 + 1, 0, none⟩ = some (.slice A5 (xs.length + 1) c5) := b0
                        have y0 := blk_cell (o := 0) HYc.out rfl
                        have y1 := blk_cell (o := 1) HYc.out rfl
                        have l6 : w.heap.size + 2 < W5.heap.size := blk_lt HL.out.box
                        have l7 : gx < W5.heap.size := blk_lt HYc.out
                        go_wp2_with (first
                          | (at_builtin
                             refine wpList_append_any _ rfl (.tmp 60) (.tmp 62) 27 rfl (w.heap.size + 3) 54 i0 _ 2 32 Try.underlying27 hi hz0 hz1 hz2 rfl (by decide) (.slice A5 (xs.length + 1) c5) (xs.length + 1) (ixCells xz) rfl (by rw [← HLEN5.out]; exact own_below HL.out.row (below_alloc _ _)) (some ⟨W5.heap.size, 0, none⟩) 1 1 [.slice Kk xr.length ck, .int .i64 xt] rfl (rd_new2 W5 _ _ _) (by intro u hu; simp at hu; rcases hu with rfl | rfl <;> rfl) (by unfold maxLen; omega) (by omega) (by simp; omega) ?_
                             intro v1 w7 hown7 hg7 _
                             obtain ⟨A7, c7, rfl, _, _⟩ := own_slice hown7
                             rw [← HLEN5.out] at hown7 hg7
                             have HF := Lib.hid (HL.out.push (p := ⟨xr, xt⟩) (.inl HRK.out) hown7 hg7)
                             have bx7 := (hg7.block _ (by simp; omega) (fun e => by have := (HL.out.row.lt _ e.symm).1; omega)).trans (blk_below (below_alloc W5 _) HL.out.box)
                             rw [HLEN5.out] at bx7
                             have f7 : w7.frozen? ⟨w.heap.size + 2, 0, none⟩ = false := frozen_of_row w7 _ 0 _ _ bx7
                             have e7 : w7.cell? ⟨w.heap.size + 2, 0, none⟩ = some (.slice A5 (xs.length + 1) c5) := blk_cell (o := 0) bx7 rfl
                             clear bx7 hown7 hg7))
                        go_roundw
                        case rel => exact ⟨k + 1, true, xz ++ [⟨⟨xr, xt⟩, Kk, ck⟩], A7, c7, by omega, by go_num, rfl, by have := HLEN5.out; simp; try omega, Lib.hid (by rw [List.map_append]; exact (by have := HI.out.less hlt EX.out HE.out HLS.out; rw [← HXZ.out, List.map_append]; exact this)), by have := HF.out; rw [HLEN5.out] at this; simpa using this⟩
                        case measure => simp [intOf]; omega
                      exact AllReadyH.nil
                    exact AllReadyH.nil
                  exact AllReadyH.nil
                exact AllReadyH.nil
              refine AllReadyH.cons rfl (fun K hK => ?_) ?_
              · skip
                refine step_append_any _ rfl (.tmp 51) (.tmp 52) 40 rfl w3.heap.size 3 j0 _ 1 8 Try.underlying40 hj jz0 jz1 jz2 rfl (by decide) (.slice (some ⟨w3.heap.size, 0, none⟩) 0 0) 0 [] rfl HE0.out E row.length m (row.map (Value.int .i64)) rfl (RdI.alloc HYD.out _) (oneCell_ints row .i64) (by unfold maxLen; omega) (by omega) (by simp) ?_
                intro v1 w4 hown4 hg4 _
                rw [Nat.zero_add, List.nil_append] at hown4
                obtain ⟨K1, d1, rfl, _, _⟩ := own_slice hown4
                have hb4 : Below w3.heap.size w3 w4 := ((Below.refl _ _).drew).trans (((Below.refl w3.drew.heap.size w3.drew).alloc (Nat.le_refl _) _).grown hg4 (by simp) (fun r hr => by cases hr; exact Nat.le_refl _))
                have hL4 := HL.out.keep hb4
                have d0 := blk_cell (o := 0) hL4.box rfl
                have d0' : w4.cell? ⟨w.heap.size + 1 + 1, 0, none⟩ = some (.slice A xs.length c) := d0
                have l4 : w.heap.size + 1 + 1 < w4.heap.size := blk_lt hL4.box
                have HL4 := Lib.hid hL4
                have HO4 := Lib.hid (own_mono hown4 (by have := HL.out.sz; omega) : w4.ownsRow (w.heap.size + 3) 3 1 (.slice K1 row.length d1) row.length (row.map (Value.int .i64)))
                have HY4 := Lib.hid (blk_below hb4 HYc.out)
                clear hown4 hb4 hL4 hg4
                refine hK.out _ _ (trivial) (fun hHeld => ?_)
                clear hK K
                try simp only [List.getElem_toArray, List.getElem_cons_zero, List.getElem_cons_succ, Act.put, List.setIfInBounds_toArray, List.set_cons_zero, List.set_cons_succ]
                refine wpAnyH_take (i := 6) (v := ?_) rfl (by kernel_rfl) (by kernel_rfl) (by kernel_rfl) (fun _ _ _ h => h) (Or.inl ⟨by rfl, ?_⟩) hHeld ?_
                rotate_left
                · intro w hSw
                  (try dsimp only at hSw)
                  go_simp
                  try with_reducible rfl
                try simp only [List.getElem_toArray, List.getElem_cons_zero, List.getElem_cons_succ, Act.put, List.setIfInBounds_toArray, List.set_cons_zero, List.set_cons_succ]
                refine wpAnyH_ready (rs := [1, 7]) (by kernel_rfl) (by simp) ?_
                refine AllReadyH.cons rfl (fun K hK => ?_) ?_
                · skip
                  go_simp
                  refine hK.out _ _ (trivial) (fun hHeld => ?_)
                  clear hK K
                  try simp only [List.getElem_toArray, List.getElem_cons_zero, List.getElem_cons_succ, Act.put, List.setIfInBounds_toArray, List.set_cons_zero, List.set_cons_succ]
                  refine wpAnyH_ready (rs := [7]) (by kernel_rfl) (by simp) ?_
                  refine AllReadyH.cons rfl (fun K hK => ?_) ?_
                  · skip
                    go_simp
                    refine hK.out _ _ (trivial) (fun hHeld => ?_)
                    clear hK K
                    try simp only [List.getElem_toArray, List.getElem_cons_zero, List.getElem_cons_succ, Act.put, List.setIfInBounds_toArray, List.set_cons_zero, List.set_cons_succ]
                    refine wpAnyH_ready (rs := [8]) (by kernel_rfl) (by simp) ?_
                    refine AllReadyH.cons rfl (fun K hK => ?_) ?_
                    · skip
                      refine step_append_any _ rfl (.tmp 50) (.tmp 56) 27 rfl (w.heap.size + 3) 54 i0 _ 2 32 Try.underlying27 hi hz0 hz1 hz2 rfl (by decide) (.slice A xs.length c) xs.length (ixCells xs) rfl (own_below HL4.out.row (below_alloc _ _)) (some ⟨w4.heap.size, 0, none⟩) 1 1 [.slice K1 row.length d1, .int .i64 t] rfl (rd_new2 w4 _ _ _) (by intro u hu; simp at hu; rcases hu with rfl | rfl <;> rfl) (by unfold maxLen; omega) (by omega) (by simp; omega) ?_
                      intro v1 w5 hown5 hg5 _
                      obtain ⟨A5, c5, rfl, _, _⟩ := own_slice hown5
                      have HF5 := Lib.hid (HL4.out.push (p := ⟨row, t⟩) (.inr HO4.out) hown5 hg5)
                      have bx5 := (hg5.block _ (by simp; omega) (fun e => by have := (HL4.out.row.lt _ e.symm).1; omega)).trans (blk_below (below_alloc w4 _) HL4.out.box)
                      have f5 : w5.frozen? ⟨w.heap.size + 2, 0, none⟩ = false := frozen_of_row w5 _ 0 _ _ bx5
                      have e5 : w5.cell? ⟨w.heap.size + 2, 0, none⟩ = some (.slice A xs.length c) := blk_cell (o := 0) bx5 rfl
                      have HY5 := Lib.hid (blk_set_ne (g' := w.heap.size + 2) (j := 0) (u := .slice A5 (xs.length + 1) c5) ((hg5.block gx (by have := blk_lt HY4.out; simp; omega) (fun e => by have := HAX.out _ e.symm; omega)).trans (blk_below (below_alloc w4 _) HY4.out)) (by omega))
                      clear bx5 hown5 hg5
                      refine hK.out _ _ (trivial) (fun hHeld => ?_)
                      clear hK K
                      try simp only [List.getElem_toArray, List.getElem_cons_zero, List.getElem_cons_succ, Act.put, List.setIfInBounds_toArray, List.set_cons_zero, List.set_cons_succ]
                      refine wpAnyH_take (i := 9) (v := ?_) rfl (by kernel_rfl) (by kernel_rfl) (by kernel_rfl) (fun _ _ _ h => h) (Or.inl ⟨by rfl, ?_⟩) hHeld ?_
                      rotate_left
                      · intro w hSw
                        (try dsimp only at hSw)
                        go_simp
                        try with_reducible rfl
                      try simp only [List.getElem_toArray, List.getElem_cons_zero, List.getElem_cons_succ, Act.put, List.setIfInBounds_toArray, List.set_cons_zero, List.set_cons_succ]
                      refine wpAnyH_ready (rs := [10]) (by kernel_rfl) (by simp) ?_
                      refine AllReadyH.cons rfl (fun K hK => ?_) ?_
                      · skip
                        go_simp
                        refine hK.out _ _ (trivial) (fun hHeld => ?_)
                        clear hK K
                        try simp only [List.getElem_toArray, List.getElem_cons_zero, List.getElem_cons_succ, Act.put, List.setIfInBounds_toArray, List.set_cons_zero, List.set_cons_succ]
                        refine wpAnyH_done (by kernel_rfl) ?_ _
                        clear b0 b0'
                        obtain ⟨W5, hW5⟩ : ∃ W, w5.setCell ⟨w.heap.size + 2, 0, none⟩ (.slice A5 (xs.length + 1) c5) = W := ⟨_, rfl⟩
                        have hlen5 : (xs ++ [(⟨⟨row, t⟩, K1, d1⟩ : ItX)]).length = xs.length + 1 := by simp
                        obtain ⟨xz, hxz⟩ : ∃ z : List ItX, xs ++ [(⟨⟨row, t⟩, K1, d1⟩ : ItX)] = z := ⟨_, rfl⟩
                        rw [hxz] at hlen5
                        have HXZ := Lib.hid hxz
                        have HLEN5 := Lib.hid hlen5
                        clear hlen5
                        have HL := HF5
                        rw [hW5, hxz] at HL
                        have HYc := HY5
                        rw [hW5] at HYc
                        rw [hW5]
                        clear hxz hW5
                        have b0 := blk_cell (o := 0) HL.out.box rfl
                        rw [HLEN5.out] at b0
                        have b0' : W5.cell? ⟨w.heap.size + 1 + 1, 0, none⟩ = some (.slice A5 (xs.length + 1) c5) := b0
                        have y0 := blk_cell (o := 0) HYc.out rfl
                        have y1 := blk_cell (o := 1) HYc.out rfl
                        have l6 : w.heap.size + 2 < W5.heap.size := blk_lt HL.out.box
                        have l7 : gx < W5.heap.size := blk_lt HYc.out
                        go_wp2_with (first
                          | (at_builtin
                             refine wpList_append_any _ rfl (.tmp 60) (.tmp 62) 27 rfl (w.heap.size + 3) 54 i0 _ 2 32 Try.underlying27 hi hz0 hz1 hz2 rfl (by decide) (.slice A5 (xs.length + 1) c5) (xs.length + 1) (ixCells xz) rfl (by rw [← HLEN5.out]; exact own_below HL.out.row (below_alloc _ _)) (some ⟨W5.heap.size, 0, none⟩) 1 1 [.slice Kk xr.length ck, .int .i64 xt] rfl (rd_new2 W5 _ _ _) (by intro u hu; simp at hu; rcases hu with rfl | rfl <;> rfl) (by unfold maxLen; omega) (by omega) (by simp; omega) ?_
                             intro v1 w7 hown7 hg7 _
                             obtain ⟨A7, c7, rfl, _, _⟩ := own_slice hown7
                             rw [← HLEN5.out] at hown7 hg7
                             have HF := Lib.hid (HL.out.push (p := ⟨xr, xt⟩) (.inl HRK.out) hown7 hg7)
                             have bx7 := (hg7.block _ (by simp; omega) (fun e => by have := (HL.out.row.lt _ e.symm).1; omega)).trans (blk_below (below_alloc W5 _) HL.out.box)
                             rw [HLEN5.out] at bx7
                             have f7 : w7.frozen? ⟨w.heap.size + 2, 0, none⟩ = false := frozen_of_row w7 _ 0 _ _ bx7
                             have e7 : w7.cell? ⟨w.heap.size + 2, 0, none⟩ = some (.slice A5 (xs.length + 1) c5) := blk_cell (o := 0) bx7 rfl
                             clear bx7 hown7 hg7))
                        go_roundw
                        case rel => exact ⟨k + 1, true, xz ++ [⟨⟨xr, xt⟩, Kk, ck⟩], A7, c7, by omega, by go_num, rfl, by have := HLEN5.out; simp; try omega, Lib.hid (by rw [List.map_append]; exact (by have := HI.out.less hlt EX.out HE.out HLS.out; rw [← HXZ.out, List.map_append]; exact this)), by have := HF.out; rw [HLEN5.out] at this; simpa using this⟩
                        case measure => simp [intOf]; omega
                      exact AllReadyH.nil
                    exact AllReadyH.nil
                  exact AllReadyH.nil
                refine AllReadyH.cons rfl (fun K hK => ?_) ?_
                · skip
                  go_simp
                  refine hK.out _ _ (trivial) (fun hHeld => ?_)
                  clear hK K
                  try simp only [List.getElem_toArray, List.getElem_cons_zero, List.getElem_cons_succ, Act.put, List.setIfInBounds_toArray, List.set_cons_zero, List.set_cons_succ]
                  refine wpAnyH_ready (rs := [1]) (by kernel_rfl) (by simp) ?_
                  refine AllReadyH.cons rfl (fun K hK => ?_) ?_
                  · skip
                    go_simp
                    refine hK.out _ _ (trivial) (fun hHeld => ?_)
                    clear hK K
                    try simp only [List.getElem_toArray, List.getElem_cons_zero, List.getElem_cons_succ, Act.put, List.setIfInBounds_toArray, List.set_cons_zero, List.set_cons_succ]
                    refine wpAnyH_ready (rs := [8]) (by kernel_rfl) (by simp) ?_
                    refine AllReadyH.cons rfl (fun K hK => ?_) ?_
                    · skip
                      refine step_append_any _ rfl (.tmp 50) (.tmp 56) 27 rfl (w.heap.size + 3) 54 i0 _ 2 32 Try.underlying27 hi hz0 hz1 hz2 rfl (by decide) (.slice A xs.length c) xs.length (ixCells xs) rfl (own_below HL4.out.row (below_alloc _ _)) (some ⟨w4.heap.size, 0, none⟩) 1 1 [.slice K1 row.length d1, .int .i64 t] rfl (rd_new2 w4 _ _ _) (by intro u hu; simp at hu; rcases hu with rfl | rfl <;> rfl) (by unfold maxLen; omega) (by omega) (by simp; omega) ?_
                      intro v1 w5 hown5 hg5 _
                      obtain ⟨A5, c5, rfl, _, _⟩ := own_slice hown5
                      have HF5 := Lib.hid (HL4.out.push (p := ⟨row, t⟩) (.inr HO4.out) hown5 hg5)
                      have bx5 := (hg5.block _ (by simp; omega) (fun e => by have := (HL4.out.row.lt _ e.symm).1; omega)).trans (blk_below (below_alloc w4 _) HL4.out.box)
                      have f5 : w5.frozen? ⟨w.heap.size + 2, 0, none⟩ = false := frozen_of_row w5 _ 0 _ _ bx5
                      have e5 : w5.cell? ⟨w.heap.size + 2, 0, none⟩ = some (.slice A xs.length c) := blk_cell (o := 0) bx5 rfl
                      have HY5 := Lib.hid (blk_set_ne (g' := w.heap.size + 2) (j := 0) (u := .slice A5 (xs.length + 1) c5) ((hg5.block gx (by have := blk_lt HY4.out; simp; omega) (fun e => by have := HAX.out _ e.symm; omega)).trans (blk_below (below_alloc w4 _) HY4.out)) (by omega))
                      clear bx5 hown5 hg5
                      refine hK.out _ _ (trivial) (fun hHeld => ?_)
                      clear hK K
                      try simp only [List.getElem_toArray, List.getElem_cons_zero, List.getElem_cons_succ, Act.put, List.setIfInBounds_toArray, List.set_cons_zero, List.set_cons_succ]
                      refine wpAnyH_take (i := 9) (v := ?_) rfl (by kernel_rfl) (by kernel_rfl) (by kernel_rfl) (fun _ _ _ h => h) (Or.inl ⟨by rfl, ?_⟩) hHeld ?_
                      rotate_left
                      · intro w hSw
                        (try dsimp only at hSw)
                        go_simp
                        try with_reducible rfl
                      try simp only [List.getElem_toArray, List.getElem_cons_zero, List.getElem_cons_succ, Act.put, List.setIfInBounds_toArray, List.set_cons_zero, List.set_cons_succ]
                      refine wpAnyH_ready (rs := [10]) (by kernel_rfl) (by simp) ?_
                      refine AllReadyH.cons rfl (fun K hK => ?_) ?_
                      · skip
                        go_simp
                        refine hK.out _ _ (trivial) (fun hHeld => ?_)
                        clear hK K
                        try simp only [List.getElem_toArray, List.getElem_cons_zero, List.getElem_cons_succ, Act.put, List.setIfInBounds_toArray, List.set_cons_zero, List.set_cons_succ]
                        refine wpAnyH_done (by kernel_rfl) ?_ _
                        clear b0 b0'
                        obtain ⟨W5, hW5⟩ : ∃ W, w5.setCell ⟨w.heap.size + 2, 0, none⟩ (.slice A5 (xs.length + 1) c5) = W := ⟨_, rfl⟩
                        have hlen5 : (xs ++ [(⟨⟨row, t⟩, K1, d1⟩ : ItX)]).length = xs.length + 1 := by simp
                        obtain ⟨xz, hxz⟩ : ∃ z : List ItX, xs ++ [(⟨⟨row, t⟩, K1, d1⟩ : ItX)] = z := ⟨_, rfl⟩
                        rw [hxz] at hlen5
                        have HXZ := Lib.hid hxz
                        have HLEN5 := Lib.hid hlen5
                        clear hlen5
                        have HL := HF5
                        rw [hW5, hxz] at HL
                        have HYc := HY5
                        rw [hW5] at HYc
                        rw [hW5]
                        clear hxz hW5
                        have b0 := blk_cell (o := 0) HL.out.box rfl
                        rw [HLEN5.out] at b0
                        have b0' : W5.cell? ⟨w.heap.size + 1 + 1, 0, none⟩ = some (.slice A5 (xs.length + 1) c5) := b0
                        have y0 := blk_cell (o := 0) HYc.out rfl
                        have y1 := blk_cell (o := 1) HYc.out rfl
                        have l6 : w.heap.size + 2 < W5.heap.size := blk_lt HL.out.box
                        have l7 : gx < W5.heap.size := blk_lt HYc.out
                        go_wp2_with (first
                          | (at_builtin
                             refine wpList_append_any _ rfl (.tmp 60) (.tmp 62) 27 rfl (w.heap.size + 3) 54 i0 _ 2 32 Try.underlying27 hi hz0 hz1 hz2 rfl (by decide) (.slice A5 (xs.length + 1) c5) (xs.length + 1) (ixCells xz) rfl (by rw [← HLEN5.out]; exact own_below HL.out.row (below_alloc _ _)) (some ⟨W5.heap.size, 0, none⟩) 1 1 [.slice Kk xr.length ck, .int .i64 xt] rfl (rd_new2 W5 _ _ _) (by intro u hu; simp at hu; rcases hu with rfl | rfl <;> rfl) (by unfold maxLen; omega) (by omega) (by simp; omega) ?_
                             intro v1 w7 hown7 hg7 _
                             obtain ⟨A7, c7, rfl, _, _⟩ := own_slice hown7
                             rw [← HLEN5.out] at hown7 hg7
                             have HF := Lib.hid (HL.out.push (p := ⟨xr, xt⟩) (.inl HRK.out) hown7 hg7)
                             have bx7 := (hg7.block _ (by simp; omega) (fun e => by have := (HL.out.row.lt _ e.symm).1; omega)).trans (blk_below (below_alloc W5 _) HL.out.box)
                             rw [HLEN5.out] at bx7
                             have f7 : w7.frozen? ⟨w.heap.size + 2, 0, none⟩ = false := frozen_of_row w7 _ 0 _ _ bx7
                             have e7 : w7.cell? ⟨w.heap.size + 2, 0, none⟩ = some (.slice A5 (xs.length + 1) c5) := blk_cell (o := 0) bx7 rfl
                             clear bx7 hown7 hg7))
                        go_roundw
                        case rel => exact ⟨k + 1, true, xz ++ [⟨⟨xr, xt⟩, Kk, ck⟩], A7, c7, by omega, by go_num, rfl, by have := HLEN5.out; simp; try omega, Lib.hid (by rw [List.map_append]; exact (by have := HI.out.less hlt EX.out HE.out HLS.out; rw [← HXZ.out, List.map_append]; exact this)), by have := HF.out; rw [HLEN5.out] at this; simpa using this⟩
                        case measure => simp [intOf]; omega
                      exact AllReadyH.nil
                    exact AllReadyH.nil
                  exact AllReadyH.nil
                exact AllReadyH.nil
              exact AllReadyH.nil
            exact AllReadyH.nil
      · have hxl1 : xs.length ≤ k + 1 := by simpa using hxl
        have b0 := blk_cell (o := 0) HL.out.box rfl
        have b0' : W1.cell? ⟨w.heap.size + 1 + 1, 0, none⟩ = some (.slice A (xs.length) c) := b0
        have y0 := blk_cell (o := 0) HYc.out rfl
        have y1 := blk_cell (o := 1) HYc.out rfl
        have l6 : w.heap.size + 2 < W1.heap.size := blk_lt HL.out.box
        have l7 : gx < W1.heap.size := blk_lt HYc.out
        go_wp2_with (first
          | (at_builtin
             refine wpList_append_any _ rfl (.tmp 60) (.tmp 62) 27 rfl (w.heap.size + 3) 54 i0 _ 2 32 Try.underlying27 hi hz0 hz1 hz2 rfl (by decide) (.slice A (xs.length) c) (xs.length) (ixCells xs) rfl (own_below HL.out.row (below_alloc _ _)) (some ⟨W1.heap.size, 0, none⟩) 1 1 [.slice Kk xr.length ck, .int .i64 xt] rfl (rd_new2 W1 _ _ _) (by intro u hu; simp at hu; rcases hu with rfl | rfl <;> rfl) (by unfold maxLen; omega) (by omega) (by simp; omega) ?_
             intro v1 w7 hown7 hg7 _
             obtain ⟨A7, c7, rfl, _, _⟩ := own_slice hown7
             have HF := Lib.hid (HL.out.push (p := ⟨xr, xt⟩) (.inl HRK.out) hown7 hg7)
             have bx7 := (hg7.block _ (by simp; omega) (fun e => by have := (HL.out.row.lt _ e.symm).1; omega)).trans (blk_below (below_alloc W1 _) HL.out.box)
             have f7 : w7.frozen? ⟨w.heap.size + 2, 0, none⟩ = false := frozen_of_row w7 _ 0 _ _ bx7
             have e7 : w7.cell? ⟨w.heap.size + 2, 0, none⟩ = some (.slice A (xs.length) c) := blk_cell (o := 0) bx7 rfl
             clear bx7 hown7 hg7))
        go_roundw
        case rel => exact ⟨k + 1, true, xs ++ [⟨⟨xr, xt⟩, Kk, ck⟩], A7, c7, by omega, by go_num, rfl, by simp; try omega, Lib.hid (by rw [List.map_append]; exact (HI.out.on hlt EX.out)), by simpa using HF.out⟩
        case measure => simp [intOf]; omega
    · obtain rfl : k = ps.length := by omega
      have hI := HI.out
      unfold LInv at hI
      rw [List.drop_length] at hI
      have HL := Lib.hid hlp
      clear hlp
      cases b
      · have hlp2 : lput ps row t = xs.map ItX.p ++ [⟨row, t⟩] := hI
        have HLPT := Lib.hid hlp2
        clear hI hlp2
        have b0 := blk_cell (o := 0) HL.out.box rfl
        have b0' : wr.cell? ⟨w.heap.size + 1 + 1, 0, none⟩ = some (.slice A xs.length c) := b0
        have l0 : w.heap.size + 2 < wr.heap.size := blk_lt HL.out.box
        have l0' : w.heap.size + 1 + 1 < wr.heap.size := l0
        have HE0 : Hid ((wr.drew.alloc (.cells #[] 3)).ownsRow wr.heap.size 3 1 (.slice (some ⟨wr.heap.size, 0, none⟩) 0 0) 0 []) := Lib.hid (World.ownsRow_made wr.drew #[] 0 (Nat.le_refl _) (by unfold maxLen; omega) rfl)
        have HYD : Hid (RdI wr.drew E row.length row) := Lib.hid (HY.out.below HL.out.bel : RdI wr E row.length row)
        have hxl2 : xs.length ≤ ps.length := by simpa using hxl
        go_upto_region 17 with fail
        refine wp_region_held_drew (S := fun _ => True) (by kernel_rfl) (trivial) (fun hHeld => ?_)
        refine wpAnyH_take (i := 0) (v := ?_) rfl (by kernel_rfl) (by kernel_rfl) (by kernel_rfl) (fun _ _ _ h => h) (Or.inl ⟨by rfl, ?_⟩) hHeld ?_
        rotate_left
        · intro w hSw
          (try dsimp only at hSw)
          go_simp
          try with_reducible rfl
        try simp only [List.getElem_toArray, List.getElem_cons_zero, Act.put, List.setIfInBounds_toArray, List.set_cons_zero, List.set_cons_succ]
        refine wpAnyH_take (i := 3) (v := ?_) rfl (by kernel_rfl) (by kernel_rfl) (by kernel_rfl) (fun _ _ _ h => h) (Or.inl ⟨by rfl, ?_⟩) hHeld ?_
        rotate_left
        · intro w hSw
          (try dsimp only at hSw)
          go_simp
          try with_reducible rfl
        try simp only [List.getElem_toArray, List.getElem_cons_zero, List.getElem_cons_succ, Act.put, List.setIfInBounds_toArray, List.set_cons_zero, List.set_cons_succ]
        refine wpAnyH_take (i := 5) (v := ?_) rfl (by kernel_rfl) (by kernel_rfl) (by kernel_rfl) (fun _ _ _ h => h) (Or.inl ⟨by rfl, ?_⟩) hHeld ?_
        rotate_left
        · intro w hSw
          (try dsimp only at hSw)
          go_simp
          try with_reducible rfl
        try simp only [List.getElem_toArray, List.getElem_cons_zero, List.getElem_cons_succ, Act.put, List.setIfInBounds_toArray, List.set_cons_zero, List.set_cons_succ]
        refine wpAnyH_ready (rs := [1, 2]) (by kernel_rfl) (by simp) ?_
        refine AllReadyH.cons rfl (fun K hK => ?_) ?_
        · skip
          go_simp
          refine hK.out _ _ (trivial) (fun hHeld => ?_)
          clear hK K
          try simp only [List.getElem_toArray, List.getElem_cons_zero, List.getElem_cons_succ, Act.put, List.setIfInBounds_toArray, List.set_cons_zero, List.set_cons_succ]
          refine wpAnyH_ready (rs := [2]) (by kernel_rfl) (by simp) ?_
          refine AllReadyH.cons rfl (fun K hK => ?_) ?_
          · skip
            go_simp
            refine hK.out _ _ (trivial) (fun hHeld => ?_)
            clear hK K
            try simp only [List.getElem_toArray, List.getElem_cons_zero, List.getElem_cons_succ, Act.put, List.setIfInBounds_toArray, List.set_cons_zero, List.set_cons_succ]
            refine wpAnyH_ready (rs := [4]) (by kernel_rfl) (by simp) ?_
            refine AllReadyH.cons rfl (fun K hK => ?_) ?_
            · skip
              refine step_append_any _ rfl (.tmp 69) (.tmp 70) 40 rfl wr.heap.size 3 j0 _ 1 8 Try.underlying40 hj jz0 jz1 jz2 rfl (by decide) (.slice (some ⟨wr.heap.size, 0, none⟩) 0 0) 0 [] rfl HE0.out E row.length m (row.map (Value.int .i64)) rfl (RdI.alloc HYD.out _) (oneCell_ints row .i64) (by unfold maxLen; omega) (by omega) (by simp) ?_
              intro v1 w4 hown4 hg4 _
              rw [Nat.zero_add, List.nil_append] at hown4
              obtain ⟨K1, d1, rfl, _, _⟩ := own_slice hown4
              have hb4 : Below wr.heap.size wr w4 := ((Below.refl _ _).drew).trans (((Below.refl wr.drew.heap.size wr.drew).alloc (Nat.le_refl _) _).grown hg4 (by simp) (fun r hr => by cases hr; exact Nat.le_refl _))
              have hL4 := HL.out.keep hb4
              have d0 := blk_cell (o := 0) hL4.box rfl
              have d0' : w4.cell? ⟨w.heap.size + 1 + 1, 0, none⟩ = some (.slice A xs.length c) := d0
              have l4 : w.heap.size + 1 + 1 < w4.heap.size := blk_lt hL4.box
              have HL4 := Lib.hid hL4
              have HO4 := Lib.hid (own_mono hown4 (by have := HL.out.sz; omega) : w4.ownsRow (w.heap.size + 3) 3 1 (.slice K1 row.length d1) row.length (row.map (Value.int .i64)))
              clear hown4 hb4 hL4 hg4
              refine hK.out _ _ (trivial) (fun hHeld => ?_)
              clear hK K
              try simp only [List.getElem_toArray, List.getElem_cons_zero, List.getElem_cons_succ, Act.put, List.setIfInBounds_toArray, List.set_cons_zero, List.set_cons_succ]
              refine wpAnyH_take (i := 6) (v := ?_) rfl (by kernel_rfl) (by kernel_rfl) (by kernel_rfl) (fun _ _ _ h => h) (Or.inl ⟨by rfl, ?_⟩) hHeld ?_
              rotate_left
              · intro w hSw
                (try dsimp only at hSw)
                go_simp
                try with_reducible rfl
              try simp only [List.getElem_toArray, List.getElem_cons_zero, List.getElem_cons_succ, Act.put, List.setIfInBounds_toArray, List.set_cons_zero, List.set_cons_succ]
              refine wpAnyH_ready (rs := [7]) (by kernel_rfl) (by simp) ?_
              refine AllReadyH.cons rfl (fun K hK => ?_) ?_
              · skip
                go_simp
                refine hK.out _ _ (trivial) (fun hHeld => ?_)
                clear hK K
                try simp only [List.getElem_toArray, List.getElem_cons_zero, List.getElem_cons_succ, Act.put, List.setIfInBounds_toArray, List.set_cons_zero, List.set_cons_succ]
                refine wpAnyH_ready (rs := [8]) (by kernel_rfl) (by simp) ?_
                refine AllReadyH.cons rfl (fun K hK => ?_) ?_
                · skip
                  refine step_append_any _ rfl (.tmp 68) (.tmp 74) 27 rfl (w.heap.size + 3) 54 i0 _ 2 32 Try.underlying27 hi hz0 hz1 hz2 rfl (by decide) (.slice A xs.length c) xs.length (ixCells xs) rfl (own_below HL4.out.row (below_alloc _ _)) (some ⟨w4.heap.size, 0, none⟩) 1 1 [.slice K1 row.length d1, .int .i64 t] rfl (rd_new2 w4 _ _ _) (by intro u hu; simp at hu; rcases hu with rfl | rfl <;> rfl) (by unfold maxLen; omega) (by omega) (by simp; omega) ?_
                  intro v1 w5 hown5 hg5 _
                  obtain ⟨A5, c5, rfl, _, _⟩ := own_slice hown5
                  have HF5 := Lib.hid (HL4.out.push (p := ⟨row, t⟩) (.inr HO4.out) hown5 hg5)
                  have bx5 := (hg5.block _ (by simp; omega) (fun e => by have := (HL4.out.row.lt _ e.symm).1; omega)).trans (blk_below (below_alloc w4 _) HL4.out.box)
                  have f5 : w5.frozen? ⟨w.heap.size + 2, 0, none⟩ = false := frozen_of_row w5 _ 0 _ _ bx5
                  have e5 : w5.cell? ⟨w.heap.size + 2, 0, none⟩ = some (.slice A xs.length c) := blk_cell (o := 0) bx5 rfl
                  clear bx5 hown5 hg5
                  refine hK.out _ _ (trivial) (fun hHeld => ?_)
                  clear hK K
                  try simp only [List.getElem_toArray, List.getElem_cons_zero, List.getElem_cons_succ, Act.put, List.setIfInBounds_toArray, List.set_cons_zero, List.set_cons_succ]
                  refine wpAnyH_take (i := 9) (v := ?_) rfl (by kernel_rfl) (by kernel_rfl) (by kernel_rfl) (fun _ _ _ h => h) (Or.inl ⟨by rfl, ?_⟩) hHeld ?_
                  rotate_left
                  · intro w hSw
                    (try dsimp only at hSw)
                    go_simp
                    try with_reducible rfl
                  try simp only [List.getElem_toArray, List.getElem_cons_zero, List.getElem_cons_succ, Act.put, List.setIfInBounds_toArray, List.set_cons_zero, List.set_cons_succ]
                  refine wpAnyH_ready (rs := [10]) (by kernel_rfl) (by simp) ?_
                  refine AllReadyH.cons rfl (fun K hK => ?_) ?_
                  · skip
                    go_simp
                    refine hK.out _ _ (trivial) (fun hHeld => ?_)
                    clear hK K
                    try simp only [List.getElem_toArray, List.getElem_cons_zero, List.getElem_cons_succ, Act.put, List.setIfInBounds_toArray, List.set_cons_zero, List.set_cons_succ]
                    refine wpAnyH_done (by kernel_rfl) ?_ _
                    clear b0 b0'
                    obtain ⟨W5, hW5⟩ : ∃ W, w5.setCell ⟨w.heap.size + 2, 0, none⟩ (.slice A5 (xs.length + 1) c5) = W := ⟨_, rfl⟩
                    have hlen5 : (xs ++ [(⟨⟨row, t⟩, K1, d1⟩ : ItX)]).length = xs.length + 1 := by simp
                    obtain ⟨xz, hxz⟩ : ∃ z : List ItX, xs ++ [(⟨⟨row, t⟩, K1, d1⟩ : ItX)] = z := ⟨_, rfl⟩
                    rw [hxz] at hlen5
                    have HXZ := Lib.hid hxz
                    have HLEN5 := Lib.hid hlen5
                    clear hlen5
                    have HL := HF5
                    rw [hW5, hxz] at HL
                    rw [hW5]
                    clear hxz hW5
                    have b0 := blk_cell (o := 0) HL.out.box rfl
                    have o0 := blk_cell (o := 0) HL.out.out rfl
                    have f1 : W5.frozen? ⟨w.heap.size + 1, 0, none⟩ = false := frozen_of_row W5 _ 0 _ _ HL.out.out
                    go_wp2
                    refine bodyPost_ret (v := .agg #[.slice A5 xz.length c5]) (by simp [results, Try.results61, go_sem, o0]) rfl (HL.out.made (by rw [← HXZ.out, HLPT.out]; simp))
                  exact AllReadyH.nil
                exact AllReadyH.nil
              exact AllReadyH.nil
            exact AllReadyH.nil
          exact AllReadyH.nil
        refine AllReadyH.cons rfl (fun K hK => ?_) ?_
        · skip
          go_simp
          refine hK.out _ _ (trivial) (fun hHeld => ?_)
          clear hK K
          try simp only [List.getElem_toArray, List.getElem_cons_zero, List.getElem_cons_succ, Act.put, List.setIfInBounds_toArray, List.set_cons_zero, List.set_cons_succ]
          refine wpAnyH_ready (rs := [1, 4]) (by kernel_rfl) (by simp) ?_
          refine AllReadyH.cons rfl (fun K hK => ?_) ?_
          · skip
            go_simp
            refine hK.out _ _ (trivial) (fun hHeld => ?_)
            clear hK K
            try simp only [List.getElem_toArray, List.getElem_cons_zero, List.getElem_cons_succ, Act.put, List.setIfInBounds_toArray, List.set_cons_zero, List.set_cons_succ]
            refine wpAnyH_ready (rs := [4]) (by kernel_rfl) (by simp) ?_
            refine AllReadyH.cons rfl (fun K hK => ?_) ?_
            · skip
              refine step_append_any _ rfl (.tmp 69) (.tmp 70) 40 rfl wr.heap.size 3 j0 _ 1 8 Try.underlying40 hj jz0 jz1 jz2 rfl (by decide) (.slice (some ⟨wr.heap.size, 0, none⟩) 0 0) 0 [] rfl HE0.out E row.length m (row.map (Value.int .i64)) rfl (RdI.alloc HYD.out _) (oneCell_ints row .i64) (by unfold maxLen; omega) (by omega) (by simp) ?_
              intro v1 w4 hown4 hg4 _
              rw [Nat.zero_add, List.nil_append] at hown4
              obtain ⟨K1, d1, rfl, _, _⟩ := own_slice hown4
              have hb4 : Below wr.heap.size wr w4 := ((Below.refl _ _).drew).trans (((Below.refl wr.drew.heap.size wr.drew).alloc (Nat.le_refl _) _).grown hg4 (by simp) (fun r hr => by cases hr; exact Nat.le_refl _))
              have hL4 := HL.out.keep hb4
              have d0 := blk_cell (o := 0) hL4.box rfl
              have d0' : w4.cell? ⟨w.heap.size + 1 + 1, 0, none⟩ = some (.slice A xs.length c) := d0
              have l4 : w.heap.size + 1 + 1 < w4.heap.size := blk_lt hL4.box
              have HL4 := Lib.hid hL4
              have HO4 := Lib.hid (own_mono hown4 (by have := HL.out.sz; omega) : w4.ownsRow (w.heap.size + 3) 3 1 (.slice K1 row.length d1) row.length (row.map (Value.int .i64)))
              clear hown4 hb4 hL4 hg4
              refine hK.out _ _ (trivial) (fun hHeld => ?_)
              clear hK K
              try simp only [List.getElem_toArray, List.getElem_cons_zero, List.getElem_cons_succ, Act.put, List.setIfInBounds_toArray, List.set_cons_zero, List.set_cons_succ]
              refine wpAnyH_take (i := 6) (v := ?_) rfl (by kernel_rfl) (by kernel_rfl) (by kernel_rfl) (fun _ _ _ h => h) (Or.inl ⟨by rfl, ?_⟩) hHeld ?_
              rotate_left
              · intro w hSw
                (try dsimp only at hSw)
                go_simp
                try with_reducible rfl
              try simp only [List.getElem_toArray, List.getElem_cons_zero, List.getElem_cons_succ, Act.put, List.setIfInBounds_toArray, List.set_cons_zero, List.set_cons_succ]
              refine wpAnyH_ready (rs := [7]) (by kernel_rfl) (by simp) ?_
              refine AllReadyH.cons rfl (fun K hK => ?_) ?_
              · skip
                go_simp
                refine hK.out _ _ (trivial) (fun hHeld => ?_)
                clear hK K
                try simp only [List.getElem_toArray, List.getElem_cons_zero, List.getElem_cons_succ, Act.put, List.setIfInBounds_toArray, List.set_cons_zero, List.set_cons_succ]
                refine wpAnyH_ready (rs := [8]) (by kernel_rfl) (by simp) ?_
                refine AllReadyH.cons rfl (fun K hK => ?_) ?_
                · skip
                  refine step_append_any _ rfl (.tmp 68) (.tmp 74) 27 rfl (w.heap.size + 3) 54 i0 _ 2 32 Try.underlying27 hi hz0 hz1 hz2 rfl (by decide) (.slice A xs.length c) xs.length (ixCells xs) rfl (own_below HL4.out.row (below_alloc _ _)) (some ⟨w4.heap.size, 0, none⟩) 1 1 [.slice K1 row.length d1, .int .i64 t] rfl (rd_new2 w4 _ _ _) (by intro u hu; simp at hu; rcases hu with rfl | rfl <;> rfl) (by unfold maxLen; omega) (by omega) (by simp; omega) ?_
                  intro v1 w5 hown5 hg5 _
                  obtain ⟨A5, c5, rfl, _, _⟩ := own_slice hown5
                  have HF5 := Lib.hid (HL4.out.push (p := ⟨row, t⟩) (.inr HO4.out) hown5 hg5)
                  have bx5 := (hg5.block _ (by simp; omega) (fun e => by have := (HL4.out.row.lt _ e.symm).1; omega)).trans (blk_below (below_alloc w4 _) HL4.out.box)
                  have f5 : w5.frozen? ⟨w.heap.size + 2, 0, none⟩ = false := frozen_of_row w5 _ 0 _ _ bx5
                  have e5 : w5.cell? ⟨w.heap.size + 2, 0, none⟩ = some (.slice A xs.length c) := blk_cell (o := 0) bx5 rfl
                  clear bx5 hown5 hg5
                  refine hK.out _ _ (trivial) (fun hHeld => ?_)
                  clear hK K
                  try simp only [List.getElem_toArray, List.getElem_cons_zero, List.getElem_cons_succ, Act.put, List.setIfInBounds_toArray, List.set_cons_zero, List.set_cons_succ]
                  refine wpAnyH_take (i := 9) (v := ?_) rfl (by kernel_rfl) (by kernel_rfl) (by kernel_rfl) (fun _ _ _ h => h) (Or.inl ⟨by rfl, ?_⟩) hHeld ?_
                  rotate_left
                  · intro w hSw
                    (try dsimp only at hSw)
                    go_simp
                    try with_reducible rfl
                  try simp only [List.getElem_toArray, List.getElem_cons_zero, List.getElem_cons_succ, Act.put, List.setIfInBounds_toArray, List.set_cons_zero, List.set_cons_succ]
                  refine wpAnyH_ready (rs := [10]) (by kernel_rfl) (by simp) ?_
                  refine AllReadyH.cons rfl (fun K hK => ?_) ?_
                  · skip
                    go_simp
                    refine hK.out _ _ (trivial) (fun hHeld => ?_)
                    clear hK K
                    try simp only [List.getElem_toArray, List.getElem_cons_zero, List.getElem_cons_succ, Act.put, List.setIfInBounds_toArray, List.set_cons_zero, List.set_cons_succ]
                    refine wpAnyH_done (by kernel_rfl) ?_ _
                    clear b0 b0'
                    obtain ⟨W5, hW5⟩ : ∃ W, w5.setCell ⟨w.heap.size + 2, 0, none⟩ (.slice A5 (xs.length + 1) c5) = W := ⟨_, rfl⟩
                    have hlen5 : (xs ++ [(⟨⟨row, t⟩, K1, d1⟩ : ItX)]).length = xs.length + 1 := by simp
                    obtain ⟨xz, hxz⟩ : ∃ z : List ItX, xs ++ [(⟨⟨row, t⟩, K1, d1⟩ : ItX)] = z := ⟨_, rfl⟩
                    rw [hxz] at hlen5
                    have HXZ := Lib.hid hxz
                    have HLEN5 := Lib.hid hlen5
                    clear hlen5
                    have HL := HF5
                    rw [hW5, hxz] at HL
                    rw [hW5]
                    clear hxz hW5
                    have b0 := blk_cell (o := 0) HL.out.box rfl
                    have o0 := blk_cell (o := 0) HL.out.out rfl
                    have f1 : W5.frozen? ⟨w.heap.size + 1, 0, none⟩ = false := frozen_of_row W5 _ 0 _ _ HL.out.out
                    go_wp2
                    refine bodyPost_ret (v := .agg #[.slice A5 xz.length c5]) (by simp [results, Try.results61, go_sem, o0]) rfl (HL.out.made (by rw [← HXZ.out, HLPT.out]; simp))
                  exact AllReadyH.nil
                exact AllReadyH.nil
              exact AllReadyH.nil
            exact AllReadyH.nil
          refine AllReadyH.cons rfl (fun K hK => ?_) ?_
          · skip
            refine step_append_any _ rfl (.tmp 69) (.tmp 70) 40 rfl wr.heap.size 3 j0 _ 1 8 Try.underlying40 hj jz0 jz1 jz2 rfl (by decide) (.slice (some ⟨wr.heap.size, 0, none⟩) 0 0) 0 [] rfl HE0.out E row.length m (row.map (Value.int .i64)) rfl (RdI.alloc HYD.out _) (oneCell_ints row .i64) (by unfold maxLen; omega) (by omega) (by simp) ?_
            intro v1 w4 hown4 hg4 _
            rw [Nat.zero_add, List.nil_append] at hown4
            obtain ⟨K1, d1, rfl, _, _⟩ := own_slice hown4
            have hb4 : Below wr.heap.size wr w4 := ((Below.refl _ _).drew).trans (((Below.refl wr.drew.heap.size wr.drew).alloc (Nat.le_refl _) _).grown hg4 (by simp) (fun r hr => by cases hr; exact Nat.le_refl _))
            have hL4 := HL.out.keep hb4
            have d0 := blk_cell (o := 0) hL4.box rfl
            have d0' : w4.cell? ⟨w.heap.size + 1 + 1, 0, none⟩ = some (.slice A xs.length c) := d0
            have l4 : w.heap.size + 1 + 1 < w4.heap.size := blk_lt hL4.box
            have HL4 := Lib.hid hL4
            have HO4 := Lib.hid (own_mono hown4 (by have := HL.out.sz; omega) : w4.ownsRow (w.heap.size + 3) 3 1 (.slice K1 row.length d1) row.length (row.map (Value.int .i64)))
            clear hown4 hb4 hL4 hg4
            refine hK.out _ _ (trivial) (fun hHeld => ?_)
            clear hK K
            try simp only [List.getElem_toArray, List.getElem_cons_zero, List.getElem_cons_succ, Act.put, List.setIfInBounds_toArray, List.set_cons_zero, List.set_cons_succ]
            refine wpAnyH_take (i := 6) (v := ?_) rfl (by kernel_rfl) (by kernel_rfl) (by kernel_rfl) (fun _ _ _ h => h) (Or.inl ⟨by rfl, ?_⟩) hHeld ?_
            rotate_left
            · intro w hSw
              (try dsimp only at hSw)
              go_simp
              try with_reducible rfl
            try simp only [List.getElem_toArray, List.getElem_cons_zero, List.getElem_cons_succ, Act.put, List.setIfInBounds_toArray, List.set_cons_zero, List.set_cons_succ]
            refine wpAnyH_ready (rs := [1, 7]) (by kernel_rfl) (by simp) ?_
            refine AllReadyH.cons rfl (fun K hK => ?_) ?_
            · skip
              go_simp
              refine hK.out _ _ (trivial) (fun hHeld => ?_)
              clear hK K
              try simp only [List.getElem_toArray, List.getElem_cons_zero, List.getElem_cons_succ, Act.put, List.setIfInBounds_toArray, List.set_cons_zero, List.set_cons_succ]
              refine wpAnyH_ready (rs := [7]) (by kernel_rfl) (by simp) ?_
              refine AllReadyH.cons rfl (fun K hK => ?_) ?_
              · skip
                go_simp
                refine hK.out _ _ (trivial) (fun hHeld => ?_)
                clear hK K
                try simp only [List.getElem_toArray, List.getElem_cons_zero, List.getElem_cons_succ, Act.put, List.setIfInBounds_toArray, List.set_cons_zero, List.set_cons_succ]
                refine wpAnyH_ready (rs := [8]) (by kernel_rfl) (by simp) ?_
                refine AllReadyH.cons rfl (fun K hK => ?_) ?_
                · skip
                  refine step_append_any _ rfl (.tmp 68) (.tmp 74) 27 rfl (w.heap.size + 3) 54 i0 _ 2 32 Try.underlying27 hi hz0 hz1 hz2 rfl (by decide) (.slice A xs.length c) xs.length (ixCells xs) rfl (own_below HL4.out.row (below_alloc _ _)) (some ⟨w4.heap.size, 0, none⟩) 1 1 [.slice K1 row.length d1, .int .i64 t] rfl (rd_new2 w4 _ _ _) (by intro u hu; simp at hu; rcases hu with rfl | rfl <;> rfl) (by unfold maxLen; omega) (by omega) (by simp; omega) ?_
                  intro v1 w5 hown5 hg5 _
                  obtain ⟨A5, c5, rfl, _, _⟩ := own_slice hown5
                  have HF5 := Lib.hid (HL4.out.push (p := ⟨row, t⟩) (.inr HO4.out) hown5 hg5)
                  have bx5 := (hg5.block _ (by simp; omega) (fun e => by have := (HL4.out.row.lt _ e.symm).1; omega)).trans (blk_below (below_alloc w4 _) HL4.out.box)
                  have f5 : w5.frozen? ⟨w.heap.size + 2, 0, none⟩ = false := frozen_of_row w5 _ 0 _ _ bx5
                  have e5 : w5.cell? ⟨w.heap.size + 2, 0, none⟩ = some (.slice A xs.length c) := blk_cell (o := 0) bx5 rfl
                  clear bx5 hown5 hg5
                  refine hK.out _ _ (trivial) (fun hHeld => ?_)
                  clear hK K
                  try simp only [List.getElem_toArray, List.getElem_cons_zero, List.getElem_cons_succ, Act.put, List.setIfInBounds_toArray, List.set_cons_zero, List.set_cons_succ]
                  refine wpAnyH_take (i := 9) (v := ?_) rfl (by kernel_rfl) (by kernel_rfl) (by kernel_rfl) (fun _ _ _ h => h) (Or.inl ⟨by rfl, ?_⟩) hHeld ?_
                  rotate_left
                  · intro w hSw
                    (try dsimp only at hSw)
                    go_simp
                    try with_reducible rfl
                  try simp only [List.getElem_toArray, List.getElem_cons_zero, List.getElem_cons_succ, Act.put, List.setIfInBounds_toArray, List.set_cons_zero, List.set_cons_succ]
                  refine wpAnyH_ready (rs := [10]) (by kernel_rfl) (by simp) ?_
                  refine AllReadyH.cons rfl (fun K hK => ?_) ?_
                  · skip
                    go_simp
                    refine hK.out _ _ (trivial) (fun hHeld => ?_)
                    clear hK K
                    try simp only [List.getElem_toArray, List.getElem_cons_zero, List.getElem_cons_succ, Act.put, List.setIfInBounds_toArray, List.set_cons_zero, List.set_cons_succ]
                    refine wpAnyH_done (by kernel_rfl) ?_ _
                    clear b0 b0'
                    obtain ⟨W5, hW5⟩ : ∃ W, w5.setCell ⟨w.heap.size + 2, 0, none⟩ (.slice A5 (xs.length + 1) c5) = W := ⟨_, rfl⟩
                    have hlen5 : (xs ++ [(⟨⟨row, t⟩, K1, d1⟩ : ItX)]).length = xs.length + 1 := by simp
                    obtain ⟨xz, hxz⟩ : ∃ z : List ItX, xs ++ [(⟨⟨row, t⟩, K1, d1⟩ : ItX)] = z := ⟨_, rfl⟩
                    rw [hxz] at hlen5
                    have HXZ := Lib.hid hxz
                    have HLEN5 := Lib.hid hlen5
                    clear hlen5
                    have HL := HF5
                    rw [hW5, hxz] at HL
                    rw [hW5]
                    clear hxz hW5
                    have b0 := blk_cell (o := 0) HL.out.box rfl
                    have o0 := blk_cell (o := 0) HL.out.out rfl
                    have f1 : W5.frozen? ⟨w.heap.size + 1, 0, none⟩ = false := frozen_of_row W5 _ 0 _ _ HL.out.out
                    go_wp2
                    refine bodyPost_ret (v := .agg #[.slice A5 xz.length c5]) (by simp [results, Try.results61, go_sem, o0]) rfl (HL.out.made (by rw [← HXZ.out, HLPT.out]; simp))
                  exact AllReadyH.nil
                exact AllReadyH.nil
              exact AllReadyH.nil
            refine AllReadyH.cons rfl (fun K hK => ?_) ?_
            · skip
              go_simp
              refine hK.out _ _ (trivial) (fun hHeld => ?_)
              clear hK K
              try simp only [List.getElem_toArray, List.getElem_cons_zero, List.getElem_cons_succ, Act.put, List.setIfInBounds_toArray, List.set_cons_zero, List.set_cons_succ]
              refine wpAnyH_ready (rs := [1]) (by kernel_rfl) (by simp) ?_
              refine AllReadyH.cons rfl (fun K hK => ?_) ?_
              · skip
                go_simp
                refine hK.out _ _ (trivial) (fun hHeld => ?_)
                clear hK K
                try simp only [List.getElem_toArray, List.getElem_cons_zero, List.getElem_cons_succ, Act.put, List.setIfInBounds_toArray, List.set_cons_zero, List.set_cons_succ]
                refine wpAnyH_ready (rs := [8]) (by kernel_rfl) (by simp) ?_
                refine AllReadyH.cons rfl (fun K hK => ?_) ?_
                · skip
                  refine step_append_any _ rfl (.tmp 68) (.tmp 74) 27 rfl (w.heap.size + 3) 54 i0 _ 2 32 Try.underlying27 hi hz0 hz1 hz2 rfl (by decide) (.slice A xs.length c) xs.length (ixCells xs) rfl (own_below HL4.out.row (below_alloc _ _)) (some ⟨w4.heap.size, 0, none⟩) 1 1 [.slice K1 row.length d1, .int .i64 t] rfl (rd_new2 w4 _ _ _) (by intro u hu; simp at hu; rcases hu with rfl | rfl <;> rfl) (by unfold maxLen; omega) (by omega) (by simp; omega) ?_
                  intro v1 w5 hown5 hg5 _
                  obtain ⟨A5, c5, rfl, _, _⟩ := own_slice hown5
                  have HF5 := Lib.hid (HL4.out.push (p := ⟨row, t⟩) (.inr HO4.out) hown5 hg5)
                  have bx5 := (hg5.block _ (by simp; omega) (fun e => by have := (HL4.out.row.lt _ e.symm).1; omega)).trans (blk_below (below_alloc w4 _) HL4.out.box)
                  have f5 : w5.frozen? ⟨w.heap.size + 2, 0, none⟩ = false := frozen_of_row w5 _ 0 _ _ bx5
                  have e5 : w5.cell? ⟨w.heap.size + 2, 0, none⟩ = some (.slice A xs.length c) := blk_cell (o := 0) bx5 rfl
                  clear bx5 hown5 hg5
                  refine hK.out _ _ (trivial) (fun hHeld => ?_)
                  clear hK K
                  try simp only [List.getElem_toArray, List.getElem_cons_zero, List.getElem_cons_succ, Act.put, List.setIfInBounds_toArray, List.set_cons_zero, List.set_cons_succ]
                  refine wpAnyH_take (i := 9) (v := ?_) rfl (by kernel_rfl) (by kernel_rfl) (by kernel_rfl) (fun _ _ _ h => h) (Or.inl ⟨by rfl, ?_⟩) hHeld ?_
                  rotate_left
                  · intro w hSw
                    (try dsimp only at hSw)
                    go_simp
                    try with_reducible rfl
                  try simp only [List.getElem_toArray, List.getElem_cons_zero, List.getElem_cons_succ, Act.put, List.setIfInBounds_toArray, List.set_cons_zero, List.set_cons_succ]
                  refine wpAnyH_ready (rs := [10]) (by kernel_rfl) (by simp) ?_
                  refine AllReadyH.cons rfl (fun K hK => ?_) ?_
                  · skip
                    go_simp
                    refine hK.out _ _ (trivial) (fun hHeld => ?_)
                    clear hK K
                    try simp only [List.getElem_toArray, List.getElem_cons_zero, List.getElem_cons_succ, Act.put, List.setIfInBounds_toArray, List.set_cons_zero, List.set_cons_succ]
                    refine wpAnyH_done (by kernel_rfl) ?_ _
                    clear b0 b0'
                    obtain ⟨W5, hW5⟩ : ∃ W, w5.setCell ⟨w.heap.size + 2, 0, none⟩ (.slice A5 (xs.length + 1) c5) = W := ⟨_, rfl⟩
                    have hlen5 : (xs ++ [(⟨⟨row, t⟩, K1, d1⟩ : ItX)]).length = xs.length + 1 := by simp
                    obtain ⟨xz, hxz⟩ : ∃ z : List ItX, xs ++ [(⟨⟨row, t⟩, K1, d1⟩ : ItX)] = z := ⟨_, rfl⟩
                    rw [hxz] at hlen5
                    have HXZ := Lib.hid hxz
                    have HLEN5 := Lib.hid hlen5
                    clear hlen5
                    have HL := HF5
                    rw [hW5, hxz] at HL
                    rw [hW5]
                    clear hxz hW5
                    have b0 := blk_cell (o := 0) HL.out.box rfl
                    have o0 := blk_cell (o := 0) HL.out.out rfl
                    have f1 : W5.frozen? ⟨w.heap.size + 1, 0, none⟩ = false := frozen_of_row W5 _ 0 _ _ HL.out.out
                    go_wp2
                    refine bodyPost_ret (v := .agg #[.slice A5 xz.length c5]) (by simp [results, Try.results61, go_sem, o0]) rfl (HL.out.made (by rw [← HXZ.out, HLPT.out]; simp))
                  exact AllReadyH.nil
                exact AllReadyH.nil
              exact AllReadyH.nil
            exact AllReadyH.nil
          exact AllReadyH.nil
        exact AllReadyH.nil
      · have hlp2 : xs.map ItX.p = lput ps row t := by rw [hI]; simp
        have HLPT := Lib.hid hlp2
        clear hI hlp2
        have b0 := blk_cell (o := 0) HL.out.box rfl
        have o0 := blk_cell (o := 0) HL.out.out rfl
        have f1 : wr.frozen? ⟨w.heap.size + 1, 0, none⟩ = false := frozen_of_row wr _ 0 _ _ HL.out.out
        go_wp2
        refine bodyPost_ret (v := .agg #[.slice A xs.length c]) (by simp [results, Try.results61, go_sem, o0]) rfl (HL.out.made HLPT.out)
end Go.Proofs.Ytdikkfhdogkniaa
