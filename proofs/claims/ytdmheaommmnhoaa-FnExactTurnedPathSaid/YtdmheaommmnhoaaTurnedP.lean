/- impl.TurnedPath: copied, then the kids of each row reversed. Conditions: the sizes of the lengths. -/
import Derived.Test.YtdmheaommmnhoaaCopyP
import Derived.Test.YtdmheaommmnhoaaTurnPL
namespace Go.Proofs.Ytdmheaommmnhoaa
open Go.RowKit
set_option maxRecDepth 100000 in

set_option maxHeartbeats 6400000 in
theorem impl_TurnedPath_any (B : Option Addr) (d : Nat) (ps : List Pc) (w : World) (hx : RdP w B ps) (hn : ps.length ≤ 4294967296) (hk : ∀ p ∈ ps, p.k.length ≤ 4294967296) :
    Calls Try.prog 23 #[.agg #[.slice B ps.length d]] w (MadePath w (tuP ps)) := by
  have p1 := blk_below (below_alloc _ (.cells #[.slice none 0 0] 29)) (heap_alloc_new w (.cells #[.slice B ps.length d] 29))
  have p2 : ((w.alloc (.cells #[.slice B ps.length d] 29)).alloc (.cells #[.slice none 0 0] 29)).heap[w.heap.size + 1]? = some (.cells #[.slice none 0 0] 29 (0, 0)) := by
    have := heap_alloc_new (w.alloc (.cells #[.slice B ps.length d] 29)) (.cells #[.slice none 0 0] 29)
    simpa using this
  have B2 : Below w.heap.size w ((w.alloc (.cells #[.slice B ps.length d] 29)).alloc (.cells #[.slice none 0 0] 29)) := below_step (below_alloc _ _) (below_alloc _ _)
  have hs2 : ((w.alloc (.cells #[.slice B ps.length d] 29)).alloc (.cells #[.slice none 0 0] 29)).heap.size = w.heap.size + 2 := by simp
  obtain ⟨W, hW⟩ : ∃ W, (w.alloc (.cells #[.slice B ps.length d] 29)).alloc (.cells #[.slice none 0 0] 29) = W := ⟨_, rfl⟩
  rw [hW] at p1 p2 B2 hs2
  have a0 : W.cell? ⟨w.heap.size, 0, none⟩ = some (.slice B ps.length d) := blk_cell (w := W) (o := 0) p1 rfl
  have P1 := Lib.hid p1
  have P2 := Lib.hid p2
  have BW := Lib.hid B2
  have HS := Lib.hid hs2
  have HX := Lib.hid hx
  have HX1 := Lib.hid (hx.keep B2)
  have HK := Lib.hid hk
  have hsl : w.heap.size + 2 ≤ W.heap.size := by omega
  clear p1 p2 B2 hs2 hx hk
  go_enter Try.func23, Try.ntmps23
  go_wp2_with fail
  refine (copyPath_any B d ps W HX1.out hn HK.out).mono ?_
  clear hW
  rintro e w1 ⟨A, c, rfl, ho, k1⟩
  have ka := below_alloc w1 (.cells #[.slice A ps.length c] 29)
  have k1a := below_step k1 ka
  have P12 := Lib.hid (blk_below k1a P1.out)
  have P22 := Lib.hid (blk_below k1a P2.out)
  have B3 := Lib.hid (below_step BW.out k1a)
  have q := heap_alloc_new w1 (.cells #[.slice A ps.length c] 29)
  have O2 := Lib.hid (ho.keep ka)
  have hg1 := k1.size
  obtain ⟨g, hg⟩ : ∃ g, w1.heap.size = g := ⟨_, rfl⟩
  obtain ⟨W2, hW2⟩ : ∃ W, w1.alloc (.cells #[.slice A ps.length c] 29) = W := ⟨_, rfl⟩
  have hsl2 : g < W2.heap.size := by rw [← hW2, ← hg]; simp
  rw [hg] at q hg1
  rw [hW2] at q P12 P22 B3 O2
  have HX2 := Lib.hid (HX.out.keep B3.out)
  have Q := Lib.hid q
  have a0 : W2.cell? ⟨w.heap.size, 0, none⟩ = some (.slice B ps.length d) := blk_cell (o := 0) P12.out rfl
  clear ho k1 ka k1a q
  go_wp2_with fail
  clear hW2 hg
  refine (impl_PathOk_any B d ps W2 HX2.out hn HK.out).mono ?_
  rintro e w3 ⟨rfl, k3⟩
  have Q3 := Lib.hid (blk_below k3 Q.out)
  have P23 := Lib.hid (blk_below k3 P22.out)
  have B4 := Lib.hid (below_step B3.out k3)
  have O3 := Lib.hid (O2.out.keep k3)
  have hs3 := k3.size
  clear a0 k3
  by_cases hok : PaOk ps
  · rw [PP_yes hok]
    have HTU := Lib.hid (tuP_yes hok)
    clear hok
    have g0 := blk_cell (o := 0) Q3.out rfl
    go_wp2
    go_loopw [15] (fun i wr => ∃ (k : Nat) (xs : List PcX), k ≤ ps.length ∧ i = .int .i64 k ∧ xs.length ≤ ps.length ∧ ps.length ≤ xs.length ∧ Hid (xs.map PcX.p = (ps.take k).map tuPc ++ ps.drop k) ∧ OwnPx wr W.heap.size A c xs ∧ wr.heap[g]? = some (.cells #[.slice A ps.length c] 29 (0, 0)) ∧ wr.heap[w.heap.size + 1]? = some (.cells #[.slice none 0 0] 29 (0, 0)) ∧ Below w.heap.size w wr) (fun i _ => ps.length - (intOf i).toNat)
    case atStart =>
      obtain ⟨xs, hxs, hin⟩ := O3.out
      have hl : xs.length = ps.length := by rw [← hxs]; simp
      exact ⟨0, xs, Nat.zero_le _, rfl, by omega, by omega, Lib.hid (by simpa using hxs), hin, Q3.out, P23.out, B4.out⟩
    case round =>
      obtain ⟨k, xs, hk, rfl, hl1, hl2, HM, hin, hq, hp, hb⟩ := hrel
      clear g0
      by_cases hlt : k < ps.length
      · have hkx : k < xs.length := by omega
        have hxk : xs[k].p = ps[k] := by
          have : (xs.map PcX.p)[k]'(by simpa using hkx) = ps[k] := by
            simp only [HM.out]
            rw [List.getElem_append_right (by simp; omega)]
            simp [Nat.min_eq_left (Nat.le_of_lt hlt)]
          simpa using this
        obtain ⟨gA, cap, hv, _, _⟩ := hin.row.form (by omega)
        injection hv with e1 e2 e3
        subst e1 e3
        have hkid := hin.kids _ (List.getElem_mem hkx)
        have c0 := hin.row.cellAt (k * 3) (by omega)
        have c1 := hin.row.cellAt (k * 3 + 1) (by omega)
        have c2 := hin.row.cellAt (k * 3 + 2) (by omega)
        rw [(pxCells_at xs k hkx).1] at c0
        rw [(pxCells_at xs k hkx).2.1] at c1
        rw [(pxCells_at xs k hkx).2.2] at c2
        have hkl := HK.out _ (List.getElem_mem hlt)
        obtain ⟨x, hx⟩ : ∃ x, xs[k] = x := ⟨_, rfl⟩
        obtain ⟨y, hy⟩ : ∃ y, ps[k] = y := ⟨_, rfl⟩
        rw [hx] at hkid c0 c1 c2 hxk
        rw [hy] at hxk hkl
        obtain ⟨xp, K, kc⟩ := x
        simp only at hxk
        subst hxk
        simp only [PcX.v] at hkid c0 c1 c2
        have HIN := Lib.hid hin
        have HXX := Lib.hid hx
        have HY := Lib.hid hy
        have k0 : (0 : Int) ≤ (k : Int) := by omega
        have k1 : (k : Int) < (ps.length : Int) := by omega
        have ka := below_alloc wr (.cells #[.int .i64 xp.op, .int .u8 xp.l, .slice K xp.k.length kc] 79)
        have hin2 : OwnPx (wr.alloc (.cells #[.int .i64 xp.op, .int .u8 xp.l, .slice K xp.k.length kc] 79)) W.heap.size (some ⟨gA, 0, none⟩) c xs := ⟨own_below hin.row ka, fun x hx => own_below (hin.kids x hx) ka, hin.apart⟩
        have hk2 := own_below hkid ka
        have q2 := blk_below ka hq
        have p2 := blk_below ka hp
        have b2 := below_step hb ka
        have y1 := blk_cell (o := 0) (heap_alloc_new wr (.cells #[.int .i64 xp.op, .int .u8 xp.l, .slice K xp.k.length kc] 79)) rfl
        have y2 := blk_cell (o := 2) (heap_alloc_new wr (.cells #[.int .i64 xp.op, .int .u8 xp.l, .slice K xp.k.length kc] 79)) rfl
        have HIN2 := Lib.hid hin2
        have HK2 := Lib.hid hk2
        have HQ2 := Lib.hid q2
        have HP2 := Lib.hid p2
        have HB2 := Lib.hid b2
        clear hin hx hy hkid hin2 hk2 q2 p2 b2 hq hp hb ka
        by_cases hop : xp.op = 2
        · have o1 : (xp.op == 2) = true := by rw [hop]; rfl
          have o2 : decide (xp.op = 2) = true := decide_eq_true hop
          have HOP := Lib.hid hop
          clear hop
          go_wp2_with fail
          refine (slices_Reverse_own W.heap.size K kc xp.k _ HK2.out hkl).mono ?_
          rintro e w6 ⟨rfl, ho6, hg6⟩
          have hr := rev_piece HIN2.out k hkx HXX.out ho6 hg6
          have hlt1 : ∀ r, (Value.slice K xp.k.length kc).ownBlock = some r → W.heap.size ≤ r := fun r hr => (HK2.out.lt r hr).1
          have hne : ∀ b, b < W.heap.size → some b ≠ (Value.slice K xp.k.length kc).ownBlock := fun b hb e => by have := hlt1 b e.symm; omega
          have q6 : w6.heap[g]? = some (.cells #[.slice (some ⟨gA, 0, none⟩) ps.length c] 29 (0, 0)) := by
            refine (hg6.block g (blk_lt HQ2.out) ?_).trans HQ2.out
            intro e
            exact row_ne HK2.out HQ2.out (by decide) e.symm
          have p6 := (hg6.block _ (blk_lt HP2.out) (hne _ (by omega))).trans HP2.out
          have b6 := HB2.out.grown hg6 HB2.out.size (fun r hr => by have := hlt1 r hr; omega)
          have HR := Lib.hid hr
          have HQ6 := Lib.hid q6
          have HP6 := Lib.hid p6
          have HB6 := Lib.hid b6
          clear ho6 hg6 hr hlt1 hne q6 p6 b6 c0 c1 c2 y1 y2
          go_wp2
          go_roundw
          case rel =>
            refine ⟨k + 1, _, by omega, by go_num, ?_, ?_, ?_, HR.out, HQ6.out, HP6.out, HB6.out⟩
            · simp; omega
            · simp; omega
            · show _ = _
              have hd : ps.drop k = ps[k] :: ps.drop (k + 1) := List.drop_eq_getElem_cons hlt
              rw [List.map_set, HM.out, List.take_succ_eq_append_getElem hlt, List.map_append, hd, List.set_append_right _ _ (by simp; omega), HY.out]
              simp only [List.length_map, List.length_take, Nat.min_eq_left (Nat.le_of_lt hlt), Nat.sub_self, List.set_cons_zero]
              simp [tuPc, HOP.out]
          case measure => simp [intOf]; omega
        · have o1 : (xp.op == 2) = false := by rw [beq_eq_false_iff_ne]; exact hop
          have o2 : decide (xp.op = 2) = false := decide_eq_false hop
          have HOP := Lib.hid hop
          clear hop
          go_wp2
          go_roundw
          case rel =>
            refine ⟨k + 1, xs, by omega, by go_num, by omega, by omega, ?_, HIN2.out, HQ2.out, HP2.out, HB2.out⟩
            show _ = _
            rw [HM.out, List.take_succ_eq_append_getElem hlt, List.map_append, List.drop_eq_getElem_cons hlt, HY.out]
            have := HOP.out
            simp [tuPc, this]
          case measure => simp [intOf]; omega
      · obtain rfl : k = ps.length := by omega
        have hM := HM.out
        rw [List.take_of_length_le (Nat.le_refl _), List.drop_of_length_le (Nat.le_refl _), List.append_nil] at hM
        have hl : xs.length = ps.length := by omega
        have g0 := blk_cell (o := 0) hq rfl
        have r0 := blk_cell (o := 0) hp rfl
        have f0 : wr.frozen? ⟨w.heap.size + 1, 0, none⟩ = false := frozen_of_row wr _ 0 _ _ hp
        have HO := Lib.hid hin
        have HB := Lib.hid hb
        have HM2 := Lib.hid hM
        have HLL := Lib.hid hl
        clear hin hb hM hl hq hp
        go_wp2
        refine bodyPost_ret (v := .agg #[.slice A ps.length c]) (by simp [results, Try.results23, go_sem, r0]) rfl ⟨A, c, by rw [tuP_len], ⟨xs, HM2.out.trans HTU.out.symm, ?_⟩, HB.out.setCell (by simp) _⟩
        exact ⟨own_mono (ownsRow_setCell_below HO.out.row (by simp; omega) _) (by omega), fun x hx => own_mono (ownsRow_setCell_below (HO.out.kids x hx) (by simp; omega) _) (by omega), HO.out.apart⟩
  · rw [PP_no hok]
    have HTU := Lib.hid (tuP_no hok)
    have g0 := blk_cell (o := 0) Q3.out rfl
    have r0 := blk_cell (o := 0) P23.out rfl
    have f0 : w3.frozen? ⟨w.heap.size + 1, 0, none⟩ = false := frozen_of_row w3 _ 0 _ _ P23.out
    go_wp2
    refine bodyPost_ret (v := .agg #[.slice A ps.length c]) (by simp [results, Try.results23, go_sem, r0]) rfl ⟨A, c, by rw [tuP_len], ?_, B4.out.setCell (by simp) _⟩
    obtain ⟨xs, h1, h2⟩ := O3.out
    exact ⟨xs, h1.trans HTU.out.symm, ⟨own_mono (ownsRow_setCell_below h2.row (by simp; omega) _) (by omega), fun x hx => own_mono (ownsRow_setCell_below (h2.kids x hx) (by simp; omega) _) (by omega), h2.apart⟩⟩
end Go.Proofs.Ytdmheaommmnhoaa
