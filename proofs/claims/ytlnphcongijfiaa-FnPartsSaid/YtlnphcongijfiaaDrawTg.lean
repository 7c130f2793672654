/- DrawTogether: a drawn list of graphs. No conditions. -/
import Derived.Test.YtlnphcongijfiaaDrawA
import Derived.Test.YtlnphcongijfiaaDrawH
import Derived.Test.YtlnphcongijfiaaGrS
namespace Go.Proofs.Ytlnphcongijfiaa
open Go.RowKit

theorem Rd.new2 (w : World) (a b : Value) (e : TypeId) : Rd (w.alloc (.cells #[a, b] e)) 2 (some ⟨w.heap.size, 0, none⟩) 1 [a, b] := by
  refine ⟨rfl, fun _ => ⟨_, rfl, fun j u hu => ?_⟩⟩
  have hadd : (⟨w.heap.size, 0, none⟩ : Addr).add j = ⟨w.heap.size, j, none⟩ := by unfold Addr.add; split <;> simp_all
  rw [hadd, cell_of_row _ w.heap.size j #[a, b] e (0, 0) (heap_alloc_new w _)]
  simpa using hu
/-- A row of graphs of the call's own, and their edges. -/
structure GsI (base : Nat) (v : Value) (xs : List GrX) (wr : World) : Prop where
  row : wr.ownsRow base 44 2 v xs.length (gxCells xs)
  kids : ∀ x ∈ xs, wr.ownsRow base 62 3 x.v x.p.e.length (edCells x.p.e)
theorem GsI.keep {base : Nat} {v : Value} {xs : List GrX} {wr w' : World} (h : GsI base v xs wr) (hb : Below wr.heap.size wr w') : GsI base v xs w' := ⟨own_below h.row hb, fun x hx => own_below (h.kids x hx) hb⟩
theorem GsI.push {base : Nat} {v v1 : Value} {xs : List GrX} {wr w3 : World} {o : Obj} {s : Int} {es : List Ed} {K : Option Addr} {c : Nat} (h : GsI base v xs wr) (hk : wr.ownsRow base 62 3 (.slice K es.length c) es.length (edCells es))
    (ho : w3.ownsRow base 44 2 v1 (xs.length + 1) (gxCells xs ++ [.int .i64 s, .slice K es.length c])) (hg : (wr.alloc o).grownBy w3 v.ownBlock) : GsI base v1 (xs ++ [⟨⟨s, es⟩, K, c⟩]) w3 := by
  have hr := own_below h.row (below_alloc wr o)
  refine ⟨?_, fun x hx => ?_⟩
  · rw [gxCells_append]
    simpa [gxCells, GrX.cells, GrX.v] using ho
  · rcases List.mem_append.1 hx with hx | hx
    · have h1 := own_below (h.kids x hx) (below_alloc wr o)
      exact h1.kept hg (own_ne h1 hr (by decide))
    · simp only [List.mem_cons, List.not_mem_nil, or_false] at hx
      subst hx
      have h1 := own_below hk (below_alloc wr o)
      exact h1.kept hg (own_ne h1 hr (by decide))
theorem GsI.only {base g : Nat} {v : Value} {xs : List GrX} {wr w' : World} (h : GsI base v xs wr) (hg : wr.grownBy w' (some g)) (hl : g < base) : GsI base v xs w' := ⟨own_only h.row hg hl, fun x hx => own_only (h.kids x hx) hg hl⟩
theorem GsI.rd {base : Nat} {A : Option Addr} {c : Nat} {xs : List GrX} {wr : World} (h : GsI base (.slice A xs.length c) xs wr) : RdG wr A (xs.map GrX.p) := ⟨xs, rfl, by rw [List.length_map]; exact Rd.of_own h.row, fun x hx => Rd.of_own (h.kids x hx)⟩
/-- The state of the drawing. -/
structure DtI (w : World) (b q : Nat) (s : Int) (A : Option Addr) (c lo : Nat) (es : List Ed) (v : Value) (xs : List GrX) (wr : World) : Prop where
  box : wr.heap[b]? = some (.cells #[.int .i64 s, .slice A es.length c] 44 (0, 0))
  own : wr.ownsRow lo 62 3 (.slice A es.length c) es.length (edCells es)
  cur : CurAt w w.heap.size wr
  bel : Below w.heap.size w wr
  gs : GsI q v xs wr
  hq : b < q
  hw : w.heap.size < q
  hz : q ≤ wr.heap.size
theorem DtI.keep {w wr w' : World} {b q : Nat} {s : Int} {A : Option Addr} {c lo : Nat} {es : List Ed} {v : Value} {xs : List GrX} (h : DtI w b q s A c lo es v xs wr) (hb : Below wr.heap.size wr w') : DtI w b q s A c lo es v xs w' :=
  ⟨blk_below hb h.box, own_below h.own hb, h.cur.below hb, below_step h.bel hb, h.gs.keep hb, h.hq, h.hw, Nat.le_trans h.hz hb.size⟩
theorem DtI.push {w wr w3 : World} {b q : Nat} {s : Int} {A : Option Addr} {c lo : Nat} {es : List Ed} {v v1 : Value} {xs : List GrX} {o : Obj} {s2 : Int} {fs : List Ed} {K : Option Addr} {kc : Nat} (h : DtI w b q s A c lo es v xs wr) (hk : wr.ownsRow q 62 3 (.slice K fs.length kc) fs.length (edCells fs))
    (ho : w3.ownsRow q 44 2 v1 (xs.length + 1) (gxCells xs ++ [.int .i64 s2, .slice K fs.length kc])) (hg : (wr.alloc o).grownBy w3 v.ownBlock) : DtI w b q s A c lo es v1 (xs ++ [⟨⟨s2, fs⟩, K, kc⟩]) w3 := by
  have k := h.keep (below_alloc wr o)
  have hlt := h.gs.row.lt
  refine ⟨(hg.block _ (blk_lt k.box) (fun e => by have := (hlt b e.symm).1; have := h.hq; omega)).trans k.box, k.own.kept hg (own_ne k.own k.gs.row (by decide)), k.cur.grown hg (fun e => by have := (hlt _ e.symm).1; have := h.hw; omega), ?_, h.gs.push hk ho hg, h.hq, h.hw, by have h1 := hg.size; have h2 := k.hz; omega⟩
  exact k.bel.grown hg k.bel.size (fun g hgg => by have := (hlt g hgg).1; have := h.hw; omega)
/-- What the drawing of a list of graphs leaves. -/
def DrawnGs (w : World) (e : Ending) (w' : World) : Prop := ∃ (A : Option Addr) (c : Nat) (gs : List Gr), e = .returned (.slice A gs.length c) ∧ RdG w' A gs ∧ gs.length ≤ 5 ∧ (∀ g ∈ gs, g.e.length ≤ 11 ∧ ∀ e ∈ g.e, 0 ≤ e.l ∧ e.l ≤ 255) ∧ Below w.heap.size w w'
theorem DrawnGs.of {w wr : World} {b q : Nat} {s : Int} {A : Option Addr} {c lo : Nat} {es : List Ed} {v : Value} {xs : List GrX} (h : DtI w b q s A c lo es v xs wr) (hl : xs.length ≤ 5) (hx : ∀ x ∈ xs, x.p.e.length ≤ 11 ∧ ∀ e ∈ x.p.e, 0 ≤ e.l ∧ e.l ≤ 255) : DrawnGs w (.returned v) wr := by
  obtain ⟨A2, c2, rfl, _, _⟩ := own_slice h.gs.row
  refine ⟨A2, c2, xs.map GrX.p, by simp, h.gs.rd, by simpa using hl, fun g hg => ?_, h.bel⟩
  obtain ⟨x, hxx, rfl⟩ := List.mem_map.1 hg
  exact hx x hxx
theorem partL_sub {s : Int} {es : List Ed} {wk n : Int} : (partL s es wk n).length ≤ es.length ∧ ∀ e ∈ partL s es wk n, e ∈ es := by
  unfold partL partE
  split
  · exact ⟨List.length_filter_le _ _, fun e he => (List.mem_filter.1 he).1⟩
  · simp

set_option maxRecDepth 100000 in
set_option maxHeartbeats 3200000 in
theorem DrawTogether_any (A : Option Addr) (n c : Nat) (zs : List Int) (w : World) (hc : Code0 w A n zs) :
    Calls Try.prog 33 #[.slice A n c] w (DrawnGs w) := by
  obtain ⟨i0, hi, hz0, hz1, hz2⟩ := info_parts Try.infoGraph
  have C := Lib.hid (l01New_any A n c zs w hc)
  clear hc
  go_enter Try.func33, Try.ntmps33
  go_wp2_with fail
  refine C.out.mono ?_
  rintro e w1 ⟨rfl, hc1, hb1⟩
  clear C
  go_wp2_with fail
  refine (l01Below_any w _ w1 8 (by omega) hc1 hb1).mono ?_
  rintro e w2 h
  obtain ⟨x8, rfl, ⟨hx80, hx81⟩, hc2, hg2, hb2⟩ := h.step hb1
  clear h hg2 hc1 hb1
  go_wp2_with fail
  refine (l01Below_any w _ w2 4 (by omega) hc2 hb2).mono ?_
  rintro e w3 h
  obtain ⟨x4, rfl, ⟨hx40, hx41⟩, hc3, hg3, hb3⟩ := h.step hb2
  clear h hg3 hc2 hb2
  obtain ⟨nn, hnn⟩ : ∃ nn : Nat, x4 = nn := ⟨x4.toNat, by omega⟩
  subst hnn
  have hn4 : nn ≤ 3 := by omega
  go_wp2_with fail
  refine (l04Graph_any w _ w3 hc3 hb3).mono ?_
  rintro e w4 ⟨s, A4, c4, es, rfl, hok, h1, h10, hc4, own4, hg4⟩
  have hb4 := below_only hb3 hg4 (Nat.le_refl _)
  have HOK := Lib.hid hok
  have ka := below_alloc w4 (.cells #[.int .i64 s, .slice A4 es.length c4] 44)
  have p5 := heap_alloc_new w4 (.cells #[.int .i64 s, .slice A4 es.length c4] 44)
  have own5 := own_below own4 ka
  have hc5 := hc4.below ka
  have hb5 := below_step hb4 ka
  have hz5 : w4.heap.size < (w4.alloc (.cells #[.int .i64 s, .slice A4 es.length c4] 44)).heap.size := by simp
  obtain ⟨b, hbb⟩ : ∃ b, w4.heap.size = b := ⟨_, rfl⟩
  obtain ⟨W5, hW5⟩ : ∃ W, w4.alloc (.cells #[.int .i64 s, .slice A4 es.length c4] 44) = W := ⟨_, rfl⟩
  rw [hW5] at p5 own5 hc5 hb5 hz5
  rw [hbb] at p5 hz5
  have D0 := Lib.hid (show DtI w b W5.heap.size s A4 c4 w3.heap.size es (.slice (some ⟨W5.heap.size, 0, none⟩) 0 0) [] (W5.alloc (.cells #[] 44)) from
    ⟨blk_below (below_alloc _ _) p5, own_below own5 (below_alloc _ _), hc5.below (below_alloc _ _), below_step hb5 (below_alloc _ _), ⟨World.ownsRow_made W5 #[] 0 (Nat.le_refl _) (by unfold maxLen; omega) rfl, by simp⟩, hz5, Nat.lt_of_lt_of_le hc5.lt (Nat.le_refl _), (below_alloc W5 _).size⟩)
  clear ka p5 own5 hc5 hb5 hz5 own4 hc4 hb4 hg4 hok hc3 hb3
  go_wp2_with fail
  clear hW5 hbb
  obtain ⟨q, hq⟩ : ∃ q, W5.heap.size = q := ⟨_, rfl⟩
  rw [hq] at D0
  go_loopw [7, 8] (fun v i wr => ∃ (k : Nat) (xs : List GrX), k ≤ nn + 1 ∧ xs.length ≤ k ∧ i = .int .i64 k ∧ Hid (∀ x ∈ xs, x.p.e.length ≤ 11 ∧ ∀ e ∈ x.p.e, 0 ≤ e.l ∧ e.l ≤ 255) ∧ DtI w b q s A4 c4 w3.heap.size es v xs wr) (fun _ i _ => nn + 1 - (intOf i).toNat)
  case atStart => exact ⟨0, [], Nat.zero_le _, Nat.le_refl _, rfl, Lib.hid (by simp), by rw [← hq] at D0 ⊢; exact D0.out⟩
  case round =>
    clear D0 hq
    obtain ⟨k, xs, hk, hxl, rfl, HXS, hd⟩ := hrel
    have HD := Lib.hid hd
    by_cases hlt : k < nn + 1
    · have b0 := blk_cell (o := 0) hd.box rfl
      have b1 := blk_cell (o := 1) hd.box rfl
      have P := Lib.hid (spec_PartOf_any s A4 c4 es k ((1 : Int) + nn) wr (Rd.of_own hd.own) (by omega) (gOk_lab HOK.out))
      have hps := partL_sub (s := s) (es := es) (wk := k) (n := (1 : Int) + nn)
      obtain ⟨fs, hfs⟩ : ∃ fs, partL s es k ((1 : Int) + nn) = fs := ⟨_, rfl⟩
      rw [hfs] at P hps
      have HPS := Lib.hid hps
      clear hd hfs hps
      go_wp2_with fail
      refine P.out.mono ?_
      rintro e w7 ⟨K, kc, rfl, ownK, kK⟩
      have d7 := HD.out.keep kK
      have hqr := HD.out.hz
      have ownQ := own_mono ownK hqr
      have D7 := Lib.hid d7
      have OQ := Lib.hid ownQ
      clear b0 b1 P ownK kK d7 ownQ
      go_wp2_with (first
        | (at_builtin
           refine wpList_append_any _ rfl (.tmp 24) (.tmp 29) 47 rfl q 44 i0 _ 2 32 Try.underlying47 hi hz0 hz1 hz2 rfl (by decide) _ xs.length (gxCells xs) rfl (own_below D7.out.gs.row (below_alloc _ _)) (some ⟨w7.heap.size, 0, none⟩) 1 1 [.int .i64 s, .slice K fs.length kc] rfl (Rd.new2 w7 _ _ _) (by intro u hu; simp at hu; rcases hu with rfl | rfl <;> rfl) (by unfold maxLen; omega) (by omega) (by have := D7.out.hz; simp; omega) ?_
           intro v9 w9 hown hg hob
           have D9 := Lib.hid (D7.out.push OQ.out hown hg)))
      go_roundw
      case rel =>
        refine ⟨k + 1, _, by omega, by simp; omega, by go_num, Lib.hid (fun x hx => ?_), D9.out⟩
        rcases List.mem_append.1 hx with hx | hx
        · exact HXS.out x hx
        · simp only [List.mem_cons, List.not_mem_nil, or_false] at hx
          subst hx
          exact ⟨by have := HPS.out.1; simp only; omega, fun e he => gOk_lab HOK.out e (HPS.out.2 e he)⟩
      case measure => simp [intOf]; omega
    · obtain rfl : k = nn + 1 := by omega
      rcases (by omega : x8 = 0 ∨ x8 = 1 ∨ 2 ≤ x8) with hx | hx | hx
      · have t0 : (x8 == 0) = true := by rw [beq_iff_eq]; exact hx
        clear hx
        go_wp2
        go_ret
        exact ⟨_, 0, [], rfl, ⟨[], rfl, ⟨rfl, fun h => absurd h (by simp)⟩, by simp⟩, by simp, by simp, below_step HD.out.bel (below_alloc _ _)⟩
      · have t0 : (x8 == 0) = false := by rw [beq_eq_false_iff_ne]; omega
        have t1 : (x8 == 1) = true := by rw [beq_iff_eq]; exact hx
        have L := Lib.hid (l04Any_any w _ wr hd.cur hd.bel)
        clear hx hd
        go_wp2_with fail
        refine L.out.mono ?_
        rintro e w7 ⟨s2, K, kc, fs, rfl, hfl, hfb, hc7, ownK, hg7⟩
        have hqr := HD.out.hz
        have ownQ := own_mono ownK hqr
        have G7 := Lib.hid (HD.out.gs.only hg7 HD.out.hw)
        have B7 := Lib.hid (below_only HD.out.bel hg7 (Nat.le_refl _))
        have OQ := Lib.hid ownQ
        have HFB := Lib.hid hfb
        have hs7 := hg7.size
        clear L hc7 ownK hg7 ownQ hfb
        go_wp2_with (first
          | (at_builtin
             refine wpList_append_any _ rfl (.tmp 37) (.tmp 40) 47 rfl q 44 i0 _ 2 32 Try.underlying47 hi hz0 hz1 hz2 rfl (by decide) _ xs.length (gxCells xs) rfl (own_below G7.out.row (below_alloc _ _)) (some ⟨w7.heap.size, 0, none⟩) 1 1 [.int .i64 s2, .slice K fs.length kc] rfl (Rd.new2 w7 _ _ _) (by intro u hu; simp at hu; rcases hu with rfl | rfl <;> rfl) (by unfold maxLen; omega) (by omega) (by simp; omega) ?_
             intro v9 w9 hown hg hob
             have G9 := Lib.hid (G7.out.push OQ.out hown hg)
             have B9 := Lib.hid (((below_step B7.out (below_alloc w7 (.cells #[.int .i64 s2, .slice K fs.length kc] 44))).grown hg (by have := B7.out.size; simp; omega) (fun g hgg => by have := (G7.out.row.lt g hgg).1; have := HD.out.hw; omega)))))
        go_ret
        have h9 := G9.out
        obtain ⟨A2, c2, hv, _, _⟩ := own_slice h9.row
        subst hv
        refine ⟨A2, c2, _, by simp, h9.rd, by simp; omega, fun g hg => ?_, B9.out⟩
        obtain ⟨x, hxx, rfl⟩ := List.mem_map.1 hg
        rcases List.mem_append.1 hxx with hx | hx
        · exact HXS.out x hx
        · simp only [List.mem_cons, List.not_mem_nil, or_false] at hx
          subst hx
          exact ⟨hfl, HFB.out⟩
      · have t0 : (x8 == 0) = false := by rw [beq_eq_false_iff_ne]; omega
        have t1 : (x8 == 1) = false := by rw [beq_eq_false_iff_ne]; omega
        clear hx hd
        go_wp2
        go_ret
        exact DrawnGs.of HD.out (by omega) HXS.out
end Go.Proofs.Ytlnphcongijfiaa
