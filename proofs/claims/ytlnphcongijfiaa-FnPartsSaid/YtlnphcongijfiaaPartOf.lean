/- PartOf: both functions return the same graph. No conditions but the labels' range and the size of a length. -/
import Derived.Test.YtlnphcongijfiaaSGraphOk
import Derived.Test.YtlnphcongijfiaaOwner
import Derived.Test.YtlnphcongijfiaaApp
import Derived.Test.YtlnphcongijfiaaDraw
import Derived.Deep.RegionLaw
namespace Go.Proofs.Ytlnphcongijfiaa
open Go.RowKit

/-- The edges whose start a worker owns. -/
def partE (wk n : Int) (es : List Ed) : List Ed := es.filter (fun e => owner e.f n == wk)
noncomputable def partL (s : Int) (es : List Ed) (wk n : Int) : List Ed := if PP (GOk s es) then partE wk n es else []
theorem partE_next {wk n : Int} {es : List Ed} {k : Nat} (h : k < es.length) : partE wk n (es.take (k + 1)) = partE wk n (es.take k) ++ (if owner es[k].f n = wk then [es[k]] else []) := by
  unfold partE
  rw [List.take_succ_eq_append_getElem h, List.filter_append]
  congr 1
  by_cases e : owner es[k].f n = wk <;> simp [e]

theorem Rd.new3 (w : World) (a b c : Value) (e : TypeId) : Rd (w.alloc (.cells #[a, b, c] e)) 3 (some ⟨w.heap.size, 0, none⟩) 1 [a, b, c] := by
  refine ⟨rfl, fun _ => ⟨_, rfl, fun j u hu => ?_⟩⟩
  have hadd : (⟨w.heap.size, 0, none⟩ : Addr).add j = ⟨w.heap.size, j, none⟩ := by unfold Addr.add; split <;> simp_all
  rw [hadd, cell_of_row _ w.heap.size j #[a, b, c] e (0, 0) (heap_alloc_new w _)]
  simpa using hu
/-- What the loops of PartOf keep: the result's cells, the cells of the graph that is built, the row of its edges. -/
def Building (w : World) (s : Int) (v : Value) (ks : List Ed) (wr : World) : Prop :=
  wr.ownsRow (w.heap.size + 3) 62 3 v ks.length (edCells ks) ∧ Below w.heap.size w wr ∧ w.heap.size + 3 ≤ wr.heap.size ∧
  (wr.cell? ⟨w.heap.size + 1, 0, none⟩ = some (.int .i64 0) ∧ wr.cell? ⟨w.heap.size + 1, 1, none⟩ = some (.slice none 0 0) ∧ wr.cell? ⟨w.heap.size + 2, 0, none⟩ = some (.int .i64 s) ∧ wr.cell? ⟨w.heap.size + 2, 1, none⟩ = some v) ∧
  wr.frozen? ⟨w.heap.size + 1, 0, none⟩ = false ∧ wr.frozen? ⟨w.heap.size + 1, 1, none⟩ = false ∧ wr.frozen? ⟨w.heap.size + 2, 1, none⟩ = false
theorem Building.keep {w wr w' : World} {s : Int} {v : Value} {ks : List Ed} (h : Building w s v ks wr) (hb : Below wr.heap.size wr w') : Building w s v ks w' := by
  obtain ⟨ho, hB, hs, ⟨c0, c1, c2, c3⟩, f0, f1, f2⟩ := h
  obtain ⟨_, hfr⟩ := bcell hb
  refine ⟨own_below ho hb, below_step hB hb, Nat.le_trans hs hb.size, ⟨held_step hb c0, held_step hb c1, held_step hb c2, held_step hb c3⟩, ?_, ?_, ?_⟩
  · rw [hfr _ _ (by omega)]; exact f0
  · rw [hfr _ _ (by omega)]; exact f1
  · rw [hfr _ _ (by omega)]; exact f2
/-- An edge is appended and the new slice is stored. -/
theorem Building.put {w w2 w3 : World} {s : Int} {v v1 : Value} {ks : List Ed} {x : Ed} {o : Obj} (h : Building w s v ks w2)
    (ho : w3.ownsRow (w.heap.size + 3) 62 3 v1 (ks.length + 1) (edCells ks ++ [.int .i64 x.f, .int .u8 x.l, .int .i64 x.t])) (hg : (w2.alloc o).grownBy w3 v.ownBlock) :
    Building w s v1 (ks ++ [x]) (w3.setCell ⟨w.heap.size + 2, 1, none⟩ v1) := by
  obtain ⟨h0, hB, hs, ⟨c0, c1, c2, c3⟩, f0, f1, f2⟩ := h
  have hb : Below (w.heap.size + 3) w2 w3 := ((Below.refl (w.heap.size + 3) w2).alloc hs _).grown hg (by simp; omega) (fun r hr => (h0.lt r hr).1)
  have hB3 : Below w.heap.size w w3 := ((hB.alloc hB.size _).grown hg (by simp; have := hB.size; omega) (fun r hr => by have := (h0.lt r hr).1; omega))
  have hs3 : w.heap.size + 3 ≤ w3.heap.size := Nat.le_trans hs hb.size
  have cell : ∀ b o, b < w.heap.size + 3 → w3.cell? ⟨b, o, none⟩ = w2.cell? ⟨b, o, none⟩ := fun b o h => hb.cell (p := ⟨b, o, none⟩) h
  have frz : ∀ b o, b < w.heap.size + 3 → w3.frozen? ⟨b, o, none⟩ = w2.frozen? ⟨b, o, none⟩ := fun b o h => hb.frozen (p := ⟨b, o, none⟩) h
  have d0 : w3.cell? ⟨w.heap.size + 1, 0, none⟩ = some (.int .i64 0) := (cell _ _ (by omega)).trans c0
  have d1 : w3.cell? ⟨w.heap.size + 1, 1, none⟩ = some (.slice none 0 0) := (cell _ _ (by omega)).trans c1
  have d2 : w3.cell? ⟨w.heap.size + 2, 0, none⟩ = some (.int .i64 s) := (cell _ _ (by omega)).trans c2
  have d3 : w3.cell? ⟨w.heap.size + 2, 1, none⟩ = some v := (cell _ _ (by omega)).trans c3
  have e0 : w3.frozen? ⟨w.heap.size + 1, 0, none⟩ = false := (frz _ _ (by omega)).trans f0
  have e1 : w3.frozen? ⟨w.heap.size + 1, 1, none⟩ = false := (frz _ _ (by omega)).trans f1
  have e2 : w3.frozen? ⟨w.heap.size + 2, 1, none⟩ = false := (frz _ _ (by omega)).trans f2
  refine ⟨?_, hB3.setCell (by simp) _, by simpa using hs3, ⟨?_, ?_, ?_, ?_⟩, ?_, ?_, ?_⟩
  · have := ownsRow_setCell_below ho (a := ⟨w.heap.size + 2, 1, none⟩) (by simp) v1
    simpa [edCells_append, edCells] using this
  · go_simp
  · go_simp
  · go_simp
  · go_simp
  · go_simp
  · go_simp
  · go_simp

theorem Building.made {w wr : World} {s : Int} {A : Option Addr} {c : Nat} {ks : List Ed} (h : Building w s (.slice A ks.length c) ks wr) :
    MadeG w s ks (.returned (.agg #[.int .i64 s, .slice A ks.length c])) ((wr.setCell ⟨w.heap.size + 1, 0, none⟩ (.int .i64 s)).setCell ⟨w.heap.size + 1, 1, none⟩ (.slice A ks.length c)) :=
  ⟨A, c, rfl, own_mono (ownsRow_setCell_below (ownsRow_setCell_below h.1 (a := ⟨w.heap.size + 1, 0, none⟩) (by simp) _) (a := ⟨w.heap.size + 1, 1, none⟩) (by simp) _) (by omega), (h.2.1.setCell (by simp) _).setCell (by simp) _⟩

set_option maxRecDepth 100000 in
set_option maxHeartbeats 3200000 in
theorem impl_PartOf_any (s : Int) (A : Option Addr) (c : Nat) (es : List Ed) (wk n : Int) (w : World) (hx : RdE w A es) (hn : es.length ≤ 4294967296) (hl : ∀ e ∈ es, 0 ≤ e.l ∧ e.l ≤ 255) :
    Calls Try.prog 31 #[.agg #[.int .i64 s, .slice A es.length c], .int .i64 wk, .int .i64 n] w (MadeG w s (partL s es wk n)) := by
  obtain ⟨i0, hi, hz0, hz1, hz2⟩ := info_parts Try.infoEdge
  have G := Lib.hid (fun w hx => impl_GraphOk_any s A c es w hx hn hl)
  have HX := Lib.hid hx
  clear hx hl
  obtain ⟨r, hr⟩ : ∃ r, PP (GOk s es) = r := ⟨_, rfl⟩
  rw [hr] at G
  have HR := Lib.hid hr
  obtain ⟨L, hL⟩ : ∃ L, partL s es wk n = L := ⟨_, rfl⟩
  rw [hL]
  unfold partL at hL
  rw [hr] at hL
  have LL := Lib.hid hL
  clear hr hL
  go_enter Try.func31, Try.ntmps31
  go_wp2_with fail
  have B0 : Building w s (.slice none 0 0) [] (((w.alloc (.cells #[.int .i64 s, .slice A es.length c] 44)).alloc (.cells #[.int .i64 0, .slice none 0 0] 44)).alloc (.cells #[.int .i64 s, .slice none 0 0] 44)) := by
    refine ⟨World.ownsRow_nil _ _ _ _, (((Below.refl w.heap.size w).alloc (Nat.le_refl _) _).alloc (by simp) _).alloc (by simp; omega) _, by simp, ⟨?_, ?_, ?_, ?_⟩, ?_, ?_, ?_⟩ <;> go_simp
  refine (G.out _ (((HX.out.alloc _).alloc _).alloc _)).mono ?_
  rintro e w1 ⟨rfl, k1⟩
  have a1 : w1.cell? ⟨w.heap.size, 1, none⟩ = some (.slice A es.length c) := held_step k1 (by go_keep)
  replace B0 := B0.keep k1
  clear k1 G
  have HB := Lib.hid B0
  cases r
  · have hL := LL.out
    simp at hL
    subst hL
    obtain ⟨_, _, hz, ⟨c0, c1, c2, c3⟩, f0, f1, f2⟩ := B0
    go_wp2
    refine bodyPost_ret (v := .agg #[.int .i64 s, .slice none 0 0]) (by simp [results, Try.results31, go_sem, c0, c1]) rfl HB.out.made
  · clear HR
    go_wp2
    go_loopw [20] (fun i wr => ∃ (k : Nat) (v : Value) (ks : List Ed), k ≤ es.length ∧ i = .int .i64 k ∧ Hid (ks = partE wk n (es.take k)) ∧ ks.length ≤ k ∧ Building w s v ks wr) (fun i _ => es.length - (intOf i).toNat)
    case atStart => exact ⟨0, _, [], Nat.zero_le _, rfl, rfl, Nat.le_refl _, HB.out⟩
    case round =>
      obtain ⟨k, v, ks, hk, rfl, HK, hkl, hB⟩ := hrel
      clear B0 HB
      by_cases hlt : k < es.length
      · obtain ⟨b, o, rfl, c0, c1, c2⟩ := (RdE.below HX.out hB.2.1).at_ hlt
        obtain ⟨x, hxx⟩ : ∃ x, es[k] = x := ⟨_, rfl⟩
        rw [hxx] at c0 c1 c2
        have EX := Lib.hid hxx
        clear hxx
        obtain ⟨xf, xl, xt⟩ := x
        simp only at c0 c1 c2
        have k0 : (0 : Int) ≤ (k : Int) := by omega
        have k1 : (k : Int) < (es.length : Int) := by omega
        have C := Lib.hid (fun w => impl_OwnerOf_any xf n w)
        obtain ⟨q, hq⟩ : ∃ q, owner xf n = q := ⟨_, rfl⟩
        rw [hq] at C
        have HQ := Lib.hid hq
        clear hq
        go_wp2_with fail
        refine (C.out _).mono ?_
        rintro e w2 ⟨rfl, k2⟩
        have kk := below_step ((Below.refl wr.heap.size wr).alloc (Nat.le_refl _) (.cells #[.int .i64 xf, .int .u8 xl, .int .i64 xt] 62)) k2
        have e0 : w2.cell? ⟨wr.heap.size, 0, none⟩ = some (.int .i64 xf) := held_step k2 (by go_keep)
        have e1 : w2.cell? ⟨wr.heap.size, 1, none⟩ = some (.int .u8 xl) := held_step k2 (by go_keep)
        have e2 : w2.cell? ⟨wr.heap.size, 2, none⟩ = some (.int .i64 xt) := held_step k2 (by go_keep)
        have hB2 := hB.keep kk
        clear hB k2 C kk c0 c1 c2
        by_cases hqw : q = wk
        · subst hqw
          have HB2 := Lib.hid hB2
          obtain ⟨ho, hbw, hz, ⟨c0, c1, c2, c3⟩, f0, f1, f2⟩ := hB2
          have hbs := hbw.size
          go_wp2_with (first
            | (at_builtin
               refine wpList_append_any _ rfl (.tmp 31) (.tmp 33) 42 rfl (w.heap.size + 3) 62 i0 _ 3 24 Try.underlying42 hi hz0 hz1 hz2 rfl (by decide) v ks.length (edCells ks) rfl (ho.alloc _) (some ⟨w2.heap.size, 0, none⟩) 1 1 [.int .i64 xf, .int .u8 xl, .int .i64 xt] rfl (Rd.new3 w2 _ _ _ _) (by intro u hu; simp at hu; rcases hu with rfl | rfl | rfl <;> rfl) (by unfold maxLen; omega) (by omega) (by simp; omega) ?_
               intro v1 w3 hown3 hg3 _
               obtain ⟨A1, c1, rfl, _, _⟩ := own_slice hown3
               have HB3 := Lib.hid (HB2.out.put (x := ⟨xf, xl, xt⟩) hown3 hg3)
               have g2 : w3.frozen? ⟨w.heap.size + 2, 1, none⟩ = false := by
                 have hb : Below (w.heap.size + 3) w2 w3 := ((Below.refl (w.heap.size + 3) w2).alloc hz _).grown hg3 (by simp; omega) (fun r hr => (ho.lt r hr).1)
                 rw [hb.frozen (p := ⟨w.heap.size + 2, 1, none⟩) (by simp)]
                 exact f2
               have g3 : w3.cell? ⟨w.heap.size + 2, 1, none⟩ = some v := by
                 have hb : Below (w.heap.size + 3) w2 w3 := ((Below.refl (w.heap.size + 3) w2).alloc hz _).grown hg3 (by simp; omega) (fun r hr => (ho.lt r hr).1)
                 rw [hb.cell (p := ⟨w.heap.size + 2, 1, none⟩) (by simp)]
                 exact c3))
          go_roundw
          case rel =>
            refine ⟨k + 1, _, ks ++ [⟨xf, xl, xt⟩], by omega, by go_num, ?_, by simp; omega, HB3.out⟩
            show _ = _
            rw [partE_next hlt, EX.out, HQ.out, if_pos rfl, HK.out]
          case measure => simp [intOf]; omega
        · go_wp2
          go_roundw
          case rel =>
            refine ⟨k + 1, v, ks, by omega, by go_num, ?_, by omega, hB2⟩
            show _ = _
            rw [partE_next hlt, EX.out, HQ.out, if_neg hqw, HK.out, List.append_nil]
          case measure => simp [intOf]; omega
      · obtain rfl : k = es.length := by omega
        have hL := LL.out
        simp at hL
        have hK := HK.out
        rw [List.take_of_length_le (Nat.le_refl _)] at hK
        subst hK
        subst hL
        obtain ⟨A1, c1', rfl, _, _⟩ := own_slice hB.1
        have HB := Lib.hid hB
        obtain ⟨_, _, hz, ⟨c0, c1, c2, c3⟩, f0, f1, f2⟩ := hB
        go_wp2
        refine bodyPost_ret (v := .agg #[.int .i64 s, .slice A1 (partE wk n es).length c1']) (by simp [results, Try.results31, go_sem, c0, c1]) rfl HB.out.made
set_option maxRecDepth 100000 in
set_option maxHeartbeats 3200000 in
theorem spec_PartOf_any (s : Int) (A : Option Addr) (c : Nat) (es : List Ed) (wk n : Int) (w : World) (hx : RdE w A es) (hn : es.length ≤ 4294967296) (hl : ∀ e ∈ es, 0 ≤ e.l ∧ e.l ≤ 255) :
    Calls Try.prog 76 #[.agg #[.int .i64 s, .slice A es.length c], .int .i64 wk, .int .i64 n] w (MadeG w s (partL s es wk n)) := by
  obtain ⟨i0, hi, hz0, hz1, hz2⟩ := info_parts Try.infoEdge
  have G := Lib.hid (fun w hx => spec_GraphOk_any s A c es w hx hn hl)
  have HX := Lib.hid hx
  clear hx hl
  obtain ⟨r, hr⟩ : ∃ r, PP (GOk s es) = r := ⟨_, rfl⟩
  rw [hr] at G
  have HR := Lib.hid hr
  obtain ⟨L, hL⟩ : ∃ L, partL s es wk n = L := ⟨_, rfl⟩
  rw [hL]
  unfold partL at hL
  rw [hr] at hL
  have LL := Lib.hid hL
  clear hr hL
  go_enter Try.func76, Try.ntmps76
  go_wp2_with fail
  have B0 : Building w s (.slice none 0 0) [] (((w.alloc (.cells #[.int .i64 s, .slice A es.length c] 44)).alloc (.cells #[.int .i64 0, .slice none 0 0] 44)).alloc (.cells #[.int .i64 s, .slice none 0 0] 44)) := by
    refine ⟨World.ownsRow_nil _ _ _ _, (((Below.refl w.heap.size w).alloc (Nat.le_refl _) _).alloc (by simp) _).alloc (by simp; omega) _, by simp, ⟨?_, ?_, ?_, ?_⟩, ?_, ?_, ?_⟩ <;> go_simp
  refine (G.out _ (((HX.out.alloc _).alloc _).alloc _)).mono ?_
  rintro e w1 ⟨rfl, k1⟩
  have a1 : w1.cell? ⟨w.heap.size, 1, none⟩ = some (.slice A es.length c) := held_step k1 (by go_keep)
  replace B0 := B0.keep k1
  clear k1 G
  have HB := Lib.hid B0
  cases r
  · have hL := LL.out
    simp at hL
    subst hL
    obtain ⟨_, _, hz, ⟨c0, c1, c2, c3⟩, f0, f1, f2⟩ := B0
    go_wp2
    refine bodyPost_ret (v := .agg #[.int .i64 s, .slice none 0 0]) (by simp [results, Try.results76, go_sem, c0, c1]) rfl HB.out.made
  · clear HR
    go_wp2
    go_loopw [8] (fun i wr => ∃ (k : Nat) (v : Value) (ks : List Ed), k ≤ es.length ∧ i = .int .i64 k ∧ wr.cell? ⟨w.heap.size, 1, none⟩ = some (.slice A es.length c) ∧ Hid (ks = partE wk n (es.take k)) ∧ ks.length ≤ k ∧ Building w s v ks wr) (fun i _ => es.length - (intOf i).toNat)
    case atStart => exact ⟨0, _, [], Nat.zero_le _, rfl, a1, rfl, Nat.le_refl _, HB.out⟩
    case round =>
      obtain ⟨k, v, ks, hk, rfl, a1, HK, hkl, hB⟩ := hrel
      clear B0 HB
      by_cases hlt : k < es.length
      · obtain ⟨b, o, rfl, c0, c1, c2⟩ := (RdE.below HX.out hB.2.1).at_ hlt
        obtain ⟨x, hxx⟩ : ∃ x, es[k] = x := ⟨_, rfl⟩
        rw [hxx] at c0 c1 c2
        have EX := Lib.hid hxx
        clear hxx
        obtain ⟨xf, xl, xt⟩ := x
        simp only at c0 c1 c2
        have k0 : (0 : Int) ≤ (k : Int) := by omega
        have k1 : (k : Int) < (es.length : Int) := by omega
        have C := Lib.hid (fun w => spec_OwnerOf_any xf n w)
        obtain ⟨q, hq⟩ : ∃ q, owner xf n = q := ⟨_, rfl⟩
        rw [hq] at C
        have HQ := Lib.hid hq
        clear hq
        go_wp2_with fail
        refine (C.out _).mono ?_
        rintro e w2 ⟨rfl, k2⟩
        have a1 := held_step k2 a1
        have c0 := held_step k2 c0
        have c1 := held_step k2 c1
        have c2 := held_step k2 c2
        have hB2 := hB.keep k2
        clear hB k2 C
        by_cases hqw : q = wk
        · subst hqw
          have HB2 := Lib.hid hB2
          obtain ⟨ho, hbw, hz, ⟨_, _, _, d3⟩, _, _, f2⟩ := hB2
          have hbs := hbw.size
          have HO := Lib.hid ho
          go_wp2_with fail
          have hl0 : w.heap.size < w2.heap.size := by omega
          have hl2 : w.heap.size + 2 < w2.heap.size := by omega
          have hlb : b < w2.heap.size := World.block_lt_of_cell? w2 _ c0
          have ho' : w2.drew.ownsRow (w.heap.size + 3) 62 3 v ks.length (edCells ks) := ho
          have f2' : w2.drew.frozen? ⟨w.heap.size + 2, 1, none⟩ = false := f2
          have d3' : w2.drew.cell? ⟨w.heap.size + 2, 1, none⟩ = some v := d3
          have hz' : w.heap.size + 3 ≤ w2.drew.heap.size := hz
          have HB2' : Hid (Building w s v ks w2.drew) := HB2.out.keep (Below.refl _ _).drew
          go_region_law (first
            | (refine step_append_any _ rfl (.tmp 34) (.tmp 40) 42 rfl (w.heap.size + 3) 62 i0 _ 3 24 Try.underlying42 hi hz0 hz1 hz2 rfl (by decide) v ks.length (edCells ks) rfl (ho'.alloc _) (some ⟨w2.heap.size, 0, none⟩) 1 1 [.int .i64 xf, .int .u8 xl, .int .i64 xt] rfl (Rd.new3 w2.drew _ _ _ _) (by intro u hu; simp at hu; rcases hu with rfl | rfl | rfl <;> rfl) (by unfold maxLen; omega) (by omega) (by simp; omega) ?_
               intro v1 w3 hown3 hg3 _
               obtain ⟨A1, c1', rfl, _, _⟩ := own_slice hown3
               have HB3 := Lib.hid (HB2'.out.put (x := ⟨xf, xl, xt⟩) hown3 hg3)
               have g2 : w3.frozen? ⟨w.heap.size + 2, 1, none⟩ = false := by
                 have hb : Below (w.heap.size + 3) w2.drew w3 := ((Below.refl (w.heap.size + 3) w2.drew).alloc hz' _).grown hg3 (by simp; omega) (fun r hr => (ho'.lt r hr).1)
                 rw [hb.frozen (p := ⟨w.heap.size + 2, 1, none⟩) (by simp)]
                 exact f2'
               have g3 : w3.cell? ⟨w.heap.size + 2, 1, none⟩ = some v := by
                 have hb : Below (w.heap.size + 3) w2.drew w3 := ((Below.refl (w.heap.size + 3) w2.drew).alloc hz' _).grown hg3 (by simp; omega) (fun r hr => (ho'.lt r hr).1)
                 rw [hb.cell (p := ⟨w.heap.size + 2, 1, none⟩) (by simp)]
                 exact d3'
               have a3 : w3.cell? ⟨w.heap.size, 1, none⟩ = some (.slice (some ⟨b, o, none⟩) es.length c) := by
                 have hb : Below (w.heap.size + 3) w2.drew w3 := ((Below.refl (w.heap.size + 3) w2.drew).alloc hz' _).grown hg3 (by simp; omega) (fun r hr => (ho'.lt r hr).1)
                 rw [hb.cell (p := ⟨w.heap.size, 1, none⟩) (by simp)]
                 exact a1))
          all_goals
            have a4 : (w3.setCell ⟨w.heap.size + 2, 1, none⟩ (.slice A1 (ks.length + 1) c1')).cell? ⟨w.heap.size, 1, none⟩ = some (.slice (some ⟨b, o, none⟩) es.length c) := by go_simp
            clear g2 g3 a3 d3' f2' ho'
            go_wp2
            go_roundw
            case rel =>
              refine ⟨k + 1, _, ks ++ [⟨xf, xl, xt⟩], by omega, by go_num, a4, ?_, by simp; omega, HB3.out⟩
              show _ = _
              rw [partE_next hlt, EX.out, HQ.out, if_pos rfl, HK.out]
            case measure => simp [intOf]; omega
        · go_wp2
          go_roundw
          case rel =>
            refine ⟨k + 1, v, ks, by omega, by go_num, a1, ?_, by omega, hB2⟩
            show _ = _
            rw [partE_next hlt, EX.out, HQ.out, if_neg hqw, HK.out, List.append_nil]
          case measure => simp [intOf]; omega
      · obtain rfl : k = es.length := by omega
        have hL := LL.out
        simp at hL
        have hK := HK.out
        rw [List.take_of_length_le (Nat.le_refl _)] at hK
        subst hK
        subst hL
        obtain ⟨A1, c1', rfl, _, _⟩ := own_slice hB.1
        have HB := Lib.hid hB
        obtain ⟨_, _, hz, ⟨c0, c1, c2, c3⟩, f0, f1, f2⟩ := hB
        go_wp2
        refine bodyPost_ret (v := .agg #[.int .i64 s, .slice A1 (partE wk n es).length c1']) (by simp [results, Try.results76, go_sem, c0, c1]) rfl HB.out.made
end Go.Proofs.Ytlnphcongijfiaa
