/- PathEnds: program and reference make the same list. Conditions: the lengths, the labels in their range. -/
import Derived.Test.YtgpjgigmlgoiiaaReach
import Derived.Test.YtgpjgigmlgoiiaaFull
import Derived.Test.YtgpjgigmlgoiiaaBits
import Derived.Test.YtgpjgigmlgoiiaaSPathOk
import Derived.Test.YtgpjgigmlgoiiaaSGraphOk
namespace Go.Proofs.Ytgpjgigmlgoiiaa
open Go.RowKit

theorem PP_inv {p : Prop} (h : PP p = true) : p := by unfold PP at h; exact @of_decide_eq_true _ (Classical.propDecidable _) h
/-- The ends of a place, as far as the first k places. -/
noncomputable def endsTo (R : Rl) (i k : Nat) : List Int := ((List.range k).filter (fun j => PP (R i j))).map (fun (j : Nat) => (j : Int))
theorem endsTo_succ (R : Rl) (i k : Nat) : endsTo R i (k + 1) = endsTo R i k ++ (if PP (R i k) = true then [(k : Int)] else []) := by
  unfold endsTo
  rw [List.range_succ, List.filter_append, List.map_append]
  by_cases h : PP (R i k) = true <;> simp [h]
theorem endsTo_len (R : Rl) (i k : Nat) : (endsTo R i k).length ≤ k := by
  unfold endsTo
  rw [List.length_map]
  refine Nat.le_trans (List.length_filter_le _ _) ?_
  simp
theorem bits_far {S n : Nat} (h : ∀ j, n ≤ j → S.testBit j = false) : ∀ m, bitsTo S (n + m) = bitsTo S n
  | 0 => rfl
  | m + 1 => by
    rw [← Nat.add_assoc, bitsTo_succ, h (n + m) (by omega), bits_far h m]
    simp
theorem bits_ends {n : Nat} {rs : List Nat} {R : Rl} (h : IsU n rs R) {i : Nat} (hi : i < n) (hn : n ≤ 32) : bitsTo (rs.getD i 0) 32 = endsTo R i n := by
  have e := bits_far (fun j hj => far_bit h hi hj) (32 - n)
  rw [show n + (32 - n) = 32 by omega] at e
  rw [e]
  unfold bitsTo endsTo
  congr 1
  refine List.filter_congr (fun j hj => ?_)
  have hjn := List.mem_range.1 hj
  have hb := h.bit i hi j
  unfold RB at hb
  rw [Bool.eq_iff_iff, hb]
  constructor
  · rintro ⟨_, h2⟩; exact PP_yes h2
  · intro h2; exact ⟨hjn, PP_inv h2⟩
/-- What a path means over a graph. -/
def meanG (n : Nat) (es : List Ed) (ps : List Pc) : Rl := semT n (stG es) ps ps.length (ps.length - 1)
/-- The ends of a path from a vertex. -/
noncomputable def peL (s : Int) (es : List Ed) (ps : List Pc) (fr : Int) : List Int :=
  if PP (GOk s es ∧ PaOk ps ∧ vtxB s fr = true) = true then endsTo (meanG s.toNat es ps) fr.toNat s.toNat else []
theorem peL_no {s : Int} {es : List Ed} {ps : List Pc} {fr : Int} (h : ¬ (GOk s es ∧ PaOk ps ∧ vtxB s fr = true)) : peL s es ps fr = [] := by
  unfold peL
  rw [PP_no h]
  simp
theorem peL_yes {n : Nat} {es : List Ed} {ps : List Pc} {f : Nat} (h1 : GOk n es) (h2 : PaOk ps) (h3 : f < n) : peL n es ps f = endsTo (meanG n es ps) f n := by
  unfold peL
  rw [PP_yes ⟨h1, h2, by simp [vtxB, h3]⟩, if_pos rfl]
  simp
theorem peL_len (s : Int) (es : List Ed) (ps : List Pc) (fr : Int) : (peL s es ps fr).length ≤ 12 := by
  unfold peL
  split
  · rename_i h
    have h1 := (PP_inv h).1.1
    have := endsTo_len (meanG s.toNat es ps) fr.toNat s.toNat
    omega
  · simp
theorem gOk_er {n : Nat} {es : List Ed} (h : GOk n es) : ∀ e ∈ es, (0 ≤ e.f ∧ e.f < n) ∧ (0 ≤ e.t ∧ e.t < n) := by
  intro e he
  obtain ⟨i, hi, rfl⟩ := List.getElem_of_mem he
  have h1 := (h.2.2 i hi).1
  have h2 := h1.1
  have h3 := h1.2.1
  unfold vtxB at h2 h3
  rw [Bool.and_eq_true] at h2 h3
  exact ⟨⟨of_decide_eq_true h2.1, of_decide_eq_true h2.2⟩, of_decide_eq_true h3.1, of_decide_eq_true h3.2⟩

set_option maxRecDepth 100000 in
set_option maxHeartbeats 3200000 in
theorem impl_PathEnds_any (s : Int) (Ag A : Option Addr) (cg c : Nat) (es : List Ed) (ps : List Pc) (fr : Int) (w : World) (he : RdE w Ag es) (hel : es.length ≤ 1048576) (hl : ∀ e ∈ es, 0 ≤ e.l ∧ e.l ≤ 255) (hx : RdP w A ps) (hpl : ps.length ≤ 1048576) (hkl : ∀ p ∈ ps, p.k.length ≤ 4294967296) :
    Calls Try.prog 33 #[.agg #[.int .i64 s, .slice Ag es.length cg], .agg #[.slice A ps.length c], .int .i64 fr] w (MadeI w (peL s es ps fr)) := by
  have ka := below_alloc w (.cells #[.int .i64 s, .slice Ag es.length cg] 45)
  have p0 := heap_alloc_new w (.cells #[.int .i64 s, .slice Ag es.length cg] 45)
  obtain ⟨W1, hW1⟩ : ∃ W, w.alloc (.cells #[.int .i64 s, .slice Ag es.length cg] 45) = W := ⟨_, rfl⟩
  obtain ⟨g0, hg0⟩ : ∃ g, w.heap.size = g := ⟨_, rfl⟩
  rw [hW1] at p0 ka
  rw [hg0] at p0
  have kb := below_alloc W1 (.cells #[.slice A ps.length c] 59)
  have p1 := heap_alloc_new W1 (.cells #[.slice A ps.length c] 59)
  have p02 := blk_below kb p0
  have hb2 := below_step ka kb
  have he2 := (he.below ka).below kb
  have hx2 := (hx.keep ka).keep kb
  obtain ⟨W2, hW2⟩ : ∃ W, W1.alloc (.cells #[.slice A ps.length c] 59) = W := ⟨_, rfl⟩
  obtain ⟨g1, hg1⟩ : ∃ g, W1.heap.size = g := ⟨_, rfl⟩
  rw [hW2] at p1 p02 hb2 he2 hx2
  rw [hg1] at p1
  have P0 := Lib.hid p02
  have P1 := Lib.hid p1
  have HB2 := Lib.hid hb2
  have HE := Lib.hid he2
  have HX := Lib.hid hx2
  have HL := Lib.hid hl
  have HK := Lib.hid hkl
  have b00 := blk_cell (o := 0) p02 rfl
  have b01 := blk_cell (o := 1) p02 rfl
  have b10 := blk_cell (o := 0) p1 rfl
  have GO := Lib.hid (impl_GraphOk_any s Ag cg es W2 he2 (by omega) hl)
  have PO := Lib.hid (fun W (h : Below W2.heap.size W2 W) => impl_PathOk_any A c ps W (hx2.keep h) (by omega) hkl)
  have HNO := Lib.hid (fun (h : ¬ (GOk s es ∧ PaOk ps ∧ vtxB s fr = true)) => peL_no h)
  clear he hl hx hkl ka kb p0 p1 p02 hb2 he2 hx2
  go_enter Try.func33, Try.ntmps33
  go_wp2_with fail
  clear hW1 hW2 hg0 hg1
  refine GO.out.mono ?_
  by_cases hgo : GOk s es
  · rw [PP_yes hgo]
    rintro e w3 ⟨rfl, k3⟩
    have b00 := blk_cell (o := 0) (blk_below k3 P0.out) rfl
    have b01 := blk_cell (o := 1) (blk_below k3 P0.out) rfl
    have b10 := blk_cell (o := 0) (blk_below k3 P1.out) rfl
    go_wp2_with fail
    refine (PO.out w3 k3).mono ?_
    by_cases hpo : PaOk ps
    · rw [PP_yes hpo]
      rintro e w4 ⟨rfl, k4⟩
      have k34 := below_step k3 k4
      have b00 := blk_cell (o := 0) (blk_below k34 P0.out) rfl
      have b01 := blk_cell (o := 1) (blk_below k34 P0.out) rfl
      have b10 := blk_cell (o := 0) (blk_below k34 P1.out) rfl
      have HGO := Lib.hid hgo
      have HPO := Lib.hid hpo
      clear k3 k4 hgo hpo
      go_wp2_with fail
      refine (isVertex_any s Ag es.length cg fr w4).mono ?_
      obtain ⟨vb, hvb⟩ : ∃ vb, vtxB s fr = vb := ⟨_, rfl⟩
      rw [hvb]
      rintro e w5 ⟨rfl, hw5⟩
      have k45 := below_alloc w4 (.cells #[.int .i64 s, .slice Ag es.length cg] 45)
      rw [hw5] at k45
      have k35 := below_step k34 k45
      have b00 := blk_cell (o := 0) (blk_below k35 P0.out) rfl
      have b01 := blk_cell (o := 1) (blk_below k35 P0.out) rfl
      have b10 := blk_cell (o := 0) (blk_below k35 P1.out) rfl
      have HVB := Lib.hid hvb
      clear hw5 hvb k45 k34
      cases vb
      · go_wp2
        go_ret
        rw [HNO.out (fun h => by have := h.2.2; rw [HVB.out] at this; cases this)]
        exact ⟨none, 0, rfl, World.ownsRow_nil _ _ _ _, below_step HB2.out k35⟩
      · have h12 := HGO.out.1
        have hv := HVB.out
        unfold vtxB at hv
        rw [Bool.and_eq_true] at hv
        have hv1 := of_decide_eq_true hv.1
        have hv2 := of_decide_eq_true hv.2
        obtain ⟨n, rfl⟩ : ∃ n : Nat, s = n := ⟨s.toNat, by omega⟩
        obtain ⟨f, rfl⟩ : ∃ f : Nat, fr = f := ⟨fr.toNat, by omega⟩
        have hn12 : n ≤ 12 := by omega
        have hfn : f < n := by omega
        have hpl2 := peL_yes HGO.out HPO.out hfn
        have HPL := Lib.hid hpl2
        have RC := Lib.hid (reached_any n Ag A cg c es ps w5 (by omega) (HE.out.below k35) hel (gOk_er HGO.out) (HX.out.keep k35) HPO.out HK.out)
        have K35 := Lib.hid k35
        clear hpl2 hv h12 k35 HVB
        go_wp2_with fail
        refine RC.out.mono ?_
        rintro e w6 ⟨A1, c1, rs, rfl, h1, h2, h3⟩
        obtain ⟨ad, rfl, z0⟩ := h1.at_ (k := f) (by rw [h2.len]; exact hfn)
        have hlo := h2.lo f
        have HBE := Lib.hid (bits_ends h2 hfn (by omega))
        obtain ⟨x, hxx⟩ : ∃ x, rs.getD f 0 = x := ⟨_, rfl⟩
        rw [hxx] at z0 hlo HBE
        have K6 := Lib.hid (below_step K35.out h3)
        clear b00 b01 b10 h1 h2 h3 hxx RC
        go_wp2_with fail
        refine (bitsIn_any x w6 hlo).mono ?_
        rintro e w7 ⟨A7, c7, rfl, h7, k7⟩
        go_wp2
        go_ret
        rw [HPL.out]
        unfold meanG
        rw [← HBE.out]
        exact ⟨A7, c7, rfl, own_mono h7 (Nat.le_trans HB2.out.size K6.out.size), below_step HB2.out (below_step K6.out k7)⟩
    · rw [PP_no hpo]
      rintro e w4 ⟨rfl, k4⟩
      have HN := Lib.hid hpo
      clear hpo
      go_wp2
      go_ret
      rw [HNO.out (fun h => HN.out h.2.1)]
      exact ⟨none, 0, rfl, World.ownsRow_nil _ _ _ _, below_step HB2.out (below_step k3 k4)⟩
  · rw [PP_no hgo]
    rintro e w3 ⟨rfl, k3⟩
    have HN := Lib.hid hgo
    clear hgo
    go_wp2
    go_ret
    rw [HNO.out (fun h => HN.out h.1)]
    exact ⟨none, 0, rfl, World.ownsRow_nil _ _ _ _, below_step HB2.out k3⟩
end Go.Proofs.Ytgpjgigmlgoiiaa
