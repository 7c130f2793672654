/- spec.PathEnds: the list of peL. Conditions: the lengths, the labels in their range. -/
import Derived.Test.YtgpjgigmlgoiiaaEnds
namespace Go.Proofs.Ytgpjgigmlgoiiaa
open Go.RowKit

theorem MaI.kept {q n nn : Nat} {S : Nat → Rl} {k : Nat} {v : Value} {vs : List Value} {wr w' : World} (h : MaI q n nn S k v vs wr) {b len : Nat} {u : Value} {ys : List Value} (ho : wr.ownsRow b 3 1 u len ys) (hg : wr.grownBy w' u.ownBlock) : MaI q n nn S k v vs w' :=
  ⟨h.row.kept hg (own_ne h.row ho (by decide)), fun j hj => by
    obtain ⟨A, c, bs, h1, h2, h3⟩ := h.kids j hj
    exact ⟨A, c, bs, h1, h2.kept hg (own_ne h2 ho (by decide)), h3⟩⟩

set_option maxRecDepth 100000 in
set_option maxHeartbeats 6400000 in
theorem spec_PathEnds_any (s : Int) (Ag A : Option Addr) (cg c : Nat) (es : List Ed) (ps : List Pc) (fr : Int) (w : World) (he : RdE w Ag es) (hel : es.length ≤ 1048576) (hl : ∀ e ∈ es, 0 ≤ e.l ∧ e.l ≤ 255) (hx : RdP w A ps) (hpl : ps.length ≤ 1048576) (hkl : ∀ p ∈ ps, p.k.length ≤ 4294967296) :
    Calls Try.prog 32 #[.agg #[.int .i64 s, .slice Ag es.length cg], .agg #[.slice A ps.length c], .int .i64 fr] w (MadeI w (peL s es ps fr)) := by
  obtain ⟨i0, hi, hz0, hz1, hz2⟩ := info_parts Try.infoInt
  have ka := below_alloc w (.cells #[.int .i64 s, .slice Ag es.length cg] 45)
  have p0 := heap_alloc_new w (.cells #[.int .i64 s, .slice Ag es.length cg] 45)
  obtain ⟨W1, hW1⟩ : ∃ W, w.alloc (.cells #[.int .i64 s, .slice Ag es.length cg] 45) = W := ⟨_, rfl⟩
  obtain ⟨g0, hg0⟩ : ∃ g, w.heap.size = g := ⟨_, rfl⟩
  rw [hW1] at p0 ka
  rw [hg0] at p0
  have kb := below_alloc W1 (.cells #[.slice A ps.length c] 59)
  have p1 := heap_alloc_new W1 (.cells #[.slice A ps.length c] 59)
  have p02 := blk_below kb p0
  have hb2 := below_step ka kb
  have he2 := (he.below ka).below kb
  have hx2 := (hx.keep ka).keep kb
  obtain ⟨W2, hW2⟩ : ∃ W, W1.alloc (.cells #[.slice A ps.length c] 59) = W := ⟨_, rfl⟩
  obtain ⟨g1, hg1⟩ : ∃ g, W1.heap.size = g := ⟨_, rfl⟩
  rw [hW2] at p1 p02 hb2 he2 hx2
  rw [hg1] at p1
  have P0 := Lib.hid p02
  have P1 := Lib.hid p1
  have HB2 := Lib.hid hb2
  have HE := Lib.hid he2
  have HX := Lib.hid hx2
  have HL := Lib.hid hl
  have HK := Lib.hid hkl
  have k2 := below_alloc W2 (.cells #[] 3)
  have hown0 : (W2.alloc (.cells #[] 3)).ownsRow W2.heap.size 3 1 (.slice (some ⟨W2.heap.size, 0, none⟩) 0 0) 0 [] := World.ownsRow_made W2 #[] 0 (Nat.le_refl _) (by unfold maxLen; omega) rfl
  obtain ⟨W3, hW3⟩ : ∃ W, W2.alloc (.cells #[] 3) = W := ⟨_, rfl⟩
  obtain ⟨B, hB⟩ : ∃ B, W2.heap.size = B := ⟨_, rfl⟩
  have EB := Lib.hid hB
  rw [hW3] at k2 hown0
  rw [hB] at hown0
  have K2 := Lib.hid k2
  have O0 := Lib.hid hown0
  have b00 := blk_cell (o := 0) (blk_below k2 p02) rfl
  have b01 := blk_cell (o := 1) (blk_below k2 p02) rfl
  have b10 := blk_cell (o := 0) (blk_below k2 p1) rfl
  have GO := Lib.hid (spec_GraphOk_any s Ag cg es W3 (he2.below k2) (by omega) hl)
  have PO := Lib.hid (fun W (h : Below W2.heap.size W2 W) => spec_PathOk_any A c ps W (hx2.keep h) (by omega) hkl)
  have HNO := Lib.hid (fun (h : ¬ (GOk s es ∧ PaOk ps ∧ vtxB s fr = true)) => peL_no h)
  clear he hl hx hkl ka kb p0 p1 p02 hb2 he2 hx2 k2 hown0
  go_enter Try.func32, Try.ntmps32
  go_wp2_with fail
  clear hW1 hW2 hg0 hg1 hW3 hB
  refine GO.out.mono ?_
  by_cases hgo : GOk s es
  · rw [PP_yes hgo]
    rintro e w3 ⟨rfl, k3'⟩
    have k3 := below_step K2.out k3'
    have o3 := own_below O0.out k3'
    clear k3'
    have b00 := blk_cell (o := 0) (blk_below k3 P0.out) rfl
    have b01 := blk_cell (o := 1) (blk_below k3 P0.out) rfl
    have b10 := blk_cell (o := 0) (blk_below k3 P1.out) rfl
    go_wp2_with fail
    refine (PO.out w3 k3).mono ?_
    by_cases hpo : PaOk ps
    · rw [PP_yes hpo]
      rintro e w4 ⟨rfl, k4⟩
      have k34 := below_step k3 k4
      have o4 := own_below o3 k4
      have b00 := blk_cell (o := 0) (blk_below k34 P0.out) rfl
      have b01 := blk_cell (o := 1) (blk_below k34 P0.out) rfl
      have b10 := blk_cell (o := 0) (blk_below k34 P1.out) rfl
      have HGO := Lib.hid hgo
      have HPO := Lib.hid hpo
      have h12 := hgo.1
      have ws : IntKind.i64.wrap (s - 1) = s - 1 := IntWalk.i64_in _ (by omega)
      clear k3 k4 hgo hpo o3
      obtain ⟨vb, hvb⟩ : ∃ vb, vtxB s fr = vb := ⟨_, rfl⟩
      have hvi : (decide (0 ≤ fr) && decide (fr ≤ s - 1)) = vb := by
        rw [← hvb]
        unfold vtxB
        congr 1
        exact decide_eq_decide.2 (by omega)
      have I := Lib.hid (spec_l01In_any fr 0 (s - 1) w4)
      rw [hvi] at I
      have HVB := Lib.hid hvb
      have K34 := Lib.hid k34
      have O4 := Lib.hid o4
      clear hvb hvi k34 o4
      go_wp2_with fail
      refine I.out.mono ?_
      rintro e w5 ⟨rfl, rfl⟩
      cases vb
      · obtain ⟨A1, c1, hv, _, _⟩ := own_slice O4.out
        go_wp2
        go_ret
        rw [HNO.out (fun h => by have := h.2.2; rw [HVB.out] at this; cases this)]
        exact ⟨_, _, rfl, own_mono O4.out (by have := HB2.out.size; have := EB.out; omega), below_step HB2.out K34.out⟩
      · have hv := HVB.out
        unfold vtxB at hv
        rw [Bool.and_eq_true] at hv
        have hv1 := of_decide_eq_true hv.1
        have hv2 := of_decide_eq_true hv.2
        obtain ⟨n, rfl⟩ : ∃ n : Nat, s = n := ⟨s.toNat, by omega⟩
        obtain ⟨f, rfl⟩ : ∃ f : Nat, fr = f := ⟨fr.toNat, by omega⟩
        have hn12 : n ≤ 12 := by omega
        have hfn : f < n := by omega
        have HPL := Lib.hid (peL_yes HGO.out HPO.out hfn)
        have FC := Lib.hid (l06Full_any n Ag A cg c es ps w4 (by omega) (by omega) (HE.out.below K34.out) hel (gOk_er HGO.out) (HX.out.keep K34.out) HPO.out HK.out)
        have hpl1 := HPO.out.1
        have hmul : n * n ≤ 12 * 12 := Nat.mul_le_mul hn12 hn12
        have hfm : f * n ≤ 12 * 12 := Nat.mul_le_mul (by omega) hn12
        have wfn : IntKind.i64.wrap ((f : Int) * (n : Int)) = ((f * n : Nat) : Int) := by rw [← Int.natCast_mul]; exact IntWalk.i64_in _ (by omega)
        have HIJ := Lib.hid (fun j (hj : j < n) => ij_lt hfn hj)
        clear hv HVB h12 ws I
        go_wp2_with fail
        refine FC.out.mono ?_
        rintro e w6 ⟨A1, c1, vs, q, rfl, hm, k6⟩
        have O6 := Lib.hid (own_below O4.out k6)
        have K6 := Lib.hid (below_step K34.out k6)
        have M6 := Lib.hid hm
        obtain ⟨m, hm1⟩ : ∃ m, ps.length - 1 = m := ⟨_, rfl⟩
        have hmean : meanG n es ps = semT n (stG es) ps ps.length m := by unfold meanG; rw [hm1]
        have HME := Lib.hid hmean
        obtain ⟨mm, hmm⟩ : ∃ mm, ps.length = mm := ⟨_, rfl⟩
        have wpm : IntKind.i64.wrap ((mm : Int) - 1) = (m : Int) := by rw [show (mm : Int) - 1 = (m : Int) by omega]; exact IntWalk.i64_in _ (by omega)
        have m0 : (0 : Int) ≤ (m : Int) := by omega
        have m1 : (m : Int) < (mm : Int) := by omega
        have hmlt : m < mm := by omega
        obtain ⟨nn, hnn⟩ : ∃ nn, n * n = nn := ⟨_, rfl⟩
        obtain ⟨z, hz⟩ : ∃ z, f * n = z := ⟨_, rfl⟩
        rw [hnn] at M6 hmul HIJ
        rw [hz] at wfn hfm HIJ
        have HZ := Lib.hid hz
        rw [hmm] at M6
        have HMM := Lib.hid hmm
        obtain ⟨S, hS⟩ : ∃ S, semT n (stG es) ps mm = S := ⟨_, rfl⟩
        rw [hS] at M6
        have HS := Lib.hid hS
        clear hm k6 b00 b01 b10 hm1 hmean hnn hz hS FC
        go_wp2_with fail
        clear hmm
        go_loopw [7, 9] (fun v i wr => ∃ (k : Nat), k ≤ n ∧ i = .int .i64 k ∧ wr.ownsRow B 3 1 v (endsTo (S m) f k).length ((endsTo (S m) f k).map (Value.int .i64)) ∧ MaI q n nn S mm (.slice A1 mm c1) vs wr ∧ Below B W2 wr) (fun _ i _ => n - (intOf i).toNat)
        case atStart => exact ⟨0, Nat.zero_le _, rfl, by simpa [endsTo] using O6.out, M6.out, by have := K6.out; rw [EB.out] at this; exact this⟩
        case round =>
          clear O6 M6 K6
          obtain ⟨k, hk, rfl, hown, hm, hb⟩ := hrel
          obtain ⟨wo, rfl⟩ : ∃ wo : World, wo = wr := ⟨_, rfl⟩
          have hb' : Below W2.heap.size W2 wo := by rw [EB.out]; exact hb
          have b00 := blk_cell (o := 0) (blk_below hb' P0.out) rfl
          have b10 := blk_cell (o := 0) (blk_below hb' P1.out) rfl
          rw [HMM.out] at b10
          have hlen := endsTo_len (S m) f k
          have HO := Lib.hid hown
          have HM := Lib.hid hm
          have HB := Lib.hid hb
          by_cases hlt : k < n
          · obtain ⟨ad, A2, c2, bs, rfl, e1, r1, u1⟩ := hm.at_ hmlt
            have h1 := HIJ.out k hlt
            have hbit := u1.bit f k hfn hlt
            rw [HZ.out] at hbit
            obtain ⟨x1, hx1⟩ : ∃ x, z + k = x := ⟨_, rfl⟩
            rw [hx1] at h1 hbit
            obtain ⟨ad2, rfl, z1⟩ := r1.at_ h1
            have wx : IntKind.i64.wrap ((z : Int) + (k : Int)) = (x1 : Int) := by rw [← hx1]; push_cast; exact IntWalk.i64_in _ (by omega)
            have x0 : (0 : Int) ≤ (x1 : Int) := by omega
            have x2 : (x1 : Int) < (nn : Int) := by omega
            obtain ⟨bv, hbv⟩ : ∃ bv, bs.getD x1 false = bv := ⟨_, rfl⟩
            rw [hbv] at z1 hbit
            have HBIT := Lib.hid hbit
            have cb0 := fun p => cellQ b00 p
            have cb1 := fun p => cellQ b10 p
            have ce1 := fun p => cellQ e1 p
            have cz1 := fun p => cellQ z1 p
            have HSC := Lib.hid (endsTo_succ (S m) f k)
            clear hbv hbit hx1 u1 r1 hown hm hb hb'
            go_wp2_with fail
            refine wp_region_below (by kernel_rfl) (by kernel_rfl) ?_
            repeat (first | go_big_quiet_step (fail) | quiet_step (fail))
            refine wpQuiet_nil ?_
            intro w7 hw'
            obtain ⟨⟨w7, kk⟩, hw''⟩ := hw'
            subst hw''
            have O7 := Lib.hid (own_below HO.out kk)
            have M7 := Lib.hid (HM.out.keep kk)
            have K7 := Lib.hid (HB.out.trans (kk.mono (by have := HB.out.size; have := EB.out; omega)))
            clear cb0 cb1 ce1 cz1 b00 b10 e1 z1 kk
            cases bv
            · have HSK : Hid (endsTo (S m) f (k + 1) = endsTo (S m) f k) := Lib.hid (by rw [HSC.out, if_neg (fun h => by have := HBIT.out.2 (PP_inv h); cases this), List.append_nil])
              go_wp2
              go_roundw
              case rel => exact ⟨k + 1, by omega, by go_num, by rw [HSK.out]; exact O7.out, M7.out, K7.out⟩
              case measure => simp [intOf]; omega
            · have HSK : Hid (endsTo (S m) f (k + 1) = endsTo (S m) f k ++ [(k : Int)]) := Lib.hid (by rw [HSC.out, if_pos (PP_yes (HBIT.out.1 rfl))])
              go_wp2_with (first
                | (at_builtin
                   refine wpList_append_own _ rfl (.tmp 52) (.tmp 54) 63 rfl B 3 i0 (.int .i64 0) 1 8 Try.underlying63 hi hz0 hz1 hz2 rfl (by decide) _ _ _ rfl (O7.out.alloc _) ⟨w7.heap.size, 0, none⟩ 1 1 [.int .i64 k] rfl rfl (cell_one_new _ _ _) (by intro u hu; simp at hu; subst hu; rfl) (by unfold maxLen; omega) (by omega) (by have := K7.out.size; have := EB.out; simp; omega) ?_
                   intro v1 w8 hown8 hg8 _
                   have M8 := Lib.hid ((M7.out.keep (below_alloc w7 (.cells #[.int .i64 k] 3))).kept (O7.out.alloc (.cells #[.int .i64 k] 3)) hg8)))
              go_roundw
              case rel =>
                refine ⟨k + 1, by omega, by go_num, ?_, M8.out, ?_⟩
                · rw [HSK.out, List.length_append, List.map_append]
                  exact hown8
                · exact (K7.out.alloc (by have := K7.out.size; have := EB.out; omega) _).grown hg8 (by have := K7.out.size; have := EB.out; simp; omega) (fun r hr => (O7.out.lt r hr).1)
              case measure => simp [intOf]; omega
          · obtain rfl : k = n := by omega
            obtain ⟨A5, c5, rfl, _, _⟩ := own_slice hown
            clear hown hm hb
            go_wp2
            go_ret
            rw [HPL.out, HME.out, HMM.out, HS.out]
            exact ⟨A5, c5, rfl, own_mono HO.out (by have := HB2.out.size; have := EB.out; omega), below_step HB2.out hb'⟩
    · rw [PP_no hpo]
      rintro e w4 ⟨rfl, k4⟩
      have HN := Lib.hid hpo
      have O4 := Lib.hid (own_below o3 k4)
      clear hpo o3
      go_wp2
      go_ret
      rw [HNO.out (fun h => HN.out h.2.1)]
      exact ⟨_, _, rfl, own_mono O4.out (by have := HB2.out.size; have := EB.out; omega), below_step HB2.out (below_step k3 k4)⟩
  · rw [PP_no hgo]
    rintro e w3 ⟨rfl, k3⟩
    have HN := Lib.hid hgo
    have O3 := Lib.hid (own_below O0.out k3)
    clear hgo
    go_wp2
    go_ret
    rw [HNO.out (fun h => HN.out h.1)]
    exact ⟨_, _, rfl, own_mono O3.out (by have := HB2.out.size; have := EB.out; omega), below_step HB2.out (below_step K2.out k3)⟩
end Go.Proofs.Ytgpjgigmlgoiiaa
