/- BagText: program and reference return the same text. Conditions: the sizes of the lengths. -/
import Derived.Test.YtdikkfhdogkniaaBagT
import Derived.Test.YtdikkfhdogkniaaSBagOk
namespace Go.Proofs.Ytdikkfhdogkniaa
open Go.RowKit

theorem itsT_len {ps : List It} (h : ∀ x ∈ ps, ItOk x) : (itsT ps).length ≤ 30 * ps.length := by
  induction ps with
  | nil => simp [itsT]
  | cons x ps ih =>
    have h1 := ih (fun y hy => h y (by simp [hy]))
    have h2 := itT_len (h x (by simp))
    simp only [itsT, List.flatMap_cons, List.length_append, List.length_cons] at h1 ⊢
    omega

set_option maxRecDepth 100000 in
set_option maxHeartbeats 6400000 in
theorem impl_BagText_any (A : Option Addr) (c : Nat) (ps : List It) (w : World) (hx : RdB w A ps) (hn : ps.length ≤ 4294967296) (hk : ∀ p ∈ ps, p.r.length ≤ 4294967296) :
    Calls Try.prog 20 #[.agg #[.slice A ps.length c]] w fun e w' => e = .returned (btVal ps) ∧ Below w.heap.size w w' := by
  have HX := Lib.hid hx
  have C := Lib.hid (impl_BagOk_any A c ps (w.alloc (.cells #[.slice A ps.length c] 29)) (hx.alloc _) hn hk)
  have P0 := Lib.hid (heap_alloc_new w (.cells #[.slice A ps.length c] 29))
  have B0 := Lib.hid (below_alloc w (.cells #[.slice A ps.length c] 29))
  clear hx hk
  unfold btVal
  by_cases hok : BgOk ps
  · rw [PP_yes hok] at C ⊢
    rw [if_pos rfl]
    have hl := hok.1
    have HOK := Lib.hid hok
    clear hok
    have V1 := Lib.hid (vt_len5 (show ps.length ≤ 1000000000 by omega))
    have C1 := Lib.hid (fun w => impl_varText_any ps.length (by omega) w)
    go_enter Try.func20, Try.ntmps20
    go_wp2_with fail
    refine C.out.mono ?_
    rintro e w1 ⟨rfl, k1⟩
    have P1 := Lib.hid (blk_below k1 P0.out)
    have hB1 := below_step B0.out k1
    have hbs : w.heap.size < w1.heap.size := blk_lt P1.out
    clear P0 B0 k1 C
    have D1 := Bld.fresh w1
    have k2 : Below w1.heap.size w1 (w1.alloc (.cells #[.pointer none, .slice none 0 0] 68)) := (Below.refl _ _).alloc (Nat.le_refl _) _
    have hB2 := below_step hB1 k2
    have P2 := Lib.hid (blk_below k2 P1.out)
    have b0 := blk_cell (o := 0) P1.out rfl
    clear hB1 k2 P1
    go_wp2_with fail
    refine (C1.out _).mono ?_
    rintro e w2 ⟨rfl, k3⟩
    have D2 := D1.below k3
    have hB3 := below_step hB2 k3
    have P3 := Lib.hid (blk_below k3 P2.out)
    clear D1 hB2 k3 C1 b0 P2
    obtain ⟨g, hg⟩ : ∃ g, w1.heap.size = g := ⟨_, rfl⟩
    rw [hg] at D2 hbs
    go_wp2_with fail
    refine (writeString_any g [] (vt ps.length) w2 D2 (vt_byte _) (by have := V1.out; simp; omega)).mono ?_
    rintro e w3 ⟨rfl, D3, k4, o4⟩
    clear hg D2
    have hB4 := hB3.trans (k4.mono (Nat.le_of_lt hbs))
    have P4 := Lib.hid (blk_wrote o4 P3.out (by omega) (by decide))
    have b0 := blk_cell (o := 0) P4.out rfl
    clear hB3 P3 k4 o4
    rw [List.nil_append] at D3
    have hv1 := V1.out
    go_wp2
    clear b0
    go_loopw [20] (fun i wr => ∃ (k : Nat) (bs : List Int), k ≤ ps.length ∧ i = .int .i64 k ∧ Hid (bs = vt ps.length ++ itsT (ps.take k)) ∧ bs.length ≤ 5 + 30 * k ∧ Bld wr g bs ∧ Below w.heap.size w wr) (fun i _ => ps.length - (intOf i).toNat)
    case atStart => exact ⟨0, _, Nat.zero_le _, rfl, Lib.hid (by simp [itsT]), by omega, D3, hB4⟩
    case round =>
      clear D3 hB4 P4
      obtain ⟨k, bs, hk, rfl, HE, hbl, hD, hB⟩ := hrel
      by_cases hlt : k < ps.length
      · obtain ⟨b, o, Kk, ck, rfl, c0, c1, hrk⟩ := HX.out.at_ hlt
        have c0 := held_step hB c0
        have c1 := held_step hB c1
        have hit := HOK.out.it (List.getElem_mem hlt)
        have hnx := itsT_next hlt
        have hil := itT_len hit
        obtain ⟨x, hxx⟩ : ∃ x, ps[k] = x := ⟨_, rfl⟩
        rw [hxx] at c0 c1 hrk hit hnx hil
        obtain ⟨xr, xt⟩ := x
        obtain ⟨⟨hr4, hrz⟩, ht0, ht1⟩ := hit
        simp only at c0 c1 hrk hr4 hrz ht0 ht1
        obtain ⟨tn, rfl⟩ := nat_of (show 0 ≤ xt by omega)
        have HNX := Lib.hid hnx
        have HRZ := Lib.hid hrz
        have HIL := Lib.hid hil
        have k0 : (0 : Int) ≤ (k : Int) := by omega
        have k1 : (k : Int) < (ps.length : Int) := by omega
        have VL := Lib.hid (vt_len5 (show xr.length ≤ 1000000000 by omega))
        have VT := Lib.hid (vt_len5 (show tn ≤ 1000000000 by omega))
        have CL := Lib.hid (fun w => impl_varText_any xr.length (by omega) w)
        have CT := Lib.hid (fun w => impl_varText_any tn (by omega) w)
        have hDl := hD.lt
        have z1 := below_alloc wr (.cells #[.slice Kk xr.length ck, .int .i64 tn] 54)
        have p1 := Lib.hid (heap_alloc_new wr (.cells #[.slice Kk xr.length ck, .int .i64 tn] 54))
        have D1 := hD.below z1
        have hB1 := below_step hB z1
        have HRW := Lib.hid hrk
        clear hxx hnx hrz hil hD hB z1 hrk
        obtain ⟨h, hh⟩ : ∃ h, wr.heap.size = h := ⟨_, rfl⟩
        rw [hh] at p1 hDl
        go_wp2_with fail
        refine (CL.out _).mono ?_
        rintro e w2 ⟨rfl, k3⟩
        clear hh
        have D2 := D1.below k3
        have hB2 := below_step hB1 k3
        have p2 := Lib.hid (blk_below k3 p1.out)
        clear D1 hB1 k3 p1 CL
        go_wp2_with fail
        refine (writeString_any g bs (vt xr.length) w2 D2 (vt_byte _) (by have := VL.out; omega)).mono ?_
        rintro e w3 ⟨rfl, D3, z3, o3⟩
        have hB3 := hB2.trans (z3.mono (Nat.le_of_lt hbs))
        have p3 := Lib.hid (blk_wrote o3 p2.out (by omega) (by decide))
        have e0 := blk_cell (o := 0) p3.out rfl
        have hl3 : (bs ++ vt xr.length).length ≤ 10 + 30 * k := by have := VL.out; simp; omega
        clear D2 hB2 z3 o3 p2
        go_wp2
        clear e0
        go_loopw [32] (fun i wq => ∃ (j : Nat) (cs : List Int), j ≤ xr.length ∧ i = .int .i64 j ∧ Hid (cs = (bs ++ vt xr.length) ++ rowT (xr.take j)) ∧ cs.length ≤ 10 + 30 * k + 5 * j ∧ Hid (wq.heap[h]? = some (.cells #[.slice Kk xr.length ck, .int .i64 tn] 54 (0, 0))) ∧ Bld wq g cs ∧ Below w.heap.size w wq) (fun i _ => xr.length - (intOf i).toNat)
        case atStart => exact ⟨0, _, Nat.zero_le _, rfl, Lib.hid (by simp [rowT]), by omega, p3, D3, hB3⟩
        case round =>
          clear D3 hB3 p3
          obtain ⟨j, cs, hj, rfl, HC, hcl, HP, hDq, hBq⟩ := hrel
          by_cases hjl : j < xr.length
          · obtain ⟨ad, rfl, hc⟩ := (RdI.below HRW.out hBq).at_ hjl
            have he : xr.getD j 0 = xr[j] := by simp [List.getD, List.getElem?_eq_getElem hjl]
            rw [he] at hc
            have hz := HRZ.out _ (List.getElem_mem hjl)
            have hrn := rowT_next hjl
            obtain ⟨z, hzz⟩ : ∃ z, xr[j] = z := ⟨_, rfl⟩
            rw [hzz] at hc hz hrn
            obtain ⟨hz0, hz1⟩ := hz
            obtain ⟨zn, rfl⟩ := nat_of hz0
            have HRN := Lib.hid hrn
            have VZ := Lib.hid (vt_len5 (show zn ≤ 1000000000 by omega))
            have CZ := Lib.hid (fun w => impl_varText_any zn (by omega) w)
            have j0 : (0 : Int) ≤ (j : Int) := by omega
            have j1 : (j : Int) < (xr.length : Int) := by omega
            clear he hzz hrn
            go_wp2_with fail
            refine (CZ.out _).mono ?_
            rintro e w4 ⟨rfl, k4⟩
            have D4 := hDq.below k4
            have hB4 := below_step hBq k4
            have p4 := Lib.hid (blk_below k4 HP.out)
            clear hDq hBq k4 HP CZ hc
            go_wp2_with fail
            refine (writeString_any g cs (vt zn) w4 D4 (vt_byte _) (by have := VZ.out; omega)).mono ?_
            rintro e w5 ⟨rfl, D5, z5, o5⟩
            have hB5 := hB4.trans (z5.mono (Nat.le_of_lt hbs))
            have p5 := Lib.hid (blk_wrote o5 p4.out (by omega) (by decide))
            clear D4 hB4 z5 o5 p4
            go_wp2
            go_roundw
            case rel =>
              refine ⟨j + 1, _, by omega, by go_num, Lib.hid ?_, ?_, p5, D5, hB5⟩
              · rw [HRN.out, HC.out, List.append_assoc]
                rfl
              · have := VZ.out
                simp
                omega
            case measure => simp [intOf]; omega
          · obtain rfl : j = xr.length := by omega
            have hcc := HC.out
            rw [List.take_of_length_le (Nat.le_refl _)] at hcc
            have HCC := Lib.hid hcc
            have e1 := blk_cell (o := 1) HP.out rfl
            clear hcc
            go_wp2_with fail
            refine (CT.out _).mono ?_
            rintro e w4 ⟨rfl, k4⟩
            have D4 := hDq.below k4
            have hB4 := below_step hBq k4
            clear hDq hBq k4 HP CT e1
            go_wp2_with fail
            refine (writeString_any g cs (vt tn) w4 D4 (vt_byte _) (by have := VT.out; omega)).mono ?_
            rintro e w5 ⟨rfl, D5, z5, o5⟩
            have hB5 := hB4.trans (z5.mono (Nat.le_of_lt hbs))
            clear D4 hB4 z5 o5
            go_wp2
            go_roundw
            case rel =>
              refine ⟨k + 1, _, by omega, by go_num, Lib.hid ?_, ?_, D5, hB5⟩
              · rw [HNX.out, HCC.out, HE.out]
                simp [itT, List.append_assoc]
              · have := VT.out
                simp
                omega
            case measure => simp [intOf]; omega
      · obtain rfl : k = ps.length := by omega
        have hbe := HE.out
        rw [List.take_of_length_le (Nat.le_refl _)] at hbe
        have hbe2 : bs = bText ps := hbe
        have hby : ∀ z ∈ bs, 0 ≤ z ∧ z ≤ 255 := by rw [hbe2]; exact bText_byte ps
        have hbn : bs ≠ [] := by rw [hbe2]; exact bText_ne ps
        have HBE := Lib.hid hbe2
        clear hbe hbe2
        go_wp2_with fail
        refine (builderString_any g bs wr hD hby hbn (by omega)).mono ?_
        rintro e w4 ⟨rfl, z1⟩
        have hB1 := hB.trans (z1.mono (Nat.le_of_lt hbs))
        rw [HBE.out]
        go_wp2
        go_ret2
        exact ⟨rfl, hB1⟩
  · rw [PP_no hok] at C ⊢
    rw [if_neg (by simp)]
    clear hok P0
    go_enter Try.func20, Try.ntmps20
    go_wp2_with fail
    refine C.out.mono ?_
    rintro e w1 ⟨rfl, k1⟩
    go_wp2
    go_ret2
    exact ⟨rfl, below_step B0.out k1⟩

set_option maxRecDepth 100000 in
set_option maxHeartbeats 6400000 in
theorem spec_BagText_any (A : Option Addr) (c : Nat) (ps : List It) (w : World) (hx : RdB w A ps) (hn : ps.length ≤ 4294967296) (hk : ∀ p ∈ ps, p.r.length ≤ 4294967296) :
    Calls Try.prog 19 #[.agg #[.slice A ps.length c]] w fun e w' => e = .returned (btVal ps) ∧ Below w.heap.size w w' := by
  have HX := Lib.hid hx
  have C := Lib.hid (spec_BagOk_any A c ps (w.alloc (.cells #[.slice A ps.length c] 29)) (hx.alloc _) hn hk)
  have P0 := Lib.hid (heap_alloc_new w (.cells #[.slice A ps.length c] 29))
  have B0 := Lib.hid (below_alloc w (.cells #[.slice A ps.length c] 29))
  clear hx hk
  unfold btVal
  by_cases hok : BgOk ps
  · rw [PP_yes hok] at C ⊢
    rw [if_pos rfl]
    have hl := hok.1
    have HOK := Lib.hid hok
    clear hok
    have V1 := Lib.hid (vt_len5 (show ps.length ≤ 1000000000 by omega))
    have C1 := Lib.hid (fun w => spec_l01Var_any ps.length (by omega) w)
    go_enter Try.func19, Try.ntmps19
    go_wp2_with fail
    refine C.out.mono ?_
    rintro e w1 ⟨rfl, k1⟩
    have P1 := Lib.hid (blk_below k1 P0.out)
    have hB1 := below_step B0.out k1
    have b0 := blk_cell (o := 0) P1.out rfl
    clear P0 B0 k1 C
    go_wp2_with fail
    refine (C1.out _).mono ?_
    rintro e w2 ⟨rfl, k2⟩
    have P2 := Lib.hid (blk_below k2 P1.out)
    have hB2 := below_step hB1 k2
    have hv1 := V1.out
    clear P1 hB1 k2 C1 b0
    go_wp2
    go_loopw [4, 5] (fun v i wr => ∃ (k : Nat) (bs : List Int), k ≤ ps.length ∧ i = .int .i64 k ∧ v = .string (strOfNums bs) ∧ Hid (bs = vt ps.length ++ itsT (ps.take k)) ∧ bs.length ≤ 5 + 30 * k ∧ Hid (wr.heap[w.heap.size]? = some (.cells #[.slice A ps.length c] 29 (0, 0))) ∧ Below w.heap.size w wr) (fun _ i _ => ps.length - (intOf i).toNat)
    case atStart => exact ⟨0, _, Nat.zero_le _, rfl, rfl, Lib.hid (by simp [itsT]), by omega, P2, hB2⟩
    case round =>
      clear P2 hB2
      obtain ⟨k, bs, hk, rfl, rfl, HE, hbl, HP, hB⟩ := hrel
      have b0 := blk_cell (o := 0) HP.out rfl
      by_cases hlt : k < ps.length
      · obtain ⟨b, o, Kk, ck, rfl, c0, c1, hrk⟩ := HX.out.at_ hlt
        have C0 := Lib.hid c0
        have C1 := Lib.hid c1
        have c0 := held_step hB c0
        have c1 := held_step hB c1
        have hit := HOK.out.it (List.getElem_mem hlt)
        have hnx := itsT_next hlt
        have hil := itT_len hit
        obtain ⟨x, hxx⟩ : ∃ x, ps[k] = x := ⟨_, rfl⟩
        rw [hxx] at c0 c1 hrk hit hnx hil C0 C1
        obtain ⟨xr, xt⟩ := x
        obtain ⟨⟨hr4, hrz⟩, ht0, ht1⟩ := hit
        simp only at c0 c1 hrk hr4 hrz ht0 ht1 C0 C1
        obtain ⟨tn, rfl⟩ := nat_of (show 0 ≤ xt by omega)
        have HNX := Lib.hid hnx
        have HRZ := Lib.hid hrz
        have HRW := Lib.hid hrk
        have k0 : (0 : Int) ≤ (k : Int) := by omega
        have k1 : (k : Int) < (ps.length : Int) := by omega
        have VL := Lib.hid (vt_len5 (show xr.length ≤ 1000000000 by omega))
        have VT := Lib.hid (vt_len5 (show tn ≤ 1000000000 by omega))
        have CL := Lib.hid (fun w => spec_l01Var_any xr.length (by omega) w)
        have CT := Lib.hid (fun w => spec_l01Var_any tn (by omega) w)
        have hc1 := fun (w : World) => run_cat (P := Try.prog) bs (vt xr.length) (by have := VL.out; omega) w
        clear hxx hnx hrz hil hrk
        go_wp2_with fail
        refine (CL.out _).mono ?_
        rintro e w2 ⟨rfl, k2⟩
        have P2 := Lib.hid (blk_below k2 HP.out)
        have hB2 := below_step hB k2
        have b1 := blk_cell (o := 0) P2.out rfl
        have c0' := held_step hB2 C0.out
        clear HP hB k2 CL b0 c0 c1
        have hl3 : (bs ++ vt xr.length).length ≤ 10 + 30 * k := by have := VL.out; simp; omega
        go_wp2
        clear b1 c0' hc1
        go_loopw [4, 6] (fun v i wq => ∃ (j : Nat) (cs : List Int), j ≤ xr.length ∧ i = .int .i64 j ∧ v = .string (strOfNums cs) ∧ Hid (cs = (bs ++ vt xr.length) ++ rowT (xr.take j)) ∧ cs.length ≤ 10 + 30 * k + 5 * j ∧ Hid (wq.heap[w.heap.size]? = some (.cells #[.slice (some ⟨b, o, none⟩) ps.length c] 29 (0, 0))) ∧ Below w.heap.size w wq) (fun _ i _ => xr.length - (intOf i).toNat)
        case atStart => exact ⟨0, _, Nat.zero_le _, rfl, rfl, Lib.hid (by simp [rowT]), by omega, P2, hB2⟩
        case round =>
          clear P2 hB2
          obtain ⟨j, cs, hj, rfl, rfl, HC, hcl, HP, hBq⟩ := hrel
          have b0 := blk_cell (o := 0) HP.out rfl
          have c0 := held_step hBq C0.out
          by_cases hjl : j < xr.length
          · obtain ⟨ad, rfl, hc⟩ := (RdI.below HRW.out hBq).at_ hjl
            have he : xr.getD j 0 = xr[j] := by simp [List.getD, List.getElem?_eq_getElem hjl]
            rw [he] at hc
            have hz := HRZ.out _ (List.getElem_mem hjl)
            have hrn := rowT_next hjl
            obtain ⟨z, hzz⟩ : ∃ z, xr[j] = z := ⟨_, rfl⟩
            rw [hzz] at hc hz hrn
            obtain ⟨hz0, hz1⟩ := hz
            obtain ⟨zn, rfl⟩ := nat_of hz0
            have HRN := Lib.hid hrn
            have VZ := Lib.hid (vt_len5 (show zn ≤ 1000000000 by omega))
            have CZ := Lib.hid (fun w => spec_l01Var_any zn (by omega) w)
            have j0 : (0 : Int) ≤ (j : Int) := by omega
            have j1 : (j : Int) < (xr.length : Int) := by omega
            have hc1 := fun (w : World) => run_cat (P := Try.prog) cs (vt zn) (by have := VZ.out; omega) w
            clear he hzz hrn
            go_wp2_with fail
            refine (CZ.out _).mono ?_
            rintro e w4 ⟨rfl, k4⟩
            have P4 := Lib.hid (blk_below k4 HP.out)
            have hB4 := below_step hBq k4
            clear hBq k4 HP CZ hc b0 c0
            go_wp2
            go_roundw
            case rel =>
              refine ⟨j + 1, _, by omega, by go_num, rfl, Lib.hid ?_, ?_, P4, hB4⟩
              · rw [HRN.out, HC.out, List.append_assoc]
                rfl
              · have := VZ.out
                simp
                omega
            case measure => simp [intOf]; omega
          · obtain rfl : j = xr.length := by omega
            have hcc := HC.out
            rw [List.take_of_length_le (Nat.le_refl _)] at hcc
            have HCC := Lib.hid hcc
            have c1 := held_step hBq C1.out
            have hc1 := fun (w : World) => run_cat (P := Try.prog) cs (vt tn) (by have := VT.out; omega) w
            clear hcc
            go_wp2_with fail
            refine (CT.out _).mono ?_
            rintro e w4 ⟨rfl, k4⟩
            have P4 := Lib.hid (blk_below k4 HP.out)
            have hB4 := below_step hBq k4
            clear hBq k4 HP CT c1 c0 b0
            go_wp2
            go_roundw
            case rel =>
              refine ⟨k + 1, _, by omega, by go_num, rfl, Lib.hid ?_, ?_, P4, hB4⟩
              · rw [HNX.out, HCC.out, HE.out]
                simp [itT, List.append_assoc]
              · have := VT.out
                simp
                omega
            case measure => simp [intOf]; omega
      · obtain rfl : k = ps.length := by omega
        have hbe := HE.out
        rw [List.take_of_length_le (Nat.le_refl _)] at hbe
        have hbe2 : bs = bText ps := hbe
        subst hbe2
        clear hbe
        go_wp2
        go_ret2
        exact ⟨rfl, hB⟩
  · rw [PP_no hok] at C ⊢
    rw [if_neg (by simp)]
    clear hok P0
    go_enter Try.func19, Try.ntmps19
    go_wp2_with fail
    refine C.out.mono ?_
    rintro e w1 ⟨rfl, k1⟩
    go_wp2
    go_ret2
    exact ⟨rfl, below_step B0.out k1⟩
end Go.Proofs.Ytdikkfhdogkniaa
