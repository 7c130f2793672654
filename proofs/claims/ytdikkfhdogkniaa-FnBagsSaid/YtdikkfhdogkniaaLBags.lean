/- FnBags: a row that is added to a drawn bag is there as often more; all others stay; rows stay in order. No conditions. Printed by xlbags.py. -/
import Derived.Test.YtdikkfhdogkniaaBagsP
import Derived.Test.YtdikkfhdogkniaaDrawBs
import Derived.Test.YtdikkfhdogkniaaDrawn
import Derived.Test.YtdikkfhdogkniaaBig
import Derived.Test.YtdikkfhdogkniaaBelowQ
import Derived.Deep.DeepCutAuto
import Derived.Deep.RegionHeld3
namespace Go.Proofs.Ytdikkfhdogkniaa
open Go.RowKit

/-- A row of two numbers of the call's own. -/
def OutRow (w : World) (x y : Int) (p : Value) (w' : World) : Prop := ∃ g, p = .slice (some ⟨g, 0, none⟩) 2 2 ∧ w'.heap[g]? = some (.cells #[.int .i64 x, .int .i64 y] 3 (0, 0)) ∧ Below w.heap.size w w'
theorem rdI_two {w : World} {g : Nat} {x y : Int} {t : TypeId} {fz : Nat × Nat} (h : w.heap[g]? = some (.cells #[.int .i64 x, .int .i64 y] t fz)) : RdI w (some ⟨g, 0, none⟩) 2 [x, y] := by
  refine ⟨rfl, fun _ => ⟨_, rfl, fun j u hu => ?_⟩⟩
  have hadd : (⟨g, 0, none⟩ : Addr).add j = ⟨g, j, none⟩ := by unfold Addr.add; split <;> simp_all
  rw [hadd, cell_of_row _ g j _ _ _ h]
  simpa using hu

set_option maxRecDepth 100000 in
set_option linter.unusedSimpArgs false in
set_option maxHeartbeats 6400000 in
theorem FnBags_walk (w : World) (v0 : Value) (cs : List Int) (h0 : SlK w .u8 v0 cs) :
    Calls Try.prog 9 #[v0] w fun e w' => e = .returned (.bool true) ∧ Below w.heap.size w w' := by
  obtain ⟨A, n, c, rfl, hn, hcode⟩ := code0_of h0
  clear h0
  by_cases hbig : 1048576 < n
  · have B := Lib.hid (big_any A n c w hn)
    rw [show decide (1048576 < n) = true by simp; omega] at B
    clear hcode
    go_enter Try.func9, Try.ntmps9
    go_wp2_with fail
    refine B.out.mono ?_
    rintro e w1 ⟨rfl, rfl⟩
    go_wp2
    go_ret
    exact ⟨rfl, Below.refl _ _⟩
  · have B := Lib.hid (big_any A n c w hn)
    rw [show decide (1048576 < n) = false by simp; omega] at B
    have hc := hcode (by omega)
    clear hcode
    have HC := Lib.hid hc
    clear hc
    go_enter Try.func9, Try.ntmps9
    go_wp2_with fail
    refine B.out.mono ?_
    rintro e w1 ⟨rfl, rfl⟩
    clear B
    go_wp2_with fail
    refine (DrawBags_any A n c cs _ HC.out).mono ?_
    rintro e w1 ⟨A1, c1, ps, A2, c2, qs, rfl, hd1, hd2, o1, o2, k1⟩
    have HD := Lib.hid hd1
    have hl7 := hd1.2.1
    have hq7 := hd2.2.1
    have O1 := Lib.hid o1.rd
    have K1 := Lib.hid k1
    clear hd1 hd2 o1 o2 k1
    go_wp2_with fail
    have ka := below_alloc w1 (.cells #[.slice A1 ps.length c1] 29)
    have kb := below_alloc (w1.alloc (.cells #[.slice A1 ps.length c1] 29)) (.cells #[.slice A2 qs.length c2] 29)
    have kab := below_step ka kb
    have B2 := Lib.hid (below_step K1.out kab)
    have QA := Lib.hid (blk_below kb (heap_alloc_new w1 (.cells #[.slice A1 ps.length c1] 29)))
    have RA := Lib.hid (O1.out.keep kab)
    obtain ⟨qa, hqa⟩ : ∃ q, w1.heap.size = q := ⟨_, rfl⟩
    obtain ⟨W2, hW2⟩ : ∃ W, (w1.alloc (.cells #[.slice A1 ps.length c1] 29)).alloc (.cells #[.slice A2 qs.length c2] 29) = W := ⟨_, rfl⟩
    rw [hqa, hW2] at QA
    rw [hW2] at B2 RA
    rw [hW2]
    refine (DrawPlaces_any A n c cs W2 (HC.out.keep B2.out)).mono ?_
    clear ka kb kab K1 O1
    rintro e w3 ⟨AP, cP, zs, rfl, hpl, hpb, rp, k3⟩
    have hp0 := hpb (zs.getD 0 0) (by rw [List.getD_eq_getElem?_getD, List.getElem?_eq_getElem (by omega)]; exact List.getElem_mem _)
    have hp1 := hpb (zs.getD 1 0) (by rw [List.getD_eq_getElem?_getD, List.getElem?_eq_getElem (by omega)]; exact List.getElem_mem _)
    have hp2 := hpb (zs.getD 2 0) (by rw [List.getD_eq_getElem?_getD, List.getElem?_eq_getElem (by omega)]; exact List.getElem_mem _)
    obtain ⟨ad, rfl, c0⟩ := rp.at_ (show 0 < 12 by omega)
    obtain ⟨_, e1, c1'⟩ := rp.at_ (show 1 < 12 by omega)
    injection e1 with e1
    subst e1
    obtain ⟨_, e2, c2'⟩ := rp.at_ (show 2 < 12 by omega)
    injection e2 with e2
    subst e2
    obtain ⟨p0, hp0'⟩ : ∃ p, zs.getD 0 0 = p := ⟨_, rfl⟩
    obtain ⟨p1, hp1'⟩ : ∃ p, zs.getD 1 0 = p := ⟨_, rfl⟩
    obtain ⟨p2, hp2'⟩ : ∃ p, zs.getD 2 0 = p := ⟨_, rfl⟩
    rw [hp0'] at hp0 c0
    rw [hp1'] at hp1 c1'
    rw [hp2'] at hp2 c2'
    have B3 := Lib.hid (below_step B2.out k3)
    have QA3 := Lib.hid (blk_below k3 QA.out)
    have RA3 := Lib.hid (RA.out.keep k3)
    clear B2 QA RA hp0' hp1' hp2' hpb rp hpl k3 hW2
    try rw [hqa]
    clear hqa
    obtain ⟨p00, p01⟩ := hp0
    obtain ⟨p10, p11⟩ := hp1
    obtain ⟨p20, p21⟩ := hp2
    have c00 : w3.cell? ad = some (.int .i64 p0) := by simpa [Addr.add] using c0
    have c1' : w3.cell? ⟨ad.block, ad.off + 1, none⟩ = some (.int .i64 p1) := by simpa [Addr.add] using c1'
    have c2' : w3.cell? ⟨ad.block, ad.off + 2, none⟩ = some (.int .i64 p2) := by simpa [Addr.add] using c2'
    obtain ⟨x, hx⟩ : ∃ x, p0 % 5 = x := ⟨_, rfl⟩
    obtain ⟨y, hy⟩ : ∃ y, p1 % 5 = y := ⟨_, rfl⟩
    obtain ⟨t, ht⟩ : ∃ t, 1 + p2 % 9 = t := ⟨_, rfl⟩
    have hx0 : 0 ≤ x ∧ x ≤ 4 := by omega
    have hy0 : 0 ≤ y ∧ y ≤ 4 := by omega
    have ht0 : 1 ≤ t ∧ t ≤ 9 := by omega
    have m0 : p0.tmod 5 = x := by rw [← hx]; exact Int.tmod_eq_emod_of_nonneg p00
    have m1 : p1.tmod 5 = y := by rw [← hy]; exact Int.tmod_eq_emod_of_nonneg p10
    have m2 : p2.tmod 9 = p2 % 9 := Int.tmod_eq_emod_of_nonneg p20
    have HT := Lib.hid ht
    clear hx hy ht
    go_upto_region 5 with fail
    go_cut [6] (fun s6 wx => OutRow w3 x y s6 wx)
    case first =>
      have MK := Lib.hid (fun (w' : World) (hB : Below w3.heap.size w3 w') => (⟨held_step hB c00, held_step hB c1', hB⟩ : w'.cell? ad = some (.int .i64 p0) ∧ w'.cell? ⟨ad.block, ad.off + 1, none⟩ = some (.int .i64 p1) ∧ Below w3.heap.size w3 w'))
      have B0 : Below w3.heap.size w3 w3.drew := (Below.refl _ _).drew
      clear m2 c2'
      go_region_held3 (fun w' => w'.cell? ad = some (.int .i64 p0) ∧ w'.cell? ⟨ad.block, ad.off + 1, none⟩ = some (.int .i64 p1) ∧ Below w3.heap.size w3 w')
        ((first
          | (exact MK.out _ B0)
          | assumption
          | (exact MK.out _ (below_step B0 (below_alloc _ _)))))
        (fail)
      all_goals
        go_wp2_with fail
        go_meet
        exact ⟨_, rfl, heap_alloc_new _ _, (below_alloc _ _).drew⟩
    case rest =>
      obtain ⟨gr, rfl, qr, k4⟩ := hcut
      obtain ⟨w4, hw4⟩ : ∃ w, wc = w := ⟨_, rfl⟩
      rw [hw4] at qr k4 ⊢
      clear hw4
      have B4 := Lib.hid (below_step B3.out k4)
      have QA := Lib.hid (blk_below k4 QA3.out)
      have RA := Lib.hid (RA3.out.keep k4)
      have QR := Lib.hid qr
      have RR : Hid (RdI w4 (some ⟨gr, 0, none⟩) 2 [x, y]) := Lib.hid (rdI_two qr)
      have c2' := held_step k4 c2'
      have m3 : IntKind.i64.wrap (p2 % 9) = p2 % 9 := IntWalk.i64_in _ (by omega)
      have m4 : IntKind.i64.wrap (1 + p2 % 9) = t := by rw [HT.out]; exact IntWalk.i64_in _ (by omega)
      clear qr k4 QA3 RA3 B3 c0 c00 c1' m0 m1
      obtain ⟨row, hrow⟩ : ∃ r, [x, y] = r := ⟨_, rfl⟩
      have hrl : row.length = 2 := by rw [← hrow]; rfl
      have hrv : ∀ v ∈ row, 0 ≤ v ∧ v ≤ 4 := by rw [← hrow]; simp; omega
      rw [hrow] at RR
      obtain ⟨hadd, hLok, hLl, hoth, hself, hsize, htp, hsp⟩ := addL_drawn HD.out hrl hrv ht0
      have hlk := (fun p hp => by have := (HD.out.1.it hp).1.1; omega : ∀ p ∈ ps, p.r.length ≤ 4294967296)
      have HK := Lib.hid hlk
      have CA : Hid (∀ w, RdB w A1 ps → RdI w (some ⟨gr, 0, none⟩) 2 row → Calls Try.prog 27 #[.agg #[.slice A1 ps.length c1], .slice (some ⟨gr, 0, none⟩) 2 2, .int .i64 t] w (MadeB2 w (lput ps row t) true)) := Lib.hid (fun w h1 h2 => by
        have := impl_BagAdd_any A1 (some ⟨gr, 0, none⟩) c1 2 ps row t w h1 (by rw [hrl]; exact h2) (by omega) hlk (by omega)
        rw [hrl, addL_yes hadd, PP_yes hadd] at this
        exact this)
      have TA : Hid (∀ w, RdB w A1 ps → RdI w (some ⟨gr, 0, none⟩) 2 row → Calls Try.prog 38 #[.agg #[.slice A1 ps.length c1], .slice (some ⟨gr, 0, none⟩) 2 2] w fun e w' => e = .returned (.int .i64 (timesL ps row)) ∧ Below w.heap.size w w') := Lib.hid (fun w h1 h2 => by
        have := spec_BagTimes_any A1 (some ⟨gr, 0, none⟩) c1 2 ps row w h1 (by rw [hrl]; exact h2) (by omega) hlk
        rw [hrl] at this
        exact this)
      have SA := Lib.hid (fun w h1 => spec_BagSize_any A1 c1 ps w h1 (by omega) HK.out)
      obtain ⟨L, hL⟩ : ∃ L, lput ps row t = L := ⟨_, rfl⟩
      rw [hL] at CA hLok hLl hoth hself hsize
      have hLk := (fun p hp => by have := (hLok.it hp).1.1; omega : ∀ p ∈ L, p.r.length ≤ 4294967296)
      have HLK := Lib.hid hLk
      have HLOK := Lib.hid hLok
      have HOT := Lib.hid hoth
      have TB : Hid (∀ A c w, RdB w A L → RdI w (some ⟨gr, 0, none⟩) 2 row → Calls Try.prog 36 #[.agg #[.slice A L.length c], .slice (some ⟨gr, 0, none⟩) 2 2] w fun e w' => e = .returned (.int .i64 (timesL ps row + t)) ∧ Below w.heap.size w w') := Lib.hid (fun A c w h1 h2 => by
        have := impl_BagTimes_any A (some ⟨gr, 0, none⟩) c 2 L row w h1 (by rw [hrl]; exact h2) (by omega) hLk
        rw [hrl, hself] at this
        exact this)
      have SB : Hid (∀ A c w, RdB w A L → Calls Try.prog 18 #[.agg #[.slice A L.length c]] w fun e w' => e = .returned (.int .i64 (bgSize ps + t)) ∧ Below w.heap.size w w') := Lib.hid (fun A c w h1 => by
        have := impl_BagSize_any A c L w h1 (by omega) hLk
        rw [hsize] at this
        exact this)
      have OB : Hid (∀ A c w, RdB w A L → Calls Try.prog 15 #[.agg #[.slice A L.length c]] w fun e w' => e = .returned (.bool true) ∧ Below w.heap.size w w') := Lib.hid (fun A c w h1 => by
        have := impl_BagOk_any A c L w h1 (by omega) hLk
        rw [PP_yes hLok] at this
        exact this)
      have T1 := Lib.hid (fun w h1 (h2 : RdI w (some ⟨gr, 0, none⟩) 2 row) => TA.out w h1 h2)
      obtain ⟨tp, htpe⟩ : ∃ z, timesL ps row = z := ⟨_, rfl⟩
      obtain ⟨sp, hspe⟩ : ∃ z, bgSize ps = z := ⟨_, rfl⟩
      rw [htpe] at TA TB T1 htp
      rw [hspe] at SA SB hsp
      clear hL hrow hrv hadd hLok hoth hself hsize hlk hLk htpe hspe T1 hrl
      unfold MadeB2 at CA
      have a0 := blk_cell (o := 0) QA.out rfl
      go_wp2_with fail
      refine (CA.out w4 RA.out RR.out).mono ?_
      rintro e w5 ⟨A6, c6, rfl, own6, k5⟩
      have ka := below_alloc w5 (.cells #[.slice A6 L.length c6] 29)
      have kk := below_step k5 ka
      have QB := Lib.hid (heap_alloc_new w5 (.cells #[.slice A6 L.length c6] 29))
      have RB := Lib.hid (own6.rd.keep ka)
      replace QA := Lib.hid (blk_below kk QA.out)
      replace RA := Lib.hid (RA.out.keep kk)
      replace RR := Lib.hid (RdI.below RR.out kk)
      replace B4 := Lib.hid (below_step B4.out kk)
      obtain ⟨qb, hqb⟩ : ∃ q, w5.heap.size = q := ⟨_, rfl⟩
      obtain ⟨W6, hW6⟩ : ∃ W, w5.alloc (.cells #[.slice A6 L.length c6] 29) = W := ⟨_, rfl⟩
      rw [hqb, hW6] at QB
      rw [hW6] at RB QA RA RR B4
      clear own6 k5 ka kk a0 CA c2' m2 m3 m4 HT QR
      go_wp2
      clear hqb hW6
      go_loopw [10] (fun i wr => ∃ (k : Nat), k ≤ ps.length ∧ i = .int .i64 k ∧ Below W6.heap.size W6 wr) (fun i _ => ps.length - (intOf i).toNat)
      case atStart => exact ⟨0, Nat.zero_le _, rfl, Below.refl _ _⟩
      case round =>
        obtain ⟨k, hk, rfl, hb⟩ := hrel
        have a0 := held_step hb (blk_cell (o := 0) QA.out rfl)
        have b0 := held_step hb (blk_cell (o := 0) QB.out rfl)
        by_cases hlt : k < ps.length
        · have hmem : ps[k] ∈ ps := List.getElem_mem hlt
          obtain ⟨b, o, Kk, ck, rfl, e0, e1, hrk⟩ := (RA.out.keep hb).at_ hlt
          have hot := HOT.out _ hmem
          have hkl := HK.out _ hmem
          obtain ⟨z, hzz⟩ : ∃ z, ps[k] = z := ⟨_, rfl⟩
          rw [hzz] at e0 e1 hrk hot hkl
          clear hzz hmem
          obtain ⟨zr, zt⟩ := z
          simp only at e0 e1 hrk hot hkl
          have k0 : (0 : Int) ≤ (k : Int) := by omega
          have k1 : (k : Int) < (ps.length : Int) := by omega
          have R1 := Lib.hid (fun p : BelowOf wr => RdI.below hrk p.h)
          have R2 := Lib.hid (fun p : BelowOf wr => RdI.below (RdI.below RR.out hb) p.h)
          have R3 := Lib.hid (fun p : BelowOf wr => (RB.out.keep hb).keep p.h)
          have TS := Lib.hid (fun w h1 h2 => sameInts_any Kk (some ⟨gr, 0, none⟩) zr.length 2 ck 2 zr row w h1 h2 hkl)
          obtain ⟨r, hr⟩ : ∃ r, eqL zr row = r := ⟨_, rfl⟩
          rw [hr] at TS
          have TT := Lib.hid (fun w h1 h2 => impl_BagTimes_any A6 Kk c6 ck L zr w h1 h2 (by omega) HLK.out)
          obtain ⟨z, hz⟩ : ∃ z, timesL L zr = z := ⟨_, rfl⟩
          rw [hz] at TT hot
          have HOZ : Hid (r = false → (z != zt) = false) := Lib.hid (fun h => by
            rw [hot (fun e => by rw [eqL_yes e, h] at hr; cases hr)]
            simp)
          have a0 := fun p => cellQ a0 p
          have b0 := fun p => cellQ b0 p
          have e0 := fun p => cellQ e0 p
          have e1 := fun p => cellQ e1 p
          have HB := Lib.hid hb
          clear hr hz hot hrk hb hkl
          cases r
          all_goals
            try have hzt := HOZ.out rfl
            clear HOZ
            go_wp2_with fail
            refine wp_region_below (by kernel_rfl) (by kernel_rfl) ?_
            repeat (first
              | go_big_quiet_step ((first | (go_at_call 35; exact Calls.below_of (TS.out _ (R1.out _) (R2.out _))) | (go_at_call 36; exact Calls.below_of (TT.out _ (R3.out _) (R1.out _)))))
              | quiet_step ((first | (go_at_call 35; exact Calls.below_of (TS.out _ (R1.out _) (R2.out _))) | (go_at_call 36; exact Calls.below_of (TT.out _ (R3.out _) (R1.out _))))))
            refine wpQuiet_nil ?_
            intro _ hw'
            obtain ⟨⟨w7, kk⟩, hw''⟩ := hw'
            subst hw''
            have hb7 := below_step HB.out kk
            clear a0 b0 e0 e1
            go_wp2
            go_roundw
            case rel => exact ⟨k + 1, by omega, by go_num, hb7⟩
            case measure => simp [intOf]; omega
        · have HB := Lib.hid hb
          replace QA := Lib.hid (blk_below hb QA.out)
          replace QB := Lib.hid (blk_below hb QB.out)
          replace RA := Lib.hid (RA.out.keep hb)
          replace RB := Lib.hid (RB.out.keep hb)
          replace RR := Lib.hid (RdI.below RR.out hb)
          replace B4 := Lib.hid (below_step B4.out hb)
          clear hb HB
          go_wp2
          clear a0 b0
          obtain ⟨w8, hw8⟩ : ∃ z : World, wr = z := ⟨_, rfl⟩
          rw [hw8] at QA QB RA RB RR B4
          rw [hw8]
          clear hw8
          go_loopw [11] (fun i wi => ∃ (j : Nat), 1 ≤ j ∧ i = .int .i64 j ∧ Below w8.heap.size w8 wi) (fun i _ => L.length - (intOf i).toNat)
          case atStart => exact ⟨1, Nat.le_refl _, rfl, Below.refl _ _⟩
          case round =>
            obtain ⟨j, hj, rfl, hb⟩ := hrel
            have b0 := held_step hb (blk_cell (o := 0) QB.out rfl)
            by_cases hlt : j < L.length
            · obtain ⟨m, hm⟩ : ∃ m, j = m + 1 := ⟨j - 1, by omega⟩
              have hml : m < L.length := by omega
              have hless := (HLOK.out.2 j hlt).2.2 m (by omega)
              obtain ⟨b, o, Kk, ck, hA6, e0, e1, hrk⟩ := (RB.out.keep hb).at_ hlt
              obtain ⟨b', o', Km, cm, hA6', f0, f1, hrm⟩ := (RB.out.keep hb).at_ hml
              rw [hA6] at hA6'
              injection hA6' with hA6'
              injection hA6' with hb1 ho1
              subst hb1 ho1
              subst hA6
              have hk1 := HLK.out _ (List.getElem_mem hlt)
              have hk2 := HLK.out _ (List.getElem_mem hml)
              obtain ⟨z, hzz⟩ : ∃ z, L[j] = z := ⟨_, rfl⟩
              obtain ⟨y', hyy⟩ : ∃ z, L[m] = z := ⟨_, rfl⟩
              rw [hzz] at e0 e1 hrk hk1 hless
              rw [hyy] at f0 f1 hrm hk2 hless
              clear hzz hyy
              have TL := Lib.hid (fun (p : BelowOf wr) => impl_RowLess_any Km Kk y'.r.length z.r.length cm ck y'.r z.r p.w (RdI.below hrm p.h) (RdI.below hrk p.h) hk2 hk1)
              rw [show rowLess y'.r z.r = true from decide_eq_true hless] at TL
              have k0 : (0 : Int) ≤ (j : Int) := by omega
              have k1 : (j : Int) < (L.length : Int) := by omega
              have d2 : (j : Int) - 1 = (m : Int) := by omega
              have d4 : (0 : Int) ≤ (m : Int) := by omega
              have d5 : (m : Int) < (L.length : Int) := by omega
              have d6 : IntKind.i64.wrap ((j : Int) - 1) = (m : Int) := by rw [d2]; exact IntWalk.i64_in _ (by omega)
              have d7 : IntKind.i64.wrap (m : Int) = (m : Int) := IntWalk.i64_in _ (by omega)
              have b0 := fun p => cellQ b0 p
              have e0 := fun p => cellQ e0 p
              have f0 := fun p => cellQ f0 p
              have HM := Lib.hid hm
              have HB := Lib.hid hb
              clear hm hrm hrk hb hless e1 f1
              go_wp2_with fail
              refine wp_region_below (by kernel_rfl) (by kernel_rfl) ?_
              repeat (first
                | go_big_quiet_step ((go_at_call 37; exact Calls.below_same (TL.out _)))
                | quiet_step ((go_at_call 37; exact Calls.below_same (TL.out _))))
              refine wpQuiet_nil ?_
              intro _ hw'
              obtain ⟨⟨w7, kk⟩, hw''⟩ := hw'
              subst hw''
              have hb7 := below_step HB.out kk
              clear b0 e0 f0 d2 d6 d7
              go_wp2
              go_roundw
              case rel => exact ⟨j + 1, by omega, by go_num, hb7⟩
              case measure => simp [intOf]; omega
            · have a0 := held_step hb (blk_cell (o := 0) QA.out rfl)
              have HB := Lib.hid hb
              have R1 := Lib.hid (fun p : BelowOf wr => (RA.out.keep hb).keep p.h)
              have R2 := Lib.hid (fun p : BelowOf wr => RdI.below (RdI.below RR.out hb) p.h)
              have R3 := Lib.hid (fun p : BelowOf wr => (RB.out.keep hb).keep p.h)
              have a0 := fun p => cellQ a0 p
              have b0 := fun p => cellQ b0 p
              have s1 : IntKind.i64.wrap (tp + t) = tp + t := IntWalk.i64_in _ (by omega)
              have s2 : IntKind.i64.wrap (sp + t) = sp + t := IntWalk.i64_in _ (by omega)
              have s3 : (tp + t == tp + t) = true := by simp
              have s4 : (sp + t == sp + t) = true := by simp
              clear hb
              go_wp2_with fail
              refine wp_region_below (by kernel_rfl) (by kernel_rfl) ?_
              repeat (first
                | go_big_quiet_step ((first | (go_at_call 15; exact Calls.below_of (OB.out _ _ _ (R3.out _))) | (go_at_call 36; exact Calls.below_of (TB.out _ _ _ (R3.out _) (R2.out _))) | (go_at_call 38; exact Calls.below_of (TA.out _ (R1.out _) (R2.out _))) | (go_at_call 18; exact Calls.below_of (SB.out _ _ _ (R3.out _))) | (go_at_call 17; exact Calls.below_of (SA.out _ (R1.out _)))))
                | quiet_step ((first | (go_at_call 15; exact Calls.below_of (OB.out _ _ _ (R3.out _))) | (go_at_call 36; exact Calls.below_of (TB.out _ _ _ (R3.out _) (R2.out _))) | (go_at_call 38; exact Calls.below_of (TA.out _ (R1.out _) (R2.out _))) | (go_at_call 18; exact Calls.below_of (SB.out _ _ _ (R3.out _))) | (go_at_call 17; exact Calls.below_of (SA.out _ (R1.out _))))))
              refine wpQuiet_nil ?_
              intro _ hw'
              obtain ⟨⟨w7, kk⟩, hw''⟩ := hw'
              subst hw''
              have hb7 := below_step (below_step B4.out HB.out) kk
              clear a0 b0
              go_wp2
              go_ret
              exact ⟨rfl, hb7⟩
end Go.Proofs.Ytdikkfhdogkniaa
