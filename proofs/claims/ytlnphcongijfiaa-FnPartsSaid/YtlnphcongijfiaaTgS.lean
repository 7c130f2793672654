/- spec.Together. Conditions: the lengths. -/
import Derived.Test.YtlnphcongijfiaaTgL
import Derived.Test.YtlnphcongijfiaaBelowQ
namespace Go.Proofs.Ytlnphcongijfiaa
open Go.RowKit
set_option maxRecDepth 100000 in

set_option maxHeartbeats 6400000 in
theorem spec_Together_any (A : Option Addr) (c : Nat) (gs : List Gr) (w : World) (hx : RdG w A gs) (hn : gs.length ≤ 1048576) (hsum : sumG gs ≤ 1048576) (hok : ∀ g ∈ gs, g.e.length ≤ 1048576 ∧ ∀ e ∈ g.e, 0 ≤ e.l ∧ e.l ≤ 255) :
    Calls Try.prog 20 #[.slice A gs.length c] w (TgOut w gs) := by
  have HX := Lib.hid hx
  have HOK := Lib.hid hok
  clear hx hok
  by_cases hz : gs.length = 0
  · have NO := Lib.hid (show ¬ tgOk gs from fun h => by have := h.1; omega)
    have e0 : ((gs.length : Int) == 0) = true := by rw [beq_iff_eq]; omega
    have e00 : (gs.length : Int) = 0 := by omega
    clear hz
    go_enter Try.func20, Try.ntmps20
    go_wp2
    refine bodyPost_ret (v := .tuple #[.agg #[.int .i64 0, .slice none 0 0], .bool false]) (by simp [results, Try.results20, go_sem]) rfl (TgOut.no NO.out ?_)
    exact below_alloc w _
  have hpos : 0 < gs.length := by omega
  have e0 : ((gs.length : Int) == 0) = false := by rw [beq_eq_false_iff_ne]; omega
  have hpos2 : (0 : Int) < (gs.length : Int) := by omega
  clear hz
  obtain ⟨b, o, K0, ck0, hA, z0, _, _⟩ := HX.out.at_ hpos
  subst hA
  obtain ⟨s, hs0⟩ : ∃ s, s0G gs = s := ⟨_, rfl⟩
  have e1 : gs[0].s = s := by rw [← hs0]; unfold s0G; simp [List.getD, hpos]
  rw [e1] at z0
  have z1 : w.cell? ⟨b, o, none⟩ = some (.int .i64 s) := by simpa using z0
  have hbs : b < w.heap.size := World.block_lt_of_cell? w _ z1
  have HS0 := Lib.hid hs0
  have TS := Lib.hid (TgI.start w s)
  have ZC := Lib.hid (show (w.alloc (.cells #[.int .i64 0, .slice none 0 0] 44)).cell? ⟨b, o, none⟩ = some (.int .i64 s) from held_step (below_alloc w _) z1)
  clear hs0 e1 z0
  go_enter Try.func20, Try.ntmps20
  go_wp2_with fail
  clear z1
  go_loopw [5] (fun i wr => ∃ (k : Nat) (A1 : Option Addr) (c1 : Nat) (ks : List Ed), k ≤ gs.length ∧ i = .int .i64 k ∧ Hid (ks = putG (gs.take k)) ∧ Hid (∀ j (h : j < gs.length), j < k → GOk gs[j].s gs[j].e ∧ gs[j].s = s0G gs) ∧ w.heap.size + 2 ≤ wr.heap.size ∧ TgI w s A1 c1 ks wr) (fun i _ => gs.length - (intOf i).toNat)
  case atStart => exact ⟨0, none, 0, [], Nat.zero_le _, rfl, Lib.hid rfl, Lib.hid (fun j _ hj => absurd hj (by omega)), by simp, TS.out⟩
  case round =>
    clear TS ZC
    obtain ⟨k, A1, c1, ks, hk, rfl, HK, HD, hzo, ht⟩ := hrel
    obtain ⟨wo, rfl⟩ : ∃ wo : World, wo = wr := ⟨_, rfl⟩
    by_cases hlt : k < gs.length
    · obtain ⟨b', o', Kk, ck, hA', c0, c1', hrk⟩ := HX.out.at_ hlt
      injection hA' with hA'
      injection hA' with hb' ho' _
      subst hb' ho'
      have hgo := HOK.out _ (List.getElem_mem hlt)
      obtain ⟨x, hxx⟩ : ∃ x, gs[k] = x := ⟨_, rfl⟩
      rw [hxx] at c0 c1' hrk hgo
      have EX := Lib.hid hxx
      have HRK := Lib.hid hrk
      have HGO := Lib.hid hgo.2
      have hgl := hgo.1
      have d0 := held_step ht.bel c0
      have d1 := held_step ht.bel c1'
      obtain ⟨xs, xe⟩ := x
      simp only at d0 d1 c1' hgl HRK HGO
      have HC1 := Lib.hid c1'
      have k0 : (0 : Int) ≤ (k : Int) := by omega
      have k1 : (k : Int) < (gs.length : Int) := by omega
      have o0 := blk_cell (o := 0) ht.out rfl
      have HT := Lib.hid ht
      have R1 := Lib.hid (fun p : BelowOf wo => RdE.below (RdE.below HRK.out HT.out.bel) p.h)
      have T := Lib.hid (fun W h => spec_GraphOk_any xs Kk ck xe W h (by omega) HGO.out)
      obtain ⟨r, hr⟩ : ∃ r, PP (GOk xs xe) = r := ⟨_, rfl⟩
      rw [hr] at T
      have HR := Lib.hid hr
      obtain ⟨n1, hn1⟩ : ∃ n, (xs != s) = n := ⟨_, rfl⟩
      have HN1 := Lib.hid hn1
      have d0 := fun p => cellQ d0 p
      have d1 := fun p => cellQ d1 p
      have o0 := fun p => cellQ o0 p
      clear hr ht c0 c1' hxx hrk hgo
      have hrn : r = false ∨ (r = true ∧ n1 = true) ∨ (r = true ∧ n1 = false) := by cases r <;> cases n1 <;> simp
      rcases hrn with rfl | ⟨rfl, rfl⟩ | ⟨rfl, rfl⟩
      all_goals
        go_wp2_with fail
        refine wp_region_below (by kernel_rfl) (by kernel_rfl) ?_
        repeat (first
          | go_big_quiet_step ((go_at_call 62; exact Calls.below_of (T.out _ (R1.out _))))
          | quiet_step ((go_at_call 62; exact Calls.below_of (T.out _ (R1.out _)))))
        refine wpQuiet_nil ?_
        intro w2 hw'
        obtain ⟨⟨w9, kk⟩, hw''⟩ := hw'
        subst hw''
        have t2 := HT.out.keep kk
        have hz2 := kk.size
        have T2 := Lib.hid t2
        have r0 := blk_cell (o := 0) t2.res rfl
        have r1 := blk_cell (o := 1) t2.res rfl
        have f0 : w2.frozen? ⟨w.heap.size, 0, none⟩ = false := frozen_of_row w2 _ 0 _ _ t2.res
        have f1 : w2.frozen? ⟨w.heap.size, 1, none⟩ = false := frozen_of_row w2 _ 1 _ _ t2.res
        have hlr := blk_lt t2.res
        clear t2 kk d0 d1 o0 hn1 T R1
      · skip
        have NO := Lib.hid (show ¬ tgOk gs from fun h => by
          have h1 := (h.2.1 k hlt).1
          rw [EX.out] at h1
          have h2 := HR.out
          rw [PP_yes h1] at h2
          cases h2)
        go_wp2
        refine bodyPost_ret (v := .tuple #[.agg #[.int .i64 0, .slice none 0 0], .bool false]) (by simp [results, Try.results20, go_sem, r0, r1]) rfl (TgOut.no NO.out ?_)
        exact (T2.out.bel.setCell (p := ⟨w.heap.size, 0, none⟩) (Nat.le_refl _) _).setCell (p := ⟨w.heap.size, 1, none⟩) (Nat.le_refl _) _
      · skip
        have NO := Lib.hid (show ¬ tgOk gs from fun h => by
          have h1 := (h.2.1 k hlt).2
          rw [EX.out, HS0.out] at h1
          have h2 := HN1.out
          simp only at h1
          rw [h1] at h2
          simp at h2)
        go_wp2
        refine bodyPost_ret (v := .tuple #[.agg #[.int .i64 0, .slice none 0 0], .bool false]) (by simp [results, Try.results20, go_sem, r0, r1]) rfl (TgOut.no NO.out ?_)
        exact (T2.out.bel.setCell (p := ⟨w.heap.size, 0, none⟩) (Nat.le_refl _) _).setCell (p := ⟨w.heap.size, 1, none⟩) (Nat.le_refl _) _
      · skip
        have HGX := Lib.hid (PP_true HR.out)
        have HSZ := Lib.hid (show xs = s by have h2 := HN1.out; simpa using h2)
        go_wp2_with fail
        go_loopw [6] (fun i wq => ∃ (m : Nat) (A2 : Option Addr) (c2 : Nat) (ls : List Ed), m ≤ xe.length ∧ i = .int .i64 m ∧ Hid (ls = putL ks (xe.take m)) ∧ w.heap.size + 2 ≤ wq.heap.size ∧ TgI w s A2 c2 ls wq) (fun i _ => xe.length - (intOf i).toNat)
        case atStart => exact ⟨0, A1, c1, ks, Nat.zero_le _, rfl, Lib.hid (by simp [putL]), by omega, T2.out⟩
        case round =>
          clear T2 r0 r1 f0 f1
          obtain ⟨m, A2, c2, ls, hm, rfl, HL, hzq, ht⟩ := hrel
          obtain ⟨wq, rfl⟩ : ∃ wq : World, wq = wr := ⟨_, rfl⟩
          have d1 := held_step ht.bel HC1.out
          have HT2 := Lib.hid ht
          by_cases hml : m < xe.length
          · obtain ⟨b2, o2, rfl, y0, y1, y2⟩ := (RdE.below HRK.out ht.bel).at_ hml
            have hll : ls.length ≤ 1048576 := by
              have h1 := half_len (k := k) (m := m) hlt
              rw [EX.out] at h1
              rw [HL.out, HK.out]
              simp only at h1
              omega
            have hpn := putL_next (es := ks) hml
            obtain ⟨y, hyy⟩ : ∃ y, xe[m] = y := ⟨_, rfl⟩
            rw [hyy] at y0 y1 y2 hpn
            rw [← HL.out] at hpn
            obtain ⟨L, hL⟩ : ∃ L, putE ls y = L := ⟨_, rfl⟩
            rw [hL] at hpn
            have HPN := Lib.hid hpn
            have m0 : (0 : Int) ≤ (m : Int) := by omega
            have m1 : (m : Int) < (xe.length : Int) := by omega
            have o1 := blk_cell (o := 1) ht.out rfl
            have C := Lib.hid (fun W (h : Below wq.heap.size wq W) => l04Put_any A2 c2 ls y W (RdE.below (Rd.of_own HT2.out.own) h) (by omega))
            unfold MadeE at C
            rw [hL] at C
            clear hyy hpn hL ht
            have B0 : Below wq.heap.size wq wq.drew := (Below.refl _ _).drew
            have MK := Lib.hid (fun (w' : World) (hB : Below wq.heap.size wq w') => (⟨held_step hB o1, held_step hB d1, held_step hB y0, held_step hB y1, held_step hB y2, hB⟩ : w'.cell? ⟨w.heap.size + 1, 1, none⟩ = some (.slice A2 ls.length c2) ∧ w'.cell? ⟨b, o + k * 2 + 1, none⟩ = some (.slice (some ⟨b2, o2, none⟩) xe.length ck) ∧ w'.cell? ⟨b2, o2 + m * 3, none⟩ = some (.int .i64 y.f) ∧ w'.cell? ⟨b2, o2 + m * 3 + 1, none⟩ = some (.int .u8 y.l) ∧ w'.cell? ⟨b2, o2 + m * 3 + 2, none⟩ = some (.int .i64 y.t) ∧ Below wq.heap.size wq w'))
            go_wp2_with fail
            go_region_law (first
              | (go_simp
                 go_at_call 63
                 refine (C.out _ B0).mono ?_
                 rintro e w4 ⟨A4, c4, rfl, own4, k4⟩
                 have K4 := Lib.hid (below_step B0 k4)
                 have O4 := Lib.hid own4
                 have q1 : w4.frozen? ⟨w.heap.size + 1, 1, none⟩ = false := frozen_of_row w4 _ 1 _ _ (HT2.out.keep (below_step B0 k4)).out
                 have o14 := held_step (below_step B0 k4) o1
                 have d14 := held_step (below_step B0 k4) d1
                 have y04 := held_step (below_step B0 k4) y0
                 have y14 := held_step (below_step B0 k4) y1
                 have y24 := held_step (below_step B0 k4) y2))
            all_goals
              go_wp2
              go_roundw
              case rel =>
                exact ⟨m + 1, A4, c4, L, by omega, by go_num, Lib.hid HPN.out.symm, by have := K4.out.size; simp; omega, HT2.out.put hzq K4.out O4.out⟩
              case measure => simp [intOf]; omega
          · obtain rfl : m = xe.length := by omega
            have hl := HL.out
            rw [List.take_of_length_le (Nat.le_refl _)] at hl
            have hfin : ls = putG (gs.take (k + 1)) := by rw [putG_next hlt, EX.out, hl, HK.out]
            have HF := Lib.hid hfin
            have hd : ∀ j (h : j < gs.length), j < k + 1 → GOk gs[j].s gs[j].e ∧ gs[j].s = s0G gs := fun j h hj => by
              by_cases e : j = k
              · subst e; rw [EX.out]; exact ⟨HGX.out, by rw [HSZ.out, HS0.out]⟩
              · exact HD.out j h (by omega)
            have HDD := Lib.hid hd
            clear hl hfin hd ht
            go_wp2
            go_roundw
            case rel => exact ⟨k + 1, A2, c2, ls, by omega, by go_num, HF, HDD, hzq, HT2.out⟩
            case measure => simp [intOf]; omega
    · obtain rfl : k = gs.length := by omega
      have hkk := HK.out
      rw [List.take_of_length_le (Nat.le_refl _)] at hkk
      have HKK := Lib.hid hkk
      have HT := Lib.hid ht
      have hkl : ks.length ≤ 1048576 := by rw [hkk]; exact Nat.le_trans (putG_len gs) hsum
      have o0 := blk_cell (o := 0) ht.out rfl
      have o1 := blk_cell (o := 1) ht.out rfl
      have C := Lib.hid (spec_GraphOk_any s A1 c1 ks wo (Rd.of_own ht.own) (by omega) (by rw [hkk]; exact putG_lbl (fun g hg => (HOK.out g hg).2)))
      obtain ⟨r, hr⟩ : ∃ r, PP (GOk s ks) = r := ⟨_, rfl⟩
      rw [hr] at C
      have HR := Lib.hid hr
      clear hkk ht hr
      go_wp2_with fail
      refine C.out.mono ?_
      rintro e w2 ⟨rfl, k2⟩
      have t2 := HT.out.keep k2
      have hz2 := k2.size
      clear C o0 o1 k2
      have HT2 := Lib.hid t2
      have o0 := blk_cell (o := 0) t2.out rfl
      have o1 := blk_cell (o := 1) t2.out rfl
      have r0 := blk_cell (o := 0) t2.res rfl
      have r1 := blk_cell (o := 1) t2.res rfl
      have f0 : w2.frozen? ⟨w.heap.size, 0, none⟩ = false := frozen_of_row w2 _ 0 _ _ t2.res
      have f1 : w2.frozen? ⟨w.heap.size, 1, none⟩ = false := frozen_of_row w2 _ 1 _ _ t2.res
      have hlr := blk_lt t2.res
      clear t2
      cases r
      · have NO := Lib.hid (show ¬ tgOk gs from fun h => by
          have h1 := h.2.2
          rw [← HKK.out, HS0.out] at h1
          have h2 := HR.out
          rw [PP_yes h1] at h2
          cases h2)
        go_wp2
        refine bodyPost_ret (v := .tuple #[.agg #[.int .i64 0, .slice none 0 0], .bool false]) (by simp [results, Try.results20, go_sem, r0, r1]) rfl (TgOut.no NO.out ?_)
        exact (HT2.out.bel.setCell (p := ⟨w.heap.size, 0, none⟩) (Nat.le_refl _) _).setCell (p := ⟨w.heap.size, 1, none⟩) (Nat.le_refl _) _
      · have OK := Lib.hid (show tgOk gs from ⟨hpos, fun j h => HD.out j h h, by rw [← HKK.out, HS0.out]; exact PP_true HR.out⟩)
        go_wp2
        refine bodyPost_ret (v := .tuple #[.agg #[.int .i64 s, .slice A1 ks.length c1], .bool true]) (by simp [results, Try.results20, go_sem, r0, r1]) rfl (TgOut.yes OK.out HKK.out HS0.out.symm ?_ ?_)
        · exact own_mono (ownsRow_setCell_below (ownsRow_setCell_below HT2.out.own (a := ⟨w.heap.size, 0, none⟩) (by simp) _) (a := ⟨w.heap.size, 1, none⟩) (by simp) _) (by omega)
        · exact (HT2.out.bel.setCell (p := ⟨w.heap.size, 0, none⟩) (Nat.le_refl _) _).setCell (p := ⟨w.heap.size, 1, none⟩) (Nat.le_refl _) _
end Go.Proofs.Ytlnphcongijfiaa
