/- impl.Together. Conditions: the lengths. -/
import Derived.Test.YtlnphcongijfiaaTgL
import Derived.Test.YtlnphcongijfiaaGAdd
namespace Go.Proofs.Ytlnphcongijfiaa
open Go.RowKit

theorem gaL_yes {s : Int} {es : List Ed} {x : Ed} (h : gaB s es x = true) : gaL s es x = putE es x := by unfold gaL; rw [if_pos h]
set_option maxRecDepth 100000 in
set_option maxHeartbeats 6400000 in
theorem impl_Together_any (A : Option Addr) (c : Nat) (gs : List Gr) (w : World) (hx : RdG w A gs) (hn : gs.length ≤ 1048576) (hok : ∀ g ∈ gs, g.e.length ≤ 1048576 ∧ ∀ e ∈ g.e, 0 ≤ e.l ∧ e.l ≤ 255) :
    Calls Try.prog 22 #[.slice A gs.length c] w (TgOut w gs) := by
  have HX := Lib.hid hx
  have HOK := Lib.hid hok
  clear hx hok
  by_cases hz : gs.length = 0
  · have NO := Lib.hid (show ¬ tgOk gs from fun h => by have := h.1; omega)
    have e0 : ((gs.length : Int) == 0) = true := by rw [beq_iff_eq]; omega
    have e00 : (gs.length : Int) = 0 := by omega
    clear hz
    go_enter Try.func22, Try.ntmps22
    go_wp2
    refine bodyPost_ret (v := .tuple #[.agg #[.int .i64 0, .slice none 0 0], .bool false]) (by simp [results, Try.results22, go_sem]) rfl (TgOut.no NO.out ?_)
    exact below_alloc w _
  have hpos : 0 < gs.length := by omega
  have e0 : ((gs.length : Int) == 0) = false := by rw [beq_eq_false_iff_ne]; omega
  have hpos2 : (0 : Int) < (gs.length : Int) := by omega
  clear hz
  obtain ⟨b, o, K0, ck0, hA, z0, _, _⟩ := HX.out.at_ hpos
  subst hA
  obtain ⟨s, hs0⟩ : ∃ s, s0G gs = s := ⟨_, rfl⟩
  have e1 : gs[0].s = s := by rw [← hs0]; unfold s0G; simp [List.getD, hpos]
  rw [e1] at z0
  have z1 : w.cell? ⟨b, o, none⟩ = some (.int .i64 s) := by simpa using z0
  have hbs : b < w.heap.size := World.block_lt_of_cell? w _ z1
  have HS0 := Lib.hid hs0
  have TS := Lib.hid (TgI.start w s)
  have ZC := Lib.hid (show (w.alloc (.cells #[.int .i64 0, .slice none 0 0] 44)).cell? ⟨b, o, none⟩ = some (.int .i64 s) from held_step (below_alloc w _) z1)
  clear hs0 e1 z0
  go_enter Try.func22, Try.ntmps22
  go_wp2_with fail
  clear z1
  go_loopw [22] (fun i wr => ∃ (k : Nat) (A1 : Option Addr) (c1 : Nat) (ks : List Ed), k ≤ gs.length ∧ i = .int .i64 k ∧ Hid (ks = putG (gs.take k)) ∧ Hid (∀ j (h : j < gs.length), j < k → GOk gs[j].s gs[j].e ∧ gs[j].s = s0G gs) ∧ Hid (0 < k → GOk (s0G gs) ks) ∧ TgI w s A1 c1 ks wr) (fun i _ => gs.length - (intOf i).toNat)
  case atStart => exact ⟨0, none, 0, [], Nat.zero_le _, rfl, Lib.hid rfl, Lib.hid (fun j _ hj => absurd hj (by omega)), Lib.hid (fun h => absurd h (by omega)), TS.out⟩
  case round =>
    clear TS ZC
    obtain ⟨k, A1, c1, ks, hk, rfl, HK, HD, HG, ht⟩ := hrel
    obtain ⟨wo, rfl⟩ : ∃ wo : World, wo = wr := ⟨_, rfl⟩
    have hto := blk_lt ht.out
    by_cases hlt : k < gs.length
    · obtain ⟨b', o', Kk, ck, hA', c0, c1', hrk⟩ := HX.out.at_ hlt
      injection hA' with hA'
      injection hA' with hb' ho' _
      subst hb' ho'
      have hgo := HOK.out _ (List.getElem_mem hlt)
      obtain ⟨x, hxx⟩ : ∃ x, gs[k] = x := ⟨_, rfl⟩
      rw [hxx] at c0 c1' hrk hgo
      have EX := Lib.hid hxx
      have HRK := Lib.hid hrk
      have HGO := Lib.hid hgo.2
      have hgl := hgo.1
      have d0 := held_step ht.bel c0
      have d1 := held_step ht.bel c1'
      obtain ⟨xs, xe⟩ := x
      simp only at d0 d1 hgl HRK HGO
      have k0 : (0 : Int) ≤ (k : Int) := by omega
      have k1 : (k : Int) < (gs.length : Int) := by omega
      have ka := below_alloc wo (.cells #[.int .i64 xs, .slice Kk xe.length ck] 44)
      have p6 := heap_alloc_new wo (.cells #[.int .i64 xs, .slice Kk xe.length ck] 44)
      have t1 := ht.keep ka
      have hz1 : wo.heap.size < (wo.alloc (.cells #[.int .i64 xs, .slice Kk xe.length ck] 44)).heap.size := by simp
      obtain ⟨g6, hg6⟩ : ∃ g, wo.heap.size = g := ⟨_, rfl⟩
      obtain ⟨W1, hW1⟩ : ∃ W, wo.alloc (.cells #[.int .i64 xs, .slice Kk xe.length ck] 44) = W := ⟨_, rfl⟩
      rw [hW1] at p6 t1 hz1
      rw [hg6] at p6 hz1 hto
      have P6 := Lib.hid p6
      have T1 := Lib.hid t1
      have a60 := blk_cell (o := 0) p6 rfl
      have a61 := blk_cell (o := 1) p6 rfl
      have o0 := blk_cell (o := 0) t1.out rfl
      have r0 := blk_cell (o := 0) t1.res rfl
      have r1 := blk_cell (o := 1) t1.res rfl
      have f0 : W1.frozen? ⟨w.heap.size, 0, none⟩ = false := frozen_of_row W1 _ 0 _ _ t1.res
      have f1 : W1.frozen? ⟨w.heap.size, 1, none⟩ = false := frozen_of_row W1 _ 1 _ _ t1.res
      have hlr := blk_lt t1.res
      clear ka p6 t1 ht c0 c1' hxx hrk hgo
      by_cases hsz : xs = s
      · have n1 : (xs != s) = false := by simp [hsz]
        have HSZ := Lib.hid hsz
        clear hsz
        have C := Lib.hid (impl_GraphOk_any xs Kk ck xe W1 (RdE.below HRK.out T1.out.bel) (by omega) HGO.out)
        obtain ⟨r, hr⟩ : ∃ r, PP (GOk xs xe) = r := ⟨_, rfl⟩
        rw [hr] at C
        have HR := Lib.hid hr
        clear hr
        go_wp2_with fail
        refine C.out.mono ?_
        rintro e w2 ⟨rfl, k2⟩
        have t2 := T1.out.keep k2
        have p62 := blk_below k2 P6.out
        have hz2 := k2.size
        clear hW1 hg6 a60 a61 o0 r0 r1 f0 f1 d0 d1 C P6 T1 k2
        have T2 := Lib.hid t2
        have P62 := Lib.hid p62
        have a61 := blk_cell (o := 1) p62 rfl
        have r0 := blk_cell (o := 0) t2.res rfl
        have r1 := blk_cell (o := 1) t2.res rfl
        have f0 : w2.frozen? ⟨w.heap.size, 0, none⟩ = false := frozen_of_row w2 _ 0 _ _ t2.res
        have f1 : w2.frozen? ⟨w.heap.size, 1, none⟩ = false := frozen_of_row w2 _ 1 _ _ t2.res
        clear t2 p62
        cases r
        · have NO := Lib.hid (show ¬ tgOk gs from fun h => by
            have h1 := (h.2.1 k hlt).1
            rw [EX.out] at h1
            have h2 := HR.out
            rw [PP_yes h1] at h2
            cases h2)
          go_wp2
          refine bodyPost_ret (v := .tuple #[.agg #[.int .i64 0, .slice none 0 0], .bool false]) (by simp [results, Try.results22, go_sem, r0, r1]) rfl (TgOut.no NO.out ?_)
          exact (T2.out.bel.setCell (p := ⟨w.heap.size, 0, none⟩) (Nat.le_refl _) _).setCell (p := ⟨w.heap.size, 1, none⟩) (Nat.le_refl _) _
        · have hgx := PP_true HR.out
          have hkk : GOk (s0G gs) ks := by
            rcases Nat.eq_zero_or_pos k with hk0 | hk0
            · rw [HK.out, hk0, HS0.out]
              have := hgx.1
              rw [HSZ.out] at this
              exact gOk_nil this.1 this.2
            · exact HG.out hk0
          have HKK := Lib.hid hkk
          have HGX := Lib.hid hgx
          clear hgx hkk
          go_wp2_with fail
          go_loopw [40] (fun i wq => ∃ (m : Nat) (A2 : Option Addr) (c2 : Nat) (ls : List Ed), m ≤ xe.length ∧ i = .int .i64 m ∧ Hid (ls = putL ks (xe.take m)) ∧ Hid (GOk (s0G gs) ls) ∧ w2.heap.size ≤ wq.heap.size ∧ TgI w s A2 c2 ls wq) (fun i _ => xe.length - (intOf i).toNat)
          case atStart => exact ⟨0, A1, c1, ks, Nat.zero_le _, rfl, Lib.hid (by simp [putL]), HKK, Nat.le_refl _, T2.out⟩
          case round =>
            clear T2 a61 r0 r1 f0 f1 P62
            obtain ⟨m, A2, c2, ls, hm, rfl, HL, HGL, hzq, ht⟩ := hrel
            obtain ⟨wq, rfl⟩ : ∃ wq : World, wq = wr := ⟨_, rfl⟩
            by_cases hml : m < xe.length
            · obtain ⟨b2, o2, rfl, y0, y1, y2⟩ := (RdE.below HRK.out ht.bel).at_ hml
              have hyl := HGO.out _ (List.getElem_mem hml)
              have hpn := putL_next (es := ks) hml
              obtain ⟨y, hyy⟩ : ∃ y, xe[m] = y := ⟨_, rfl⟩
              rw [hyy] at y0 y1 y2 hyl hpn
              rw [← HL.out] at hpn
              have EY := Lib.hid hyy
              have HPN := Lib.hid hpn
              have h40 : ls.length ≤ 40 := HGL.out.2.1
              have m0 : (0 : Int) ≤ (m : Int) := by omega
              have m1 : (m : Int) < (xe.length : Int) := by omega
              clear hyy hpn
              have ka := below_alloc wq (.cells #[.int .i64 y.f, .int .u8 y.l, .int .i64 y.t] 62)
              have p8 := heap_alloc_new wq (.cells #[.int .i64 y.f, .int .u8 y.l, .int .i64 y.t] 62)
              have t3 := ht.keep ka
              have hz3 : wq.heap.size < (wq.alloc (.cells #[.int .i64 y.f, .int .u8 y.l, .int .i64 y.t] 62)).heap.size := by simp
              obtain ⟨g8, hg8⟩ : ∃ g, wq.heap.size = g := ⟨_, rfl⟩
              obtain ⟨W3, hW3⟩ : ∃ W, wq.alloc (.cells #[.int .i64 y.f, .int .u8 y.l, .int .i64 y.t] 62) = W := ⟨_, rfl⟩
              rw [hW3] at p8 t3 hz3
              rw [hg8] at p8 hz3 hzq
              have T3 := Lib.hid t3
              have a80 := blk_cell (o := 0) p8 rfl
              have a81 := blk_cell (o := 1) p8 rfl
              have a82 := blk_cell (o := 2) p8 rfl
              have o0 := blk_cell (o := 0) t3.out rfl
              have o1 := blk_cell (o := 1) t3.out rfl
              have C := Lib.hid (impl_GraphAdd_any s A2 c2 ls y W3 (Rd.of_own t3.own) (by omega) (lbl_of HGL.out) hyl)
              obtain ⟨q, hq⟩ : ∃ q, gaB s ls y = q := ⟨_, rfl⟩
              obtain ⟨L, hL⟩ : ∃ L, gaL s ls y = L := ⟨_, rfl⟩
              unfold MadeT at C
              rw [hq, hL] at C
              have HQ := Lib.hid hq
              have HLL := Lib.hid hL
              clear hq hL ka p8 t3 ht
              go_wp2_with fail
              refine C.out.mono ?_
              rintro e w4 ⟨A4, c4, rfl, own4, k4⟩
              clear hW3 hg8 a80 a81 a82 o0 o1 y0 y1 y2 C
              have kb := below_alloc w4 (.cells #[.int .i64 s, .slice A4 L.length c4] 44)
              have p9 := heap_alloc_new w4 (.cells #[.int .i64 s, .slice A4 L.length c4] 44)
              have k5 := below_step k4 kb
              have own5 := own_below own4 kb
              have t5 := T3.out.keep k5
              have hz5 := k5.size
              have hzz := kb.size
              obtain ⟨g9, hg9⟩ : ∃ g, w4.heap.size = g := ⟨_, rfl⟩
              obtain ⟨W5, hW5⟩ : ∃ W, w4.alloc (.cells #[.int .i64 s, .slice A4 L.length c4] 44) = W := ⟨_, rfl⟩
              rw [hW5] at p9 k5 own5 t5 hz5
              rw [hg9] at p9
              have K5 := Lib.hid k5
              have O5 := Lib.hid own5
              have T5 := Lib.hid t5
              have a90 := blk_cell (o := 0) p9 rfl
              have a91 := blk_cell (o := 1) p9 rfl
              have o0 := blk_cell (o := 0) t5.out rfl
              have o1 := blk_cell (o := 1) t5.out rfl
              have q0 : W5.frozen? ⟨w.heap.size + 1, 0, none⟩ = false := frozen_of_row W5 _ 0 _ _ t5.out
              have q1 : W5.frozen? ⟨w.heap.size + 1, 1, none⟩ = false := frozen_of_row W5 _ 1 _ _ t5.out
              have r0 := blk_cell (o := 0) t5.res rfl
              have r1 := blk_cell (o := 1) t5.res rfl
              have f0 : W5.frozen? ⟨w.heap.size, 0, none⟩ = false := frozen_of_row W5 _ 0 _ _ t5.res
              have f1 : W5.frozen? ⟨w.heap.size, 1, none⟩ = false := frozen_of_row W5 _ 1 _ _ t5.res
              clear kb p9 k5 own5 t5 own4 k4
              cases q
              · have NO := Lib.hid (show ¬ tgOk gs from fun h => by
                  have h1 := half_ok (k := k) (m := m + 1) hlt h
                  have h2 := HQ.out
                  unfold gaB gaP at h2
                  rw [PP_yes] at h2
                  · cases h2
                  · refine ⟨by rw [← HS0.out]; exact HGL.out, ?_⟩
                    rw [← HS0.out, ← HPN.out, HK.out]
                    rw [EX.out] at h1
                    exact h1)
                go_wp2
                refine bodyPost_ret (v := .tuple #[.agg #[.int .i64 0, .slice none 0 0], .bool false]) (by simp [results, Try.results22, go_sem, r0, r1]) rfl (TgOut.no NO.out ?_)
                exact (T5.out.bel.setCell (p := ⟨w.heap.size, 0, none⟩) (Nat.le_refl _) _).setCell (p := ⟨w.heap.size, 1, none⟩) (Nat.le_refl _) _
              · have hLe : L = putE ls y := by rw [← HLL.out, gaL_yes HQ.out]
                have hGk : GOk s L := by
                  have h2 := HQ.out
                  unfold gaB at h2
                  rw [hLe]
                  exact (PP_true h2).2
                have HLE := Lib.hid hLe
                have HGK := Lib.hid hGk
                clear hLe hGk
                go_wp2
                go_roundw
                case rel =>
                  refine ⟨m + 1, A4, c4, L, by omega, by go_num, Lib.hid (by rw [HPN.out]; exact HLE.out), Lib.hid (by rw [HS0.out]; exact HGK.out), by simp; omega, ?_⟩
                  exact T3.out.put2 (by omega) K5.out O5.out
                case measure => simp [intOf]; omega
            · obtain rfl : m = xe.length := by omega
              have hl := HL.out
              rw [List.take_of_length_le (Nat.le_refl _)] at hl
              have hfin : ls = putG (gs.take (k + 1)) := by rw [putG_next hlt, EX.out, hl, HK.out]
              have HF := Lib.hid hfin
              have hd : ∀ j (h : j < gs.length), j < k + 1 → GOk gs[j].s gs[j].e ∧ gs[j].s = s0G gs := fun j h hj => by
                by_cases e : j = k
                · subst e; rw [EX.out]; exact ⟨HGX.out, by rw [HSZ.out, HS0.out]⟩
                · exact HD.out j h (by omega)
              have HDD := Lib.hid hd
              have HT := Lib.hid ht
              clear hl hfin hd ht
              go_wp2
              go_roundw
              case rel => exact ⟨k + 1, A2, c2, ls, by omega, by go_num, HF, HDD, Lib.hid (fun _ => HGL.out), HT.out⟩
              case measure => simp [intOf]; omega
      · have n1 : (xs != s) = true := by simpa using hsz
        have NO := Lib.hid (show ¬ tgOk gs from fun h => by
          have h1 := (h.2.1 k hlt).2
          rw [EX.out, HS0.out] at h1
          exact hsz h1)
        clear hsz
        go_wp2
        refine bodyPost_ret (v := .tuple #[.agg #[.int .i64 0, .slice none 0 0], .bool false]) (by simp [results, Try.results22, go_sem, r0, r1]) rfl (TgOut.no NO.out ?_)
        exact (T1.out.bel.setCell (p := ⟨w.heap.size, 0, none⟩) (Nat.le_refl _) _).setCell (p := ⟨w.heap.size, 1, none⟩) (Nat.le_refl _) _
    · obtain rfl : k = gs.length := by omega
      have hkk := HK.out
      rw [List.take_of_length_le (Nat.le_refl _)] at hkk
      have OK := Lib.hid (show tgOk gs from ⟨hpos, fun j h => HD.out j h h, by rw [← hkk]; exact HG.out hpos⟩)
      have HKK := Lib.hid hkk
      have HT := Lib.hid ht
      have o0 := blk_cell (o := 0) ht.out rfl
      have o1 := blk_cell (o := 1) ht.out rfl
      have r0 := blk_cell (o := 0) ht.res rfl
      have r1 := blk_cell (o := 1) ht.res rfl
      have f0 : wo.frozen? ⟨w.heap.size, 0, none⟩ = false := frozen_of_row wo _ 0 _ _ ht.res
      have f1 : wo.frozen? ⟨w.heap.size, 1, none⟩ = false := frozen_of_row wo _ 1 _ _ ht.res
      have hlr := blk_lt ht.res
      clear hkk ht
      go_wp2
      refine bodyPost_ret (v := .tuple #[.agg #[.int .i64 s, .slice A1 ks.length c1], .bool true]) (by simp [results, Try.results22, go_sem, r0, r1]) rfl (TgOut.yes OK.out HKK.out HS0.out.symm ?_ ?_)
      · exact own_mono (ownsRow_setCell_below (ownsRow_setCell_below HT.out.own (a := ⟨w.heap.size, 0, none⟩) (by simp) _) (a := ⟨w.heap.size, 1, none⟩) (by simp) _) (by omega)
      · exact (HT.out.bel.setCell (p := ⟨w.heap.size, 0, none⟩) (Nat.le_refl _) _).setCell (p := ⟨w.heap.size, 1, none⟩) (Nat.le_refl _) _
end Go.Proofs.Ytlnphcongijfiaa
