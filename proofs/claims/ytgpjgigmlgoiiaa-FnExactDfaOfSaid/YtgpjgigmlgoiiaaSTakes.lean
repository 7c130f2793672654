/- NfaTakes: the reference's function. Conditions: the labels' range and the sizes of the lengths. -/
import Derived.Test.YtgpjgigmlgoiiaaTakes
import Derived.Test.YtgpjgigmlgoiiaaSNfaOk
namespace Go.Proofs.Ytgpjgigmlgoiiaa
open Go.RowKit

/-- A set of states as a list of bools. -/
def setL (S m : Nat) : List Bool := (List.range m).map (fun i => S.testBit i)
theorem setL_len (S m : Nat) : (setL S m).length = m := by simp [setL]
theorem setL_at (S m i : Nat) (h : i < m) : (setL S m).getD i false = S.testBit i := by simp [setL, List.getD, h]
theorem setL_set (S m t : Nat) : (setL S m).set t true = setL (S ||| 2 ^ t) m := by
  apply List.ext_getElem (by simp [setL])
  intro i h1 h2
  rw [List.getElem_set]
  simp only [setL, List.getElem_map, List.getElem_range, Nat.testBit_or, Nat.testBit_two_pow]
  by_cases e : t = i
  · rw [if_pos e]; simp [e]
  · rw [if_neg e]; simp [e]
theorem setL_zero (m : Nat) : setL 0 m = List.replicate m false := by
  apply List.ext_getElem (by simp [setL])
  intro i h1 h2
  simp [setL]
theorem accB_iff {bs : List Bool} {S : Nat} (h : InS S bs.length) (hm : bs.length ≤ 32) : accB bs S = true ↔ ∃ i, i < bs.length ∧ S.testBit i = true ∧ bs.getD i false = true := by
  unfold accB
  rw [List.any_eq_true]
  constructor
  · rintro ⟨z, hz, hb⟩
    obtain ⟨i, rfl, _, hi⟩ := bitsTo_mem.1 hz
    exact ⟨i, h i hi, hi, by simpa using hb⟩
  · rintro ⟨i, hi, h1, h2⟩
    exact ⟨(i : Int), bitsTo_mem.2 ⟨i, rfl, by omega, h1⟩, by simpa using h2⟩
theorem made_bools (m : Nat) : (madeCells (Value.bool false).cells (m * 1)).toList = (setL 0 m).map Value.bool := by
  rw [setL_zero, Nat.mul_one]
  apply List.ext_getElem
  · simp [madeCells, Value.cells]
  · intro i h1 h2
    simp [madeCells, Value.cells, Nat.mod_one]
theorem own_bool_set {w : World} {base g n c : Nat} {bs : List Bool} (h : w.ownsRow base 4 1 (.slice (some ⟨g, 0, none⟩) n c) n (bs.map Value.bool)) (t : Nat) :
    (w.setCell ⟨g, t, none⟩ (.bool true)).ownsRow base 4 1 (.slice (some ⟨g, 0, none⟩) n c) n ((bs.set t true).map Value.bool) ∧ w.grownBy (w.setCell ⟨g, t, none⟩ (.bool true)) (some g) := by
  have := h.stored t (.bool true)
  rw [List.map_set]
  exact this

set_option maxRecDepth 100000 in
set_option maxHeartbeats 6400000 in
theorem spec_NfaTakes_any (s : Int) (A B : Option Addr) (c d : Nat) (es : List Ed) (bs : List Bool) (word : ByteArray) (w : World) (hx : RdE w A es) (hy : RdB w B bs.length bs) (hn : es.length ≤ 4294967296) (hm : bs.length ≤ 4294967296) (hl : ∀ e ∈ es, 0 ≤ e.l ∧ e.l ≤ 255) (hw : word.size ≤ maxLen) :
    Calls Try.prog 56 #[.agg #[.int .i64 s, .slice A es.length c, .slice B bs.length d], .string word] w fun e w' => e = .returned (.bool (tkB s es bs word)) ∧ Below w.heap.size w w' := by
  unfold maxLen at hw
  obtain ⟨i0, hi, hz0, hz1, hz2⟩ := info_parts Try.infoBool
  have HX := Lib.hid hx
  have HY := Lib.hid hy
  have C := Lib.hid (fun w hx => spec_NfaOk_any s A B c d es bs w hx hn hm hl)
  have p1 := heap_alloc_new w (.cells #[.int .i64 s, .slice A es.length c, .slice B bs.length d] 29)
  have hb1 := below_alloc w (.cells #[.int .i64 s, .slice A es.length c, .slice B bs.length d] 29)
  clear hx hy hl
  by_cases hok : NOk s es bs
  · rw [PP_yes hok] at C
    by_cases h12 : word.size ≤ 12
    · rw [tkB_yes h12 hok]
      have HOK := Lib.hid hok
      have hbs : 0 < bs.length := by have h1 := hok.1.1; have h2 := hok.2.1; omega
      have hbm : bs.length ≤ 24 := by have h1 := hok.1.2; have h2 := hok.2.1; omega
      have hsb : s = (bs.length : Int) := hok.2.1.symm
      clear hok
      subst hsb
      have HSM := Lib.hid (fun e he => HOK.out.sm e he)
      obtain ⟨m, hmm⟩ : ∃ m, bs.length = m := ⟨_, rfl⟩
      rw [hmm] at C p1 hb1 HY hbs hbm HSM ⊢
      have HMM := Lib.hid hmm
      clear hmm
      have n12 : ¬ ((12 : Int) < (word.size : Int)) := by omega
      go_enter Try.func56, Try.ntmps56
      go_wp2_with fail
      refine (C.out _ (RdE.below HX.out hb1)).mono ?_
      rintro e w2 ⟨rfl, k2⟩
      have P2 := Lib.hid (blk_below k2 p1)
      have B2 := Lib.hid (below_step hb1 k2)
      have b0 := blk_cell (o := 0) P2.out rfl
      clear p1 hb1 k2
      go_wp2_with (first
        | (at_make
           refine wpList_make_full _ rfl _ _ 23 rfl w2.heap.size 4 i0 (.bool false) 1 Try.underlying23 hi hz0 hz1 .i64 .i64 (m : Int) (m : Int) m rfl rfl rfl rfl (by rw [hz2]; omega) (by unfold maxLen; omega) (Nat.le_refl _) ?_
           intro w3 hown0 hg0
           have hb3 := (Below.refl w2.heap.size w2).grown hg0 (Nat.le_refl _) (fun g hg => by cases hg)
           have hco := hown0.cellAt 0 (by simp; omega)
           have hfo := hown0.frozenAt 0
           have hcs : ∃ u, w3.cell? ⟨w2.heap.size, 0, none⟩ = some u := by
             have hlen := hown0.1
             rw [hco, List.getElem?_eq_getElem (by omega)]
             exact ⟨_, rfl⟩
           obtain ⟨u, hu⟩ := hcs
           clear hco))
      rw [made_bools] at hown0
      have hst := own_bool_set hown0 0
      rw [setL_set, Nat.zero_or, Nat.pow_zero] at hst
      have R4 := Lib.hid (show RdB (w3.setCell ⟨w2.heap.size, 0, none⟩ (.bool true)) (some ⟨w2.heap.size, 0, none⟩) m (setL 1 m) from Rd.of_own hst.1)
      have B4 := Lib.hid (below_step B2.out (show Below w2.heap.size w2 (w3.setCell ⟨w2.heap.size, 0, none⟩ (.bool true)) from hb3.setCell (Nat.le_refl _) _))
      have P4 := Lib.hid ((Below.heap_setCell w3 ⟨w2.heap.size, 0, none⟩ (.bool true) w.heap.size (by have := blk_lt P2.out; simp; omega)).trans (blk_below hb3 P2.out))
      obtain ⟨w4, hw4⟩ : ∃ w4, w3.setCell ⟨w2.heap.size, 0, none⟩ (.bool true) = w4 := ⟨_, rfl⟩
      rw [hw4] at R4 B4 P4 ⊢
      clear hst hown0 hg0 hb3 hfo hu hw4 b0
      go_loopw [5, 6] (fun v i wr => ∃ (k o : Nat) (A' : Option Addr) (c' : Nat), k ≤ word.size ∧ i = .int .i64 k ∧ v = .slice A' m c' ∧ o < 16777216 ∧ InS o m ∧ Hid (o = runN es (word.data.toList.take k)) ∧ RdB wr A' m (setL o m) ∧ wr.heap[w.heap.size]? = some (.cells #[.int .i64 m, .slice A es.length c, .slice B m d] 29 (0, 0)) ∧ Below w.heap.size w wr) (fun _ i _ => word.size - (intOf i).toNat)
      case atStart => exact ⟨0, 1, _, _, Nat.zero_le _, rfl, rfl, by omega, InS.one hbs, rfl, R4.out, P4.out, B4.out⟩
      case round =>
        clear P2 P4 R4 B4
        obtain ⟨k, o, A', c', hk, rfl, rfl, ho, hin, HO, hrd, hbx, hb⟩ := hrel
        obtain ⟨wo, rfl⟩ : ∃ wo : World, wo = wr := ⟨_, rfl⟩
        have HIN := Lib.hid hin
        have HRD := Lib.hid hrd
        have HBX := Lib.hid hbx
        have HB := Lib.hid hb
        clear hin hrd
        by_cases hlt : k < word.size
        · have hkl : k < word.data.toList.length := by simpa using hlt
          have hnx := runN_next (es := es) hkl
          rw [← HO.out] at hnx
          have hlt8 := moveN_lt o (word[k].toNat : Int) HOK.out.sm2
          have hmv := InS.move (S := o) (m := m) (l := (word[k].toNat : Int)) (fun e he => by have := (HSM.out e he).2.1; omega)
          have he : word.data.toList[k] = word[k] := rfl
          rw [he] at hnx
          have HNX := Lib.hid hnx
          have HMV := Lib.hid hmv
          clear hnx hmv he
          have k0 : (0 : Int) ≤ (k : Int) := by omega
          have k1 : (k : Int) < (word.size : Int) := by omega
          have b0 := blk_cell (o := 0) hbx rfl
          have hszr := blk_lt hbx
          clear hbx hb
          go_wp2_with (first
            | (at_make
               refine wpList_make_full _ rfl _ _ 23 rfl wo.heap.size 4 i0 (.bool false) 1 Try.underlying23 hi hz0 hz1 .i64 .i64 (m : Int) (m : Int) m rfl rfl rfl rfl (by rw [hz2]; omega) (by unfold maxLen; omega) (Nat.le_refl _) ?_
               intro w5 hown5 hg5
               have hb5 := (Below.refl wo.heap.size wo).grown hg5 (Nat.le_refl _) (fun g hg => by cases hg)))
          rw [made_bools] at hown5
          have HO5 := Lib.hid hown5
          have HB5 := Lib.hid hb5
          clear hown5 hg5 hb5 b0
          go_loopw [8] (fun i wi => ∃ (j p : Nat), j ≤ es.length ∧ i = .int .i64 j ∧ p < 16777216 ∧ Hid (p = moveN (es.take j) o (word[k].toNat : Int)) ∧ wi.ownsRow wo.heap.size 4 1 (.slice (some ⟨wo.heap.size, 0, none⟩) m m) m ((setL p m).map Value.bool) ∧ Below wo.heap.size wo wi) (fun i _ => es.length - (intOf i).toNat)
          case atStart => exact ⟨0, 0, Nat.zero_le _, rfl, by omega, rfl, HO5.out, HB5.out⟩
          case round =>
            clear HO5 HB5
            obtain ⟨j, p, hj, rfl, hp, HP, hown, hbi⟩ := hrel
            have HBX2 := Lib.hid (blk_below hbi HBX.out)
            have z1 := blk_cell (o := 1) HBX2.out rfl
            by_cases hjl : j < es.length
            · obtain ⟨b, q, rfl, e0, e1, e2⟩ := (RdE.below (RdE.below HX.out HB.out) hbi).at_ hjl
              have hsm := HSM.out es[j] (List.getElem_mem hjl)
              have hmn := moveN_next o (word[k].toNat : Int) hjl
              rw [← HP.out] at hmn
              obtain ⟨x, hxx⟩ : ∃ x, es[j] = x := ⟨_, rfl⟩
              rw [hxx] at e0 e1 e2 hsm hmn
              clear hxx
              obtain ⟨xf, xl, xt⟩ := x
              simp only at e0 e1 e2 hsm hmn
              obtain ⟨⟨f0, f1⟩, ⟨t0, t1⟩, l0, l1⟩ := hsm
              obtain ⟨f, rfl⟩ : ∃ f : Nat, xf = f := ⟨xf.toNat, by omega⟩
              obtain ⟨t, rfl⟩ : ∃ t : Nat, xt = t := ⟨xt.toNat, by omega⟩
              have hfm : f < m := by omega
              have htm : t < m := by omega
              obtain ⟨ad, rfl, hc⟩ := (RdB.below HRD.out hbi).at_ hfm
              rw [setL_at o m f hfm] at hc
              have HMN := Lib.hid hmn
              have HOW := Lib.hid hown
              have HBI := Lib.hid hbi
              clear hmn hown hbi
              have j0 : (0 : Int) ≤ (j : Int) := by omega
              have j1 : (j : Int) < (es.length : Int) := by omega
              have hpl : (p ||| 2 ^ t) < 16777216 := by
                rw [show 16777216 = 2 ^ 24 by rfl]
                exact Nat.or_lt_two_pow hp (Nat.pow_lt_pow_right (by omega) (by omega))
              obtain ⟨rb, hrb⟩ : ∃ rb, o.testBit f = rb := ⟨_, rfl⟩
              rw [hrb] at hc
              have HRB := Lib.hid hrb
              clear hrb
              have E1 := Lib.hid (fun p => cellQ e1 p)
              have b0 := fun p => cellQ (blk_cell (o := 0) HBX2.out rfl) p
              have b1 := fun p => cellQ (blk_cell (o := 1) HBX2.out rfl) p
              have e0' := fun p => cellQ e0 p
              have e1' := fun p => cellQ e1 p
              have hc' := fun p => cellQ hc p
              by_cases hxl : xl = (word[k].toNat : Int)
              · have g1 : (xl == (word[k].toNat : Int)) = true := by simpa using hxl
                have HXL := Lib.hid hxl
                clear hxl E1
                cases rb
                · go_wp2_with fail
                  refine wp_region_below (by kernel_rfl) (by kernel_rfl) ?_
                  repeat (first
                    | go_big_quiet_step (fail)
                    | quiet_step (fail))
                  refine wpQuiet_nil ?_
                  intro _ hw'
                  obtain ⟨⟨w6, kk⟩, hw''⟩ := hw'
                  subst hw''
                  clear b0 b1 e0' e1' hc' z1 e0 e1 e2 hc
                  go_wp2
                  go_roundw
                  case rel => exact ⟨j + 1, p, by omega, by go_num, hp, by show _ = _; rw [HMN.out, if_neg (by simp [mvB, HRB.out])], own_below HOW.out kk, below_step HBI.out kk⟩
                  case measure => simp [intOf]; omega
                · go_wp2_with fail
                  refine wp_region_below (by kernel_rfl) (by kernel_rfl) ?_
                  repeat (first
                    | go_big_quiet_step (fail)
                    | quiet_step (fail))
                  refine wpQuiet_nil ?_
                  intro wq hw'
                  obtain ⟨⟨w6, kk⟩, hw''⟩ := hw'
                  subst hw''
                  clear b0 b1 e0' e1' hc' z1
                  have HOW6 := Lib.hid (own_below HOW.out kk)
                  have z1 := blk_cell (o := 1) (blk_below kk HBX2.out) rfl
                  have e2' := held_step kk e2
                  have hco := HOW6.out.cellAt t (by simp; omega)
                  have hcs : ∃ u, wq.cell? ⟨wo.heap.size, t, none⟩ = some u := by
                    rw [hco, List.getElem?_eq_getElem (by simp [setL_len]; omega)]
                    exact ⟨_, rfl⟩
                  obtain ⟨u, hu⟩ := hcs
                  have hfo := HOW6.out.frozenAt t
                  have hst := own_bool_set HOW6.out t
                  rw [setL_set] at hst
                  have HST := Lib.hid hst
                  have HB6 := Lib.hid (below_step HBI.out kk)
                  clear hco hst e0 e1 e2 hc
                  go_wp2
                  go_roundw
                  case rel => exact ⟨j + 1, p ||| 2 ^ t, by omega, by go_num, hpl, by show _ = _; rw [HMN.out, if_pos (by simp [mvB, HRB.out, HXL.out])]; rfl, HST.out.1, HB6.out.setCell (Nat.le_refl _) _⟩
                  case measure => simp [intOf]; omega
              · have g1 : (xl == (word[k].toNat : Int)) = false := by simpa using hxl
                have HXL := Lib.hid hxl
                clear hxl E1
                cases rb
                all_goals
                  go_wp2_with fail
                  refine wp_region_below (by kernel_rfl) (by kernel_rfl) ?_
                  repeat (first
                    | go_big_quiet_step (fail)
                    | quiet_step (fail))
                  refine wpQuiet_nil ?_
                  intro _ hw'
                  obtain ⟨⟨w6, kk⟩, hw''⟩ := hw'
                  subst hw''
                  clear b0 b1 e0' e1' hc' z1 e0 e1 e2 hc
                  go_wp2
                  go_roundw
                  case rel => exact ⟨j + 1, p, by omega, by go_num, hp, by show _ = _; rw [HMN.out, if_neg (by simp [mvB, HXL.out])], own_below HOW.out kk, below_step HBI.out kk⟩
                  case measure => simp [intOf]; omega
            · obtain rfl : j = es.length := by omega
              have hpf := HP.out
              rw [List.take_of_length_le (Nat.le_refl _)] at hpf
              have HPF := Lib.hid hpf
              have HOW := Lib.hid hown
              have HBI := Lib.hid hbi
              clear hpf hown hbi
              go_wp2
              go_roundw
              case rel => exact ⟨k + 1, p, _, _, by omega, by go_num, rfl, hp, by rw [HPF.out]; exact HMV.out, by show _ = _; rw [HPF.out, HNX.out], Rd.of_own HOW.out, HBX2.out, below_step HB.out HBI.out⟩
              case measure => simp [intOf]; omega
        · obtain rfl : k = word.size := by omega
          have h := HO.out
          rw [List.take_of_length_le (by simp)] at h
          have HH := Lib.hid h
          have hiff := accB_iff (bs := bs) (S := o) (by rw [HMM.out]; exact HIN.out) (by rw [HMM.out]; omega)
          rw [HMM.out, h] at hiff
          have HIFF := Lib.hid hiff
          clear h hbx hb hiff
          go_wp2_with fail
          go_loop [9] (fun i => ∃ j : Nat, j ≤ m ∧ i = .int .i64 j ∧ Hid (∀ t, t < j → ¬ (o.testBit t = true ∧ bs.getD t false = true))) (fun i => m - (intOf i).toNat)
          case atStart => exact ⟨0, Nat.zero_le _, rfl, fun t ht => by omega⟩
          case round =>
            obtain ⟨j, hj, rfl, HN⟩ := hrel
            have z0 := blk_cell (o := 0) HBX.out rfl
            have z2 := blk_cell (o := 2) HBX.out rfl
            by_cases hjm : j < m
            · obtain ⟨ad, rfl, hc⟩ := HRD.out.at_ hjm
              rw [setL_at o m j hjm] at hc
              obtain ⟨bd, rfl, hd⟩ := (RdB.below HY.out HB.out).at_ hjm
              obtain ⟨r1, hr1⟩ : ∃ r, o.testBit j = r := ⟨_, rfl⟩
              obtain ⟨r2, hr2⟩ : ∃ r, bs.getD j false = r := ⟨_, rfl⟩
              rw [hr1] at hc
              rw [hr2] at hd
              have HR1 := Lib.hid hr1
              have HR2 := Lib.hid hr2
              have j0 : (0 : Int) ≤ (j : Int) := by omega
              have j1 : (j : Int) < (m : Int) := by omega
              clear hr1 hr2
              cases r1
              · go_wp2
                go_round
                case rel => exact ⟨j + 1, by omega, by go_num, fun t ht h => by
                  by_cases e : t = j
                  · subst e; rw [HR1.out] at h; cases h.1
                  · exact HN.out t (by omega) h⟩
                case measure => simp [intOf]; omega
              · cases r2
                · go_wp2
                  go_round
                  case rel => exact ⟨j + 1, by omega, by go_num, fun t ht h => by
                    by_cases e : t = j
                    · subst e; rw [HR2.out] at h; cases h.2
                    · exact HN.out t (by omega) h⟩
                  case measure => simp [intOf]; omega
                · go_wp2
                  go_ret
                  exact ⟨ret_b2 (HIFF.out.2 ⟨j, hjm, by rw [← HH.out]; exact HR1.out, HR2.out⟩).symm, HB.out⟩
            · obtain rfl : j = m := by omega
              go_wp2
              go_ret
              refine ⟨ret_b2 ?_, HB.out⟩
              cases hac : accB bs (runN es word.data.toList)
              · rfl
              · exfalso
                obtain ⟨t, ht, h1, h2⟩ := HIFF.out.1 hac
                rw [← HH.out] at h1
                exact HN.out t ht ⟨h1, h2⟩
    · rw [tkB_no fun h => h12 h.1]
      have h12' : (12 : Int) < (word.size : Int) := by omega
      go_enter Try.func56, Try.ntmps56
      go_wp2_with fail
      refine (C.out _ (RdE.below HX.out hb1)).mono ?_
      rintro e w2 ⟨rfl, k2⟩
      go_wp2
      go_ret
      exact ⟨rfl, below_step hb1 k2⟩
  · rw [PP_no hok] at C
    rw [tkB_no fun h => hok h.2]
    clear hok
    go_enter Try.func56, Try.ntmps56
    go_wp2_with fail
    refine (C.out _ (RdE.below HX.out hb1)).mono ?_
    rintro e w2 ⟨rfl, k2⟩
    go_wp2
    go_ret
    exact ⟨rfl, below_step hb1 k2⟩
end Go.Proofs.Ytgpjgigmlgoiiaa
