/- impl.ReadBag. Conditions: the text's length. Printed by xreadbag.py. -/
import Derived.Test.YtdikkfhdogkniaaRbRel
import Derived.Test.YtdikkfhdogkniaaBagOk
import Derived.Deep.RegionHeld3
import Derived.Deep.DeepCutAuto
namespace Go.Proofs.Ytdikkfhdogkniaa
open Go.RowKit

theorem NumsRel.start {s : ByteArray} {a m : Nat} {ra : Option (Nat × Nat)} (hra : scNum s (some a) = ra) (hm : scVal ra = m) (h4 : m ≤ 4) : NumsRel s (rdRow s a) [] m (ra.map Prod.snd) := by
  have : rdRow s a = rdNums s m (ra.map Prod.snd) := by
    unfold rdRow
    rw [hra, hm, Nat.min_eq_left (by omega)]
  rw [this]
  refine ⟨fun h => by rw [h, rdNums_none], fun b hb => by rw [hb]; simp⟩
theorem ItsRel.start {s : ByteArray} {n : Nat} {r0 : Option (Nat × Nat)} (h0 : rbCount s = r0) (hn : scVal r0 = n) : ItsRel s (rbIts s) [] (min n 310) (r0.map Prod.snd) := by
  have : rbIts s = rdIts s (min n 310) (r0.map Prod.snd) := by
    unfold rbIts
    rw [h0, hn]
  rw [this]
  refine ⟨fun h => by rw [h, rdIts_none], fun b hb => by rw [hb]; simp⟩
theorem MadeBB.no {w w' : World} {s : ByteArray} (h : rbOut s = none) (hb : Below w.heap.size w w') : MadeBB w (rbOut s) (.returned (.tuple #[.agg #[.slice none 0 0], .bool false])) w' := by
  rw [h]
  exact ⟨none, 0, rfl, OwnB.nil _ _, hb⟩

set_option maxRecDepth 100000 in
set_option maxHeartbeats 6400000 in
theorem impl_ReadBag_any (s : ByteArray) (hs : s.size ≤ 4294967296) (w : World) :
    Calls Try.prog 22 #[.string s] w (MadeBB w (rbOut s)) := by
  obtain ⟨i0, hi, hz0, hz1, hz2⟩ := info_parts Try.infoItem
  obtain ⟨j0, hj, jz0, jz1, jz2⟩ := info_parts Try.infoInt
  have hb1 := scVal_bd (s := s) (st := some 0)
  obtain ⟨r0, hr0⟩ : ∃ r, rbCount s = r := ⟨_, rfl⟩
  have hr0' : scNum s (some 0) = r0 := hr0
  rw [hr0'] at hb1
  have H0 := Lib.hid hr0
  have C0 := Lib.hid (fun g w => number_any g s hs (some 0) w)
  rw [hr0'] at C0
  clear hr0 hr0'
  obtain ⟨n0, hn0⟩ : ∃ n, scVal r0 = n := ⟨_, rfl⟩
  rw [hn0] at hb1
  unfold Scans at C0
  rw [hn0] at C0
  have N0 := Lib.hid hn0
  clear hn0
  have R0 : RB 79 w s (some 0) none 0 [] (((w.alloc (.cells #[.slice none 0 0] 29)).alloc (.cells #[.string s, .int .i64 0, .bool false] 79)).alloc (.cells #[.slice none 0 0] 29)) := by
    have q1 := heap_alloc_new (w.alloc (.cells #[.slice none 0 0] 29)) (.cells #[.string s, .int .i64 0, .bool false] 79)
    have q2 := heap_alloc_new ((w.alloc (.cells #[.slice none 0 0] 29)).alloc (.cells #[.string s, .int .i64 0, .bool false] 79)) (.cells #[.slice none 0 0] 29)
    refine ⟨⟨0, false, ?_, Nat.zero_le _, rfl, fun x hx => by injection hx⟩, ?_, ?_, ⟨World.ownsRow_nil _ _ _ _, by simp, List.Pairwise.nil⟩, ?_⟩
    · exact blk_below (below_alloc _ _) (by simpa using q1)
    · simpa using q2
    · exact blk_below (below_alloc _ _) (blk_below (below_alloc _ _) (heap_alloc_new w _))
    · exact below_step (below_step (below_alloc _ _) (below_alloc _ _)) (below_alloc _ _)
  go_enter Try.func22, Try.ntmps22
  go_wp2_with fail
  refine (C0.out _ _ R0.sc).mono ?_
  rintro e w1 ⟨rfl, D1, g1⟩
  have R1 := Lib.hid (R0.scan D1 g1)
  have IT0 := Lib.hid (ItsRel.start H0.out N0.out)
  clear R0 D1 g1 C0
  go_wp2
  go_loopw [7] (fun i wr => ∃ (k : Nat) (A : Option Addr) (c : Nat) (xs : List ItX) (st : Option Nat), k ≤ min n0 300 ∧ i = .int .i64 k ∧ xs.length ≤ k ∧ k ≤ xs.length ∧ Hid (ItsRel s (rbIts s) (xs.map ItX.p) (min n0 310 - k) st) ∧ RB 79 w s st A c xs wr) (fun i _ => 310 - (intOf i).toNat)
  case atStart => exact ⟨0, none, 0, [], _, Nat.zero_le _, rfl, Nat.le_refl _, Nat.le_refl _, Lib.hid (by simpa using IT0.out), R1.out⟩
  case round =>
    clear R1 IT0
    obtain ⟨k, A, c, xs, st, hk, rfl, hk1, hk2, ITS, hR⟩ := hrel
    have hn1 : n0 ≤ 1000000000 := by omega
    by_cases hgo : k < n0 ∧ st ≠ none
    · obtain ⟨hk3, hne⟩ := hgo
      obtain ⟨a, rfl⟩ : ∃ a, st = some a := by
        cases st with
        | none => exact absurd rfl hne
        | some a => exact ⟨a, rfl⟩
      clear hne
      obtain ⟨ra, hra⟩ : ∃ r, scNum s (some a) = r := ⟨_, rfl⟩
      have A0 := Lib.hid (fun g w => number_any g s hs (some a) w)
      unfold Scans at A0
      rw [hra] at A0
      have hba := scVal_bd (s := s) (st := some a)
      rw [hra] at hba
      obtain ⟨m, hm⟩ : ∃ n, scVal ra = n := ⟨_, rfl⟩
      rw [hm] at hba A0
      have HRA := Lib.hid hra
      have HM := Lib.hid hm
      clear hra hm
      obtain ⟨a', bb, hsb, _, hbb, _⟩ := hR.sc
      obtain rfl : bb = false := hbb
      have b2 := cell_of_row wr _ 2 _ _ (0, 0) hsb
      simp at b2
      clear hsb
      have k30 : (k : Int) < (n0 : Int) := by omega
      go_wp2_with fail
      refine (A0.out _ _ hR.sc).mono ?_
      rintro e w3 ⟨rfl, D3, g3⟩
      have hR3 := hR.scan D3 g3
      clear hR D3 g3 A0 b2
      by_cases hm4 : 4 < m ∨ 300 ≤ k
      · have hno : rbOut s = none := by
          refine rbOut_no fun hF => ?_
          rcases hm4 with h | h
          · have h1 := ITS.out
            rw [show min n0 310 - k = (min n0 310 - (k + 1)) + 1 by omega] at h1
            exact h1.wide (by rw [HRA.out, HM.out]; exact h) hF
          · exact rb_long (by rw [H0.out, N0.out]; omega) hF
        have HN := Lib.hid hno
        have d0 := blk_cell (o := 0) hR3.res rfl
        have f0 : w3.frozen? ⟨w.heap.size, 0, none⟩ = false := frozen_of_row w3 _ 0 _ _ hR3.res
        have HB := Lib.hid hR3.bel
        have hcase : 4 < m ∨ (m ≤ 4 ∧ 300 ≤ k) := by omega
        clear hR3 hm4 hno
        rcases hcase with h | ⟨h, h2⟩
        all_goals
          go_wp2
          refine bodyPost_ret (v := .tuple #[.agg #[.slice none 0 0], .bool false]) (by simp [results, Try.results22, go_sem, d0]) rfl (MadeBB.no HN.out (HB.out.setCell (Nat.le_refl _) _))
      · have hm4' : m ≤ 4 := by omega
        have hk300 : k < 300 := by omega
        have NR0 := Lib.hid (NumsRel.start HRA.out HM.out hm4')
        have hgb := hR3.sz
        have hxa : ∀ r, (Value.slice A xs.length c).ownBlock = some r → r < w3.heap.size := fun r hr => (hR3.own.row.lt r hr).2
        have hxb : ∀ x ∈ xs, ∀ r, x.v.ownBlock = some r → r < w3.heap.size := fun x hx r hr => ((hR3.own.kids x hx).lt r hr).2
        have hl3 : w3.heap.size ≤ w3.heap.size := Nat.le_refl _
        obtain ⟨GB, hGB⟩ : ∃ g : Nat, w3.heap.size = g := ⟨_, rfl⟩
        have hl3' : GB ≤ w3.heap.size := by omega
        rw [hGB] at hgb hxa hxb
        have HGB : Hid (w.heap.size + 3 ≤ GB ∧ w.heap.size + 2 < GB) := Lib.hid ⟨hgb, by omega⟩
        have HXA := Lib.hid hxa
        have HXB := Lib.hid hxb
        have HR3 := Lib.hid hR3
        have HL3 := Lib.hid hl3'
        clear hm4 hgb hxa hxb hl3 hl3' hGB hR3
        go_wp2
        go_loopw [9, 32] (fun v j wi => ∃ (jj : Nat) (vs : List Int) (st' : Option Nat), jj ≤ m ∧ j = .int .i64 jj ∧ vs.length ≤ jj ∧ jj ≤ vs.length ∧ Hid (NumsRel s (rdRow s a) vs (m - jj) st') ∧ wi.ownsRow GB 3 1 v vs.length (vs.map (Value.int .i64)) ∧ GB ≤ wi.heap.size ∧ RB 79 w s st' A c xs wi) (fun _ j _ => m - (intOf j).toNat)
        case atStart => exact ⟨0, [], _, Nat.zero_le _, rfl, Nat.le_refl _, Nat.le_refl _, NR0.out, World.ownsRow_nil _ _ _ _, HL3.out, HR3.out⟩
        case round =>
          clear NR0 HR3 HL3
          obtain ⟨jj, vs, st', hjm, rfl, hv1, hv2, NR, hown, hgw, hR⟩ := hrel
          by_cases hjt : jj < m
          · obtain ⟨rb, hrb⟩ : ∃ r, scNum s st' = r := ⟨_, rfl⟩
            have A1 := Lib.hid (fun g w => number_any g s hs st' w)
            unfold Scans at A1
            rw [hrb] at A1
            have hbb := scVal_bd (s := s) (st := st')
            rw [hrb] at hbb
            obtain ⟨z, hz⟩ : ∃ n, scVal rb = n := ⟨_, rfl⟩
            rw [hz] at hbb A1
            have HRB := Lib.hid hrb
            have HZ := Lib.hid hz
            clear hrb hz
            have j1 : (jj : Int) < (m : Int) := by omega
            go_wp2_with fail
            refine (A1.out _ _ hR.sc).mono ?_
            rintro e w4 ⟨rfl, D4, g4⟩
            have R4 := Lib.hid (hR.scan D4 g4)
            have hown4 := Lib.hid (hown.kept g4 (.inr fun e => by have h1 := (hown.lt _ e).1; have h2 := HGB.out; omega))
            have hg4 := g4.size
            clear hown hR D4 g4 A1
            go_wp2_with (first
              | (at_builtin
                 refine wpList_append_any _ rfl (.tmp 34) (.tmp 36) 40 rfl GB 3 j0 _ 1 8 Try.underlying40 hj jz0 jz1 jz2 rfl (by decide) _ vs.length _ rfl (own_below hown4.out (below_alloc _ _)) (some ⟨w4.heap.size, 0, none⟩) 1 1 [.int .i64 z] rfl (Rd.new w4 #[.int .i64 z] 3 rfl rfl) (by intro u hu; simp at hu; subst hu; rfl) (by unfold maxLen; omega) (by omega) (by simp; omega) ?_
                 intro v1 w5 hown5 hg5 _))
            have R5 := Lib.hid ((R4.out.keep (below_alloc w4 _)).other hg5 (fun r hr => (hown4.out.lt r hr).1) HGB.out.1 HXA.out HXB.out)
            have HO5 := Lib.hid hown5
            have hg5' := hg5.size
            simp at hg5'
            have hl5 : GB ≤ w5.heap.size := by omega
            clear hown5 hg5 hg5'
            go_roundw
            case rel =>
              refine ⟨jj + 1, vs ++ [(z : Int)], rb.map Prod.snd, by omega, by go_num, by simp; omega, by simp; omega, ?_, ?_, hl5, R5.out⟩
              · show NumsRel _ _ _ _ _
                have h1 := NR.out
                rw [show m - jj = (m - (jj + 1)) + 1 by omega] at h1
                have h2 := h1.next
                rw [HRB.out, HZ.out] at h2
                exact h2
              · rw [List.length_append, List.map_append]
                exact HO5.out
            case measure => simp [intOf]; omega
          obtain rfl : jj = m := by omega
          rw [Nat.sub_self] at NR
          obtain ⟨Kr, kc, rfl, _, _⟩ := own_slice hown
          obtain ⟨rc, hrc⟩ : ∃ r, scNum s st' = r := ⟨_, rfl⟩
          have A2 := Lib.hid (fun g w => number_any g s hs st' w)
          unfold Scans at A2
          rw [hrc] at A2
          have hbc := scVal_bd (s := s) (st := st')
          rw [hrc] at hbc
          obtain ⟨t, ht⟩ : ∃ n, scVal rc = n := ⟨_, rfl⟩
          rw [ht] at hbc A2
          have HRC := Lib.hid hrc
          have HT := Lib.hid ht
          clear hrc ht
          have b0 := blk_cell (o := 0) hR.bx rfl
          have b0' : wr.cell? ⟨w.heap.size + 2, 0, none⟩ = some (.slice A xs.length c) := b0
          have RD := Lib.hid (hR.keep (Below.refl _ _).drew)
          have HOW : Hid (wr.drew.ownsRow GB 3 1 (.slice Kr vs.length kc) vs.length (vs.map (Value.int .i64))) := Lib.hid (own_below hown (Below.refl _ _).drew)
          clear hown hR
          go_upto_region 15 with fail
          refine wp_region_held_drew (S := fun _ => True) (by kernel_rfl) (trivial) (fun hHeld => ?_)
          refine wpAnyH_take (i := 0) (v := ?_) rfl (by kernel_rfl) (by kernel_rfl) (by kernel_rfl) (fun _ _ _ h => h) (Or.inl ⟨by rfl, ?_⟩) hHeld ?_
          rotate_left
          · intro w hSw
            (try dsimp only at hSw)
            go_simp
            try with_reducible rfl
          try simp only [List.getElem_toArray, List.getElem_cons_zero, Act.put, List.setIfInBounds_toArray, List.set_cons_zero, List.set_cons_succ]
          refine wpAnyH_take (i := 2) (v := ?_) rfl (by kernel_rfl) (by kernel_rfl) (by kernel_rfl) (fun _ _ _ h => h) (Or.inl ⟨by rfl, ?_⟩) hHeld ?_
          rotate_left
          · intro w hSw
            (try dsimp only at hSw)
            go_simp
            try with_reducible rfl
          try simp only [List.getElem_toArray, List.getElem_cons_zero, List.getElem_cons_succ, Act.put, List.setIfInBounds_toArray, List.set_cons_zero, List.set_cons_succ]
          refine wpAnyH_ready (rs := [1, 3]) (by kernel_rfl) (by simp) ?_
          refine AllReadyH.cons rfl (fun K hK => ?_) ?_
          · skip
            go_simp
            refine hK.out _ _ (trivial) (fun hHeld => ?_)
            clear hK K
            try simp only [List.getElem_toArray, List.getElem_cons_zero, List.getElem_cons_succ, Act.put, List.setIfInBounds_toArray, List.set_cons_zero, List.set_cons_succ]
            refine wpAnyH_ready (rs := [3]) (by kernel_rfl) (by simp) ?_
            refine AllReadyH.cons rfl (fun K hK => ?_) ?_
            · skip
              go_simp
              go_at_call 56
              refine (A2.out _ _ RD.out.sc).mono ?_
              rintro e w6 ⟨rfl, D6, g6⟩
              have R6 := Lib.hid (RD.out.scan D6 g6)
              have b6 := blk_cell (o := 0) R6.out.bx rfl
              have b6' : w6.cell? ⟨w.heap.size + 2, 0, none⟩ = some (.slice A xs.length c) := b6
              have l6 : w.heap.size + 2 < w6.heap.size := blk_lt R6.out.bx
              have hown6 := Lib.hid (HOW.out.kept g6 (.inr fun e => by have h1 := (HOW.out.lt _ e).1; have h2 := HGB.out; omega))
              clear D6 g6
              go_simp
              refine hK.out _ _ (trivial) (fun hHeld => ?_)
              clear hK K
              try simp only [List.getElem_toArray, List.getElem_cons_zero, List.getElem_cons_succ, Act.put, List.setIfInBounds_toArray, List.set_cons_zero, List.set_cons_succ]
              refine wpAnyH_take (i := 4) (v := ?_) rfl (by kernel_rfl) (by kernel_rfl) (by kernel_rfl) (fun _ _ _ h => h) (Or.inl ⟨by rfl, ?_⟩) hHeld ?_
              rotate_left
              · intro w hSw
                (try dsimp only at hSw)
                go_simp
                try with_reducible rfl
              try simp only [List.getElem_toArray, List.getElem_cons_zero, List.getElem_cons_succ, Act.put, List.setIfInBounds_toArray, List.set_cons_zero, List.set_cons_succ]
              refine wpAnyH_ready (rs := [5]) (by kernel_rfl) (by simp) ?_
              refine AllReadyH.cons rfl (fun K hK => ?_) ?_
              · skip
                go_simp
                refine hK.out _ _ (trivial) (fun hHeld => ?_)
                clear hK K
                try simp only [List.getElem_toArray, List.getElem_cons_zero, List.getElem_cons_succ, Act.put, List.setIfInBounds_toArray, List.set_cons_zero, List.set_cons_succ]
                refine wpAnyH_ready (rs := [6]) (by kernel_rfl) (by simp) ?_
                refine AllReadyH.cons rfl (fun K hK => ?_) ?_
                · skip
                  refine step_append_any _ rfl (.tmp 40) (.tmp 44) 27 rfl (w.heap.size + 3) 54 i0 _ 2 32 Try.underlying27 hi hz0 hz1 hz2 rfl (by decide) (.slice A xs.length c) xs.length (ixCells xs) rfl (own_below R6.out.own.row (below_alloc _ _)) (some ⟨w6.heap.size, 0, none⟩) 1 1 [.slice Kr vs.length kc, .int .i64 t] rfl (rd_new2 w6 _ _ _) (by intro u hu; simp at hu; rcases hu with rfl | rfl <;> rfl) (by unfold maxLen; omega) (by omega) (by simp; omega) ?_
                  intro v1 w7 hown7 hg7 _
                  obtain ⟨A1, c1', rfl, _, _⟩ := own_slice hown7
                  have HF := Lib.hid (R6.out.put (p := ⟨vs, t⟩) HGB.out.1 HXB.out hown6.out hown7 hg7)
                  have bx7 := (hg7.block _ (by simp; omega) (fun e => by have := (R6.out.own.row.lt _ e.symm).1; omega)).trans (blk_below (below_alloc w6 _) R6.out.bx)
                  have f7 : w7.frozen? ⟨w.heap.size + 2, 0, none⟩ = false := frozen_of_row w7 _ 0 _ _ bx7
                  have e7 : w7.cell? ⟨w.heap.size + 2, 0, none⟩ = some (.slice A xs.length c) := blk_cell (o := 0) bx7 rfl
                  clear bx7 hown7 hg7
                  refine hK.out _ _ (trivial) (fun hHeld => ?_)
                  clear hK K
                  try simp only [List.getElem_toArray, List.getElem_cons_zero, List.getElem_cons_succ, Act.put, List.setIfInBounds_toArray, List.set_cons_zero, List.set_cons_succ]
                  refine wpAnyH_take (i := 7) (v := ?_) rfl (by kernel_rfl) (by kernel_rfl) (by kernel_rfl) (fun _ _ _ h => h) (Or.inl ⟨by rfl, ?_⟩) hHeld ?_
                  rotate_left
                  · intro w hSw
                    (try dsimp only at hSw)
                    go_simp
                    try with_reducible rfl
                  try simp only [List.getElem_toArray, List.getElem_cons_zero, List.getElem_cons_succ, Act.put, List.setIfInBounds_toArray, List.set_cons_zero, List.set_cons_succ]
                  refine wpAnyH_ready (rs := [8]) (by kernel_rfl) (by simp) ?_
                  refine AllReadyH.cons rfl (fun K hK => ?_) ?_
                  · skip
                    go_simp
                    refine hK.out _ _ (trivial) (fun hHeld => ?_)
                    clear hK K
                    try simp only [List.getElem_toArray, List.getElem_cons_zero, List.getElem_cons_succ, Act.put, List.setIfInBounds_toArray, List.set_cons_zero, List.set_cons_succ]
                    refine wpAnyH_done (by kernel_rfl) ?_ _
                    clear b0 b0'
                    go_wp2
                    go_roundw
                    case rel =>
                      refine ⟨k + 1, A1, c1', xs ++ [⟨⟨vs, t⟩, Kr, kc⟩], rc.map Prod.snd, by omega, by go_num, by simp; omega, by simp; omega, ?_, HF.out⟩
                      show ItsRel _ _ _ _ _
                      have h1 := ITS.out
                      rw [show min n0 310 - k = (min n0 310 - (k + 1)) + 1 by omega] at h1
                      have h2 := h1.next rfl NR.out.done
                      rw [HRC.out, HT.out] at h2
                      rw [List.map_append]
                      exact h2
                    case measure => simp [intOf]; omega
                  exact AllReadyH.nil
                exact AllReadyH.nil
              exact AllReadyH.nil
            exact AllReadyH.nil
          refine AllReadyH.cons rfl (fun K hK => ?_) ?_
          · skip
            go_simp
            go_at_call 56
            refine (A2.out _ _ RD.out.sc).mono ?_
            rintro e w6 ⟨rfl, D6, g6⟩
            have R6 := Lib.hid (RD.out.scan D6 g6)
            have b6 := blk_cell (o := 0) R6.out.bx rfl
            have b6' : w6.cell? ⟨w.heap.size + 2, 0, none⟩ = some (.slice A xs.length c) := b6
            have l6 : w.heap.size + 2 < w6.heap.size := blk_lt R6.out.bx
            have hown6 := Lib.hid (HOW.out.kept g6 (.inr fun e => by have h1 := (HOW.out.lt _ e).1; have h2 := HGB.out; omega))
            clear D6 g6
            go_simp
            refine hK.out _ _ (trivial) (fun hHeld => ?_)
            clear hK K
            try simp only [List.getElem_toArray, List.getElem_cons_zero, List.getElem_cons_succ, Act.put, List.setIfInBounds_toArray, List.set_cons_zero, List.set_cons_succ]
            refine wpAnyH_take (i := 4) (v := ?_) rfl (by kernel_rfl) (by kernel_rfl) (by kernel_rfl) (fun _ _ _ h => h) (Or.inl ⟨by rfl, ?_⟩) hHeld ?_
            rotate_left
            · intro w hSw
              (try dsimp only at hSw)
              go_simp
              try with_reducible rfl
            try simp only [List.getElem_toArray, List.getElem_cons_zero, List.getElem_cons_succ, Act.put, List.setIfInBounds_toArray, List.set_cons_zero, List.set_cons_succ]
            refine wpAnyH_ready (rs := [1, 5]) (by kernel_rfl) (by simp) ?_
            refine AllReadyH.cons rfl (fun K hK => ?_) ?_
            · skip
              go_simp
              refine hK.out _ _ (trivial) (fun hHeld => ?_)
              clear hK K
              try simp only [List.getElem_toArray, List.getElem_cons_zero, List.getElem_cons_succ, Act.put, List.setIfInBounds_toArray, List.set_cons_zero, List.set_cons_succ]
              refine wpAnyH_ready (rs := [5]) (by kernel_rfl) (by simp) ?_
              refine AllReadyH.cons rfl (fun K hK => ?_) ?_
              · skip
                go_simp
                refine hK.out _ _ (trivial) (fun hHeld => ?_)
                clear hK K
                try simp only [List.getElem_toArray, List.getElem_cons_zero, List.getElem_cons_succ, Act.put, List.setIfInBounds_toArray, List.set_cons_zero, List.set_cons_succ]
                refine wpAnyH_ready (rs := [6]) (by kernel_rfl) (by simp) ?_
                refine AllReadyH.cons rfl (fun K hK => ?_) ?_
                · skip
                  refine step_append_any _ rfl (.tmp 40) (.tmp 44) 27 rfl (w.heap.size + 3) 54 i0 _ 2 32 Try.underlying27 hi hz0 hz1 hz2 rfl (by decide) (.slice A xs.length c) xs.length (ixCells xs) rfl (own_below R6.out.own.row (below_alloc _ _)) (some ⟨w6.heap.size, 0, none⟩) 1 1 [.slice Kr vs.length kc, .int .i64 t] rfl (rd_new2 w6 _ _ _) (by intro u hu; simp at hu; rcases hu with rfl | rfl <;> rfl) (by unfold maxLen; omega) (by omega) (by simp; omega) ?_
                  intro v1 w7 hown7 hg7 _
                  obtain ⟨A1, c1', rfl, _, _⟩ := own_slice hown7
                  have HF := Lib.hid (R6.out.put (p := ⟨vs, t⟩) HGB.out.1 HXB.out hown6.out hown7 hg7)
                  have bx7 := (hg7.block _ (by simp; omega) (fun e => by have := (R6.out.own.row.lt _ e.symm).1; omega)).trans (blk_below (below_alloc w6 _) R6.out.bx)
                  have f7 : w7.frozen? ⟨w.heap.size + 2, 0, none⟩ = false := frozen_of_row w7 _ 0 _ _ bx7
                  have e7 : w7.cell? ⟨w.heap.size + 2, 0, none⟩ = some (.slice A xs.length c) := blk_cell (o := 0) bx7 rfl
                  clear bx7 hown7 hg7
                  refine hK.out _ _ (trivial) (fun hHeld => ?_)
                  clear hK K
                  try simp only [List.getElem_toArray, List.getElem_cons_zero, List.getElem_cons_succ, Act.put, List.setIfInBounds_toArray, List.set_cons_zero, List.set_cons_succ]
                  refine wpAnyH_take (i := 7) (v := ?_) rfl (by kernel_rfl) (by kernel_rfl) (by kernel_rfl) (fun _ _ _ h => h) (Or.inl ⟨by rfl, ?_⟩) hHeld ?_
                  rotate_left
                  · intro w hSw
                    (try dsimp only at hSw)
                    go_simp
                    try with_reducible rfl
                  try simp only [List.getElem_toArray, List.getElem_cons_zero, List.getElem_cons_succ, Act.put, List.setIfInBounds_toArray, List.set_cons_zero, List.set_cons_succ]
                  refine wpAnyH_ready (rs := [8]) (by kernel_rfl) (by simp) ?_
                  refine AllReadyH.cons rfl (fun K hK => ?_) ?_
                  · skip
                    go_simp
                    refine hK.out _ _ (trivial) (fun hHeld => ?_)
                    clear hK K
                    try simp only [List.getElem_toArray, List.getElem_cons_zero, List.getElem_cons_succ, Act.put, List.setIfInBounds_toArray, List.set_cons_zero, List.set_cons_succ]
                    refine wpAnyH_done (by kernel_rfl) ?_ _
                    clear b0 b0'
                    go_wp2
                    go_roundw
                    case rel =>
                      refine ⟨k + 1, A1, c1', xs ++ [⟨⟨vs, t⟩, Kr, kc⟩], rc.map Prod.snd, by omega, by go_num, by simp; omega, by simp; omega, ?_, HF.out⟩
                      show ItsRel _ _ _ _ _
                      have h1 := ITS.out
                      rw [show min n0 310 - k = (min n0 310 - (k + 1)) + 1 by omega] at h1
                      have h2 := h1.next rfl NR.out.done
                      rw [HRC.out, HT.out] at h2
                      rw [List.map_append]
                      exact h2
                    case measure => simp [intOf]; omega
                  exact AllReadyH.nil
                exact AllReadyH.nil
              exact AllReadyH.nil
            refine AllReadyH.cons rfl (fun K hK => ?_) ?_
            · skip
              go_simp
              refine hK.out _ _ (trivial) (fun hHeld => ?_)
              clear hK K
              try simp only [List.getElem_toArray, List.getElem_cons_zero, List.getElem_cons_succ, Act.put, List.setIfInBounds_toArray, List.set_cons_zero, List.set_cons_succ]
              refine wpAnyH_ready (rs := [1]) (by kernel_rfl) (by simp) ?_
              refine AllReadyH.cons rfl (fun K hK => ?_) ?_
              · skip
                go_simp
                refine hK.out _ _ (trivial) (fun hHeld => ?_)
                clear hK K
                try simp only [List.getElem_toArray, List.getElem_cons_zero, List.getElem_cons_succ, Act.put, List.setIfInBounds_toArray, List.set_cons_zero, List.set_cons_succ]
                refine wpAnyH_ready (rs := [6]) (by kernel_rfl) (by simp) ?_
                refine AllReadyH.cons rfl (fun K hK => ?_) ?_
                · skip
                  refine step_append_any _ rfl (.tmp 40) (.tmp 44) 27 rfl (w.heap.size + 3) 54 i0 _ 2 32 Try.underlying27 hi hz0 hz1 hz2 rfl (by decide) (.slice A xs.length c) xs.length (ixCells xs) rfl (own_below R6.out.own.row (below_alloc _ _)) (some ⟨w6.heap.size, 0, none⟩) 1 1 [.slice Kr vs.length kc, .int .i64 t] rfl (rd_new2 w6 _ _ _) (by intro u hu; simp at hu; rcases hu with rfl | rfl <;> rfl) (by unfold maxLen; omega) (by omega) (by simp; omega) ?_
                  intro v1 w7 hown7 hg7 _
                  obtain ⟨A1, c1', rfl, _, _⟩ := own_slice hown7
                  have HF := Lib.hid (R6.out.put (p := ⟨vs, t⟩) HGB.out.1 HXB.out hown6.out hown7 hg7)
                  have bx7 := (hg7.block _ (by simp; omega) (fun e => by have := (R6.out.own.row.lt _ e.symm).1; omega)).trans (blk_below (below_alloc w6 _) R6.out.bx)
                  have f7 : w7.frozen? ⟨w.heap.size + 2, 0, none⟩ = false := frozen_of_row w7 _ 0 _ _ bx7
                  have e7 : w7.cell? ⟨w.heap.size + 2, 0, none⟩ = some (.slice A xs.length c) := blk_cell (o := 0) bx7 rfl
                  clear bx7 hown7 hg7
                  refine hK.out _ _ (trivial) (fun hHeld => ?_)
                  clear hK K
                  try simp only [List.getElem_toArray, List.getElem_cons_zero, List.getElem_cons_succ, Act.put, List.setIfInBounds_toArray, List.set_cons_zero, List.set_cons_succ]
                  refine wpAnyH_take (i := 7) (v := ?_) rfl (by kernel_rfl) (by kernel_rfl) (by kernel_rfl) (fun _ _ _ h => h) (Or.inl ⟨by rfl, ?_⟩) hHeld ?_
                  rotate_left
                  · intro w hSw
                    (try dsimp only at hSw)
                    go_simp
                    try with_reducible rfl
                  try simp only [List.getElem_toArray, List.getElem_cons_zero, List.getElem_cons_succ, Act.put, List.setIfInBounds_toArray, List.set_cons_zero, List.set_cons_succ]
                  refine wpAnyH_ready (rs := [8]) (by kernel_rfl) (by simp) ?_
                  refine AllReadyH.cons rfl (fun K hK => ?_) ?_
                  · skip
                    go_simp
                    refine hK.out _ _ (trivial) (fun hHeld => ?_)
                    clear hK K
                    try simp only [List.getElem_toArray, List.getElem_cons_zero, List.getElem_cons_succ, Act.put, List.setIfInBounds_toArray, List.set_cons_zero, List.set_cons_succ]
                    refine wpAnyH_done (by kernel_rfl) ?_ _
                    clear b0 b0'
                    go_wp2
                    go_roundw
                    case rel =>
                      refine ⟨k + 1, A1, c1', xs ++ [⟨⟨vs, t⟩, Kr, kc⟩], rc.map Prod.snd, by omega, by go_num, by simp; omega, by simp; omega, ?_, HF.out⟩
                      show ItsRel _ _ _ _ _
                      have h1 := ITS.out
                      rw [show min n0 310 - k = (min n0 310 - (k + 1)) + 1 by omega] at h1
                      have h2 := h1.next rfl NR.out.done
                      rw [HRC.out, HT.out] at h2
                      rw [List.map_append]
                      exact h2
                    case measure => simp [intOf]; omega
                  exact AllReadyH.nil
                exact AllReadyH.nil
              exact AllReadyH.nil
            exact AllReadyH.nil
          exact AllReadyH.nil
    · have hgo' := hgo
      have hst : st = none ∨ (n0 ≤ k ∧ ∃ e, st = some e) := by
        cases st with
        | none => exact .inl rfl
        | some e =>
          refine .inr ⟨?_, e, rfl⟩
          rcases Nat.lt_or_ge k n0 with h | h
          · exact absurd ⟨h, by simp⟩ hgo
          · exact h
      clear hgo hgo'
      obtain ⟨a', bb, hsb, _, hbb, _⟩ := hR.sc
      have b2 := cell_of_row wr _ 2 _ _ (0, 0) hsb
      simp at b2
      clear hsb
      rcases hst with rfl | ⟨hnk, e, rfl⟩
      · obtain rfl : bb = true := hbb
        have hno : rbOut s = none := rbOut_no fun hF => absurd (ITS.out.1 rfl) hF
        have HN := Lib.hid hno
        clear hno
        have D := Lib.hid (fun g w h => done_any g s none w h)
        rw [show decide ((none : Option Nat) = some s.size) = false by simp] at D
        rcases (by omega : n0 ≤ k ∨ k < n0) with h1 | h1
        all_goals
          go_wp2_with fail
          refine (D.out _ wr hR.sc).mono ?_
          rintro e w3 ⟨rfl, k3⟩
          have R3 := hR.keep k3
          have d0 := blk_cell (o := 0) R3.res rfl
          have f0 : w3.frozen? ⟨w.heap.size, 0, none⟩ = false := frozen_of_row w3 _ 0 _ _ R3.res
          have HB := Lib.hid R3.bel
          clear hR k3 R3 b2
          go_wp2
          refine bodyPost_ret (v := .tuple #[.agg #[.slice none 0 0], .bool false]) (by simp [results, Try.results22, go_sem, d0]) rfl (MadeBB.no HN.out (HB.out.setCell (Nat.le_refl _) _))
      · obtain rfl : bb = false := hbb
        have hIt := ITS.out
        rw [show min n0 310 - k = 0 by omega] at hIt
        have hd := hIt.done
        have hF1 := hd.2 (by simp)
        have hF2 := hd.1
        have HF1 := Lib.hid hF1
        have HF2 := Lib.hid hF2
        clear hIt hd hF1 hF2
        obtain ⟨dd, hdd⟩ : ∃ d, decide (some e = some s.size) = d := ⟨_, rfl⟩
        have D := Lib.hid (fun g w h => done_any g s (some e) w h)
        rw [hdd] at D
        have HDD := Lib.hid hdd
        clear hdd
        cases dd
        · have hno : rbOut s = none := by
            unfold rbOut
            rw [if_neg]
            rintro ⟨h1, _⟩
            rw [HF2.out] at h1
            have := HDD.out
            rw [decide_eq_true h1] at this
            cases this
          have HN := Lib.hid hno
          clear hno
          go_wp2_with fail
          refine (D.out _ wr hR.sc).mono ?_
          rintro e w3 ⟨rfl, k3⟩
          have R3 := hR.keep k3
          have d0 := blk_cell (o := 0) R3.res rfl
          have f0 : w3.frozen? ⟨w.heap.size, 0, none⟩ = false := frozen_of_row w3 _ 0 _ _ R3.res
          have HB := Lib.hid R3.bel
          clear hR k3 R3 b2
          go_wp2
          refine bodyPost_ret (v := .tuple #[.agg #[.slice none 0 0], .bool false]) (by simp [results, Try.results22, go_sem, d0]) rfl (MadeBB.no HN.out (HB.out.setCell (Nat.le_refl _) _))
        · have he : (rbIts s).2 = some s.size := by
            rw [HF2.out]
            exact of_decide_eq_true HDD.out
          have HE := Lib.hid he
          clear he
          have hkids : ∀ p ∈ xs.map ItX.p, p.r.length ≤ 4294967296 := by
            rw [← HF1.out]
            intro p hp
            have := rdIts_row s _ _ p hp
            omega
          obtain ⟨ps, hps⟩ : ∃ ps, xs.map ItX.p = ps := ⟨_, rfl⟩
          have hpl : xs.length = ps.length := by rw [← hps]; simp
          rw [hps] at hkids HF1
          have HPS := Lib.hid hps
          have HPL := Lib.hid hpl
          have hpl2 : ps.length ≤ 300 := by omega
          have P := Lib.hid (fun w hx => impl_BagOk_any A c ps w hx (by omega) hkids)
          obtain ⟨ok, hok⟩ : ∃ ok, PP (BgOk ps) = ok := ⟨_, rfl⟩
          rw [hok] at P
          have HOK := Lib.hid hok
          clear hok hkids hps
          go_wp2_with fail
          refine (D.out _ wr hR.sc).mono ?_
          rintro e w3 ⟨rfl, k3⟩
          have R3 := hR.keep k3
          have b0 : w3.cell? ⟨w.heap.size + 1 + 1, 0, none⟩ = some (.slice A ps.length c) := by rw [← HPL.out]; exact blk_cell (o := 0) R3.bx rfl
          have b0' : w3.cell? ⟨w.heap.size + 2, 0, none⟩ = some (.slice A ps.length c) := b0
          have hrd : RdB w3 A ps := OwnB.rd ⟨xs, HPS.out, R3.own⟩
          have HR3 := Lib.hid R3
          clear hR k3 b2 hpl
          go_wp2_with fail
          refine (P.out w3 hrd).mono ?_
          rintro e w4 ⟨rfl, k4⟩
          have R4 := HR3.out.keep k4
          have b0 : w4.cell? ⟨w.heap.size + 1 + 1, 0, none⟩ = some (.slice A ps.length c) := by rw [← HPL.out]; exact blk_cell (o := 0) R4.bx rfl
          have b0' : w4.cell? ⟨w.heap.size + 2, 0, none⟩ = some (.slice A ps.length c) := b0
          have d0 := blk_cell (o := 0) R4.res rfl
          have f0 : w4.frozen? ⟨w.heap.size, 0, none⟩ = false := frozen_of_row w4 _ 0 _ _ R4.res
          have HR4 := Lib.hid R4
          clear R3 k4 hrd R4
          cases ok
          · have hno : rbOut s = none := rbOut_no fun _ => by rw [HF1.out]; exact PP_not HOK.out
            go_wp2
            refine bodyPost_ret (v := .tuple #[.agg #[.slice none 0 0], .bool false]) (by simp [results, Try.results22, go_sem, d0]) rfl (MadeBB.no hno (HR4.out.bel.setCell (Nat.le_refl _) _))
          · have hyes : rbOut s = some ps := by
              unfold rbOut
              rw [if_pos ⟨HE.out, by rw [HF1.out]; exact PP_of HOK.out⟩, HF1.out]
            have HY := Lib.hid hyes
            clear hyes
            go_wp2
            refine bodyPost_ret (v := .tuple #[.agg #[.slice A ps.length c], .bool true]) (by simp [results, Try.results22, go_sem, d0]) rfl (MadeBB.of HY.out ⟨A, c, rfl, ?_, HR4.out.bel.setCell (Nat.le_refl _) _⟩)
            have h2 := HR4.out.own
            exact ⟨xs, HPS.out, ⟨own_mono (ownsRow_setCell_below h2.row (by simp) _) (by omega), fun x hx => own_mono (ownsRow_setCell_below (h2.kids x hx) (by simp) _) (by omega), h2.apart⟩⟩
end Go.Proofs.Ytdikkfhdogkniaa
