/- spec.l03Copy. Conditions: the sizes of the lengths. Printed by xcopyb.py. -/
import Derived.Test.YtdikkfhdogkniaaCopyB
namespace Go.Proofs.Ytdikkfhdogkniaa
open Go.RowKit
set_option maxRecDepth 100000 in

set_option maxHeartbeats 6400000 in
theorem l03Copy_any (B : Option Addr) (d : Nat) (ps : List It) (w : World) (hx : RdB w B ps) (hn : ps.length ≤ 4294967296) (hk : ∀ p ∈ ps, p.r.length ≤ 4294967296) :
    Calls Try.prog 60 #[.agg #[.slice B ps.length d]] w (MadeBag w ps) := by
  obtain ⟨i0, hi, hz0, hz1, hz2⟩ := info_parts Try.infoItem
  obtain ⟨j0, hj, jz0, jz1, jz2⟩ := info_parts Try.infoInt
  have HX := Lib.hid hx
  have HK := Lib.hid hk
  clear hx hk
  go_enter Try.func60, Try.ntmps60
  go_wp2
  go_loopw [4] (fun i wr => ∃ (k : Nat) (xs : List ItX) (A : Option Addr) (c : Nat), k ≤ ps.length ∧ i = .int .i64 k ∧ Hid (xs.map ItX.p = ps.take k) ∧ BB w B ps.length d A c xs wr) (fun i _ => ps.length - (intOf i).toNat)
  case atStart => exact ⟨0, [], none, 0, Nat.zero_le _, rfl, Lib.hid rfl, BB.start⟩
  case round =>
    obtain ⟨k, xs, A, c, hk, rfl, HM, hpb⟩ := hrel
    have hxl : xs.length = min k ps.length := by have := congrArg List.length HM.out; simpa using this
    by_cases hlt : k < ps.length
    · obtain ⟨b, o, Kk, ck, rfl, c0w, c1w, hrkw⟩ := HX.out.at_ hlt
      have hbl : b < w.heap.size := World.block_lt_of_cell? w _ c0w
      have c0 := held_step hpb.bel c0w
      have c1 := held_step hpb.bel c1w
      have hrk := RdI.below hrkw hpb.bel
      clear c0w c1w hrkw
      have hkl := HK.out ps[k] (List.getElem_mem hlt)
      obtain ⟨x, hxx⟩ : ∃ x, ps[k] = x := ⟨_, rfl⟩
      rw [hxx] at c0 c1 hkl hrk
      have EX := Lib.hid hxx
      have k0 : (0 : Int) ≤ (k : Int) := by omega
      have k1 : (k : Int) < (ps.length : Int) := by omega
      obtain rfl : k = xs.length := by omega
      obtain ⟨ks, tt⟩ := x
      simp only at c0 c1 hkl hrk
      have HPB := Lib.hid hpb
      have a0 := blk_cell (o := 0) hpb.arg rfl
      have b0 := blk_cell (o := 0) hpb.box rfl
      have b0' : wr.cell? ⟨w.heap.size + 1 + 1, 0, none⟩ = some (.slice A xs.length c) := b0
      have HXD : Hid (RdI wr.drew Kk ks.length ks) := Lib.hid hrk
      have HPD : Hid (BB w (some ⟨b, o, none⟩) ps.length d A c xs wr.drew) := Lib.hid (hpb.keep (Below.refl _ _).drew)
      have hsz := hpb.sz
      have l0 : w.heap.size + 2 < wr.heap.size := by omega
      have l0' : w.heap.size + 1 + 1 < wr.heap.size := by omega
      have HC := Lib.hid (fun (w' : World) (h : Below (w.heap.size + 2) wr w') => (⟨(h.cell (by simp)).trans a0, (h.cell (by simp; omega)).trans c0, (h.cell (by simp; omega)).trans c1⟩ : w'.cell? ⟨w.heap.size, 0, none⟩ = some (.slice (some ⟨b, o, none⟩) ps.length d) ∧ w'.cell? ⟨b, o + xs.length * 2, none⟩ = some (.slice Kk ks.length ck) ∧ w'.cell? ⟨b, o + xs.length * 2 + 1, none⟩ = some (.int .i64 tt)))
      have BD : Hid (Below (w.heap.size + 2) wr wr.drew) := Lib.hid (Below.refl _ _).drew
      have HE0 : Hid ((wr.drew.alloc (.cells #[] 3)).ownsRow wr.heap.size 3 1 (.slice (some ⟨wr.heap.size, 0, none⟩) 0 0) 0 []) := Lib.hid (World.ownsRow_made wr.drew #[] 0 (Nat.le_refl _) (by unfold maxLen; omega) rfl)
      clear hxx hpb hrk hxl
      go_upto_region 5 with fail
      refine wp_region_held_drew (S := fun w' => w'.cell? ⟨w.heap.size, 0, none⟩ = some (.slice (some ⟨b, o, none⟩) ps.length d) ∧ w'.cell? ⟨b, o + xs.length * 2, none⟩ = some (.slice Kk ks.length ck) ∧ w'.cell? ⟨b, o + xs.length * 2 + 1, none⟩ = some (.int .i64 tt)) (by kernel_rfl) (HC.out _ BD.out) (fun hHeld => ?_)
      refine wpAnyH_take (i := 0) (v := ?_) rfl (by kernel_rfl) (by kernel_rfl) (by kernel_rfl) (fun _ _ _ h => h) (Or.inl ⟨by rfl, ?_⟩) hHeld ?_
      rotate_left
      · intro w hSw
        (try dsimp only at hSw)
        go_simp
        try with_reducible rfl
      try simp only [List.getElem_toArray, List.getElem_cons_zero, Act.put, List.setIfInBounds_toArray, List.set_cons_zero, List.set_cons_succ]
      refine wpAnyH_take (i := 3) (v := ?_) rfl (by kernel_rfl) (by kernel_rfl) (by kernel_rfl) (fun _ _ _ h => h) (Or.inl ⟨by rfl, ?_⟩) hHeld ?_
      rotate_left
      · intro w hSw
        (try dsimp only at hSw)
        go_simp
        try with_reducible rfl
      try simp only [List.getElem_toArray, List.getElem_cons_zero, List.getElem_cons_succ, Act.put, List.setIfInBounds_toArray, List.set_cons_zero, List.set_cons_succ]
      refine wpAnyH_take (i := 4) (v := ?_) rfl (by kernel_rfl) (by kernel_rfl) (by kernel_rfl) (fun _ _ _ h => h) (Or.inl ⟨by rfl, ?_⟩) hHeld ?_
      rotate_left
      · intro w hSw
        (try dsimp only at hSw)
        go_simp
        try with_reducible rfl
      try simp only [List.getElem_toArray, List.getElem_cons_zero, List.getElem_cons_succ, Act.put, List.setIfInBounds_toArray, List.set_cons_zero, List.set_cons_succ]
      refine wpAnyH_take (i := 5) (v := ?_) rfl (by kernel_rfl) (by kernel_rfl) (by kernel_rfl) (fun _ _ _ h => h) (Or.inl ⟨by rfl, ?_⟩) hHeld ?_
      rotate_left
      · intro w hSw
        (try dsimp only at hSw)
        go_simp
        try with_reducible rfl
      try simp only [List.getElem_toArray, List.getElem_cons_zero, List.getElem_cons_succ, Act.put, List.setIfInBounds_toArray, List.set_cons_zero, List.set_cons_succ]
      refine wpAnyH_take (i := 6) (v := ?_) rfl (by kernel_rfl) (by kernel_rfl) (by kernel_rfl) (fun _ _ _ h => h) (Or.inl ⟨by rfl, ?_⟩) hHeld ?_
      rotate_left
      · intro w hSw
        (try dsimp only at hSw)
        go_simp
        try with_reducible rfl
      try simp only [List.getElem_toArray, List.getElem_cons_zero, List.getElem_cons_succ, Act.put, List.setIfInBounds_toArray, List.set_cons_zero, List.set_cons_succ]
      refine wpAnyH_take (i := 7) (v := ?_) rfl (by kernel_rfl) (by kernel_rfl) (by kernel_rfl) (fun _ _ _ h => h) (Or.inl ⟨by rfl, ?_⟩) hHeld ?_
      rotate_left
      · intro w hSw
        (try dsimp only at hSw)
        go_simp
        try with_reducible rfl
      try simp only [List.getElem_toArray, List.getElem_cons_zero, List.getElem_cons_succ, Act.put, List.setIfInBounds_toArray, List.set_cons_zero, List.set_cons_succ]
      refine wpAnyH_take (i := 8) (v := ?_) rfl (by kernel_rfl) (by kernel_rfl) (by kernel_rfl) (fun _ _ _ h => h) (Or.inl ⟨by rfl, ?_⟩) hHeld ?_
      rotate_left
      · intro w hSw
        (try dsimp only at hSw)
        go_simp
        try with_reducible rfl
      try simp only [List.getElem_toArray, List.getElem_cons_zero, List.getElem_cons_succ, Act.put, List.setIfInBounds_toArray, List.set_cons_zero, List.set_cons_succ]
      refine wpAnyH_take (i := 10) (v := ?_) rfl (by kernel_rfl) (by kernel_rfl) (by kernel_rfl) (fun _ _ _ h => h) (Or.inl ⟨by rfl, ?_⟩) hHeld ?_
      rotate_left
      · intro w hSw
        (try dsimp only at hSw)
        go_simp
        try with_reducible rfl
      try simp only [List.getElem_toArray, List.getElem_cons_zero, List.getElem_cons_succ, Act.put, List.setIfInBounds_toArray, List.set_cons_zero, List.set_cons_succ]
      refine wpAnyH_take (i := 11) (v := ?_) rfl (by kernel_rfl) (by kernel_rfl) (by kernel_rfl) (fun _ _ _ h => h) (Or.inl ⟨by rfl, ?_⟩) hHeld ?_
      rotate_left
      · intro w hSw
        (try dsimp only at hSw)
        go_simp
        try with_reducible rfl
      try simp only [List.getElem_toArray, List.getElem_cons_zero, List.getElem_cons_succ, Act.put, List.setIfInBounds_toArray, List.set_cons_zero, List.set_cons_succ]
      refine wpAnyH_take (i := 12) (v := ?_) rfl (by kernel_rfl) (by kernel_rfl) (by kernel_rfl) (fun _ _ _ h => h) (Or.inl ⟨by rfl, ?_⟩) hHeld ?_
      rotate_left
      · intro w hSw
        (try dsimp only at hSw)
        go_simp
        try with_reducible rfl
      try simp only [List.getElem_toArray, List.getElem_cons_zero, List.getElem_cons_succ, Act.put, List.setIfInBounds_toArray, List.set_cons_zero, List.set_cons_succ]
      refine wpAnyH_take (i := 13) (v := ?_) rfl (by kernel_rfl) (by kernel_rfl) (by kernel_rfl) (fun _ _ _ h => h) (Or.inl ⟨by rfl, ?_⟩) hHeld ?_
      rotate_left
      · intro w hSw
        (try dsimp only at hSw)
        go_simp
        try with_reducible rfl
      try simp only [List.getElem_toArray, List.getElem_cons_zero, List.getElem_cons_succ, Act.put, List.setIfInBounds_toArray, List.set_cons_zero, List.set_cons_succ]
      refine wpAnyH_take (i := 14) (v := ?_) rfl (by kernel_rfl) (by kernel_rfl) (by kernel_rfl) (fun _ _ _ h => h) (Or.inl ⟨by rfl, ?_⟩) hHeld ?_
      rotate_left
      · intro w hSw
        (try dsimp only at hSw)
        go_simp
        try with_reducible rfl
      try simp only [List.getElem_toArray, List.getElem_cons_zero, List.getElem_cons_succ, Act.put, List.setIfInBounds_toArray, List.set_cons_zero, List.set_cons_succ]
      refine wpAnyH_take (i := 15) (v := ?_) rfl (by kernel_rfl) (by kernel_rfl) (by kernel_rfl) (fun _ _ _ h => h) (Or.inl ⟨by rfl, ?_⟩) hHeld ?_
      rotate_left
      · intro w hSw
        (try dsimp only at hSw)
        go_simp
        try with_reducible rfl
      try simp only [List.getElem_toArray, List.getElem_cons_zero, List.getElem_cons_succ, Act.put, List.setIfInBounds_toArray, List.set_cons_zero, List.set_cons_succ]
      refine wpAnyH_ready (rs := [1, 2]) (by kernel_rfl) (by simp) ?_
      refine AllReadyH.cons rfl (fun K hK => ?_) ?_
      · skip
        go_simp
        refine hK.out _ _ (hHeld) (fun hHeld => ?_)
        clear hK K
        try simp only [List.getElem_toArray, List.getElem_cons_zero, List.getElem_cons_succ, Act.put, List.setIfInBounds_toArray, List.set_cons_zero, List.set_cons_succ]
        refine wpAnyH_ready (rs := [2]) (by kernel_rfl) (by simp) ?_
        refine AllReadyH.cons rfl (fun K hK => ?_) ?_
        · skip
          go_simp
          refine hK.out _ _ (HC.out _ (BD.out.alloc (by show w.heap.size + 2 ≤ wr.heap.size; omega) _)) (fun hHeld => ?_)
          clear hK K
          try simp only [List.getElem_toArray, List.getElem_cons_zero, List.getElem_cons_succ, Act.put, List.setIfInBounds_toArray, List.set_cons_zero, List.set_cons_succ]
          refine wpAnyH_ready (rs := [9]) (by kernel_rfl) (by simp) ?_
          refine AllReadyH.cons rfl (fun K hK => ?_) ?_
          · skip
            refine step_append_any _ rfl (.tmp 15) (.tmp 21) 40 rfl wr.heap.size 3 j0 _ 1 8 Try.underlying40 hj jz0 jz1 jz2 rfl (by decide) (.slice (some ⟨wr.heap.size, 0, none⟩) 0 0) 0 [] rfl HE0.out Kk ks.length ck (ks.map (Value.int .i64)) rfl (RdI.alloc HXD.out _) (oneCell_ints ks .i64) (by unfold maxLen; omega) (by omega) (by simp) ?_
            intro v1 w3 hown3 hg3 _
            rw [Nat.zero_add, List.nil_append] at hown3
            obtain ⟨K1, d1, rfl, _, _⟩ := own_slice hown3
            have hb3 : Below wr.drew.heap.size wr.drew w3 := ((Below.refl _ _).alloc (Nat.le_refl _) _).grown hg3 (by simp) (fun r hr => by cases hr; exact Nat.le_refl _)
            have HB3 := Lib.hid hb3
            have HO3 := Lib.hid hown3
            have hP3 := HPD.out.keep hb3
            have d0 := blk_cell (o := 0) hP3.box rfl
            have d0' : w3.cell? ⟨w.heap.size + 1 + 1, 0, none⟩ = some (.slice A xs.length c) := d0
            have l3 : w.heap.size + 1 + 1 < w3.heap.size := by have := hP3.sz; omega
            have BL3 := Lib.hid (BD.out.trans (hb3.mono (by show w.heap.size + 2 ≤ wr.heap.size; omega)))
            have HP3 := Lib.hid hP3
            clear hown3 hb3 hP3 hg3
            refine hK.out _ _ (HC.out _ BL3.out) (fun hHeld => ?_)
            clear hK K
            try simp only [List.getElem_toArray, List.getElem_cons_zero, List.getElem_cons_succ, Act.put, List.setIfInBounds_toArray, List.set_cons_zero, List.set_cons_succ]
            refine wpAnyH_take (i := 16) (v := ?_) rfl (by kernel_rfl) (by kernel_rfl) (by kernel_rfl) (fun _ _ _ h => h) (Or.inl ⟨by rfl, ?_⟩) hHeld ?_
            rotate_left
            · intro w hSw
              (try dsimp only at hSw)
              go_simp
              try with_reducible rfl
            try simp only [List.getElem_toArray, List.getElem_cons_zero, List.getElem_cons_succ, Act.put, List.setIfInBounds_toArray, List.set_cons_zero, List.set_cons_succ]
            refine wpAnyH_ready (rs := [17]) (by kernel_rfl) (by simp) ?_
            refine AllReadyH.cons rfl (fun K hK => ?_) ?_
            · skip
              go_simp
              refine hK.out _ _ (HC.out _ (BL3.out.alloc (by omega) _)) (fun hHeld => ?_)
              clear hK K
              try simp only [List.getElem_toArray, List.getElem_cons_zero, List.getElem_cons_succ, Act.put, List.setIfInBounds_toArray, List.set_cons_zero, List.set_cons_succ]
              refine wpAnyH_ready (rs := [18]) (by kernel_rfl) (by simp) ?_
              refine AllReadyH.cons rfl (fun K hK => ?_) ?_
              · skip
                refine step_append_any _ rfl (.tmp 14) (.tmp 30) 27 rfl (w.heap.size + 3) 54 i0 _ 2 32 Try.underlying27 hi hz0 hz1 hz2 rfl (by decide) (.slice A xs.length c) xs.length (ixCells xs) rfl (own_below HP3.out.own.row (below_alloc _ _)) (some ⟨w3.heap.size, 0, none⟩) 1 1 [.slice K1 ks.length d1, .int .i64 tt] rfl (rd_new2 w3 _ _ _) (by intro u hu; simp at hu; rcases hu with rfl | rfl <;> rfl) (by unfold maxLen; omega) (by omega) (by have := HP3.out.sz; simp; omega) ?_
                intro v1 w4 hown4 hg4 _
                obtain ⟨A1, c1', rfl, _, _⟩ := own_slice hown4
                have HF := Lib.hid (HPD.out.push (p := ⟨ks, tt⟩) HB3.out HO3.out hown4 hg4)
                have bx4 := (hg4.block _ (by have := HP3.out.sz; simp; omega) (fun e => by have := (HP3.out.own.row.lt _ e.symm).1; omega)).trans (blk_below (below_alloc w3 _) HP3.out.box)
                have f0 : w4.frozen? ⟨w.heap.size + 2, 0, none⟩ = false := frozen_of_row w4 _ 0 _ _ bx4
                have e0 : w4.cell? ⟨w.heap.size + 2, 0, none⟩ = some (.slice A xs.length c) := blk_cell (o := 0) bx4 rfl
                have BL4 := Lib.hid ((BL3.out.alloc (by omega) (.cells #[.slice K1 ks.length d1, .int .i64 tt] 54)).grown hg4 (by simp; omega) (fun r hr => by have := (HP3.out.own.row.lt r hr).1; omega))
                clear bx4
                refine hK.out _ _ (HC.out _ BL4.out) (fun hHeld => ?_)
                clear hK K
                try simp only [List.getElem_toArray, List.getElem_cons_zero, List.getElem_cons_succ, Act.put, List.setIfInBounds_toArray, List.set_cons_zero, List.set_cons_succ]
                refine wpAnyH_take (i := 19) (v := ?_) rfl (by kernel_rfl) (by kernel_rfl) (by kernel_rfl) (fun _ _ _ h => h) (Or.inl ⟨by rfl, ?_⟩) hHeld ?_
                rotate_left
                · intro w hSw
                  (try dsimp only at hSw)
                  go_simp
                  try with_reducible rfl
                try simp only [List.getElem_toArray, List.getElem_cons_zero, List.getElem_cons_succ, Act.put, List.setIfInBounds_toArray, List.set_cons_zero, List.set_cons_succ]
                refine wpAnyH_ready (rs := [20]) (by kernel_rfl) (by simp) ?_
                refine AllReadyH.cons rfl (fun K hK => ?_) ?_
                · skip
                  go_simp
                  refine hK.out _ _ (HC.out _ (BL4.out.setCell (by simp) _)) (fun hHeld => ?_)
                  clear hK K
                  try simp only [List.getElem_toArray, List.getElem_cons_zero, List.getElem_cons_succ, Act.put, List.setIfInBounds_toArray, List.set_cons_zero, List.set_cons_succ]
                  refine wpAnyH_done (by kernel_rfl) ?_ _
                  clear a0 b0 b0' c0 c1
                  go_wp2
                  go_roundw
                  case rel =>
                    refine ⟨xs.length + 1, _, A1, c1', by omega, by go_num, Lib.hid ?_, HF.out⟩
                    rw [List.map_append, HM.out, List.take_succ_eq_append_getElem hlt, EX.out]
                    rfl
                  case measure => simp [intOf]; omega
                exact AllReadyH.nil
              exact AllReadyH.nil
            exact AllReadyH.nil
          exact AllReadyH.nil
        exact AllReadyH.nil
      refine AllReadyH.cons rfl (fun K hK => ?_) ?_
      · skip
        go_simp
        refine hK.out _ _ (HC.out _ (BD.out.alloc (by show w.heap.size + 2 ≤ wr.heap.size; omega) _)) (fun hHeld => ?_)
        clear hK K
        try simp only [List.getElem_toArray, List.getElem_cons_zero, List.getElem_cons_succ, Act.put, List.setIfInBounds_toArray, List.set_cons_zero, List.set_cons_succ]
        refine wpAnyH_ready (rs := [1, 9]) (by kernel_rfl) (by simp) ?_
        refine AllReadyH.cons rfl (fun K hK => ?_) ?_
        · skip
          go_simp
          refine hK.out _ _ (hHeld) (fun hHeld => ?_)
          clear hK K
          try simp only [List.getElem_toArray, List.getElem_cons_zero, List.getElem_cons_succ, Act.put, List.setIfInBounds_toArray, List.set_cons_zero, List.set_cons_succ]
          refine wpAnyH_ready (rs := [9]) (by kernel_rfl) (by simp) ?_
          refine AllReadyH.cons rfl (fun K hK => ?_) ?_
          · skip
            refine step_append_any _ rfl (.tmp 15) (.tmp 21) 40 rfl wr.heap.size 3 j0 _ 1 8 Try.underlying40 hj jz0 jz1 jz2 rfl (by decide) (.slice (some ⟨wr.heap.size, 0, none⟩) 0 0) 0 [] rfl HE0.out Kk ks.length ck (ks.map (Value.int .i64)) rfl (RdI.alloc HXD.out _) (oneCell_ints ks .i64) (by unfold maxLen; omega) (by omega) (by simp) ?_
            intro v1 w3 hown3 hg3 _
            rw [Nat.zero_add, List.nil_append] at hown3
            obtain ⟨K1, d1, rfl, _, _⟩ := own_slice hown3
            have hb3 : Below wr.drew.heap.size wr.drew w3 := ((Below.refl _ _).alloc (Nat.le_refl _) _).grown hg3 (by simp) (fun r hr => by cases hr; exact Nat.le_refl _)
            have HB3 := Lib.hid hb3
            have HO3 := Lib.hid hown3
            have hP3 := HPD.out.keep hb3
            have d0 := blk_cell (o := 0) hP3.box rfl
            have d0' : w3.cell? ⟨w.heap.size + 1 + 1, 0, none⟩ = some (.slice A xs.length c) := d0
            have l3 : w.heap.size + 1 + 1 < w3.heap.size := by have := hP3.sz; omega
            have BL3 := Lib.hid (BD.out.trans (hb3.mono (by show w.heap.size + 2 ≤ wr.heap.size; omega)))
            have HP3 := Lib.hid hP3
            clear hown3 hb3 hP3 hg3
            refine hK.out _ _ (HC.out _ BL3.out) (fun hHeld => ?_)
            clear hK K
            try simp only [List.getElem_toArray, List.getElem_cons_zero, List.getElem_cons_succ, Act.put, List.setIfInBounds_toArray, List.set_cons_zero, List.set_cons_succ]
            refine wpAnyH_take (i := 16) (v := ?_) rfl (by kernel_rfl) (by kernel_rfl) (by kernel_rfl) (fun _ _ _ h => h) (Or.inl ⟨by rfl, ?_⟩) hHeld ?_
            rotate_left
            · intro w hSw
              (try dsimp only at hSw)
              go_simp
              try with_reducible rfl
            try simp only [List.getElem_toArray, List.getElem_cons_zero, List.getElem_cons_succ, Act.put, List.setIfInBounds_toArray, List.set_cons_zero, List.set_cons_succ]
            refine wpAnyH_ready (rs := [17]) (by kernel_rfl) (by simp) ?_
            refine AllReadyH.cons rfl (fun K hK => ?_) ?_
            · skip
              go_simp
              refine hK.out _ _ (HC.out _ (BL3.out.alloc (by omega) _)) (fun hHeld => ?_)
              clear hK K
              try simp only [List.getElem_toArray, List.getElem_cons_zero, List.getElem_cons_succ, Act.put, List.setIfInBounds_toArray, List.set_cons_zero, List.set_cons_succ]
              refine wpAnyH_ready (rs := [18]) (by kernel_rfl) (by simp) ?_
              refine AllReadyH.cons rfl (fun K hK => ?_) ?_
              · skip
                refine step_append_any _ rfl (.tmp 14) (.tmp 30) 27 rfl (w.heap.size + 3) 54 i0 _ 2 32 Try.underlying27 hi hz0 hz1 hz2 rfl (by decide) (.slice A xs.length c) xs.length (ixCells xs) rfl (own_below HP3.out.own.row (below_alloc _ _)) (some ⟨w3.heap.size, 0, none⟩) 1 1 [.slice K1 ks.length d1, .int .i64 tt] rfl (rd_new2 w3 _ _ _) (by intro u hu; simp at hu; rcases hu with rfl | rfl <;> rfl) (by unfold maxLen; omega) (by omega) (by have := HP3.out.sz; simp; omega) ?_
                intro v1 w4 hown4 hg4 _
                obtain ⟨A1, c1', rfl, _, _⟩ := own_slice hown4
                have HF := Lib.hid (HPD.out.push (p := ⟨ks, tt⟩) HB3.out HO3.out hown4 hg4)
                have bx4 := (hg4.block _ (by have := HP3.out.sz; simp; omega) (fun e => by have := (HP3.out.own.row.lt _ e.symm).1; omega)).trans (blk_below (below_alloc w3 _) HP3.out.box)
                have f0 : w4.frozen? ⟨w.heap.size + 2, 0, none⟩ = false := frozen_of_row w4 _ 0 _ _ bx4
                have e0 : w4.cell? ⟨w.heap.size + 2, 0, none⟩ = some (.slice A xs.length c) := blk_cell (o := 0) bx4 rfl
                have BL4 := Lib.hid ((BL3.out.alloc (by omega) (.cells #[.slice K1 ks.length d1, .int .i64 tt] 54)).grown hg4 (by simp; omega) (fun r hr => by have := (HP3.out.own.row.lt r hr).1; omega))
                clear bx4
                refine hK.out _ _ (HC.out _ BL4.out) (fun hHeld => ?_)
                clear hK K
                try simp only [List.getElem_toArray, List.getElem_cons_zero, List.getElem_cons_succ, Act.put, List.setIfInBounds_toArray, List.set_cons_zero, List.set_cons_succ]
                refine wpAnyH_take (i := 19) (v := ?_) rfl (by kernel_rfl) (by kernel_rfl) (by kernel_rfl) (fun _ _ _ h => h) (Or.inl ⟨by rfl, ?_⟩) hHeld ?_
                rotate_left
                · intro w hSw
                  (try dsimp only at hSw)
                  go_simp
                  try with_reducible rfl
                try simp only [List.getElem_toArray, List.getElem_cons_zero, List.getElem_cons_succ, Act.put, List.setIfInBounds_toArray, List.set_cons_zero, List.set_cons_succ]
                refine wpAnyH_ready (rs := [20]) (by kernel_rfl) (by simp) ?_
                refine AllReadyH.cons rfl (fun K hK => ?_) ?_
                · skip
                  go_simp
                  refine hK.out _ _ (HC.out _ (BL4.out.setCell (by simp) _)) (fun hHeld => ?_)
                  clear hK K
                  try simp only [List.getElem_toArray, List.getElem_cons_zero, List.getElem_cons_succ, Act.put, List.setIfInBounds_toArray, List.set_cons_zero, List.set_cons_succ]
                  refine wpAnyH_done (by kernel_rfl) ?_ _
                  clear a0 b0 b0' c0 c1
                  go_wp2
                  go_roundw
                  case rel =>
                    refine ⟨xs.length + 1, _, A1, c1', by omega, by go_num, Lib.hid ?_, HF.out⟩
                    rw [List.map_append, HM.out, List.take_succ_eq_append_getElem hlt, EX.out]
                    rfl
                  case measure => simp [intOf]; omega
                exact AllReadyH.nil
              exact AllReadyH.nil
            exact AllReadyH.nil
          exact AllReadyH.nil
        refine AllReadyH.cons rfl (fun K hK => ?_) ?_
        · skip
          refine step_append_any _ rfl (.tmp 15) (.tmp 21) 40 rfl wr.heap.size 3 j0 _ 1 8 Try.underlying40 hj jz0 jz1 jz2 rfl (by decide) (.slice (some ⟨wr.heap.size, 0, none⟩) 0 0) 0 [] rfl HE0.out Kk ks.length ck (ks.map (Value.int .i64)) rfl (RdI.alloc HXD.out _) (oneCell_ints ks .i64) (by unfold maxLen; omega) (by omega) (by simp) ?_
          intro v1 w3 hown3 hg3 _
          rw [Nat.zero_add, List.nil_append] at hown3
          obtain ⟨K1, d1, rfl, _, _⟩ := own_slice hown3
          have hb3 : Below wr.drew.heap.size wr.drew w3 := ((Below.refl _ _).alloc (Nat.le_refl _) _).grown hg3 (by simp) (fun r hr => by cases hr; exact Nat.le_refl _)
          have HB3 := Lib.hid hb3
          have HO3 := Lib.hid hown3
          have hP3 := HPD.out.keep hb3
          have d0 := blk_cell (o := 0) hP3.box rfl
          have d0' : w3.cell? ⟨w.heap.size + 1 + 1, 0, none⟩ = some (.slice A xs.length c) := d0
          have l3 : w.heap.size + 1 + 1 < w3.heap.size := by have := hP3.sz; omega
          have BL3 := Lib.hid (BD.out.trans (hb3.mono (by show w.heap.size + 2 ≤ wr.heap.size; omega)))
          have HP3 := Lib.hid hP3
          clear hown3 hb3 hP3 hg3
          refine hK.out _ _ (HC.out _ BL3.out) (fun hHeld => ?_)
          clear hK K
          try simp only [List.getElem_toArray, List.getElem_cons_zero, List.getElem_cons_succ, Act.put, List.setIfInBounds_toArray, List.set_cons_zero, List.set_cons_succ]
          refine wpAnyH_take (i := 16) (v := ?_) rfl (by kernel_rfl) (by kernel_rfl) (by kernel_rfl) (fun _ _ _ h => h) (Or.inl ⟨by rfl, ?_⟩) hHeld ?_
          rotate_left
          · intro w hSw
            (try dsimp only at hSw)
            go_simp
            try with_reducible rfl
          try simp only [List.getElem_toArray, List.getElem_cons_zero, List.getElem_cons_succ, Act.put, List.setIfInBounds_toArray, List.set_cons_zero, List.set_cons_succ]
          refine wpAnyH_ready (rs := [1, 17]) (by kernel_rfl) (by simp) ?_
          refine AllReadyH.cons rfl (fun K hK => ?_) ?_
          · skip
            go_simp
            refine hK.out _ _ (hHeld) (fun hHeld => ?_)
            clear hK K
            try simp only [List.getElem_toArray, List.getElem_cons_zero, List.getElem_cons_succ, Act.put, List.setIfInBounds_toArray, List.set_cons_zero, List.set_cons_succ]
            refine wpAnyH_ready (rs := [17]) (by kernel_rfl) (by simp) ?_
            refine AllReadyH.cons rfl (fun K hK => ?_) ?_
            · skip
              go_simp
              refine hK.out _ _ (HC.out _ (BL3.out.alloc (by omega) _)) (fun hHeld => ?_)
              clear hK K
              try simp only [List.getElem_toArray, List.getElem_cons_zero, List.getElem_cons_succ, Act.put, List.setIfInBounds_toArray, List.set_cons_zero, List.set_cons_succ]
              refine wpAnyH_ready (rs := [18]) (by kernel_rfl) (by simp) ?_
              refine AllReadyH.cons rfl (fun K hK => ?_) ?_
              · skip
                refine step_append_any _ rfl (.tmp 14) (.tmp 30) 27 rfl (w.heap.size + 3) 54 i0 _ 2 32 Try.underlying27 hi hz0 hz1 hz2 rfl (by decide) (.slice A xs.length c) xs.length (ixCells xs) rfl (own_below HP3.out.own.row (below_alloc _ _)) (some ⟨w3.heap.size, 0, none⟩) 1 1 [.slice K1 ks.length d1, .int .i64 tt] rfl (rd_new2 w3 _ _ _) (by intro u hu; simp at hu; rcases hu with rfl | rfl <;> rfl) (by unfold maxLen; omega) (by omega) (by have := HP3.out.sz; simp; omega) ?_
                intro v1 w4 hown4 hg4 _
                obtain ⟨A1, c1', rfl, _, _⟩ := own_slice hown4
                have HF := Lib.hid (HPD.out.push (p := ⟨ks, tt⟩) HB3.out HO3.out hown4 hg4)
                have bx4 := (hg4.block _ (by have := HP3.out.sz; simp; omega) (fun e => by have := (HP3.out.own.row.lt _ e.symm).1; omega)).trans (blk_below (below_alloc w3 _) HP3.out.box)
                have f0 : w4.frozen? ⟨w.heap.size + 2, 0, none⟩ = false := frozen_of_row w4 _ 0 _ _ bx4
                have e0 : w4.cell? ⟨w.heap.size + 2, 0, none⟩ = some (.slice A xs.length c) := blk_cell (o := 0) bx4 rfl
                have BL4 := Lib.hid ((BL3.out.alloc (by omega) (.cells #[.slice K1 ks.length d1, .int .i64 tt] 54)).grown hg4 (by simp; omega) (fun r hr => by have := (HP3.out.own.row.lt r hr).1; omega))
                clear bx4
                refine hK.out _ _ (HC.out _ BL4.out) (fun hHeld => ?_)
                clear hK K
                try simp only [List.getElem_toArray, List.getElem_cons_zero, List.getElem_cons_succ, Act.put, List.setIfInBounds_toArray, List.set_cons_zero, List.set_cons_succ]
                refine wpAnyH_take (i := 19) (v := ?_) rfl (by kernel_rfl) (by kernel_rfl) (by kernel_rfl) (fun _ _ _ h => h) (Or.inl ⟨by rfl, ?_⟩) hHeld ?_
                rotate_left
                · intro w hSw
                  (try dsimp only at hSw)
                  go_simp
                  try with_reducible rfl
                try simp only [List.getElem_toArray, List.getElem_cons_zero, List.getElem_cons_succ, Act.put, List.setIfInBounds_toArray, List.set_cons_zero, List.set_cons_succ]
                refine wpAnyH_ready (rs := [20]) (by kernel_rfl) (by simp) ?_
                refine AllReadyH.cons rfl (fun K hK => ?_) ?_
                · skip
                  go_simp
                  refine hK.out _ _ (HC.out _ (BL4.out.setCell (by simp) _)) (fun hHeld => ?_)
                  clear hK K
                  try simp only [List.getElem_toArray, List.getElem_cons_zero, List.getElem_cons_succ, Act.put, List.setIfInBounds_toArray, List.set_cons_zero, List.set_cons_succ]
                  refine wpAnyH_done (by kernel_rfl) ?_ _
                  clear a0 b0 b0' c0 c1
                  go_wp2
                  go_roundw
                  case rel =>
                    refine ⟨xs.length + 1, _, A1, c1', by omega, by go_num, Lib.hid ?_, HF.out⟩
                    rw [List.map_append, HM.out, List.take_succ_eq_append_getElem hlt, EX.out]
                    rfl
                  case measure => simp [intOf]; omega
                exact AllReadyH.nil
              exact AllReadyH.nil
            exact AllReadyH.nil
          refine AllReadyH.cons rfl (fun K hK => ?_) ?_
          · skip
            go_simp
            refine hK.out _ _ (HC.out _ (BL3.out.alloc (by omega) _)) (fun hHeld => ?_)
            clear hK K
            try simp only [List.getElem_toArray, List.getElem_cons_zero, List.getElem_cons_succ, Act.put, List.setIfInBounds_toArray, List.set_cons_zero, List.set_cons_succ]
            refine wpAnyH_ready (rs := [1]) (by kernel_rfl) (by simp) ?_
            refine AllReadyH.cons rfl (fun K hK => ?_) ?_
            · skip
              go_simp
              refine hK.out _ _ (hHeld) (fun hHeld => ?_)
              clear hK K
              try simp only [List.getElem_toArray, List.getElem_cons_zero, List.getElem_cons_succ, Act.put, List.setIfInBounds_toArray, List.set_cons_zero, List.set_cons_succ]
              refine wpAnyH_ready (rs := [18]) (by kernel_rfl) (by simp) ?_
              refine AllReadyH.cons rfl (fun K hK => ?_) ?_
              · skip
                refine step_append_any _ rfl (.tmp 14) (.tmp 30) 27 rfl (w.heap.size + 3) 54 i0 _ 2 32 Try.underlying27 hi hz0 hz1 hz2 rfl (by decide) (.slice A xs.length c) xs.length (ixCells xs) rfl (own_below HP3.out.own.row (below_alloc _ _)) (some ⟨w3.heap.size, 0, none⟩) 1 1 [.slice K1 ks.length d1, .int .i64 tt] rfl (rd_new2 w3 _ _ _) (by intro u hu; simp at hu; rcases hu with rfl | rfl <;> rfl) (by unfold maxLen; omega) (by omega) (by have := HP3.out.sz; simp; omega) ?_
                intro v1 w4 hown4 hg4 _
                obtain ⟨A1, c1', rfl, _, _⟩ := own_slice hown4
                have HF := Lib.hid (HPD.out.push (p := ⟨ks, tt⟩) HB3.out HO3.out hown4 hg4)
                have bx4 := (hg4.block _ (by have := HP3.out.sz; simp; omega) (fun e => by have := (HP3.out.own.row.lt _ e.symm).1; omega)).trans (blk_below (below_alloc w3 _) HP3.out.box)
                have f0 : w4.frozen? ⟨w.heap.size + 2, 0, none⟩ = false := frozen_of_row w4 _ 0 _ _ bx4
                have e0 : w4.cell? ⟨w.heap.size + 2, 0, none⟩ = some (.slice A xs.length c) := blk_cell (o := 0) bx4 rfl
                have BL4 := Lib.hid ((BL3.out.alloc (by omega) (.cells #[.slice K1 ks.length d1, .int .i64 tt] 54)).grown hg4 (by simp; omega) (fun r hr => by have := (HP3.out.own.row.lt r hr).1; omega))
                clear bx4
                refine hK.out _ _ (HC.out _ BL4.out) (fun hHeld => ?_)
                clear hK K
                try simp only [List.getElem_toArray, List.getElem_cons_zero, List.getElem_cons_succ, Act.put, List.setIfInBounds_toArray, List.set_cons_zero, List.set_cons_succ]
                refine wpAnyH_take (i := 19) (v := ?_) rfl (by kernel_rfl) (by kernel_rfl) (by kernel_rfl) (fun _ _ _ h => h) (Or.inl ⟨by rfl, ?_⟩) hHeld ?_
                rotate_left
                · intro w hSw
                  (try dsimp only at hSw)
                  go_simp
                  try with_reducible rfl
                try simp only [List.getElem_toArray, List.getElem_cons_zero, List.getElem_cons_succ, Act.put, List.setIfInBounds_toArray, List.set_cons_zero, List.set_cons_succ]
                refine wpAnyH_ready (rs := [20]) (by kernel_rfl) (by simp) ?_
                refine AllReadyH.cons rfl (fun K hK => ?_) ?_
                · skip
                  go_simp
                  refine hK.out _ _ (HC.out _ (BL4.out.setCell (by simp) _)) (fun hHeld => ?_)
                  clear hK K
                  try simp only [List.getElem_toArray, List.getElem_cons_zero, List.getElem_cons_succ, Act.put, List.setIfInBounds_toArray, List.set_cons_zero, List.set_cons_succ]
                  refine wpAnyH_done (by kernel_rfl) ?_ _
                  clear a0 b0 b0' c0 c1
                  go_wp2
                  go_roundw
                  case rel =>
                    refine ⟨xs.length + 1, _, A1, c1', by omega, by go_num, Lib.hid ?_, HF.out⟩
                    rw [List.map_append, HM.out, List.take_succ_eq_append_getElem hlt, EX.out]
                    rfl
                  case measure => simp [intOf]; omega
                exact AllReadyH.nil
              exact AllReadyH.nil
            exact AllReadyH.nil
          exact AllReadyH.nil
        exact AllReadyH.nil
      exact AllReadyH.nil
    · obtain rfl : k = ps.length := by omega
      have hM := HM.out
      rw [List.take_of_length_le (Nat.le_refl _)] at hM
      obtain hxl' : ps.length = xs.length := by omega
      have HMade := Lib.hid (hM ▸ hpb.made)
      have a0 := blk_cell (o := 0) hpb.arg rfl
      have b0 := blk_cell (o := 0) hpb.box rfl
      have o0 := blk_cell (o := 0) hpb.out rfl
      have f1 : wr.frozen? ⟨w.heap.size + 1, 0, none⟩ = false := frozen_of_row wr _ 0 _ _ hpb.out
      clear hpb hM hxl hxl'
      go_wp2
      refine bodyPost_ret (v := .agg #[.slice A xs.length c]) (by simp [results, Try.results60, go_sem, o0]) rfl HMade.out
end Go.Proofs.Ytdikkfhdogkniaa
