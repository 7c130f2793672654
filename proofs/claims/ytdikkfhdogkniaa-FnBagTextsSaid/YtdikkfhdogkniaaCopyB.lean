/- impl.copyBag. Conditions: the sizes of the lengths. Printed by xcopyb.py. -/
import Derived.Test.YtdikkfhdogkniaaRbRel
import Derived.Test.YtdikkfhdogkniaaRev
import Derived.Deep.RegionHeld3
import Derived.Deep.DeepCutAuto
import Derived.WalkSpells
import Derived.Lib.SliceRun
namespace Go.Proofs.Ytdikkfhdogkniaa
open Go.RowKit

/-- A bag in the making: the argument's box, the result's, the bag's own, and its items. -/
structure BB (w : World) (B : Option Addr) (n d : Nat) (A : Option Addr) (c : Nat) (xs : List ItX) (W : World) : Prop where
  own : OwnBx W (w.heap.size + 3) A c xs
  arg : W.heap[w.heap.size]? = some (.cells #[.slice B n d] 29 (0, 0))
  out : W.heap[w.heap.size + 1]? = some (.cells #[.slice none 0 0] 29 (0, 0))
  box : W.heap[w.heap.size + 2]? = some (.cells #[.slice A xs.length c] 29 (0, 0))
  bel : Below w.heap.size w W
theorem BB.sz {w W : World} {B A : Option Addr} {n d c : Nat} {xs : List ItX} (h : BB w B n d A c xs W) : w.heap.size + 3 ≤ W.heap.size := blk_lt h.box
theorem BB.keep {w W W' : World} {B A : Option Addr} {n d c : Nat} {xs : List ItX} (h : BB w B n d A c xs W) (hb : Below W.heap.size W W') : BB w B n d A c xs W' :=
  ⟨h.own.keep hb, blk_below hb h.arg, blk_below hb h.out, blk_below hb h.box, below_step h.bel hb⟩
theorem BB.push {w W W1 W3 : World} {B A A1 K : Option Addr} {n d c c1 kc : Nat} {xs : List ItX} {p : It} {o : Obj} (h : BB w B n d A c xs W) (hb : Below W.heap.size W W1)
    (hk : W1.ownsRow W.heap.size 3 1 (.slice K p.r.length kc) p.r.length (p.r.map (Value.int .i64)))
    (hown : W3.ownsRow (w.heap.size + 3) 54 2 (.slice A1 (xs.length + 1) c1) (xs.length + 1) (ixCells xs ++ [.slice K p.r.length kc, .int .i64 p.t]))
    (hg : (W1.alloc o).grownBy W3 (Value.slice A xs.length c).ownBlock) :
    BB w B n d A1 c1 (xs ++ [⟨p, K, kc⟩]) (W3.setCell ⟨w.heap.size + 2, 0, none⟩ (.slice A1 (xs.length + 1) c1)) := by
  have hs := h.sz
  have h1 := h.keep hb
  have h2 := h1.keep (below_alloc W1 o)
  have hbox : ∀ g, g < w.heap.size + 3 → some g ≠ (Value.slice A xs.length c).ownBlock := fun g hgl e => by have := (h2.own.row.lt g e.symm).1; omega
  have hblk : ∀ g o', g < w.heap.size + 3 → (W1.alloc o).heap[g]? = some o' → W3.heap[g]? = some o' := fun g o' hl ho => (hg.block g (blk_lt ho) (hbox g hl)).trans ho
  have hlen : (xs ++ [(⟨p, K, kc⟩ : ItX)]).length = xs.length + 1 := by simp
  refine ⟨?_, ?_, ?_, ?_, ?_⟩
  · exact (h1.own.push hs (fun x hx r hr => ((h.own.kids x hx).lt r hr).2) hk hown hg).setCell (by omega)
  · exact blk_set_ne (hblk _ _ (by omega) h2.arg) (by omega)
  · exact blk_set_ne (hblk _ _ (by omega) h2.out) (by omega)
  · rw [hlen]
    exact blk_set1 (hblk _ _ (by omega) h2.box)
  · exact (h2.bel.grown hg (by simp; have := hb.size; omega) (fun k hk => by have := (h2.own.row.lt k hk).1; omega)).setCell (by simp) _
theorem BB.made {w W : World} {B A : Option Addr} {n d c : Nat} {xs : List ItX} (h : BB w B n d A c xs W) : MadeBag w (xs.map ItX.p) (.returned (.agg #[.slice A xs.length c])) (W.setCell ⟨w.heap.size + 1, 0, none⟩ (.slice A xs.length c)) := by
  refine ⟨A, c, by simp, ⟨xs, rfl, ⟨own_mono (ownsRow_setCell_below h.own.row (by simp) _) (by omega), fun x hx => own_mono (ownsRow_setCell_below (h.own.kids x hx) (by simp) _) (by omega), h.own.apart⟩⟩, h.bel.setCell (by simp) _⟩
theorem BB.start {w : World} {B : Option Addr} {n d : Nat} : BB w B n d none 0 [] (((w.alloc (.cells #[.slice B n d] 29)).alloc (.cells #[.slice none 0 0] 29)).alloc (.cells #[.slice none 0 0] 29)) := by
  refine ⟨⟨World.ownsRow_nil _ _ _ _, by simp, List.Pairwise.nil⟩, ?_, ?_, ?_, ?_⟩
  · exact blk_below (below_alloc _ _) (blk_below (below_alloc _ _) (heap_alloc_new w _))
  · have := blk_below (below_alloc _ (.cells #[.slice none 0 0] 29)) (heap_alloc_new (w.alloc (.cells #[.slice B n d] 29)) (.cells #[.slice none 0 0] 29))
    simpa using this
  · have := heap_alloc_new ((w.alloc (.cells #[.slice B n d] 29)).alloc (.cells #[.slice none 0 0] 29)) (.cells #[.slice none 0 0] 29)
    simpa using this
  · exact below_step (below_step (below_alloc _ _) (below_alloc _ _)) (below_alloc _ _)

set_option maxRecDepth 100000 in
set_option maxHeartbeats 6400000 in
theorem copyBag_any (B : Option Addr) (d : Nat) (ps : List It) (w : World) (hx : RdB w B ps) (hn : ps.length ≤ 4294967296) (hk : ∀ p ∈ ps, p.r.length ≤ 4294967296) :
    Calls Try.prog 62 #[.agg #[.slice B ps.length d]] w (MadeBag w ps) := by
  obtain ⟨i0, hi, hz0, hz1, hz2⟩ := info_parts Try.infoItem
  obtain ⟨j0, hj, jz0, jz1, jz2⟩ := info_parts Try.infoInt
  have HX := Lib.hid hx
  have HK := Lib.hid hk
  clear hx hk
  go_enter Try.func62, Try.ntmps62
  go_wp2
  go_loopw [9] (fun i wr => ∃ (k : Nat) (xs : List ItX) (A : Option Addr) (c : Nat), k ≤ ps.length ∧ i = .int .i64 k ∧ Hid (xs.map ItX.p = ps.take k) ∧ BB w B ps.length d A c xs wr) (fun i _ => ps.length - (intOf i).toNat)
  case atStart => exact ⟨0, [], none, 0, Nat.zero_le _, rfl, Lib.hid rfl, BB.start⟩
  case round =>
    obtain ⟨k, xs, A, c, hk, rfl, HM, hpb⟩ := hrel
    have hxl : xs.length = min k ps.length := by have := congrArg List.length HM.out; simpa using this
    by_cases hlt : k < ps.length
    · obtain ⟨b, o, Kk, ck, rfl, c0w, c1w, hrkw⟩ := HX.out.at_ hlt
      have hbl : b < w.heap.size := World.block_lt_of_cell? w _ c0w
      have c0 := held_step hpb.bel c0w
      have c1 := held_step hpb.bel c1w
      have hrk := RdI.below hrkw hpb.bel
      clear c0w c1w hrkw
      have hkl := HK.out ps[k] (List.getElem_mem hlt)
      obtain ⟨x, hxx⟩ : ∃ x, ps[k] = x := ⟨_, rfl⟩
      rw [hxx] at c0 c1 hkl hrk
      have EX := Lib.hid hxx
      have k0 : (0 : Int) ≤ (k : Int) := by omega
      have k1 : (k : Int) < (ps.length : Int) := by omega
      obtain rfl : k = xs.length := by omega
      obtain ⟨ks, tt⟩ := x
      simp only at c0 c1 hkl hrk
      have HPB := Lib.hid hpb
      have HXA := Lib.hid (hrk.alloc (.cells #[.slice Kk ks.length ck, .int .i64 tt] 54))
      have HPA := Lib.hid (hpb.keep (below_alloc wr (.cells #[.slice Kk ks.length ck, .int .i64 tt] 54)))
      have y := heap_alloc_new wr (.cells #[.slice Kk ks.length ck, .int .i64 tt] 54)
      clear hxx hpb hrk hxl
      go_upto_region 5 with fail
      obtain ⟨W, hW⟩ : ∃ W, wr.alloc (.cells #[.slice Kk ks.length ck, .int .i64 tt] 54) = W := ⟨_, rfl⟩
      obtain ⟨gp, hgp⟩ : ∃ g, wr.heap.size = g := ⟨_, rfl⟩
      rw [hW] at HXA HPA y ⊢
      rw [hgp] at y ⊢
      have y0 := blk_cell (o := 0) y rfl
      have y1 := blk_cell (o := 1) y rfl
      have b0 := blk_cell (o := 0) HPA.out.box rfl
      have Y := Lib.hid y
      have HGP := Lib.hid hgp
      clear y hW hgp c0 c1
      have HXD : Hid (RdI W.drew Kk ks.length ks) := Lib.hid HXA.out
      have HPD : Hid (BB w (some ⟨b, o, none⟩) ps.length d A c xs W.drew) := Lib.hid (HPA.out.keep (Below.refl _ _).drew)
      have KY := Lib.hid (fun (w' : World) (h : w'.heap[gp]? = some (.cells #[.slice Kk ks.length ck, .int .i64 tt] 54 (0, 0))) => (⟨blk_cell (o := 0) h rfl, blk_cell (o := 1) h rfl⟩ : w'.cell? ⟨gp, 0, none⟩ = some (.slice Kk ks.length ck) ∧ w'.cell? ⟨gp, 1, none⟩ = some (.int .i64 tt)))
      refine wp_region_held_drew (S := fun w' => w'.cell? ⟨gp, 0, none⟩ = some (.slice Kk ks.length ck) ∧ w'.cell? ⟨gp, 1, none⟩ = some (.int .i64 tt)) (by kernel_rfl) (KY.out _ (show W.drew.heap[gp]? = _ from Y.out)) (fun hHeld => ?_)
      refine wpAnyH_take (i := 0) (v := ?_) rfl (by kernel_rfl) (by kernel_rfl) (by kernel_rfl) (fun _ _ _ h => h) (Or.inl ⟨by rfl, ?_⟩) hHeld ?_
      rotate_left
      · intro w hSw
        (try dsimp only at hSw)
        go_simp
        try with_reducible rfl
      try simp only [List.getElem_toArray, List.getElem_cons_zero, Act.put, List.setIfInBounds_toArray, List.set_cons_zero, List.set_cons_succ]
      refine wpAnyH_take (i := 2) (v := ?_) rfl (by kernel_rfl) (by kernel_rfl) (by kernel_rfl) (fun _ _ _ h => h) (Or.inl ⟨by rfl, ?_⟩) hHeld ?_
      rotate_left
      · intro w hSw
        (try dsimp only at hSw)
        go_simp
        try with_reducible rfl
      try simp only [List.getElem_toArray, List.getElem_cons_zero, List.getElem_cons_succ, Act.put, List.setIfInBounds_toArray, List.set_cons_zero, List.set_cons_succ]
      refine wpAnyH_take (i := 3) (v := ?_) rfl (by kernel_rfl) (by kernel_rfl) (by kernel_rfl) (fun _ _ _ h => h) (Or.inl ⟨by rfl, ?_⟩) hHeld ?_
      rotate_left
      · intro w hSw
        (try dsimp only at hSw)
        go_simp
        try with_reducible rfl
      try simp only [List.getElem_toArray, List.getElem_cons_zero, List.getElem_cons_succ, Act.put, List.setIfInBounds_toArray, List.set_cons_zero, List.set_cons_succ]
      refine wpAnyH_take (i := 5) (v := ?_) rfl (by kernel_rfl) (by kernel_rfl) (by kernel_rfl) (fun _ _ _ h => h) (Or.inl ⟨by rfl, ?_⟩) hHeld ?_
      rotate_left
      · intro w hSw
        (try dsimp only at hSw)
        go_simp
        try with_reducible rfl
      try simp only [List.getElem_toArray, List.getElem_cons_zero, List.getElem_cons_succ, Act.put, List.setIfInBounds_toArray, List.set_cons_zero, List.set_cons_succ]
      refine wpAnyH_take (i := 6) (v := ?_) rfl (by kernel_rfl) (by kernel_rfl) (by kernel_rfl) (fun _ _ _ h => h) (Or.inl ⟨by rfl, ?_⟩) hHeld ?_
      rotate_left
      · intro w hSw
        (try dsimp only at hSw)
        go_simp
        try with_reducible rfl
      try simp only [List.getElem_toArray, List.getElem_cons_zero, List.getElem_cons_succ, Act.put, List.setIfInBounds_toArray, List.set_cons_zero, List.set_cons_succ]
      refine wpAnyH_ready (rs := [1, 4]) (by kernel_rfl) (by simp) ?_
      refine AllReadyH.cons rfl (fun K hK => ?_) ?_
      · skip
        go_simp
        refine hK.out _ _ (hHeld) (fun hHeld => ?_)
        clear hK K
        try simp only [List.getElem_toArray, List.getElem_cons_zero, List.getElem_cons_succ, Act.put, List.setIfInBounds_toArray, List.set_cons_zero, List.set_cons_succ]
        refine wpAnyH_ready (rs := [4]) (by kernel_rfl) (by simp) ?_
        refine AllReadyH.cons rfl (fun K hK => ?_) ?_
        · skip
          go_simp
          go_at_call 81
          refine (slices_Clone_rd Kk ck ks W.drew HXD.out hkl).mono ?_
          rintro e w3 ⟨K1, d1, rfl, hown3, hb3⟩
          have HB3 := Lib.hid hb3
          have HO3 := Lib.hid hown3
          have hP3 := HPD.out.keep hb3
          have y3 := blk_below hb3 (show W.drew.heap[gp]? = _ from Y.out)
          have d0 := blk_cell (o := 0) hP3.box rfl
          have d0' : w3.cell? ⟨w.heap.size + 1 + 1, 0, none⟩ = some (.slice A xs.length c) := d0
          have l3 : w.heap.size + 1 + 1 < w3.heap.size := by have := hP3.sz; omega
          have l3' : gp < w3.heap.size := blk_lt y3
          have HP3 := Lib.hid hP3
          have Y3 := Lib.hid y3
          clear hown3 hb3 hP3 y3
          go_simp
          refine hK.out _ _ (KY.out _ Y3.out) (fun hHeld => ?_)
          clear hK K
          try simp only [List.getElem_toArray, List.getElem_cons_zero, List.getElem_cons_succ, Act.put, List.setIfInBounds_toArray, List.set_cons_zero, List.set_cons_succ]
          refine wpAnyH_take (i := 7) (v := ?_) rfl (by kernel_rfl) (by kernel_rfl) (by kernel_rfl) (fun _ _ _ h => h) (Or.inl ⟨by rfl, ?_⟩) hHeld ?_
          rotate_left
          · intro w hSw
            (try dsimp only at hSw)
            go_simp
            try with_reducible rfl
          try simp only [List.getElem_toArray, List.getElem_cons_zero, List.getElem_cons_succ, Act.put, List.setIfInBounds_toArray, List.set_cons_zero, List.set_cons_succ]
          refine wpAnyH_ready (rs := [8]) (by kernel_rfl) (by simp) ?_
          refine AllReadyH.cons rfl (fun K hK => ?_) ?_
          · skip
            go_simp
            refine hK.out _ _ (KY.out _ (blk_below (below_alloc _ _) Y3.out)) (fun hHeld => ?_)
            clear hK K
            try simp only [List.getElem_toArray, List.getElem_cons_zero, List.getElem_cons_succ, Act.put, List.setIfInBounds_toArray, List.set_cons_zero, List.set_cons_succ]
            refine wpAnyH_ready (rs := [9]) (by kernel_rfl) (by simp) ?_
            refine AllReadyH.cons rfl (fun K hK => ?_) ?_
            · skip
              refine step_append_any _ rfl (.tmp 14) (.tmp 21) 27 rfl (w.heap.size + 3) 54 i0 _ 2 32 Try.underlying27 hi hz0 hz1 hz2 rfl (by decide) (.slice A xs.length c) xs.length (ixCells xs) rfl (own_below HP3.out.own.row (below_alloc _ _)) (some ⟨w3.heap.size, 0, none⟩) 1 1 [.slice K1 ks.length d1, .int .i64 tt] rfl (rd_new2 w3 _ _ _) (by intro u hu; simp at hu; rcases hu with rfl | rfl <;> rfl) (by unfold maxLen; omega) (by omega) (by have := HP3.out.sz; simp; omega) ?_
              intro v1 w4 hown4 hg4 _
              obtain ⟨A1, c1', rfl, _, _⟩ := own_slice hown4
              have HF := Lib.hid (HPD.out.push (p := ⟨ks, tt⟩) HB3.out HO3.out hown4 hg4)
              have bx4 := (hg4.block _ (by have := HP3.out.sz; simp; omega) (fun e => by have := (HP3.out.own.row.lt _ e.symm).1; omega)).trans (blk_below (below_alloc w3 _) HP3.out.box)
              have f0 : w4.frozen? ⟨w.heap.size + 2, 0, none⟩ = false := frozen_of_row w4 _ 0 _ _ bx4
              have e0 : w4.cell? ⟨w.heap.size + 2, 0, none⟩ = some (.slice A xs.length c) := blk_cell (o := 0) bx4 rfl
              have Y4 := Lib.hid ((hg4.block _ (by simp; omega) (fun e => by have h1 := (HPB.out.own.row.lt _ e.symm).2; have h2 := HGP.out; omega)).trans (blk_below (below_alloc w3 _) Y3.out))
              clear bx4
              refine hK.out _ _ (KY.out _ Y4.out) (fun hHeld => ?_)
              clear hK K
              try simp only [List.getElem_toArray, List.getElem_cons_zero, List.getElem_cons_succ, Act.put, List.setIfInBounds_toArray, List.set_cons_zero, List.set_cons_succ]
              refine wpAnyH_take (i := 10) (v := ?_) rfl (by kernel_rfl) (by kernel_rfl) (by kernel_rfl) (fun _ _ _ h => h) (Or.inl ⟨by rfl, ?_⟩) hHeld ?_
              rotate_left
              · intro w hSw
                (try dsimp only at hSw)
                go_simp
                try with_reducible rfl
              try simp only [List.getElem_toArray, List.getElem_cons_zero, List.getElem_cons_succ, Act.put, List.setIfInBounds_toArray, List.set_cons_zero, List.set_cons_succ]
              refine wpAnyH_ready (rs := [11]) (by kernel_rfl) (by simp) ?_
              refine AllReadyH.cons rfl (fun K hK => ?_) ?_
              · skip
                go_simp
                refine hK.out _ _ (KY.out _ (blk_set_ne Y4.out (by have h1 := HPB.out.sz; have h2 := HGP.out; omega))) (fun hHeld => ?_)
                clear hK K
                try simp only [List.getElem_toArray, List.getElem_cons_zero, List.getElem_cons_succ, Act.put, List.setIfInBounds_toArray, List.set_cons_zero, List.set_cons_succ]
                refine wpAnyH_done (by kernel_rfl) ?_ _
                clear y0 y1 b0
                go_wp2
                go_roundw
                case rel =>
                  refine ⟨xs.length + 1, _, A1, c1', by omega, by go_num, Lib.hid ?_, HF.out⟩
                  rw [List.map_append, HM.out, List.take_succ_eq_append_getElem hlt, EX.out]
                  rfl
                case measure => simp [intOf]; omega
              exact AllReadyH.nil
            exact AllReadyH.nil
          exact AllReadyH.nil
        exact AllReadyH.nil
      refine AllReadyH.cons rfl (fun K hK => ?_) ?_
      · skip
        go_simp
        go_at_call 81
        refine (slices_Clone_rd Kk ck ks W.drew HXD.out hkl).mono ?_
        rintro e w3 ⟨K1, d1, rfl, hown3, hb3⟩
        have HB3 := Lib.hid hb3
        have HO3 := Lib.hid hown3
        have hP3 := HPD.out.keep hb3
        have y3 := blk_below hb3 (show W.drew.heap[gp]? = _ from Y.out)
        have d0 := blk_cell (o := 0) hP3.box rfl
        have d0' : w3.cell? ⟨w.heap.size + 1 + 1, 0, none⟩ = some (.slice A xs.length c) := d0
        have l3 : w.heap.size + 1 + 1 < w3.heap.size := by have := hP3.sz; omega
        have l3' : gp < w3.heap.size := blk_lt y3
        have HP3 := Lib.hid hP3
        have Y3 := Lib.hid y3
        clear hown3 hb3 hP3 y3
        go_simp
        refine hK.out _ _ (KY.out _ Y3.out) (fun hHeld => ?_)
        clear hK K
        try simp only [List.getElem_toArray, List.getElem_cons_zero, List.getElem_cons_succ, Act.put, List.setIfInBounds_toArray, List.set_cons_zero, List.set_cons_succ]
        refine wpAnyH_take (i := 7) (v := ?_) rfl (by kernel_rfl) (by kernel_rfl) (by kernel_rfl) (fun _ _ _ h => h) (Or.inl ⟨by rfl, ?_⟩) hHeld ?_
        rotate_left
        · intro w hSw
          (try dsimp only at hSw)
          go_simp
          try with_reducible rfl
        try simp only [List.getElem_toArray, List.getElem_cons_zero, List.getElem_cons_succ, Act.put, List.setIfInBounds_toArray, List.set_cons_zero, List.set_cons_succ]
        refine wpAnyH_ready (rs := [1, 8]) (by kernel_rfl) (by simp) ?_
        refine AllReadyH.cons rfl (fun K hK => ?_) ?_
        · skip
          go_simp
          refine hK.out _ _ (hHeld) (fun hHeld => ?_)
          clear hK K
          try simp only [List.getElem_toArray, List.getElem_cons_zero, List.getElem_cons_succ, Act.put, List.setIfInBounds_toArray, List.set_cons_zero, List.set_cons_succ]
          refine wpAnyH_ready (rs := [8]) (by kernel_rfl) (by simp) ?_
          refine AllReadyH.cons rfl (fun K hK => ?_) ?_
          · skip
            go_simp
            refine hK.out _ _ (KY.out _ (blk_below (below_alloc _ _) Y3.out)) (fun hHeld => ?_)
            clear hK K
            try simp only [List.getElem_toArray, List.getElem_cons_zero, List.getElem_cons_succ, Act.put, List.setIfInBounds_toArray, List.set_cons_zero, List.set_cons_succ]
            refine wpAnyH_ready (rs := [9]) (by kernel_rfl) (by simp) ?_
            refine AllReadyH.cons rfl (fun K hK => ?_) ?_
            · skip
              refine step_append_any _ rfl (.tmp 14) (.tmp 21) 27 rfl (w.heap.size + 3) 54 i0 _ 2 32 Try.underlying27 hi hz0 hz1 hz2 rfl (by decide) (.slice A xs.length c) xs.length (ixCells xs) rfl (own_below HP3.out.own.row (below_alloc _ _)) (some ⟨w3.heap.size, 0, none⟩) 1 1 [.slice K1 ks.length d1, .int .i64 tt] rfl (rd_new2 w3 _ _ _) (by intro u hu; simp at hu; rcases hu with rfl | rfl <;> rfl) (by unfold maxLen; omega) (by omega) (by have := HP3.out.sz; simp; omega) ?_
              intro v1 w4 hown4 hg4 _
              obtain ⟨A1, c1', rfl, _, _⟩ := own_slice hown4
              have HF := Lib.hid (HPD.out.push (p := ⟨ks, tt⟩) HB3.out HO3.out hown4 hg4)
              have bx4 := (hg4.block _ (by have := HP3.out.sz; simp; omega) (fun e => by have := (HP3.out.own.row.lt _ e.symm).1; omega)).trans (blk_below (below_alloc w3 _) HP3.out.box)
              have f0 : w4.frozen? ⟨w.heap.size + 2, 0, none⟩ = false := frozen_of_row w4 _ 0 _ _ bx4
              have e0 : w4.cell? ⟨w.heap.size + 2, 0, none⟩ = some (.slice A xs.length c) := blk_cell (o := 0) bx4 rfl
              have Y4 := Lib.hid ((hg4.block _ (by simp; omega) (fun e => by have h1 := (HPB.out.own.row.lt _ e.symm).2; have h2 := HGP.out; omega)).trans (blk_below (below_alloc w3 _) Y3.out))
              clear bx4
              refine hK.out _ _ (KY.out _ Y4.out) (fun hHeld => ?_)
              clear hK K
              try simp only [List.getElem_toArray, List.getElem_cons_zero, List.getElem_cons_succ, Act.put, List.setIfInBounds_toArray, List.set_cons_zero, List.set_cons_succ]
              refine wpAnyH_take (i := 10) (v := ?_) rfl (by kernel_rfl) (by kernel_rfl) (by kernel_rfl) (fun _ _ _ h => h) (Or.inl ⟨by rfl, ?_⟩) hHeld ?_
              rotate_left
              · intro w hSw
                (try dsimp only at hSw)
                go_simp
                try with_reducible rfl
              try simp only [List.getElem_toArray, List.getElem_cons_zero, List.getElem_cons_succ, Act.put, List.setIfInBounds_toArray, List.set_cons_zero, List.set_cons_succ]
              refine wpAnyH_ready (rs := [11]) (by kernel_rfl) (by simp) ?_
              refine AllReadyH.cons rfl (fun K hK => ?_) ?_
              · skip
                go_simp
                refine hK.out _ _ (KY.out _ (blk_set_ne Y4.out (by have h1 := HPB.out.sz; have h2 := HGP.out; omega))) (fun hHeld => ?_)
                clear hK K
                try simp only [List.getElem_toArray, List.getElem_cons_zero, List.getElem_cons_succ, Act.put, List.setIfInBounds_toArray, List.set_cons_zero, List.set_cons_succ]
                refine wpAnyH_done (by kernel_rfl) ?_ _
                clear y0 y1 b0
                go_wp2
                go_roundw
                case rel =>
                  refine ⟨xs.length + 1, _, A1, c1', by omega, by go_num, Lib.hid ?_, HF.out⟩
                  rw [List.map_append, HM.out, List.take_succ_eq_append_getElem hlt, EX.out]
                  rfl
                case measure => simp [intOf]; omega
              exact AllReadyH.nil
            exact AllReadyH.nil
          exact AllReadyH.nil
        refine AllReadyH.cons rfl (fun K hK => ?_) ?_
        · skip
          go_simp
          refine hK.out _ _ (KY.out _ (blk_below (below_alloc _ _) Y3.out)) (fun hHeld => ?_)
          clear hK K
          try simp only [List.getElem_toArray, List.getElem_cons_zero, List.getElem_cons_succ, Act.put, List.setIfInBounds_toArray, List.set_cons_zero, List.set_cons_succ]
          refine wpAnyH_ready (rs := [1]) (by kernel_rfl) (by simp) ?_
          refine AllReadyH.cons rfl (fun K hK => ?_) ?_
          · skip
            go_simp
            refine hK.out _ _ (hHeld) (fun hHeld => ?_)
            clear hK K
            try simp only [List.getElem_toArray, List.getElem_cons_zero, List.getElem_cons_succ, Act.put, List.setIfInBounds_toArray, List.set_cons_zero, List.set_cons_succ]
            refine wpAnyH_ready (rs := [9]) (by kernel_rfl) (by simp) ?_
            refine AllReadyH.cons rfl (fun K hK => ?_) ?_
            · skip
              refine step_append_any _ rfl (.tmp 14) (.tmp 21) 27 rfl (w.heap.size + 3) 54 i0 _ 2 32 Try.underlying27 hi hz0 hz1 hz2 rfl (by decide) (.slice A xs.length c) xs.length (ixCells xs) rfl (own_below HP3.out.own.row (below_alloc _ _)) (some ⟨w3.heap.size, 0, none⟩) 1 1 [.slice K1 ks.length d1, .int .i64 tt] rfl (rd_new2 w3 _ _ _) (by intro u hu; simp at hu; rcases hu with rfl | rfl <;> rfl) (by unfold maxLen; omega) (by omega) (by have := HP3.out.sz; simp; omega) ?_
              intro v1 w4 hown4 hg4 _
              obtain ⟨A1, c1', rfl, _, _⟩ := own_slice hown4
              have HF := Lib.hid (HPD.out.push (p := ⟨ks, tt⟩) HB3.out HO3.out hown4 hg4)
              have bx4 := (hg4.block _ (by have := HP3.out.sz; simp; omega) (fun e => by have := (HP3.out.own.row.lt _ e.symm).1; omega)).trans (blk_below (below_alloc w3 _) HP3.out.box)
              have f0 : w4.frozen? ⟨w.heap.size + 2, 0, none⟩ = false := frozen_of_row w4 _ 0 _ _ bx4
              have e0 : w4.cell? ⟨w.heap.size + 2, 0, none⟩ = some (.slice A xs.length c) := blk_cell (o := 0) bx4 rfl
              have Y4 := Lib.hid ((hg4.block _ (by simp; omega) (fun e => by have h1 := (HPB.out.own.row.lt _ e.symm).2; have h2 := HGP.out; omega)).trans (blk_below (below_alloc w3 _) Y3.out))
              clear bx4
              refine hK.out _ _ (KY.out _ Y4.out) (fun hHeld => ?_)
              clear hK K
              try simp only [List.getElem_toArray, List.getElem_cons_zero, List.getElem_cons_succ, Act.put, List.setIfInBounds_toArray, List.set_cons_zero, List.set_cons_succ]
              refine wpAnyH_take (i := 10) (v := ?_) rfl (by kernel_rfl) (by kernel_rfl) (by kernel_rfl) (fun _ _ _ h => h) (Or.inl ⟨by rfl, ?_⟩) hHeld ?_
              rotate_left
              · intro w hSw
                (try dsimp only at hSw)
                go_simp
                try with_reducible rfl
              try simp only [List.getElem_toArray, List.getElem_cons_zero, List.getElem_cons_succ, Act.put, List.setIfInBounds_toArray, List.set_cons_zero, List.set_cons_succ]
              refine wpAnyH_ready (rs := [11]) (by kernel_rfl) (by simp) ?_
              refine AllReadyH.cons rfl (fun K hK => ?_) ?_
              · skip
                go_simp
                refine hK.out _ _ (KY.out _ (blk_set_ne Y4.out (by have h1 := HPB.out.sz; have h2 := HGP.out; omega))) (fun hHeld => ?_)
                clear hK K
                try simp only [List.getElem_toArray, List.getElem_cons_zero, List.getElem_cons_succ, Act.put, List.setIfInBounds_toArray, List.set_cons_zero, List.set_cons_succ]
                refine wpAnyH_done (by kernel_rfl) ?_ _
                clear y0 y1 b0
                go_wp2
                go_roundw
                case rel =>
                  refine ⟨xs.length + 1, _, A1, c1', by omega, by go_num, Lib.hid ?_, HF.out⟩
                  rw [List.map_append, HM.out, List.take_succ_eq_append_getElem hlt, EX.out]
                  rfl
                case measure => simp [intOf]; omega
              exact AllReadyH.nil
            exact AllReadyH.nil
          exact AllReadyH.nil
        exact AllReadyH.nil
      exact AllReadyH.nil
    · obtain rfl : k = ps.length := by omega
      have hM := HM.out
      rw [List.take_of_length_le (Nat.le_refl _)] at hM
      obtain hxl' : ps.length = xs.length := by omega
      have HMade := Lib.hid (hM ▸ hpb.made)
      have a0 := blk_cell (o := 0) hpb.arg rfl
      have b0 := blk_cell (o := 0) hpb.box rfl
      have o0 := blk_cell (o := 0) hpb.out rfl
      have f1 : wr.frozen? ⟨w.heap.size + 1, 0, none⟩ = false := frozen_of_row wr _ 0 _ _ hpb.out
      clear hpb hM hxl hxl'
      go_wp2
      refine bodyPost_ret (v := .agg #[.slice A xs.length c]) (by simp [results, Try.results62, go_sem, o0]) rfl HMade.out
end Go.Proofs.Ytdikkfhdogkniaa
