/- spec.BagJoin: what it makes. Conditions: the sizes of the lengths. Printed by xbagjoin.py. -/
import Derived.Test.YtdikkfhdogkniaaSBagAdd
import Derived.Test.YtdikkfhdogkniaaBagJoin
namespace Go.Proofs.Ytdikkfhdogkniaa
open Go.RowKit
set_option maxRecDepth 100000 in

set_option maxHeartbeats 6400000 in
theorem spec_BagJoin_any (A0 B0 : Option Addr) (a0 b0 : Nat) (ps qs : List It) (w : World) (hx : RdB w A0 ps) (hy : RdB w B0 qs) (hn : ps.length ≤ 4294967296) (hm : qs.length ≤ 4294967296) (hk : ∀ p ∈ ps, p.r.length ≤ 4294967296) (hl : ∀ p ∈ qs, p.r.length ≤ 4294967296) :
    Calls Try.prog 30 #[.agg #[.slice A0 ps.length a0], .agg #[.slice B0 qs.length b0]] w (MadeR2 w (joinR ps qs) (PP (JoinOk ps qs))) := by
  have HX := Lib.hid hx
  have HY := Lib.hid hy
  have HK := Lib.hid hk
  have HL := Lib.hid hl
  clear hx hy hk hl
  have BA := Lib.hid (fun w (h : RdB w A0 ps) => spec_BagOk_any A0 a0 ps w h hn HK.out)
  have BB := Lib.hid (fun w (h : RdB w B0 qs) => spec_BagOk_any B0 b0 qs w h hm HL.out)
  obtain ⟨ok1, hok1⟩ : ∃ b, PP (BgOk ps) = b := ⟨_, rfl⟩
  obtain ⟨ok2, hok2⟩ : ∃ b, PP (BgOk qs) = b := ⟨_, rfl⟩
  rw [hok1] at BA
  rw [hok2] at BB
  have H1 := Lib.hid hok1
  have H2 := Lib.hid hok2
  clear hok1 hok2
  have P0 := heap_alloc_new w (.cells #[.slice A0 ps.length a0] 29)
  have P1 := heap_alloc_new (w.alloc (.cells #[.slice A0 ps.length a0] 29)) (.cells #[.slice B0 qs.length b0] 29)
  have R0 := heap_alloc_new ((w.alloc (.cells #[.slice A0 ps.length a0] 29)).alloc (.cells #[.slice B0 qs.length b0] 29)) (.cells #[.slice none 0 0] 29)
  rw [show (w.alloc (.cells #[.slice A0 ps.length a0] 29)).heap.size = w.heap.size + 1 by simp] at P1
  rw [show ((w.alloc (.cells #[.slice A0 ps.length a0] 29)).alloc (.cells #[.slice B0 qs.length b0] 29)).heap.size = w.heap.size + 2 by simp] at R0
  have ka := below_alloc w (.cells #[.slice A0 ps.length a0] 29)
  have kb := below_alloc (w.alloc (.cells #[.slice A0 ps.length a0] 29)) (.cells #[.slice B0 qs.length b0] 29)
  have kc := below_alloc ((w.alloc (.cells #[.slice A0 ps.length a0] 29)).alloc (.cells #[.slice B0 qs.length b0] 29)) (.cells #[.slice none 0 0] 29)
  replace P0 := blk_below kc (blk_below kb P0)
  replace P1 := blk_below kc P1
  have hB := below_step (below_step ka kb) kc
  have hs1 : (((w.alloc (.cells #[.slice A0 ps.length a0] 29)).alloc (.cells #[.slice B0 qs.length b0] 29)).alloc (.cells #[.slice none 0 0] 29)).heap.size = w.heap.size + 3 := by simp
  obtain ⟨W1, hW1⟩ : ∃ W, ((w.alloc (.cells #[.slice A0 ps.length a0] 29)).alloc (.cells #[.slice B0 qs.length b0] 29)).alloc (.cells #[.slice none 0 0] 29) = W := ⟨_, rfl⟩
  rw [hW1] at P0 P1 R0 hB hs1
  clear ka kb kc
  go_enter Try.func30, Try.ntmps30
  have c0 := blk_cell (o := 0) P0 rfl
  go_wp2_with fail
  clear hW1
  refine (BA.out _ (HX.out.keep hB)).mono ?_
  rintro e w2 ⟨rfl, k2⟩
  clear c0 BA
  replace P0 := blk_below k2 P0
  replace P1 := blk_below k2 P1
  replace R0 := blk_below k2 R0
  replace hB := below_step hB k2
  have hs2 := k2.size
  clear k2
  cases ok1
  · have HN : Hid (¬ JoinOk ps qs) := Lib.hid (fun h => PP_not H1.out h.1)
    have q9 := blk_cell (o := 0) R0 rfl
    have f9 : w2.frozen? ⟨w.heap.size + 2, 0, none⟩ = false := frozen_of_row w2 _ 0 _ _ R0
    go_wp2
    refine bodyPost_ret (v := .tuple #[.agg #[.slice none 0 0], .bool false]) (by simp [results, Try.results30, go_sem, q9]) rfl (MadeR2.of (joinR_no HN.out) (PP_no HN.out) ⟨none, 0, rfl, RdB.nil _ _, hB.setCell (by show w.heap.size ≤ w.heap.size + 2; omega) _⟩)
  · have c1 := blk_cell (o := 0) P1 rfl
    go_wp2_with fail
    refine (BB.out _ (HY.out.keep hB)).mono ?_
    rintro e w3 ⟨rfl, k3⟩
    clear c1 BB
    replace P0 := blk_below k3 P0
    replace P1 := blk_below k3 P1
    replace R0 := blk_below k3 R0
    replace hB := below_step hB k3
    have hs3 := k3.size
    clear k3
    cases ok2
    · have HN : Hid (¬ JoinOk ps qs) := Lib.hid (fun h => PP_not H2.out h.2.1)
      have q9 := blk_cell (o := 0) R0 rfl
      have f9 : w3.frozen? ⟨w.heap.size + 2, 0, none⟩ = false := frozen_of_row w3 _ 0 _ _ R0
      go_wp2
      refine bodyPost_ret (v := .tuple #[.agg #[.slice none 0 0], .bool false]) (by simp [results, Try.results30, go_sem, q9]) rfl (MadeR2.of (joinR_no HN.out) (PP_no HN.out) ⟨none, 0, rfl, RdB.nil _ _, hB.setCell (by show w.heap.size ≤ w.heap.size + 2; omega) _⟩)
    · have c0 := blk_cell (o := 0) P0 rfl
      have hok := PP_of H1.out
      have hok2 := PP_of H2.out
      have hpl := hok.1
      have hql := hok2.1
      have T1 := Lib.hid hok.tiny
      have T2 := Lib.hid hok2.tiny
      clear hok hok2
      go_wp2_with fail
      refine (l03Copy_any A0 a0 ps w3 (HX.out.keep hB) hn HK.out).mono ?_
      rintro e w4 ⟨A1, c1, rfl, oo, k4⟩
      have o1 := oo.rd
      clear c0 oo
      replace P1 := blk_below k4 P1
      replace R0 := blk_below k4 R0
      replace hB := below_step hB k4
      have hs4 := k4.size
      have ka := below_alloc w4 (.cells #[.slice A1 ps.length c1] 29)
      have Q0 := heap_alloc_new w4 (.cells #[.slice A1 ps.length c1] 29)
      replace P1 := blk_below ka P1
      replace R0 := blk_below ka R0
      replace hB := below_step hB ka
      replace o1 := o1.keep ka
      have hs5 : (w4.alloc (.cells #[.slice A1 ps.length c1] 29)).heap.size = w4.heap.size + 1 := by simp
      obtain ⟨gq, hgq⟩ : ∃ g, w4.heap.size = g := ⟨_, rfl⟩
      obtain ⟨W5, hW5⟩ : ∃ W, w4.alloc (.cells #[.slice A1 ps.length c1] 29) = W := ⟨_, rfl⟩
      rw [hW5] at P1 R0 hB Q0 o1 hs5
      rw [hgq] at Q0 hs4 hs5
      clear k4 ka P0
      go_wp2
      clear hW5 hgq
      go_loopw [7] (fun i wr => ∃ (k : Nat) (A : Option Addr) (c : Nat) (acc : List It), k ≤ qs.length ∧ i = .int .i64 k ∧ Hid (joinL ps (qs.take k) = acc) ∧ wr.heap[gq]? = some (.cells #[.slice A acc.length c] 29 (0, 0)) ∧ RdB wr A acc ∧ wr.heap[w.heap.size + 1]? = some (.cells #[.slice B0 qs.length b0] 29 (0, 0)) ∧ wr.heap[w.heap.size + 2]? = some (.cells #[.slice none 0 0] 29 (0, 0)) ∧ Below w.heap.size w wr ∧ gq < wr.heap.size) (fun i _ => qs.length - (intOf i).toNat)
      case atStart => exact ⟨0, A1, c1, ps, Nat.zero_le _, rfl, Lib.hid rfl, Q0, o1, P1, R0, hB, by omega⟩
      clear Q0 o1 R0 hB P1
      case round =>
        obtain ⟨k, A, c, acc, hk, rfl, HACC, Q0, o1, P1, R0, hB, hgr⟩ := hrel
        have hal : acc.length ≤ ps.length + k := by have := joinL_len (qs.take k) ps; rw [HACC.out, List.length_take] at this; omega
        have p1 := blk_cell (o := 0) P1 rfl
        by_cases hlt : k < qs.length
        · obtain ⟨ba, o, Kk, ck, hBA, c0w, c1w, hrkw⟩ := HY.out.at_ hlt
          subst hBA
          have hba : ba < w.heap.size := World.block_lt_of_cell? w _ c0w
          have c0 := held_step hB c0w
          have c1 := held_step hB c1w
          have hrk := RdI.below hrkw hB
          have hxi := T2.out qs[k] (List.getElem_mem hlt)
          have hkl := hxi.1
          have hht := hxi.2
          clear hxi
          have TA : Hid (TinyB acc) := Lib.hid (by have := TinyB.join _ _ T1.out (T2.out.take k); rw [HACC.out] at this; exact this)
          obtain ⟨x, hxx⟩ : ∃ x, qs[k] = x := ⟨_, rfl⟩
          rw [hxx] at c0 c1 hkl hrk hht
          have EX := Lib.hid hxx
          have k0 : (0 : Int) ≤ (k : Int) := by omega
          have k1 : (k : Int) < (qs.length : Int) := by omega
          obtain ⟨xr, xt⟩ := x
          simp only at c0 c1 hkl hrk hht
          obtain ⟨lp, hlp⟩ : ∃ l, lput acc xr xt = l := ⟨_, rfl⟩
          have PU := Lib.hid (l03Put_any A Kk c ck acc xr xt wr.drew (show RdB wr.drew A acc from o1) (show RdI wr.drew Kk xr.length xr from hrk) (by omega) (fun p hp => by have := TA.out p hp; omega) (by omega) (by omega) (fun p hp => by have := TA.out p hp; omega))
          rw [hlp] at PU
          have HLP := Lib.hid hlp
          have HC := Lib.hid (fun (w' : World) (h : Below gq wr w') => (⟨(h.cell (by show w.heap.size + 1 < gq; omega)).trans p1, (h.cell (by show ba < gq; omega)).trans c0, (h.cell (by show ba < gq; omega)).trans c1⟩ : w'.cell? ⟨w.heap.size + 1, 0, none⟩ = some (.slice (some ⟨ba, o, none⟩) qs.length b0) ∧ w'.cell? ⟨ba, o + k * 2, none⟩ = some (.slice Kk xr.length ck) ∧ w'.cell? ⟨ba, o + k * 2 + 1, none⟩ = some (.int .i64 xt)))
          have BD : Hid (Below wr.heap.size wr wr.drew) := Lib.hid (Below.refl _ _).drew
          have hgr' : gq ≤ wr.heap.size := by omega
          have q0 := blk_cell (o := 0) Q0 rfl
          have q0' : wr.drew.cell? ⟨gq, 0, none⟩ = some (.slice A acc.length c) := q0
          have Q0H := Lib.hid Q0
          have P1H := Lib.hid P1
          have R0H := Lib.hid R0
          have HBH := Lib.hid hB
          clear c0w c1w hrkw hxx hlp hrk hht o1 Q0 P1 R0 hB
          go_upto_region 7 with fail
          refine wp_region_held_drew (S := fun w' => w'.cell? ⟨w.heap.size + 1, 0, none⟩ = some (.slice (some ⟨ba, o, none⟩) qs.length b0) ∧ w'.cell? ⟨ba, o + k * 2, none⟩ = some (.slice Kk xr.length ck) ∧ w'.cell? ⟨ba, o + k * 2 + 1, none⟩ = some (.int .i64 xt)) (by kernel_rfl) (HC.out _ (BD.out.mono hgr')) (fun hHeld => ?_)
          refine wpAnyH_take (i := 1) (v := ?_) rfl (by kernel_rfl) (by kernel_rfl) (by kernel_rfl) (fun _ _ _ h => h) (Or.inl ⟨by rfl, ?_⟩) hHeld ?_
          rotate_left
          · intro w hSw
            (try dsimp only at hSw)
            go_simp
            try with_reducible rfl
          try simp only [List.getElem_toArray, List.getElem_cons_zero, List.getElem_cons_succ, Act.put, List.setIfInBounds_toArray, List.set_cons_zero, List.set_cons_succ]
          refine wpAnyH_take (i := 2) (v := ?_) rfl (by kernel_rfl) (by kernel_rfl) (by kernel_rfl) (fun _ _ _ h => h) (Or.inl ⟨by rfl, ?_⟩) hHeld ?_
          rotate_left
          · intro w hSw
            (try dsimp only at hSw)
            go_simp
            try with_reducible rfl
          try simp only [List.getElem_toArray, List.getElem_cons_zero, List.getElem_cons_succ, Act.put, List.setIfInBounds_toArray, List.set_cons_zero, List.set_cons_succ]
          refine wpAnyH_take (i := 3) (v := ?_) rfl (by kernel_rfl) (by kernel_rfl) (by kernel_rfl) (fun _ _ _ h => h) (Or.inl ⟨by rfl, ?_⟩) hHeld ?_
          rotate_left
          · intro w hSw
            (try dsimp only at hSw)
            go_simp
            try with_reducible rfl
          try simp only [List.getElem_toArray, List.getElem_cons_zero, List.getElem_cons_succ, Act.put, List.setIfInBounds_toArray, List.set_cons_zero, List.set_cons_succ]
          refine wpAnyH_take (i := 4) (v := ?_) rfl (by kernel_rfl) (by kernel_rfl) (by kernel_rfl) (fun _ _ _ h => h) (Or.inl ⟨by rfl, ?_⟩) hHeld ?_
          rotate_left
          · intro w hSw
            (try dsimp only at hSw)
            go_simp
            try with_reducible rfl
          try simp only [List.getElem_toArray, List.getElem_cons_zero, List.getElem_cons_succ, Act.put, List.setIfInBounds_toArray, List.set_cons_zero, List.set_cons_succ]
          refine wpAnyH_take (i := 5) (v := ?_) rfl (by kernel_rfl) (by kernel_rfl) (by kernel_rfl) (fun _ _ _ h => h) (Or.inl ⟨by rfl, ?_⟩) hHeld ?_
          rotate_left
          · intro w hSw
            (try dsimp only at hSw)
            go_simp
            try with_reducible rfl
          try simp only [List.getElem_toArray, List.getElem_cons_zero, List.getElem_cons_succ, Act.put, List.setIfInBounds_toArray, List.set_cons_zero, List.set_cons_succ]
          refine wpAnyH_take (i := 6) (v := ?_) rfl (by kernel_rfl) (by kernel_rfl) (by kernel_rfl) (fun _ _ _ h => h) (Or.inl ⟨by rfl, ?_⟩) hHeld ?_
          rotate_left
          · intro w hSw
            (try dsimp only at hSw)
            go_simp
            try with_reducible rfl
          try simp only [List.getElem_toArray, List.getElem_cons_zero, List.getElem_cons_succ, Act.put, List.setIfInBounds_toArray, List.set_cons_zero, List.set_cons_succ]
          refine wpAnyH_take (i := 7) (v := ?_) rfl (by kernel_rfl) (by kernel_rfl) (by kernel_rfl) (fun _ _ _ h => h) (Or.inl ⟨by rfl, ?_⟩) hHeld ?_
          rotate_left
          · intro w hSw
            (try dsimp only at hSw)
            go_simp
            try with_reducible rfl
          try simp only [List.getElem_toArray, List.getElem_cons_zero, List.getElem_cons_succ, Act.put, List.setIfInBounds_toArray, List.set_cons_zero, List.set_cons_succ]
          refine wpAnyH_take (i := 8) (v := ?_) rfl (by kernel_rfl) (by kernel_rfl) (by kernel_rfl) (fun _ _ _ h => h) (Or.inl ⟨by rfl, ?_⟩) hHeld ?_
          rotate_left
          · intro w hSw
            (try dsimp only at hSw)
            go_simp
            try with_reducible rfl
          try simp only [List.getElem_toArray, List.getElem_cons_zero, List.getElem_cons_succ, Act.put, List.setIfInBounds_toArray, List.set_cons_zero, List.set_cons_succ]
          refine wpAnyH_take (i := 9) (v := ?_) rfl (by kernel_rfl) (by kernel_rfl) (by kernel_rfl) (fun _ _ _ h => h) (Or.inl ⟨by rfl, ?_⟩) hHeld ?_
          rotate_left
          · intro w hSw
            (try dsimp only at hSw)
            go_simp
            try with_reducible rfl
          try simp only [List.getElem_toArray, List.getElem_cons_zero, List.getElem_cons_succ, Act.put, List.setIfInBounds_toArray, List.set_cons_zero, List.set_cons_succ]
          refine wpAnyH_take (i := 10) (v := ?_) rfl (by kernel_rfl) (by kernel_rfl) (by kernel_rfl) (fun _ _ _ h => h) (Or.inl ⟨by rfl, ?_⟩) hHeld ?_
          rotate_left
          · intro w hSw
            (try dsimp only at hSw)
            go_simp
            try with_reducible rfl
          try simp only [List.getElem_toArray, List.getElem_cons_zero, List.getElem_cons_succ, Act.put, List.setIfInBounds_toArray, List.set_cons_zero, List.set_cons_succ]
          refine wpAnyH_take (i := 11) (v := ?_) rfl (by kernel_rfl) (by kernel_rfl) (by kernel_rfl) (fun _ _ _ h => h) (Or.inl ⟨by rfl, ?_⟩) hHeld ?_
          rotate_left
          · intro w hSw
            (try dsimp only at hSw)
            go_simp
            try with_reducible rfl
          try simp only [List.getElem_toArray, List.getElem_cons_zero, List.getElem_cons_succ, Act.put, List.setIfInBounds_toArray, List.set_cons_zero, List.set_cons_succ]
          refine wpAnyH_take (i := 12) (v := ?_) rfl (by kernel_rfl) (by kernel_rfl) (by kernel_rfl) (fun _ _ _ h => h) (Or.inl ⟨by rfl, ?_⟩) hHeld ?_
          rotate_left
          · intro w hSw
            (try dsimp only at hSw)
            go_simp
            try with_reducible rfl
          try simp only [List.getElem_toArray, List.getElem_cons_zero, List.getElem_cons_succ, Act.put, List.setIfInBounds_toArray, List.set_cons_zero, List.set_cons_succ]
          refine wpAnyH_ready (rs := [0]) (by kernel_rfl) (by simp) ?_
          refine AllReadyH.cons rfl (fun K hK => ?_) ?_
          · skip
            go_simp
            refine hK.out _ _ (HC.out _ (BD.out.mono hgr')) (fun hHeld => ?_)
            clear hK K
            try simp only [List.getElem_toArray, List.getElem_cons_zero, Act.put, List.setIfInBounds_toArray, List.set_cons_zero, List.set_cons_succ]
            refine wpAnyH_ready (rs := [13]) (by kernel_rfl) (by simp) ?_
            refine AllReadyH.cons rfl (fun K hK => ?_) ?_
            · skip
              go_simp
              go_at_call 61
              refine PU.out.mono ?_
              rintro e w5 ⟨A5, c5, rfl, o5, k5⟩
              have BC := Lib.hid (BD.out.trans k5)
              have hs5 : wr.heap.size ≤ w5.heap.size := BC.out.size
              have Q5 := Lib.hid (blk_below BC.out Q0H.out)
              have q5 := blk_cell (o := 0) Q5.out rfl
              have f5 : w5.frozen? ⟨gq, 0, none⟩ = false := frozen_of_row w5 gq 0 _ _ Q5.out
              have HO5 := Lib.hid (RdB.set1 o5 Q5.out (.slice A5 lp.length c5))
              have HQ5 := Lib.hid (blk_set1 (u := .slice A5 lp.length c5) Q5.out)
              have HP5 := Lib.hid (blk_set_ne (g' := gq) (j := 0) (u := .slice A5 lp.length c5) (blk_below BC.out P1H.out) (by omega))
              have HR5 := Lib.hid (blk_set_ne (g' := gq) (j := 0) (u := .slice A5 lp.length c5) (blk_below BC.out R0H.out) (by omega))
              have HB5 := Lib.hid (show Below w.heap.size w (w5.setCell ⟨gq, 0, none⟩ (.slice A5 lp.length c5)) from (below_step HBH.out BC.out).setCell (by show w.heap.size ≤ gq; omega) _)
              clear o5 k5
              go_simp
              refine hK.out _ _ (HC.out _ (BC.out.mono hgr')) (fun hHeld => ?_)
              clear hK K
              try simp only [List.getElem_toArray, List.getElem_cons_zero, List.getElem_cons_succ, Act.put, List.setIfInBounds_toArray, List.set_cons_zero, List.set_cons_succ]
              refine wpAnyH_ready (rs := [14]) (by kernel_rfl) (by simp) ?_
              refine AllReadyH.cons rfl (fun K hK => ?_) ?_
              · skip
                go_simp
                refine hK.out _ _ (HC.out _ ((BC.out.mono hgr').setCell (by simp) _)) (fun hHeld => ?_)
                clear hK K
                try simp only [List.getElem_toArray, List.getElem_cons_zero, List.getElem_cons_succ, Act.put, List.setIfInBounds_toArray, List.set_cons_zero, List.set_cons_succ]
                refine wpAnyH_done (by kernel_rfl) ?_ _
                clear q0 q0' c0 c1 p1
                go_wp2
                go_roundw
                case rel => exact ⟨k + 1, A5, c5, lp, by omega, by go_num, Lib.hid (by rw [joinL_next hlt, HACC.out, EX.out, HLP.out]), HQ5.out, HO5.out, HP5.out, HR5.out, HB5.out, by simp; omega⟩
                case measure => simp [intOf]; omega
              exact AllReadyH.nil
            exact AllReadyH.nil
          exact AllReadyH.nil
        · obtain rfl : k = qs.length := by omega
          have hj : joinL ps qs = acc := by have := HACC.out; rw [List.take_length] at this; exact this
          have HJ := Lib.hid hj
          clear hj
          have TA : Hid (TinyB acc) := Lib.hid (by have := TinyB.join _ _ T1.out T2.out; rw [HJ.out] at this; exact this)
          have BC := Lib.hid (spec_BagOk_any A c acc wr o1 (by omega) (fun p hp => by have := TA.out p hp; omega))
          obtain ⟨ok3, hok3⟩ : ∃ b, PP (BgOk acc) = b := ⟨_, rfl⟩
          have H3 := Lib.hid hok3
          rw [hok3] at BC
          clear hok3
          have q0 := blk_cell (o := 0) Q0 rfl
          go_wp2_with fail
          refine BC.out.mono ?_
          rintro e w8 ⟨rfl, k8⟩
          replace Q0 := blk_below k8 Q0
          replace R0 := blk_below k8 R0
          replace o1 := o1.keep k8
          replace hB := below_step hB k8
          clear q0 k8 p1
          cases ok3
          · have HN : Hid (¬ JoinOk ps qs) := Lib.hid (fun h => PP_not H3.out (by rw [← HJ.out]; exact h.2.2))
            have q9 := blk_cell (o := 0) R0 rfl
            have f9 : w8.frozen? ⟨w.heap.size + 2, 0, none⟩ = false := frozen_of_row w8 _ 0 _ _ R0
            go_wp2
            refine bodyPost_ret (v := .tuple #[.agg #[.slice none 0 0], .bool false]) (by simp [results, Try.results30, go_sem, q9]) rfl (MadeR2.of (joinR_no HN.out) (PP_no HN.out) ⟨none, 0, rfl, RdB.nil _ _, hB.setCell (by show w.heap.size ≤ w.heap.size + 2; omega) _⟩)
          · have HYS : Hid (JoinOk ps qs) := Lib.hid ⟨PP_of H1.out, PP_of H2.out, by rw [HJ.out]; exact PP_of H3.out⟩
            have b7 := blk_cell (o := 0) Q0 rfl
            have q9 := blk_cell (o := 0) R0 rfl
            have f9 : w8.frozen? ⟨w.heap.size + 2, 0, none⟩ = false := frozen_of_row w8 _ 0 _ _ R0
            go_wp2
            refine bodyPost_ret (v := .tuple #[.agg #[.slice A acc.length c], .bool true]) (by simp [results, Try.results30, go_sem, q9]) rfl (MadeR2.of ((joinR_yes HYS.out).trans HJ.out) (PP_yes HYS.out) ⟨A, c, rfl, o1.set1 R0 _, hB.setCell (by show w.heap.size ≤ w.heap.size + 2; omega) _⟩)
end Go.Proofs.Ytdikkfhdogkniaa
