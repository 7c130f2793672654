/- spec.ReadBag. Conditions: the text's length. Printed by xsreadbag.py. -/
import Derived.Test.YtdikkfhdogkniaaReadBag
import Derived.Test.YtdikkfhdogkniaaScanS
import Derived.Test.YtdikkfhdogkniaaBagText
namespace Go.Proofs.Ytdikkfhdogkniaa
open Go.RowKit

theorem NumsRel.start2 {s : ByteArray} {a m : Nat} {ra : Option (Nat × Nat)} (hra : scNum s (some a) = ra) (hm : scVal ra = m) : NumsRel s (rdRow s a) [] (min m 10) (ra.map Prod.snd) := by
  have : rdRow s a = rdNums s (min m 10) (ra.map Prod.snd) := by
    unfold rdRow
    rw [hra, hm]
  rw [this]
  refine ⟨fun h => by rw [h, rdNums_none], fun b hb => by rw [hb]; simp⟩
theorem NumsRel.ends {s : ByteArray} {F : List Int × Option Nat} {vs : List Int} {k : Nat} {st : Option Nat} (h : NumsRel s F vs k st) (hk : k = 0 ∨ st = none) : F.2 = st ∧ (st ≠ none → F.1 = vs) := by
  rcases hk with rfl | rfl
  · exact h.done
  · exact ⟨h.1 rfl, fun h => absurd rfl h⟩
theorem ItsRel.ends {s : ByteArray} {F : List It × Option Nat} {xs : List It} {k : Nat} {st : Option Nat} (h : ItsRel s F xs k st) (hk : k = 0 ∨ st = none) : F.2 = st ∧ (st ≠ none → F.1 = xs) := by
  rcases hk with rfl | rfl
  · exact h.done
  · exact ⟨h.1 rfl, fun h => absurd rfl h⟩
theorem btVal_yes {ps : List It} (h : BgOk ps) : btVal ps = .tuple #[.string (strOfNums (bText ps)), .bool true] := by
  unfold btVal
  rw [PP_yes h]
  rfl
theorem btVal_no {ps : List It} (h : ¬ BgOk ps) : btVal ps = .tuple #[.string ⟨#[]⟩, .bool false] := by
  unfold btVal
  rw [PP_no h]
  rfl

set_option maxRecDepth 100000 in
set_option maxHeartbeats 6400000 in
theorem spec_ReadBag_any (s : ByteArray) (hs : s.size ≤ 4294967296) (w : World) :
    Calls Try.prog 21 #[.string s] w (MadeBB w (rbOut s)) := by
  obtain ⟨i0, hi, hz0, hz1, hz2⟩ := info_parts Try.infoItem
  obtain ⟨j0, hj, jz0, jz1, jz2⟩ := info_parts Try.infoInt
  have hb1 := scVal_bd (s := s) (st := some 0)
  obtain ⟨r0, hr0⟩ : ∃ r, rbCount s = r := ⟨_, rfl⟩
  have hr0' : scNum s (some 0) = r0 := hr0
  rw [hr0'] at hb1
  have H0 := Lib.hid hr0
  have C0 := Lib.hid (fun g w => l03Var_any g s hs (some 0) w)
  rw [hr0'] at C0
  clear hr0 hr0'
  obtain ⟨n0, hn0⟩ : ∃ n, scVal r0 = n := ⟨_, rfl⟩
  rw [hn0] at hb1
  unfold Scans at C0
  rw [hn0] at C0
  have N0 := Lib.hid hn0
  clear hn0
  have R0 : RB 76 w s (some 0) none 0 [] (((w.alloc (.cells #[.slice none 0 0] 29)).alloc (.cells #[.string s, .int .i64 0, .bool false] 76)).alloc (.cells #[.slice none 0 0] 29)) := by
    have q1 := heap_alloc_new (w.alloc (.cells #[.slice none 0 0] 29)) (.cells #[.string s, .int .i64 0, .bool false] 76)
    have q2 := heap_alloc_new ((w.alloc (.cells #[.slice none 0 0] 29)).alloc (.cells #[.string s, .int .i64 0, .bool false] 76)) (.cells #[.slice none 0 0] 29)
    refine ⟨⟨0, false, ?_, Nat.zero_le _, rfl, fun x hx => by injection hx⟩, ?_, ?_, ⟨World.ownsRow_nil _ _ _ _, by simp, List.Pairwise.nil⟩, ?_⟩
    · exact blk_below (below_alloc _ _) (by simpa using q1)
    · simpa using q2
    · exact blk_below (below_alloc _ _) (blk_below (below_alloc _ _) (heap_alloc_new w _))
    · exact below_step (below_step (below_alloc _ _) (below_alloc _ _)) (below_alloc _ _)
  go_enter Try.func21, Try.ntmps21
  go_wp2_with fail
  refine (C0.out _ _ R0.sc).mono ?_
  rintro e w1 ⟨rfl, D1, g1⟩
  have R1 := Lib.hid (R0.scan D1 g1)
  have IT0 := Lib.hid (ItsRel.start H0.out N0.out)
  clear R0 D1 g1 C0
  go_wp2
  go_loopw [7] (fun i wr => ∃ (k : Nat) (A : Option Addr) (c : Nat) (xs : List ItX) (st : Option Nat), k ≤ min n0 310 ∧ i = .int .i64 k ∧ xs.length ≤ k ∧ k ≤ xs.length ∧ Hid (ItsRel s (rbIts s) (xs.map ItX.p) (min n0 310 - k) st) ∧ RB 76 w s st A c xs wr ∧ Hid (∀ p ∈ xs.map ItX.p, p.r.length ≤ 10)) (fun i _ => 310 - (intOf i).toNat)
  case atStart => exact ⟨0, none, 0, [], _, Nat.zero_le _, rfl, Nat.le_refl _, Nat.le_refl _, Lib.hid (by simpa using IT0.out), R1.out, Lib.hid (by simp)⟩
  case round =>
    clear R1 IT0
    obtain ⟨k, A, c, xs, st, hk, rfl, hk1, hk2, ITS, hR, HKS⟩ := hrel
    have hn1 : n0 ≤ 1000000000 := by omega
    by_cases hgo : k < n0 ∧ k < 310 ∧ st ≠ none
    · obtain ⟨hk3, hk4, hne⟩ := hgo
      obtain ⟨a, rfl⟩ : ∃ a, st = some a := by
        cases st with
        | none => exact absurd rfl hne
        | some a => exact ⟨a, rfl⟩
      clear hne
      obtain ⟨ra, hra⟩ : ∃ r, scNum s (some a) = r := ⟨_, rfl⟩
      have A0 := Lib.hid (fun g w => l03Var_any g s hs (some a) w)
      unfold Scans at A0
      rw [hra] at A0
      have hba := scVal_bd (s := s) (st := some a)
      rw [hra] at hba
      obtain ⟨m, hm⟩ : ∃ n, scVal ra = n := ⟨_, rfl⟩
      rw [hm] at hba A0
      have HRA := Lib.hid hra
      have HM := Lib.hid hm
      clear hra hm
      obtain ⟨a', bb, hsb, _, hbb, _⟩ := hR.sc
      obtain rfl : bb = false := hbb
      have b2 := cell_of_row wr _ 2 _ _ (0, 0) hsb
      simp at b2
      clear hsb
      have k30 : (k : Int) < (n0 : Int) := by omega
      have k40 : (k : Int) < 310 := by omega
      have ka := below_alloc wr (.cells #[.slice none 0 0, .int .i64 0] 54)
      have hRa := hR.keep ka
      have qx := heap_alloc_new wr (.cells #[.slice none 0 0, .int .i64 0] 54)
      have hgb := hR.sz
      have hxa : ∀ r, (Value.slice A xs.length c).ownBlock = some r → r < wr.heap.size := fun r hr => (hR.own.row.lt r hr).2
      have hxb : ∀ x ∈ xs, ∀ r, x.v.ownBlock = some r → r < wr.heap.size := fun x hx r hr => ((hR.own.kids x hx).lt r hr).2
      obtain ⟨gx, hgx⟩ : ∃ g : Nat, wr.heap.size = g := ⟨_, rfl⟩
      rw [hgx] at hgb hxa hxb qx
      have HGX : Hid (w.heap.size + 3 ≤ gx) := Lib.hid hgb
      have hgl : w.heap.size + 3 ≤ gx := hgb
      have HXA := Lib.hid hxa
      have HXB := Lib.hid hxb
      have HRa := Lib.hid hRa
      have QX0 := Lib.hid qx
      clear hR ka hRa qx hgb hxa hxb
      go_wp2_with fail
      refine (A0.out _ _ HRa.out.sc).mono ?_
      clear hgx
      rintro e w3 ⟨rfl, D3, g3⟩
      have HR3 := Lib.hid (HRa.out.scan D3 g3)
      have QX3 := Lib.hid ((g3.block _ (blk_lt QX0.out) (fun e => by injection e; omega)).trans QX0.out)
      have NR0 := Lib.hid (NumsRel.start2 HRA.out HM.out)
      clear D3 g3 A0 b2 QX0 HRa
      go_wp2
      go_loopw [10] (fun j wi => ∃ (jj : Nat) (vs : List Int) (Kv : Option Addr) (cv : Nat) (st' : Option Nat), jj ≤ min m 10 ∧ j = .int .i64 jj ∧ vs.length ≤ jj ∧ jj ≤ vs.length ∧ Hid (NumsRel s (rdRow s a) vs (min m 10 - jj) st') ∧ wi.heap[gx]? = some (.cells #[.slice Kv vs.length cv, .int .i64 0] 54 (0, 0)) ∧ wi.ownsRow (gx + 1) 3 1 (.slice Kv vs.length cv) vs.length (vs.map (Value.int .i64)) ∧ RB 76 w s st' A c xs wi) (fun j _ => 10 - (intOf j).toNat)
      case atStart => exact ⟨0, [], none, 0, _, Nat.zero_le _, rfl, Nat.le_refl _, Nat.le_refl _, NR0.out, QX3.out, World.ownsRow_nil _ _ _ _, HR3.out⟩
      case round =>
        clear NR0 HR3 QX3
        obtain ⟨jj, vs, Kv, cv, st', hjm, rfl, hv1, hv2, NR, qx, hown, hR⟩ := hrel
        obtain ⟨a', bb, hsb, _, hbb, _⟩ := hR.sc
        have b2 := cell_of_row wr _ 2 _ _ (0, 0) hsb
        simp at b2
        clear hsb
        by_cases hjt : jj < m ∧ jj < 10 ∧ st' ≠ none
        · obtain ⟨j1, j2, hne⟩ := hjt
          obtain ⟨a2, rfl⟩ : ∃ a, st' = some a := by
            cases st' with
            | none => exact absurd rfl hne
            | some a => exact ⟨a, rfl⟩
          obtain rfl : bb = false := hbb
          clear hne
          obtain ⟨rb, hrb⟩ : ∃ r, scNum s (some a2) = r := ⟨_, rfl⟩
          have A1 := Lib.hid (fun g w => l03Var_any g s hs (some a2) w)
          unfold Scans at A1
          rw [hrb] at A1
          have hbb2 := scVal_bd (s := s) (st := some a2)
          rw [hrb] at hbb2
          obtain ⟨z, hz⟩ : ∃ n, scVal rb = n := ⟨_, rfl⟩
          rw [hz] at hbb2 A1
          have HRB := Lib.hid hrb
          have HZ := Lib.hid hz
          clear hrb hz
          have j3 : (jj : Int) < (m : Int) := by omega
          have j4 : (jj : Int) < 10 := by omega
          have x0 := blk_cell (o := 0) qx rfl
          have RD := Lib.hid (hR.keep (Below.refl _ _).drew)
          have QX := Lib.hid (show wr.drew.heap[gx]? = _ from qx)
          have HOW : Hid (wr.drew.ownsRow (gx + 1) 3 1 (.slice Kv vs.length cv) vs.length (vs.map (Value.int .i64))) := Lib.hid (own_below hown (Below.refl _ _).drew)
          clear hown hR qx
          go_upto_region 12 with fail
          clear b2
          refine wp_region_held_drew (S := fun _ => True) (by kernel_rfl) (trivial) (fun hHeld => ?_)
          refine wpAnyH_take (i := 0) (v := ?_) rfl (by kernel_rfl) (by kernel_rfl) (by kernel_rfl) (fun _ _ _ h => h) (Or.inl ⟨by rfl, ?_⟩) hHeld ?_
          rotate_left
          · intro w hSw
            (try dsimp only at hSw)
            go_simp
            try with_reducible rfl
          try simp only [List.getElem_toArray, List.getElem_cons_zero, Act.put, List.setIfInBounds_toArray, List.set_cons_zero, List.set_cons_succ]
          refine wpAnyH_take (i := 2) (v := ?_) rfl (by kernel_rfl) (by kernel_rfl) (by kernel_rfl) (fun _ _ _ h => h) (Or.inl ⟨by rfl, ?_⟩) hHeld ?_
          rotate_left
          · intro w hSw
            (try dsimp only at hSw)
            go_simp
            try with_reducible rfl
          try simp only [List.getElem_toArray, List.getElem_cons_zero, List.getElem_cons_succ, Act.put, List.setIfInBounds_toArray, List.set_cons_zero, List.set_cons_succ]
          refine wpAnyH_ready (rs := [1, 3]) (by kernel_rfl) (by simp) ?_
          refine AllReadyH.cons rfl (fun K hK => ?_) ?_
          · skip
            go_simp
            refine hK.out _ _ (trivial) (fun hHeld => ?_)
            clear hK K
            try simp only [List.getElem_toArray, List.getElem_cons_zero, List.getElem_cons_succ, Act.put, List.setIfInBounds_toArray, List.set_cons_zero, List.set_cons_succ]
            refine wpAnyH_ready (rs := [3]) (by kernel_rfl) (by simp) ?_
            refine AllReadyH.cons rfl (fun K hK => ?_) ?_
            · skip
              go_simp
              go_at_call 55
              refine (A1.out _ _ RD.out.sc).mono ?_
              rintro e w6 ⟨rfl, D6, g6⟩
              have R6 := Lib.hid (RD.out.scan D6 g6)
              have qx6 := (g6.block _ (blk_lt QX.out) (fun e => by injection e; have := HGX.out; omega)).trans QX.out
              have x6 := blk_cell (o := 0) qx6 rfl
              have l6 : gx < w6.heap.size := blk_lt qx6
              have QX6 := Lib.hid qx6
              have hown6 := Lib.hid (HOW.out.kept g6 (.inr fun e => by have h1 := (HOW.out.lt _ e).1; have h2 := HGX.out; omega))
              clear D6 g6 qx6
              go_simp
              refine hK.out _ _ (trivial) (fun hHeld => ?_)
              clear hK K
              try simp only [List.getElem_toArray, List.getElem_cons_zero, List.getElem_cons_succ, Act.put, List.setIfInBounds_toArray, List.set_cons_zero, List.set_cons_succ]
              refine wpAnyH_ready (rs := [4]) (by kernel_rfl) (by simp) ?_
              refine AllReadyH.cons rfl (fun K hK => ?_) ?_
              · skip
                go_simp
                refine hK.out _ _ (trivial) (fun hHeld => ?_)
                clear hK K
                try simp only [List.getElem_toArray, List.getElem_cons_zero, List.getElem_cons_succ, Act.put, List.setIfInBounds_toArray, List.set_cons_zero, List.set_cons_succ]
                refine wpAnyH_ready (rs := [5]) (by kernel_rfl) (by simp) ?_
                refine AllReadyH.cons rfl (fun K hK => ?_) ?_
                · skip
                  refine step_append_any _ rfl (.tmp 55) (.tmp 58) 40 rfl (gx + 1) 3 j0 _ 1 8 Try.underlying40 hj jz0 jz1 jz2 rfl (by decide) (.slice Kv vs.length cv) vs.length _ rfl (own_below hown6.out (below_alloc _ _)) (some ⟨w6.heap.size, 0, none⟩) 1 1 [.int .i64 z] rfl (Rd.new w6 #[.int .i64 z] 3 rfl rfl) (by intro u hu; simp at hu; subst hu; rfl) (by unfold maxLen; omega) (by omega) (by simp; omega) ?_
                  intro v1 w7 hown7 hg7 _
                  obtain ⟨A1', c1', rfl, _, _⟩ := own_slice hown7
                  have qx7 := (hg7.block gx (by simp; omega) (fun e => by have := (hown6.out.lt _ e.symm).1; omega)).trans (blk_below (below_alloc w6 _) QX6.out)
                  have x7 := blk_cell (o := 0) qx7 rfl
                  have f7 : w7.frozen? ⟨gx, 0, none⟩ = false := frozen_of_row w7 _ 0 _ _ qx7
                  have QX8 := Lib.hid (heap_setCell_same w7 gx 0 _ _ (.slice A1' (vs.length + 1) c1') qx7)
                  have HO8 := Lib.hid (ownsRow_setCell_below hown7 (a := ⟨gx, 0, none⟩) (by simp) (.slice A1' (vs.length + 1) c1'))
                  have R8 := Lib.hid (((R6.out.keep (below_alloc w6 _)).other hg7 (fun r hr => by have := (hown6.out.lt r hr).1; omega) HGX.out HXA.out HXB.out).other (only_setCell (World.grownBy.refl w7 (some gx)) 0 (.slice A1' (vs.length + 1) c1')) (fun r hr => by injection hr with hr; omega) HGX.out HXA.out HXB.out)
                  clear hown7 hg7 qx7
                  refine hK.out _ _ (trivial) (fun hHeld => ?_)
                  clear hK K
                  try simp only [List.getElem_toArray, List.getElem_cons_zero, List.getElem_cons_succ, Act.put, List.setIfInBounds_toArray, List.set_cons_zero, List.set_cons_succ]
                  refine wpAnyH_take (i := 6) (v := ?_) rfl (by kernel_rfl) (by kernel_rfl) (by kernel_rfl) (fun _ _ _ h => h) (Or.inl ⟨by rfl, ?_⟩) hHeld ?_
                  rotate_left
                  · intro w hSw
                    (try dsimp only at hSw)
                    go_simp
                    try with_reducible rfl
                  try simp only [List.getElem_toArray, List.getElem_cons_zero, List.getElem_cons_succ, Act.put, List.setIfInBounds_toArray, List.set_cons_zero, List.set_cons_succ]
                  refine wpAnyH_ready (rs := [7]) (by kernel_rfl) (by simp) ?_
                  refine AllReadyH.cons rfl (fun K hK => ?_) ?_
                  · skip
                    go_simp
                    refine hK.out _ _ (trivial) (fun hHeld => ?_)
                    clear hK K
                    try simp only [List.getElem_toArray, List.getElem_cons_zero, List.getElem_cons_succ, Act.put, List.setIfInBounds_toArray, List.set_cons_zero, List.set_cons_succ]
                    refine wpAnyH_done (by kernel_rfl) ?_ _
                    clear x0
                    go_wp2
                    go_roundw
                    case rel =>
                      refine ⟨jj + 1, vs ++ [(z : Int)], A1', c1', rb.map Prod.snd, by omega, by go_num, by simp; omega, by simp; omega, ?_, by simpa using QX8.out, by simpa using HO8.out, R8.out⟩
                      show NumsRel _ _ _ _ _
                      have h1 := NR.out
                      rw [show min m 10 - jj = (min m 10 - (jj + 1)) + 1 by omega] at h1
                      have h2 := h1.next
                      rw [HRB.out, HZ.out] at h2
                      exact h2
                    case measure => simp [intOf]; omega
                  exact AllReadyH.nil
                exact AllReadyH.nil
              exact AllReadyH.nil
            exact AllReadyH.nil
          refine AllReadyH.cons rfl (fun K hK => ?_) ?_
          · skip
            go_simp
            go_at_call 55
            refine (A1.out _ _ RD.out.sc).mono ?_
            rintro e w6 ⟨rfl, D6, g6⟩
            have R6 := Lib.hid (RD.out.scan D6 g6)
            have qx6 := (g6.block _ (blk_lt QX.out) (fun e => by injection e; have := HGX.out; omega)).trans QX.out
            have x6 := blk_cell (o := 0) qx6 rfl
            have l6 : gx < w6.heap.size := blk_lt qx6
            have QX6 := Lib.hid qx6
            have hown6 := Lib.hid (HOW.out.kept g6 (.inr fun e => by have h1 := (HOW.out.lt _ e).1; have h2 := HGX.out; omega))
            clear D6 g6 qx6
            go_simp
            refine hK.out _ _ (trivial) (fun hHeld => ?_)
            clear hK K
            try simp only [List.getElem_toArray, List.getElem_cons_zero, List.getElem_cons_succ, Act.put, List.setIfInBounds_toArray, List.set_cons_zero, List.set_cons_succ]
            refine wpAnyH_ready (rs := [1, 4]) (by kernel_rfl) (by simp) ?_
            refine AllReadyH.cons rfl (fun K hK => ?_) ?_
            · skip
              go_simp
              refine hK.out _ _ (trivial) (fun hHeld => ?_)
              clear hK K
              try simp only [List.getElem_toArray, List.getElem_cons_zero, List.getElem_cons_succ, Act.put, List.setIfInBounds_toArray, List.set_cons_zero, List.set_cons_succ]
              refine wpAnyH_ready (rs := [4]) (by kernel_rfl) (by simp) ?_
              refine AllReadyH.cons rfl (fun K hK => ?_) ?_
              · skip
                go_simp
                refine hK.out _ _ (trivial) (fun hHeld => ?_)
                clear hK K
                try simp only [List.getElem_toArray, List.getElem_cons_zero, List.getElem_cons_succ, Act.put, List.setIfInBounds_toArray, List.set_cons_zero, List.set_cons_succ]
                refine wpAnyH_ready (rs := [5]) (by kernel_rfl) (by simp) ?_
                refine AllReadyH.cons rfl (fun K hK => ?_) ?_
                · skip
                  refine step_append_any _ rfl (.tmp 55) (.tmp 58) 40 rfl (gx + 1) 3 j0 _ 1 8 Try.underlying40 hj jz0 jz1 jz2 rfl (by decide) (.slice Kv vs.length cv) vs.length _ rfl (own_below hown6.out (below_alloc _ _)) (some ⟨w6.heap.size, 0, none⟩) 1 1 [.int .i64 z] rfl (Rd.new w6 #[.int .i64 z] 3 rfl rfl) (by intro u hu; simp at hu; subst hu; rfl) (by unfold maxLen; omega) (by omega) (by simp; omega) ?_
                  intro v1 w7 hown7 hg7 _
                  obtain ⟨A1', c1', rfl, _, _⟩ := own_slice hown7
                  have qx7 := (hg7.block gx (by simp; omega) (fun e => by have := (hown6.out.lt _ e.symm).1; omega)).trans (blk_below (below_alloc w6 _) QX6.out)
                  have x7 := blk_cell (o := 0) qx7 rfl
                  have f7 : w7.frozen? ⟨gx, 0, none⟩ = false := frozen_of_row w7 _ 0 _ _ qx7
                  have QX8 := Lib.hid (heap_setCell_same w7 gx 0 _ _ (.slice A1' (vs.length + 1) c1') qx7)
                  have HO8 := Lib.hid (ownsRow_setCell_below hown7 (a := ⟨gx, 0, none⟩) (by simp) (.slice A1' (vs.length + 1) c1'))
                  have R8 := Lib.hid (((R6.out.keep (below_alloc w6 _)).other hg7 (fun r hr => by have := (hown6.out.lt r hr).1; omega) HGX.out HXA.out HXB.out).other (only_setCell (World.grownBy.refl w7 (some gx)) 0 (.slice A1' (vs.length + 1) c1')) (fun r hr => by injection hr with hr; omega) HGX.out HXA.out HXB.out)
                  clear hown7 hg7 qx7
                  refine hK.out _ _ (trivial) (fun hHeld => ?_)
                  clear hK K
                  try simp only [List.getElem_toArray, List.getElem_cons_zero, List.getElem_cons_succ, Act.put, List.setIfInBounds_toArray, List.set_cons_zero, List.set_cons_succ]
                  refine wpAnyH_take (i := 6) (v := ?_) rfl (by kernel_rfl) (by kernel_rfl) (by kernel_rfl) (fun _ _ _ h => h) (Or.inl ⟨by rfl, ?_⟩) hHeld ?_
                  rotate_left
                  · intro w hSw
                    (try dsimp only at hSw)
                    go_simp
                    try with_reducible rfl
                  try simp only [List.getElem_toArray, List.getElem_cons_zero, List.getElem_cons_succ, Act.put, List.setIfInBounds_toArray, List.set_cons_zero, List.set_cons_succ]
                  refine wpAnyH_ready (rs := [7]) (by kernel_rfl) (by simp) ?_
                  refine AllReadyH.cons rfl (fun K hK => ?_) ?_
                  · skip
                    go_simp
                    refine hK.out _ _ (trivial) (fun hHeld => ?_)
                    clear hK K
                    try simp only [List.getElem_toArray, List.getElem_cons_zero, List.getElem_cons_succ, Act.put, List.setIfInBounds_toArray, List.set_cons_zero, List.set_cons_succ]
                    refine wpAnyH_done (by kernel_rfl) ?_ _
                    clear x0
                    go_wp2
                    go_roundw
                    case rel =>
                      refine ⟨jj + 1, vs ++ [(z : Int)], A1', c1', rb.map Prod.snd, by omega, by go_num, by simp; omega, by simp; omega, ?_, by simpa using QX8.out, by simpa using HO8.out, R8.out⟩
                      show NumsRel _ _ _ _ _
                      have h1 := NR.out
                      rw [show min m 10 - jj = (min m 10 - (jj + 1)) + 1 by omega] at h1
                      have h2 := h1.next
                      rw [HRB.out, HZ.out] at h2
                      exact h2
                    case measure => simp [intOf]; omega
                  exact AllReadyH.nil
                exact AllReadyH.nil
              exact AllReadyH.nil
            refine AllReadyH.cons rfl (fun K hK => ?_) ?_
            · skip
              go_simp
              refine hK.out _ _ (trivial) (fun hHeld => ?_)
              clear hK K
              try simp only [List.getElem_toArray, List.getElem_cons_zero, List.getElem_cons_succ, Act.put, List.setIfInBounds_toArray, List.set_cons_zero, List.set_cons_succ]
              refine wpAnyH_ready (rs := [1]) (by kernel_rfl) (by simp) ?_
              refine AllReadyH.cons rfl (fun K hK => ?_) ?_
              · skip
                go_simp
                refine hK.out _ _ (trivial) (fun hHeld => ?_)
                clear hK K
                try simp only [List.getElem_toArray, List.getElem_cons_zero, List.getElem_cons_succ, Act.put, List.setIfInBounds_toArray, List.set_cons_zero, List.set_cons_succ]
                refine wpAnyH_ready (rs := [5]) (by kernel_rfl) (by simp) ?_
                refine AllReadyH.cons rfl (fun K hK => ?_) ?_
                · skip
                  refine step_append_any _ rfl (.tmp 55) (.tmp 58) 40 rfl (gx + 1) 3 j0 _ 1 8 Try.underlying40 hj jz0 jz1 jz2 rfl (by decide) (.slice Kv vs.length cv) vs.length _ rfl (own_below hown6.out (below_alloc _ _)) (some ⟨w6.heap.size, 0, none⟩) 1 1 [.int .i64 z] rfl (Rd.new w6 #[.int .i64 z] 3 rfl rfl) (by intro u hu; simp at hu; subst hu; rfl) (by unfold maxLen; omega) (by omega) (by simp; omega) ?_
                  intro v1 w7 hown7 hg7 _
                  obtain ⟨A1', c1', rfl, _, _⟩ := own_slice hown7
                  have qx7 := (hg7.block gx (by simp; omega) (fun e => by have := (hown6.out.lt _ e.symm).1; omega)).trans (blk_below (below_alloc w6 _) QX6.out)
                  have x7 := blk_cell (o := 0) qx7 rfl
                  have f7 : w7.frozen? ⟨gx, 0, none⟩ = false := frozen_of_row w7 _ 0 _ _ qx7
                  have QX8 := Lib.hid (heap_setCell_same w7 gx 0 _ _ (.slice A1' (vs.length + 1) c1') qx7)
                  have HO8 := Lib.hid (ownsRow_setCell_below hown7 (a := ⟨gx, 0, none⟩) (by simp) (.slice A1' (vs.length + 1) c1'))
                  have R8 := Lib.hid (((R6.out.keep (below_alloc w6 _)).other hg7 (fun r hr => by have := (hown6.out.lt r hr).1; omega) HGX.out HXA.out HXB.out).other (only_setCell (World.grownBy.refl w7 (some gx)) 0 (.slice A1' (vs.length + 1) c1')) (fun r hr => by injection hr with hr; omega) HGX.out HXA.out HXB.out)
                  clear hown7 hg7 qx7
                  refine hK.out _ _ (trivial) (fun hHeld => ?_)
                  clear hK K
                  try simp only [List.getElem_toArray, List.getElem_cons_zero, List.getElem_cons_succ, Act.put, List.setIfInBounds_toArray, List.set_cons_zero, List.set_cons_succ]
                  refine wpAnyH_take (i := 6) (v := ?_) rfl (by kernel_rfl) (by kernel_rfl) (by kernel_rfl) (fun _ _ _ h => h) (Or.inl ⟨by rfl, ?_⟩) hHeld ?_
                  rotate_left
                  · intro w hSw
                    (try dsimp only at hSw)
                    go_simp
                    try with_reducible rfl
                  try simp only [List.getElem_toArray, List.getElem_cons_zero, List.getElem_cons_succ, Act.put, List.setIfInBounds_toArray, List.set_cons_zero, List.set_cons_succ]
                  refine wpAnyH_ready (rs := [7]) (by kernel_rfl) (by simp) ?_
                  refine AllReadyH.cons rfl (fun K hK => ?_) ?_
                  · skip
                    go_simp
                    refine hK.out _ _ (trivial) (fun hHeld => ?_)
                    clear hK K
                    try simp only [List.getElem_toArray, List.getElem_cons_zero, List.getElem_cons_succ, Act.put, List.setIfInBounds_toArray, List.set_cons_zero, List.set_cons_succ]
                    refine wpAnyH_done (by kernel_rfl) ?_ _
                    clear x0
                    go_wp2
                    go_roundw
                    case rel =>
                      refine ⟨jj + 1, vs ++ [(z : Int)], A1', c1', rb.map Prod.snd, by omega, by go_num, by simp; omega, by simp; omega, ?_, by simpa using QX8.out, by simpa using HO8.out, R8.out⟩
                      show NumsRel _ _ _ _ _
                      have h1 := NR.out
                      rw [show min m 10 - jj = (min m 10 - (jj + 1)) + 1 by omega] at h1
                      have h2 := h1.next
                      rw [HRB.out, HZ.out] at h2
                      exact h2
                    case measure => simp [intOf]; omega
                  exact AllReadyH.nil
                exact AllReadyH.nil
              exact AllReadyH.nil
            exact AllReadyH.nil
          exact AllReadyH.nil
        · have hends : min m 10 - jj = 0 ∨ st' = none := by
            cases st' with
            | none => exact .inr rfl
            | some e =>
              refine .inl ?_
              have : ¬ (jj < m ∧ jj < 10) := fun h => hjt ⟨h.1, h.2, by simp⟩
              omega
          have hexit : m ≤ jj ∨ (jj < m ∧ 10 ≤ jj) ∨ (jj < m ∧ jj < 10 ∧ bb = true) := by
            by_cases q1 : jj < m
            · by_cases q2 : jj < 10
              · refine .inr (.inr ⟨q1, q2, ?_⟩)
                rw [hbb]
                cases st' with
                | none => rfl
                | some a => exact absurd ⟨q1, q2, by simp⟩ hjt
              · exact .inr (.inl ⟨q1, by omega⟩)
            · exact .inl (by omega)
          have HND := Lib.hid (NR.out.ends hends)
          obtain ⟨rc, hrc⟩ : ∃ r, scNum s st' = r := ⟨_, rfl⟩
          have A2 := Lib.hid (fun g w => l03Var_any g s hs st' w)
          unfold Scans at A2
          rw [hrc] at A2
          have hbc := scVal_bd (s := s) (st := st')
          rw [hrc] at hbc
          obtain ⟨t, ht⟩ : ∃ n, scVal rc = n := ⟨_, rfl⟩
          rw [ht] at hbc A2
          have HRC := Lib.hid hrc
          have HT := Lib.hid ht
          have HR := Lib.hid hR
          have QX := Lib.hid qx
          have HOW := Lib.hid hown
          clear hrc ht hbb hjt hends hR qx hown
          rcases hexit with h1 | ⟨h1, h2⟩ | ⟨h1, h2, rfl⟩
          all_goals
            go_wp2_with fail
            refine (A2.out _ _ HR.out.sc).mono ?_
            rintro e w6 ⟨rfl, D6, g6⟩
            have R6 := HR.out.scan D6 g6
            have qx6 := (g6.block _ (blk_lt QX.out) (fun e => by injection e; omega)).trans QX.out
            have hown6 := HOW.out.kept g6 (.inr fun e => by have h1 := (HOW.out.lt _ e).1; omega)
            have x1 := blk_cell (o := 1) qx6 rfl
            have fx1 : w6.frozen? ⟨gx, 1, none⟩ = false := frozen_of_row w6 _ 1 _ _ qx6
            have QX7 := Lib.hid (heap_setCell_same w6 gx 1 _ _ (.int .i64 t) qx6)
            have HO7 := Lib.hid (ownsRow_setCell_below hown6 (a := ⟨gx, 1, none⟩) (by simp) (.int .i64 t))
            have R7 := Lib.hid (R6.other (only_setCell (World.grownBy.refl w6 (some gx)) 1 (.int .i64 t)) (fun r hr => by injection hr with hr; omega) HGX.out HXA.out HXB.out)
            have b0 := blk_cell (o := 0) R7.out.bx rfl
            have b0' : (w6.setCell ⟨gx, 1, none⟩ (.int .i64 t)).cell? ⟨w.heap.size + 2, 0, none⟩ = some (.slice A xs.length c) := b0
            have y0 := blk_cell (o := 0) QX7.out rfl
            have y1 := blk_cell (o := 1) QX7.out rfl
            have hs7 : (w6.setCell ⟨gx, 1, none⟩ (.int .i64 t)).heap.size = w6.heap.size := by simp
            have l6 : gx < w6.heap.size := blk_lt qx6
            have HNW := Lib.hid (rd_new2 (w6.setCell ⟨gx, 1, none⟩ (.int .i64 t)) (.slice Kv vs.length cv) (.int .i64 t) 54)
            have HS7 := Lib.hid hs7
            clear D6 g6 R6 qx6 hown6 hs7 b2
            go_wp2_with (first
              | (at_builtin
                 refine wpList_append_any _ rfl (.tmp 65) (.tmp 67) 27 rfl (w.heap.size + 3) 54 i0 _ 2 32 Try.underlying27 hi hz0 hz1 hz2 rfl (by decide) (.slice A xs.length c) xs.length (ixCells xs) rfl (own_below R7.out.own.row (below_alloc _ _)) (some ⟨w6.heap.size, 0, none⟩) 1 1 [.slice Kv vs.length cv, .int .i64 t] rfl (by have := HNW.out; rw [HS7.out] at this; exact this) (by intro u hu; simp at hu; rcases hu with rfl | rfl <;> rfl) (by unfold maxLen; omega) (by omega) (by simp; omega) ?_
                 intro v1 w7 hown7 hg7 _
                 obtain ⟨A1, c1', rfl, _, _⟩ := own_slice hown7
                 have HF := Lib.hid (R7.out.put (p := ⟨vs, t⟩) (B := gx) HGX.out HXB.out (own_mono HO7.out (by omega)) hown7 hg7)
                 have bx7 := (hg7.block _ (by simp; omega) (fun e => by have := (R7.out.own.row.lt _ e.symm).1; omega)).trans (blk_below (below_alloc _ _) R7.out.bx)
                 have f7 : w7.frozen? ⟨w.heap.size + 2, 0, none⟩ = false := frozen_of_row w7 _ 0 _ _ bx7
                 have e7 : w7.cell? ⟨w.heap.size + 2, 0, none⟩ = some (.slice A xs.length c) := blk_cell (o := 0) bx7 rfl
                 clear bx7 hown7 hg7))
            go_roundw
            case rel =>
              refine ⟨k + 1, A1, c1', xs ++ [⟨⟨vs, t⟩, Kv, cv⟩], rc.map Prod.snd, by omega, by go_num, by simp; omega, by simp; omega, ?_, HF.out, ?_⟩
              · show ItsRel _ _ _ _ _
                have h1 := ITS.out
                rw [show min n0 310 - k = (min n0 310 - (k + 1)) + 1 by omega] at h1
                have h2 := h1.next rfl HND.out
                rw [HRC.out, HT.out] at h2
                rw [List.map_append]
                exact h2
              · refine Lib.hid (fun p hp => ?_)
                rw [List.map_append] at hp
                rcases List.mem_append.1 hp with hp | hp
                · exact HKS.out p hp
                · simp at hp
                  subst hp
                  simp only
                  omega
            case measure => simp [intOf]; omega
    · have hends : min n0 310 - k = 0 ∨ st = none := by
        cases st with
        | none => exact .inr rfl
        | some e =>
          refine .inl ?_
          have : ¬ (k < n0 ∧ k < 310) := fun h => hgo ⟨h.1, h.2, by simp⟩
          omega
      obtain ⟨a', bb, hsb, _, hbb, _⟩ := hR.sc
      have b2 := cell_of_row wr _ 2 _ _ (0, 0) hsb
      simp at b2
      clear hsb
      have hexit : n0 ≤ k ∨ (k < n0 ∧ 310 ≤ k) ∨ (k < n0 ∧ k < 310 ∧ bb = true) := by
        by_cases q1 : k < n0
        · by_cases q2 : k < 310
          · refine .inr (.inr ⟨q1, q2, ?_⟩)
            rw [hbb]
            cases st with
            | none => rfl
            | some a => exact absurd ⟨q1, q2, by simp⟩ hgo
          · exact .inr (.inl ⟨q1, by omega⟩)
        · exact .inl (by omega)
      have hd := ITS.out.ends hends
      obtain ⟨ps, hps⟩ : ∃ ps, xs.map ItX.p = ps := ⟨_, rfl⟩
      have hpl : xs.length = ps.length := by rw [← hps]; simp
      rw [hps] at hd HKS
      have HPS := Lib.hid hps
      have HPL := Lib.hid hpl
      have hpl2 : ps.length ≤ 310 := by omega
      have P := Lib.hid (fun w hx => spec_BagText_any A c ps w hx (by omega) (fun p hp => by have := HKS.out p hp; omega))
      have HO : Hid (rbOut s = (open Classical in if st ≠ none ∧ BgOk ps ∧ strOfNums (bText ps) = s then some ps else none)) := by
        show _ = _
        rw [← rbOut2_eq]
        unfold rbOut2
        cases st with
        | none => rw [if_neg (fun h => h.1 hd.1), if_neg (fun h => h.1 rfl)]
        | some e => rw [hd.1, hd.2 (by simp)]
      have b0 : wr.cell? ⟨w.heap.size + 1 + 1, 0, none⟩ = some (.slice A ps.length c) := by rw [← hpl]; exact blk_cell (o := 0) hR.bx rfl
      have b0' : wr.cell? ⟨w.heap.size + 2, 0, none⟩ = some (.slice A ps.length c) := b0
      have hrd : RdB wr A ps := OwnB.rd ⟨xs, hps, hR.own⟩
      have HR := Lib.hid hR
      clear hps hd hends hgo hpl hR
      by_cases hT : st ≠ none ∧ BgOk ps ∧ strOfNums (bText ps) = s
      · have hO : rbOut s = some ps := by rw [HO.out]; exact if_pos hT
        have HQ := Lib.hid hO
        clear hO HO
        obtain ⟨hT1, hT2, hT3⟩ := hT
        rw [btVal_yes hT2, hT3] at P
        obtain rfl : bb = false := by
          rw [hbb]
          cases st with
          | none => exact absurd rfl hT1
          | some a => rfl
        have hexit2 : n0 ≤ k ∨ (k < n0 ∧ 310 ≤ k) := by
          rcases hexit with h | h | ⟨_, _, h⟩
          · exact .inl h
          · exact .inr h
          · cases h
        clear hexit hT1 hT2 hT3 hbb
        have tt : (s.toList == s.toList) = true := by simp
        rcases hexit2 with h1 | ⟨h1, h2⟩
        all_goals
          go_wp2_with fail
          refine (P.out _ hrd).mono ?_
          rintro e w4 ⟨rfl, k4⟩
          have R4 := HR.out.keep k4
          have c0 : w4.cell? ⟨w.heap.size + 1 + 1, 0, none⟩ = some (.slice A ps.length c) := by rw [← HPL.out]; exact blk_cell (o := 0) R4.bx rfl
          have c0' : w4.cell? ⟨w.heap.size + 2, 0, none⟩ = some (.slice A ps.length c) := c0
          have d0 := blk_cell (o := 0) R4.res rfl
          have b2 := held_step k4 b2
          have f0 : w4.frozen? ⟨w.heap.size, 0, none⟩ = false := frozen_of_row w4 _ 0 _ _ R4.res
          have HR4 := Lib.hid R4
          clear R4 k4 b0 b0' hrd
          go_wp2
          refine bodyPost_ret (v := .tuple #[.agg #[.slice A ps.length c], .bool true]) (by simp [results, Try.results21, go_sem, d0]) rfl (MadeBB.of HQ.out ⟨A, c, rfl, ?_, HR4.out.bel.setCell (Nat.le_refl _) _⟩)
          have h2 := HR4.out.own
          exact ⟨xs, HPS.out, ⟨own_mono (ownsRow_setCell_below h2.row (by simp) _) (by omega), fun x hx => own_mono (ownsRow_setCell_below (h2.kids x hx) (by simp) _) (by omega), h2.apart⟩⟩
      · have hO : rbOut s = none := by rw [HO.out]; exact if_neg hT
        have HQ := Lib.hid hO
        clear hO HO
        have hcase : (∃ y r, btVal ps = .tuple #[.string y, .bool r] ∧ (bb = true ∨ (bb = false ∧ r = false) ∨ (bb = false ∧ r = true ∧ (y.toList == s.toList) = false))) := by
          by_cases hg : BgOk ps
          · refine ⟨_, _, btVal_yes hg, ?_⟩
            cases st with
            | none => exact .inl hbb
            | some a =>
              refine .inr (.inr ⟨hbb, rfl, ?_⟩)
              rw [beq_eq_false_iff_ne]
              intro h
              rw [ByteArray.toList_eq, ByteArray.toList_eq] at h
              exact hT ⟨by simp, hg, ByteArray.ext (Array.toList_inj.1 h)⟩
          · refine ⟨_, _, btVal_no hg, ?_⟩
            cases st with
            | none => exact .inl hbb
            | some a => exact .inr (.inl ⟨hbb, rfl⟩)
        obtain ⟨y, r, hy, hcase⟩ := hcase
        rw [hy] at P
        clear hy hT hbb
        rcases hcase with rfl | ⟨rfl, rfl⟩ | ⟨rfl, rfl, hyt⟩
        all_goals
          rcases hexit with h1 | ⟨h1, h2⟩ | ⟨h1, h2, h3⟩
          all_goals first
            | (cases h3; done)
            | (try clear h3
               go_wp2_with fail
               refine (P.out _ hrd).mono ?_
               rintro e w4 ⟨rfl, k4⟩
               have R4 := HR.out.keep k4
               have d0 := blk_cell (o := 0) R4.res rfl
               have b2 := held_step k4 b2
               have f0 : w4.frozen? ⟨w.heap.size, 0, none⟩ = false := frozen_of_row w4 _ 0 _ _ R4.res
               have HB := Lib.hid R4.bel
               clear R4 k4 b0 b0' hrd
               go_wp2
               refine bodyPost_ret (v := .tuple #[.agg #[.slice none 0 0], .bool false]) (by simp [results, Try.results21, go_sem, d0]) rfl (MadeBB.no HQ.out (HB.out.setCell (Nat.le_refl _) _)))
end Go.Proofs.Ytdikkfhdogkniaa
