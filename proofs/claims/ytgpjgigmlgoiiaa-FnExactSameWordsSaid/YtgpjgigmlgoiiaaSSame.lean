/- spec.SameWords. Conditions: the labels' range and the sizes of the lengths. -/
import Derived.Test.YtgpjgigmlgoiiaaGoes
import Derived.Test.YtgpjgigmlgoiiaaStrS
import Derived.Deep.RegionHeld3
namespace Go.Proofs.Ytgpjgigmlgoiiaa
open Go.RowKit

theorem run_str1 {P : Program} (src dst e : TypeId) (hs : P.underlying src = some (.slice e)) (he : P.underlying e = some (.int .u8)) (hd : P.underlying dst = some .string) (l : Int) (g : Nat) (w : World)
    (h : w.cell? ⟨g, 0, none⟩ = some (.int .u8 l)) : (convert src dst (.slice (some ⟨g, 0, none⟩) 1 1)).run P w = .ok (.string (strOfNums [l])) w :=
  run_convert_bytes_arg (xs := [l]) w src e hs he g 0 1 1 rfl (fun i hi => by
    obtain rfl : i = 0 := by omega
    simpa using h) dst hd
def wd (G : ByteArray → Bool) (n : Nat) : List ByteArray := if n ≤ 6 then wordsFrom G emptyW n else []
def nxW (G : ByteArray → Bool) (n : Nat) (u : ByteArray) : List ByteArray := if n < 6 then nextW G u else []
theorem wd_next (G : ByteArray → Bool) {n : Nat} (h : n ≤ 6) : wd G (n + 1) = (wd G n).flatMap (nxW G n) := by
  unfold wd nxW
  rw [if_pos h]
  by_cases h6 : n < 6
  · rw [if_pos (by omega), wordsFrom]
    simp [h6]
  · rw [if_neg (by omega)]
    simp [h6]
def pwW (G : ByteArray → Bool) (u : ByteArray) (j : Nat) : List ByteArray := ((List.range j).map fun i : Nat => u ++ strOfNums [97 + (i : Int)]).filter G
theorem pwW_next (G : ByteArray → Bool) (u : ByteArray) (j : Nat) : pwW G u (j + 1) = pwW G u j ++ (if G (u ++ strOfNums [97 + (j : Int)]) = true then [u ++ strOfNums [97 + (j : Int)]] else []) := by
  unfold pwW
  rw [List.range_succ, List.map_append, List.filter_append]
  simp [List.filter_cons]
theorem pwW_all (G : ByteArray → Bool) (u : ByteArray) : pwW G u 4 = nextW G u := rfl
theorem pwW_len (G : ByteArray → Bool) (u : ByteArray) (j : Nat) : (pwW G u j).length ≤ j := by
  unfold pwW
  have := List.length_filter_le G ((List.range j).map fun i : Nat => u ++ strOfNums [97 + (i : Int)])
  simp at this ⊢
  exact this
theorem nxW_len (G : ByteArray → Bool) (n : Nat) (u : ByteArray) : (nxW G n u).length ≤ 4 := by
  unfold nxW
  split
  · rw [← pwW_all]; exact pwW_len G u 4
  · simp
theorem flat_len {f : ByteArray → List ByteArray} (h : ∀ u, (f u).length ≤ 4) : ∀ ws : List ByteArray, (ws.flatMap f).length ≤ 4 * ws.length
  | [] => by simp
  | u :: ws => by
    have := flat_len h ws
    have := h u
    simp only [List.flatMap_cons, List.length_append, List.length_cons]
    omega
theorem wd_len (G : ByteArray → Bool) : ∀ n, n ≤ 7 → (wd G n).length ≤ 4 ^ n
  | 0, _ => by simp [wd, wordsFrom]
  | n + 1, h => by
    rw [wd_next G (by omega), Nat.pow_succ]
    have := flat_len (nxW_len G n) (wd G n)
    have := wd_len G n (by omega)
    omega
theorem wd_size (G : ByteArray → Bool) {n : Nat} {u : ByteArray} (h : u ∈ wd G n) : u.size = n ∧ n ≤ 6 := by
  unfold wd at h
  split at h
  · have := wordsFrom_size n h
    have e0 : emptyW.size = 0 := rfl
    omega
  · cases h
theorem flat_next {f : ByteArray → List ByteArray} {ws : List ByteArray} {k : Nat} (h : k < ws.length) : (ws.take (k + 1)).flatMap f = (ws.take k).flatMap f ++ f ws[k] := by
  rw [take_nextS h, List.flatMap_append]
  simp

/-- The words of the next round, in the making. -/
structure NextI (w1 : World) (v : Value) (vs : List ByteArray) (wr : World) : Prop where
  own : wr.ownsRow w1.heap.size 9 1 v vs.length (vs.map Value.string)
  bel : Below w1.heap.size w1 wr
theorem NextI.keep {w1 wr w' : World} {v : Value} {vs : List ByteArray} (h : NextI w1 v vs wr) (hb : Below wr.heap.size wr w') : NextI w1 v vs w' := ⟨own_below h.own hb, below_step h.bel hb⟩
theorem NextI.push {w1 wr w3 : World} {v v1 : Value} {vs : List ByteArray} {u : ByteArray} {o : Obj} (h : NextI w1 v vs wr) (ho : w3.ownsRow w1.heap.size 9 1 v1 (vs.length + 1) (vs.map Value.string ++ [.string u])) (hg : (wr.alloc o).grownBy w3 v.ownBlock) : NextI w1 v1 (vs ++ [u]) w3 := by
  refine ⟨?_, (h.bel.alloc h.bel.size o).grown hg (by have := h.bel.size; simp; omega) (fun g hg => (h.own.lt g hg).1)⟩
  simpa using ho
def HasBox (w : World) (p q : Obj) (wr : World) : Prop := wr.heap[w.heap.size]? = some p ∧ wr.heap[w.heap.size + 1]? = some q ∧ Below w.heap.size w wr
theorem HasBox.bel {w wr : World} {p q : Obj} (h : HasBox w p q wr) : Below w.heap.size w wr := h.2.2
theorem HasBox.keep {w wr w' : World} {p q : Obj} (h : HasBox w p q wr) (hb : Below wr.heap.size wr w') : HasBox w p q w' := ⟨blk_below hb h.1, blk_below hb h.2.1, below_step h.2.2 hb⟩

/-- What a region leaves: a bool. -/
def CutB (wy : World) (r : Bool) (v : Value) (wz : World) : Prop := v = .bool r ∧ Below wy.heap.size wy wz
/-- A word one letter longer. -/
def CutS (wy : World) (u : ByteArray) (v : Value) (wz : World) : Prop := v = .string u ∧ Below wy.heap.size wy wz

set_option maxRecDepth 100000 in
set_option maxHeartbeats 6400000 in
theorem spec_SameWords_any (s t : Int) (A B A' B' : Option Addr) (c d c' d' : Nat) (es es' : List Ed) (bs bs' : List Bool) (w : World) (hn : es.length ≤ 4294967296) (hn' : es'.length ≤ 4294967296) (hm : bs.length ≤ 4294967296) (hm' : bs'.length ≤ 4294967296)
    (hl : ∀ e ∈ es, 0 ≤ e.l ∧ e.l ≤ 255) (hl' : ∀ e ∈ es', 0 ≤ e.l ∧ e.l ≤ 255) (ra : RdE w A es) (rb : RdB w B bs.length bs) (ra' : RdE w A' es') (rb' : RdB w B' bs'.length bs') :
    Calls Try.prog 16 #[.agg #[.int .i64 s, .slice A es.length c, .slice B bs.length d], .agg #[.int .i64 t, .slice A' es'.length c', .slice B' bs'.length d']] w fun e w' => e = .returned (.bool (swB s t es es' bs bs')) ∧ Below w.heap.size w w' := by
  obtain ⟨i0, hi, hz0, hz1, hz2⟩ := info_parts Try.infoStr
  obtain ⟨W, hW, p1, p2, bW, hs⟩ := new_two w (.cells #[.int .i64 s, .slice A es.length c, .slice B bs.length d] 29) (.cells #[.int .i64 t, .slice A' es'.length c', .slice B' bs'.length d'] 29)
  have HBW := Lib.hid (show HasBox w (.cells #[.int .i64 s, .slice A es.length c, .slice B bs.length d] 29) (.cells #[.int .i64 t, .slice A' es'.length c', .slice B' bs'.length d'] 29) W from ⟨p1, p2, bW⟩)
  have RA := Lib.hid ra
  have RB := Lib.hid rb
  have RA' := Lib.hid ra'
  have RB' := Lib.hid rb'
  have C1 := Lib.hid (fun w hx => spec_NfaOk_any s A B c d es bs w hx hn hm hl)
  have C2 := Lib.hid (fun w hx => spec_NfaOk_any t A' B' c' d' es' bs' w hx hn' hm' hl')
  have HL := Lib.hid hl
  have HL' := Lib.hid hl'
  have b0 := blk_cell (o := 0) p1 rfl
  have b1 := blk_cell (o := 1) p1 rfl
  have b2 := blk_cell (o := 2) p1 rfl
  clear hs ra rb ra' rb' p1 p2 bW hl hl'
  by_cases h1 : NOk s es bs
  · rw [PP_yes h1] at C1
    by_cases h2 : NOk t es' bs'
    · rw [PP_yes h2] at C2
      have IFF := Lib.hid (swB_iff h1 h2)
      obtain ⟨G, hG⟩ : ∃ G, gAB s t es es' = G := ⟨_, rfl⟩
      have HG := Lib.hid (fun u => congrFun hG u)
      rw [hG] at IFF
      have s1 : s = (bs.length : Int) := h1.2.1.symm
      have s2 : t = (bs'.length : Int) := h2.2.1.symm
      have m1 : bs.length ≤ 24 := by have := h1.1; omega
      have m2 : bs'.length ≤ 24 := by have := h2.1; omega
      have T1 := Lib.hid (fun w h3 h4 u h5 => spec_NfaTakes_any s A B c d es bs u w h3 h4 hn hm HL.out h5)
      have T2 := Lib.hid (fun w h3 h4 u h5 => spec_NfaTakes_any t A' B' c' d' es' bs' u w h3 h4 hn' hm' HL'.out h5)
      have G1 := Lib.hid (fun w h3 u h5 => by have := l07Goes_any A B c d bs.length es u w h3 hn m1 HL.out h5; rw [← s1] at this; exact this)
      have G2 := Lib.hid (fun w h3 u h5 => by have := l07Goes_any A' B' c' d' bs'.length es' u w h3 hn' m2 HL'.out h5; rw [← s2] at this; exact this)
      obtain ⟨R, hR⟩ : ∃ R, swB s t es es' bs bs' = R := ⟨_, rfl⟩
      rw [hR] at IFF ⊢
      clear hR h1 h2 hG s1 s2
      go_enter Try.func16, Try.ntmps16
      go_wp2_with fail
      clear hW b0 b1 b2
      refine (C1.out _ (RdE.below RA.out HBW.out.2.2)).mono ?_
      rintro e w2 ⟨rfl, k2⟩
      have H2 := Lib.hid (HBW.out.keep k2)
      clear k2
      have b0 := blk_cell (o := 0) H2.out.2.1 rfl
      have b1 := blk_cell (o := 1) H2.out.2.1 rfl
      have b2 := blk_cell (o := 2) H2.out.2.1 rfl
      go_wp2_with fail
      refine (C2.out _ (RdE.below RA'.out H2.out.2.2)).mono ?_
      rintro e w3 ⟨rfl, k3⟩
      have H3 := Lib.hid (H2.out.keep k3)
      have R0 := Lib.hid (show RdS (w3.alloc (.cells #[.string ⟨#[]⟩] 9)) (some ⟨w3.heap.size, 0, none⟩) (wd G 0) from Rd.new w3 #[.string ⟨#[]⟩] 9 rfl rfl)
      have H4 := Lib.hid (H3.out.keep (below_alloc w3 (.cells #[.string ⟨#[]⟩] 9)))
      clear k3 b0 b1 b2
      go_wp2_with fail
      go_loopw [5, 6] (fun v i wr => ∃ (n m : Nat) (ws : List ByteArray) (E : Option Addr) (ec : Nat), n ≤ 7 ∧ i = .int .i64 n ∧ v = .slice E m ec ∧ Hid (ws.length = m) ∧ m ≤ 16384 ∧ Hid (ws = wd G n) ∧ Hid (RdS wr E ws) ∧ Hid (∀ j, j < n → ∀ u, u ∈ wd G j → tkB s es bs u = tkB t es' bs' u) ∧
          HasBox w (.cells #[.int .i64 s, .slice A es.length c, .slice B bs.length d] 29) (.cells #[.int .i64 t, .slice A' es'.length c', .slice B' bs'.length d'] 29) wr) (fun _ i _ => 7 - (intOf i).toNat)
      case atStart => exact ⟨0, 1, wd G 0, some ⟨w3.heap.size, 0, none⟩, 1, by omega, rfl, rfl, Lib.hid rfl, by omega, Lib.hid rfl, R0, Lib.hid (fun j hj => absurd hj (by omega)), H4.out⟩
      case round =>
        clear R0 H4
        obtain ⟨n, m, ws, E, ec, hn7, rfl, rfl, HM, hm2, HW, HR, HT, hbox⟩ := hrel
        obtain ⟨wo, rfl⟩ : ∃ wo : World, wo = wr := ⟨_, rfl⟩
        have HBX := Lib.hid hbox
        clear hbox
        by_cases hn6 : n ≤ 6
        · have n0 : (0 : Int) ≤ (n : Int) := by omega
          have hd6 : decide ((n : Int) ≤ 6) = true := by rw [decide_eq_true_eq]; omega
          have N0 := Lib.hid (show NextI wo (.slice (some ⟨wo.heap.size, 0, none⟩) 0 0) [] (wo.alloc (.cells #[] 9)) from ⟨World.ownsRow_made wo #[] 0 (Nat.le_refl _) (by unfold maxLen; omega) rfl, below_alloc _ _⟩)
          go_wp2_with fail
          go_loopw [7, 8] (fun v i wx => ∃ (k : Nat) (vs : List ByteArray), k ≤ m ∧ i = .int .i64 k ∧ Hid (vs = (ws.take k).flatMap (nxW G n)) ∧ NextI wo v vs wx ∧ Hid (∀ j, j < k → ∀ u, ws[j]? = some u → tkB s es bs u = tkB t es' bs' u)) (fun _ i _ => m - (intOf i).toNat)
          case atStart => exact ⟨0, [], by omega, rfl, Lib.hid rfl, N0.out, Lib.hid (fun j hj => absurd hj (by omega))⟩
          case round =>
            clear N0
            obtain ⟨k, vs, hk, rfl, HV, hni, HK⟩ := hrel
            obtain ⟨wx, rfl⟩ : ∃ wx : World, wx = wr := ⟨_, rfl⟩
            have NI := Lib.hid hni
            have BX := Lib.hid (HBX.out.keep hni.bel)
            have RX := Lib.hid (HR.out.below hni.bel)
            clear hni
            by_cases hlt : k < m
            · have hkl : k < ws.length := by rw [HM.out]; exact hlt
              obtain ⟨ad, hE, hcu⟩ := RX.out.at_ hkl
              obtain ⟨u, hu⟩ : ∃ u, ws[k] = u := ⟨_, rfl⟩
              rw [hu] at hcu
              have HU := Lib.hid (show ws[k]? = some u by rw [List.getElem?_eq_getElem hkl, hu])
              have hum : u ∈ wd G n := by rw [← HW.out, ← hu]; exact List.getElem_mem hkl
              have huz := wd_size G hum
              have HUM := Lib.hid hum
              have hus : u.size ≤ maxLen := by unfold maxLen; omega
              have hfn := flat_next (f := nxW G n) hkl
              rw [hu, ← HV.out] at hfn
              have HFN := Lib.hid hfn
              have hvl := flat_len (nxW_len G n) (ws.take k)
              rw [← HV.out, List.length_take, HM.out] at hvl
              have hvl2 : vs.length ≤ 65536 := by omega
              have huz2 : u.size ≤ 6 := by omega
              subst hE
              have k0 : (0 : Int) ≤ (k : Int) := by omega
              have k1 : (k : Int) < (m : Int) := by omega
              have V1 := Lib.hid (fun p : BelowOf wx => T1.out p.w (RdE.below (RdE.below RA.out BX.out.2.2) p.h) (RdB.below (RdB.below RB.out BX.out.2.2) p.h) u hus)
              have V2 := Lib.hid (fun w4 (h : Below wx.heap.size wx w4) (p : BelowOf w4) => T2.out p.w (RdE.below (RdE.below RA'.out (BX.out.keep h).2.2) p.h) (RdB.below (RdB.below RB'.out (BX.out.keep h).2.2) p.h) u hus)
              have HTK := Lib.hid (Eq.refl (tkB s es bs u, tkB t es' bs' u))
              obtain ⟨r1, hr1⟩ : ∃ r, tkB s es bs u = r := ⟨_, rfl⟩
              obtain ⟨r2, hr2⟩ : ∃ r, tkB t es' bs' u = r := ⟨_, rfl⟩
              rw [hr1] at V1
              rw [hr2] at V2
              have HR1 := Lib.hid hr1
              have HR2 := Lib.hid hr2
              clear hr1 hr2 HTK hfn hvl huz hum hu hus hkl
              have b0 := fun p => cellQ (blk_cell (o := 0) BX.out.1 rfl) p
              have b1 := fun p => cellQ (blk_cell (o := 1) BX.out.1 rfl) p
              have b2 := fun p => cellQ (blk_cell (o := 2) BX.out.1 rfl) p
              have cu := fun p => cellQ hcu p
              go_wp2_with fail
              refine wp_region_below (by kernel_rfl) (by kernel_rfl) ?_
              repeat (first
                | go_big_quiet_step ((go_at_call 56; exact Calls.below_of (V1.out _)))
                | quiet_step ((go_at_call 56; exact Calls.below_of (V1.out _))))
              refine wpQuiet_nil ?_
              intro w4 hw'
              obtain ⟨⟨w4, kk⟩, hw''⟩ := hw'
              subst hw''
              have BX4 := Lib.hid (BX.out.keep kk)
              have hcu4 := held_step kk hcu
              have NI4 := Lib.hid (NI.out.keep kk)
              have V2' := Lib.hid (V2.out w4 kk)
              clear kk b0 b1 b2 cu hcu V1 V2 BX NI RX
              have b0 := fun p => cellQ (blk_cell (o := 0) BX4.out.2.1 rfl) p
              have b1 := fun p => cellQ (blk_cell (o := 1) BX4.out.2.1 rfl) p
              have b2 := fun p => cellQ (blk_cell (o := 2) BX4.out.2.1 rfl) p
              have cu := fun p => cellQ hcu4 p
              go_wp2_with fail
              refine wp_region_below (by kernel_rfl) (by kernel_rfl) ?_
              repeat (first
                | go_big_quiet_step ((go_at_call 56; exact Calls.below_of (V2'.out _)))
                | quiet_step ((go_at_call 56; exact Calls.below_of (V2'.out _))))
              refine wpQuiet_nil ?_
              intro w5 hw'
              obtain ⟨⟨w5, kk⟩, hw''⟩ := hw'
              subst hw''
              have BX5 := Lib.hid (BX4.out.keep kk)
              have hcu5 := held_step kk hcu4
              have NI5 := Lib.hid (NI4.out.keep kk)
              have KN5 := Lib.hid NI5.out
              clear kk b0 b1 b2 cu hcu4 V2' BX4 NI4
              obtain ⟨ne, hne⟩ : ∃ ne, (!(r1 == r2)) = ne := ⟨_, rfl⟩
              rw [hne]
              have HNE := Lib.hid hne
              clear hne
              cases ne
              · go_wp2_with fail
                go_loopw [7, 10] (fun v a wy => ∃ (j : Nat) (x : Int) (vs' : List ByteArray), j ≤ 4 ∧ 97 ≤ x ∧ x ≤ 101 ∧ a = .int .u8 x ∧ Hid (x = 97 + (j : Int)) ∧ Hid (n < 6 ∨ j = 0) ∧ Hid (vs' = vs ++ pwW G u j) ∧ NextI wo v vs' wy) (fun _ a _ => (101 - intOf a).toNat)
                case atStart => exact ⟨0, 97, vs, by omega, by omega, by omega, rfl, Lib.hid rfl, Lib.hid (.inr rfl), Lib.hid (by simp [pwW]), KN5.out⟩
                case round =>
                  clear NI5 KN5 hcu5 BX5
                  obtain ⟨j, x, vs', hj, hx0, hx1, rfl, HXJ, HJ, HVS, hni⟩ := hrel
                  obtain ⟨wy, rfl⟩ : ∃ wy : World, wy = wr := ⟨_, rfl⟩
                  by_cases hgo : j < 4 ∧ n < 6
                  · obtain ⟨hj4, hn5⟩ := hgo
                    have hx100 : x ≤ 100 := by have := HXJ.out; omega
                    have hcu := (HR.out.below hni.bel).cell HU.out
                    have NY := Lib.hid hni
                    have BY := Lib.hid (HBX.out.keep hni.bel)
                    have hpl := pwW_len G u j
                    have hvl3 : vs'.length ≤ 65540 := by rw [HVS.out, List.length_append]; omega
                    have hpn := pwW_next G u j
                    rw [show (97 + (j : Int)) = x from HXJ.out.symm] at hpn
                    obtain ⟨u', hu'⟩ : ∃ u', u ++ strOfNums [x] = u' := ⟨_, rfl⟩
                    have hus' : u'.size ≤ maxLen := by rw [← hu', app_size]; unfold maxLen; omega
                    have hct := fun (w : World) => run_cats (P := Try.prog) u (strOfNums [x]) (by rw [strOfNums_size]; simp; omega) w
                    rw [hu'] at hpn hct
                    have kc := fun (g : Nat) (w : World) h => run_str1 (P := Try.prog) 89 9 5 Try.underlying89 Try.underlying5 Try.underlying9 x g w h
                    have HPN := Lib.hid hpn
                    have HGU := Lib.hid (HG.out u')
                    have MK := Lib.hid (fun (w' : World) (hB : Below wy.heap.size wy w') => (⟨held_step hB hcu, hB⟩ : w'.cell? (ad.add k) = some (.string u) ∧ Below wy.heap.size wy w'))
                    have B0 : Below wy.heap.size wy wy.drew := (Below.refl _ _).drew
                    clear hpn hpl hni hu'
                    have kc1 := kc wy.heap.size (wy.drew.alloc (.cells #[.int .u8 x] 5)) (cell_one_new wy.drew 5 (.int .u8 x) 0 _ rfl)
                    have kc2 := kc wy.heap.size (wy.alloc (.cells #[.int .u8 x] 5)).drew (cell_one_new wy.drew 5 (.int .u8 x) 0 _ rfl)
                    have hcu2 := fun o => held_step (below_alloc wy o) hcu
                    clear kc MK B0
                    go_upto_region 17 with fail
                    go_cut [11] (fun v wz => CutS wy u' v wz)
                    case first =>
                      go_region_law (fail)
                      all_goals
                        go_wp2_with fail
                        go_meet
                        exact ⟨rfl, (below_alloc _ _).drew⟩
                    case rest =>
                      clear kc1 kc2 hcu2 hct hcu
                      obtain ⟨rfl, hbz⟩ := hcut
                      obtain ⟨wz, rfl⟩ : ∃ wz : World, wz = wc := ⟨_, rfl⟩
                      have NZ := Lib.hid (NY.out.keep hbz)
                      have BZ := Lib.hid (BY.out.keep hbz)
                      clear NY BY hbz
                      have b0 := blk_cell (o := 0) BZ.out.1 rfl
                      have b1 := blk_cell (o := 1) BZ.out.1 rfl
                      have b2 := blk_cell (o := 2) BZ.out.1 rfl
                      have E1 := Lib.hid (G1.out wz (RdE.below RA.out BZ.out.2.2) u' hus')
                      obtain ⟨r3, hr3⟩ : ∃ r, gB s es u' = r := ⟨_, rfl⟩
                      rw [hr3] at E1
                      have HR3 := Lib.hid hr3
                      clear hr3
                      go_wp2_with fail
                      refine E1.out.mono ?_
                      rintro e w6 ⟨rfl, k6⟩
                      have NZ6 := Lib.hid (NZ.out.keep k6)
                      have BZ6 := Lib.hid (BZ.out.keep k6)
                      clear k6 NZ BZ b0 b1 b2 E1
                      have PUSH := Lib.hid (fun (wq : World) (NQ : NextI wo u7 vs' wq) => (⟨NQ.own, by have := NQ.bel.size; simp; omega⟩ : wq.ownsRow wo.heap.size 9 1 u7 vs'.length (vs'.map Value.string) ∧ wo.heap.size ≤ (wq.alloc (.cells #[.string u'] 9)).heap.size))
                      cases r3
                      · have b0 := blk_cell (o := 0) BZ6.out.2.1 rfl
                        have b1 := blk_cell (o := 1) BZ6.out.2.1 rfl
                        have b2 := blk_cell (o := 2) BZ6.out.2.1 rfl
                        have E2 := Lib.hid (G2.out w6 (RdE.below RA'.out BZ6.out.2.2) u' hus')
                        obtain ⟨r4, hr4⟩ : ∃ r, gB t es' u' = r := ⟨_, rfl⟩
                        rw [hr4] at E2
                        have HR4 := Lib.hid hr4
                        clear hr4
                        go_wp2_with fail
                        refine E2.out.mono ?_
                        rintro e w7 ⟨rfl, k7⟩
                        have NZ7 := Lib.hid (NZ6.out.keep k7)
                        clear k7 NZ6 BZ6 b0 b1 b2 E2
                        cases r4
                        · go_wp2
                          go_roundw
                          case rel => exact ⟨j + 1, x + 1, vs', by omega, by omega, by omega, rfl, Lib.hid (by have := HXJ.out; omega), Lib.hid (.inl hn5), Lib.hid (by rw [HPN.out, ← HGU.out]; unfold gAB; rw [HR3.out, HR4.out]; simp [HVS.out]), NZ7.out⟩
                          case measure => simp [intOf]; omega
                        · go_wp2_with (first
                            | (at_builtin
                               refine wpList_append_any _ rfl (.tmp 70) (.tmp 72) 87 rfl wo.heap.size 9 i0 (.string ⟨#[]⟩) 1 16 Try.underlying87 hi hz0 hz1 hz2 rfl (by decide) u7 vs'.length _ rfl (own_below (PUSH.out w7 NZ7.out).1 (below_alloc _ _)) (some ⟨w7.heap.size, 0, none⟩) 1 1 [.string u'] rfl (Rd.new w7 #[.string u'] 9 rfl rfl) (by intro v hv; simp at hv; subst hv; rfl) (by unfold maxLen; omega) (by omega) (PUSH.out w7 NZ7.out).2 ?_
                               intro v1 w8 hown8 hg8 _
                               have NZ8 := Lib.hid (NZ7.out.push hown8 hg8)))
                          go_roundw
                          case rel => exact ⟨j + 1, x + 1, vs' ++ [u'], by omega, by omega, by omega, rfl, Lib.hid (by have := HXJ.out; omega), Lib.hid (.inl hn5), Lib.hid (by rw [HPN.out, ← HGU.out]; unfold gAB; rw [HR3.out, HR4.out]; simp [HVS.out]), NZ8.out⟩
                          case measure => simp [intOf]; omega
                      · go_wp2_with (first
                          | (at_builtin
                             refine wpList_append_any _ rfl (.tmp 70) (.tmp 72) 87 rfl wo.heap.size 9 i0 (.string ⟨#[]⟩) 1 16 Try.underlying87 hi hz0 hz1 hz2 rfl (by decide) u7 vs'.length _ rfl (own_below (PUSH.out w6 NZ6.out).1 (below_alloc _ _)) (some ⟨w6.heap.size, 0, none⟩) 1 1 [.string u'] rfl (Rd.new w6 #[.string u'] 9 rfl rfl) (by intro v hv; simp at hv; subst hv; rfl) (by unfold maxLen; omega) (by omega) (PUSH.out w6 NZ6.out).2 ?_
                             intro v1 w8 hown8 hg8 _
                             have NZ8 := Lib.hid (NZ6.out.push hown8 hg8)))
                        go_roundw
                        case rel => exact ⟨j + 1, x + 1, vs' ++ [u'], by omega, by omega, by omega, rfl, Lib.hid (by have := HXJ.out; omega), Lib.hid (.inl hn5), Lib.hid (by rw [HPN.out, ← HGU.out]; unfold gAB; rw [HR3.out]; simp [HVS.out]), NZ8.out⟩
                        case measure => simp [intOf]; omega
                  · have hex : vs' = vs ++ nxW G n u := by
                      rw [HVS.out]
                      unfold nxW
                      by_cases h6 : n < 6
                      · rw [if_pos h6, show j = 4 by omega, pwW_all]
                      · have := HJ.out
                        rw [if_neg h6, show j = 0 by omega]
                        simp [pwW]
                    have HEX := Lib.hid hex
                    have NY := Lib.hid hni
                    have hor : (x ≤ 100 ∧ 6 ≤ n) ∨ 101 ≤ x := by have := HXJ.out; omega
                    clear hex hni hgo
                    rcases hor with ⟨hx, hn66⟩ | hx
                    all_goals
                      go_wp2
                      go_roundw
                      case rel =>
                        have hk1 : vs' = (ws.take (k + 1)).flatMap (nxW G n) := by rw [HEX.out, HFN.out]
                        have hk2 : ∀ i, i < k + 1 → ∀ v, ws[i]? = some v → tkB s es bs v = tkB t es' bs' v := fun i hi v hv => by
                          by_cases e : i = k
                          · subst e
                            rw [HU.out] at hv
                            cases hv
                            rw [HR1.out, HR2.out]
                            simpa using HNE.out
                          · exact HK.out i (by omega) v hv
                        first
                          | exact ⟨k + 1, vs', by omega, by go_num, Lib.hid hk1, NY.out, Lib.hid hk2⟩
                          | exact ⟨_, _, _, ⟨k + 1, by omega, rfl, vs', Lib.hid hk1, NY.out, Lib.hid hk2⟩, rfl, rfl, by go_num⟩
                      case measure => simp [intOf]; omega
              · go_wp2
                go_ret
                refine ⟨ret_b2 ?_, BX5.out.2.2⟩
                cases R
                · rfl
                · exfalso
                  have h := IFF.out.1 rfl n hn6 u (by have := HUM.out; unfold wd at this; rwa [if_pos hn6] at this)
                  rw [HR1.out, HR2.out] at h
                  have h2 := HNE.out
                  rw [h] at h2
                  simp at h2
            · obtain rfl : k = m := by omega
              obtain ⟨A1, c1, rfl, _, _⟩ := own_slice NI.out.own
              have hvw : vs = wd G (n + 1) := by rw [HV.out, List.take_of_length_le (by rw [HM.out]; exact Nat.le_refl _), wd_next G hn6, HW.out]
              have hl4 := wd_len G (n + 1) (by omega)
              rw [← hvw] at hl4
              have hl5 : vs.length ≤ 16384 := Nat.le_trans hl4 (Nat.le_trans (Nat.pow_le_pow_right (by omega) (show n + 1 ≤ 7 by omega)) (by decide))
              have HVW := Lib.hid hvw
              have RN := Lib.hid (RdS.own NI.out.own)
              clear hvw hl4 RX
              obtain ⟨l, hl⟩ : ∃ l, vs.length = l := ⟨_, rfl⟩
              rw [hl] at hl5 ⊢
              have HLL := Lib.hid hl
              clear hl
              go_wp2
              go_roundw
              case rel => exact ⟨n + 1, l, vs, A1, c1, by omega, by go_num, rfl, HLL, hl5, HVW, RN, Lib.hid (fun i hi v hv => by
                by_cases e : i = n
                · subst e
                  rw [← HW.out] at hv
                  obtain ⟨q, hq, rfl⟩ := List.getElem_of_mem hv
                  exact HK.out q (by rw [← HM.out]; exact hq) _ (List.getElem?_eq_getElem hq)
                · exact HT.out i (by omega) v hv), BX.out⟩
              case measure => simp [intOf]; omega
        · obtain rfl : n = 7 := by omega
          go_wp2
          go_ret
          exact ⟨ret_b2 ((IFF.out.2 fun n hn v hv => HT.out n (by omega) v (by unfold wd; rw [if_pos hn]; exact hv)).symm), HBX.out.2.2⟩
    · rw [PP_no h2] at C2
      rw [swB_no fun h => h2 h.2]
      clear h1 h2
      go_enter Try.func16, Try.ntmps16
      go_wp2_with fail
      clear hW b0 b1 b2
      refine (C1.out _ (RdE.below RA.out HBW.out.2.2)).mono ?_
      rintro e w2 ⟨rfl, k2⟩
      have H2 := Lib.hid (HBW.out.keep k2)
      clear k2
      have b0 := blk_cell (o := 0) H2.out.2.1 rfl
      have b1 := blk_cell (o := 1) H2.out.2.1 rfl
      have b2 := blk_cell (o := 2) H2.out.2.1 rfl
      go_wp2_with fail
      refine (C2.out _ (RdE.below RA'.out H2.out.2.2)).mono ?_
      rintro e w3 ⟨rfl, k3⟩
      go_wp2
      go_ret
      exact ⟨rfl, below_step H2.out.2.2 k3⟩
  · rw [PP_no h1] at C1
    rw [swB_no fun h => h1 h.1]
    clear h1
    go_enter Try.func16, Try.ntmps16
    go_wp2_with fail
    clear hW b0 b1 b2
    refine (C1.out _ (RdE.below RA.out HBW.out.2.2)).mono ?_
    rintro e w2 ⟨rfl, k2⟩
    go_wp2
    go_ret
    exact ⟨rfl, below_step HBW.out.2.2 k2⟩
end Go.Proofs.Ytgpjgigmlgoiiaa
