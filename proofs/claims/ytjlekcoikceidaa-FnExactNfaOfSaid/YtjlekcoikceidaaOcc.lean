/- occurrences: how many steps a path has, counted piece by piece. Conditions: a valid path. -/
import Derived.Test.YtjlekcoikceidaaJoin
namespace Go.Proofs.Ytjlekcoikceidaa
open Go.RowKit

def ocZ (ps : List Pc) (k n : Nat) : List Nat := cntL ps k ++ List.replicate (n - k) 0
def ocR (ps : List Pc) (k v n : Nat) : List Nat := cntL ps k ++ v :: List.replicate (n - k - 1) 0
theorem ocR_zero {ps : List Pc} {k n : Nat} (h : k < n) : ocZ ps k n = ocR ps k 0 n := by
  unfold ocZ ocR
  rw [show n - k = (n - k - 1) + 1 by omega, List.replicate_succ]
  simp
theorem ocR_len {ps : List Pc} {k v n : Nat} (h : k < n) : (ocR ps k v n).length = n := by
  unfold ocR
  rw [List.length_append, cntL_len, List.length_cons, List.length_replicate]
  omega
theorem ocR_old {ps : List Pc} {k v n i : Nat} (h : i < k) : (ocR ps k v n).getD i 0 = (cntL ps k).getD i 0 := by
  unfold ocR
  have hl := cntL_len ps k
  simp only [List.getD]
  rw [List.getElem?_append_left (by omega)]
theorem ocR_at {ps : List Pc} {k v n : Nat} : (ocR ps k v n).getD k 0 = v := by
  unfold ocR
  have hl := cntL_len ps k
  simp only [List.getD]
  rw [List.getElem?_append_right (by omega), hl]
  simp
theorem ocR_set {ps : List Pc} {k v u n : Nat} : (ocR ps k v n).set k u = ocR ps k u n := by
  unfold ocR
  have hl := cntL_len ps k
  rw [List.set_append_right _ _ (by omega), hl]
  simp
theorem ocR_next {ps : List Pc} {k n : Nat} : ocR ps k (pcCnt (cntL ps k) (ps.getD k pc0)) n = ocZ ps (k + 1) n := by
  unfold ocR ocZ
  show _ = (cntL ps k ++ [_]) ++ _
  rw [List.append_assoc, show n - k - 1 = n - (k + 1) by omega]
  rfl
def ocK (cs : List Nat) (a : Nat) (ks : List Int) : Nat := ks.foldl (fun a z => min (a + cs.getD z.toNat 0) 24) a
theorem ocK_next {cs : List Nat} {a : Nat} {ks : List Int} {j : Nat} (h : j < ks.length) : ocK cs a (ks.take (j + 1)) = min (ocK cs a (ks.take j) + cs.getD (ks.getD j 0).toNat 0) 24 := by
  unfold ocK
  rw [List.take_succ_eq_append_getElem h, List.foldl_append]
  simp [List.getD, h]
theorem ocK_le (cs : List Nat) : ∀ (ks : List Int) (a : Nat), a ≤ 24 → ocK cs a ks ≤ 24
  | [], _, h => h
  | _ :: r, _, _ => ocK_le cs r _ (Nat.min_le_right _ _)
theorem pcCnt_le (cs : List Nat) (x : Pc) : pcCnt cs x ≤ 24 := ocK_le cs x.k _ (by split <;> omega)
theorem cntL_le (ps : List Pc) : ∀ k i, (cntL ps k).getD i 0 ≤ 24
  | 0, i => by simp [cntL]
  | k + 1, i => by
    by_cases h : i < k + 1
    · rw [cntL_at ps i (k + 1) h]
      exact pcCnt_le _ _
    · have hl := cntL_len ps (k + 1)
      simp [List.getD, show (cntL ps (k + 1))[i]? = none from List.getElem?_eq_none (by omega)]
theorem nI_set (xs : List Nat) (k v : Nat) : ((nI xs).map (Value.int .i64)).set k (.int .i64 (v : Int)) = (nI (xs.set k v)).map (Value.int .i64) := by simp [nI, List.map_set]
theorem nI_cell {xs : List Nat} {k : Nat} (h : k < xs.length) : ((nI xs).map (Value.int .i64))[k]? = some (.int .i64 ((xs.getD k 0 : Nat) : Int)) := by simp [nI, List.getD, h]

theorem made_ints (n : Nat) : (madeCells (Value.int .i64 0).cells n).toList = (nI (List.replicate n 0)).map (Value.int .i64) := by
  apply List.ext_getElem
  · simp [madeCells, nI, Value.cells]
  · intro i h1 h2
    simp [madeCells, nI, Value.cells, Nat.mod_one]
set_option maxRecDepth 100000 in
set_option maxHeartbeats 6400000 in
theorem occurrences_any {ps : List Pc} (hp : PaOk ps) (hkl : ∀ p ∈ ps, p.k.length ≤ 4294967296) (A : Option Addr) (c : Nat) (w : World) (hx : RdP w A ps) :
    Calls Try.prog 20 #[.agg #[.slice A ps.length c]] w fun e w' => e = .returned (.int .i64 (occ ps : Nat)) ∧ Below w.heap.size w w' := by
  obtain ⟨i0, hi, hz0, hz1, hz2⟩ := info_parts Try.infoInt
  have h60 := hp.1
  have HX := Lib.hid hx
  have HK : Hid (∀ k (h : k < ps.length), (∀ z ∈ ps[k].k, 0 ≤ z ∧ z < (k : Int)) ∧ ps[k].k.length ≤ 4294967296 ∧ ((ps[k].op = 1 ∧ ps[k].k = []) ∨ ps[k].op ≠ 1)) := Lib.hid (fun k h => ⟨(hp.2 k h).kids, hkl _ (List.getElem_mem h), by
    by_cases e : ps[k].op = 1
    · exact .inl ⟨e, List.eq_nil_of_length_eq_zero ((hp.2 k h).step e).2⟩
    · exact .inr e⟩)
  have p0 := heap_alloc_new w (.cells #[.slice A ps.length c] 34)
  have k0 := below_alloc w (.cells #[.slice A ps.length c] 34)
  obtain ⟨n, hn⟩ : ∃ n, ps.length = n := ⟨_, rfl⟩
  obtain ⟨W, hW⟩ : ∃ W, w.alloc (.cells #[.slice A ps.length c] 34) = W := ⟨_, rfl⟩
  rw [hW] at p0 k0
  have b0 : W.cell? ⟨w.heap.size, 0, none⟩ = some (.slice A n c) := by rw [← hn]; exact blk_cell (o := 0) p0 rfl
  have P0 := Lib.hid p0
  have K0 := Lib.hid k0
  have HN := Lib.hid hn
  have hwl : w.heap.size < W.heap.size := blk_lt p0
  rw [hn] at hW h60 ⊢
  have HOC : Hid (occ ps = (cntL ps n).getD (n - 1) 0) := Lib.hid (by rw [← hn]; rfl)
  clear hx hp hkl p0 k0 hn
  go_enter Try.func20, Try.ntmps20
  go_wp2_with (first
    | (at_make
       refine wpList_make_full _ rfl _ _ 47 rfl W.heap.size 3 i0 (.int .i64 0) 1 Try.underlying47 hi hz0 hz1 .i64 .i64 (n : Int) (n : Int) n rfl rfl rfl rfl (by rw [hz2]; omega) (by unfold maxLen; omega) (Nat.le_refl _) ?_
       intro w2 own2 gr2
       go_loud (have k2 := (Below.refl W.heap.size W).grown gr2 (Nat.le_refl _) (fun g hg => by cases hg)
                have own2' : w2.ownsRow W.heap.size 3 1 (.slice (some ⟨W.heap.size, 0, none⟩) n n) n ((nI (ocZ ps 0 n)).map (Value.int .i64)) := by rw [Nat.mul_one, made_ints] at own2; simpa [ocZ, cntL] using own2
                have OWN2 := Lib.hid own2'
                have K2 := Lib.hid (below_step K0.out k2)
                have P2 := Lib.hid (blk_below k2 P0.out)
                have b2 : w2.cell? ⟨w.heap.size, 0, none⟩ = some (.slice A n c) := by rw [← HN.out]; exact blk_cell (o := 0) P2.out rfl)
       clear own2 own2' gr2 k2))
  obtain ⟨q, hq⟩ : ∃ q, W.heap.size = q := ⟨_, rfl⟩
  rw [hq] at OWN2 hwl
  try rw [hq]
  clear hW b0 b2
  go_loopw [15] (fun i wr => ∃ (k : Nat), k ≤ n ∧ i = .int .i64 k ∧ wr.ownsRow q 3 1 (.slice (some ⟨q, 0, none⟩) n n) n ((nI (ocZ ps k n)).map (Value.int .i64)) ∧ Below w.heap.size w wr) (fun i _ => n - (intOf i).toNat)
  case atStart => exact ⟨0, Nat.zero_le _, by first | rfl | simp, OWN2.out, K2.out⟩
  case round =>
    clear OWN2 K2 P2
    obtain ⟨k, hk, rfl, hown, hb⟩ := hrel
    obtain ⟨wo, rfl⟩ : ∃ wo : World, wo = wr := ⟨_, rfl⟩
    by_cases hlt : k < n
    · have hkp : k < ps.length := by rw [HN.out]; exact hlt
      obtain ⟨b, o, Kk, ck, hA, c0, c1, c2, hrk⟩ := HX.out.at_ hkp
      replace c0 := held_step hb c0
      replace c1 := held_step hb c1
      replace c2 := held_step hb c2
      obtain ⟨hkid, hkn, hop⟩ := HK.out k hkp
      have HNX : Hid (ocR ps k (pcCnt (cntL ps k) ps[k]) n = ocZ ps (k + 1) n) := Lib.hid (by rw [← ocR_next, pc_at hkp])
      obtain ⟨x, hxx⟩ : ∃ x, ps[k] = x := ⟨_, rfl⟩
      rw [hxx] at c0 c1 c2 hrk hkid hkn hop HNX
      subst hA
      clear hxx hkp
      obtain ⟨op, l, ks⟩ := x
      simp only at c0 c1 c2 hrk hkid hkn hop
      rw [ocR_zero hlt] at hown
      have HO := Lib.hid hown
      have HB := Lib.hid hb
      have HRK := Lib.hid hrk
      have HKD := Lib.hid hkid
      have k0 : (0 : Int) ≤ (k : Int) := by omega
      have k1 : (k : Int) < (n : Int) := by omega
      have hbl : b < wo.heap.size := World.block_lt_of_cell? wo _ c0
      have hql : q < wo.heap.size := by have := hown.lt q rfl; omega
      have ka := below_alloc wo (.cells #[.int .i64 op, .int .u8 l, .slice Kk ks.length ck] 78)
      have pa := heap_alloc_new wo (.cells #[.int .i64 op, .int .u8 l, .slice Kk ks.length ck] 78)
      obtain ⟨g5, hg5⟩ : ∃ g, wo.heap.size = g := ⟨_, rfl⟩
      obtain ⟨W5, hW5⟩ : ∃ W, wo.alloc (.cells #[.int .i64 op, .int .u8 l, .slice Kk ks.length ck] 78) = W := ⟨_, rfl⟩
      have HO5 := Lib.hid (own_below hown ka)
      have HB5 := Lib.hid (below_step hb ka)
      rw [hW5] at HO5 HB5 pa
      rw [hg5] at pa hql
      have PA := Lib.hid pa
      have p0 := blk_cell (o := 0) pa rfl
      have p2 := blk_cell (o := 2) pa rfl
      have HQL := Lib.hid hql
      have co := HO5.out.cellAt k (by omega)
      rw [nI_cell (by rw [ocR_len hlt]; exact hlt), ocR_at] at co
      have fo := HO5.out.frozenAt k
      clear hrk hown hb hkid ka pa
      rcases hop with ⟨rfl, hks⟩ | hop
      · clear hks
        have HS := Lib.hid (HO5.out.stored k (.int .i64 1))
        go_upto_region 7 with fail
        obtain ⟨W6, hW6⟩ : ∃ W, W5.setCell ⟨q, k, none⟩ (.int .i64 1) = W := ⟨_, rfl⟩
        rw [hW6]
        have h1 := HS.out.1
        have e1 := nI_set (ocR ps k 0 n) k 1
        rw [ocR_set] at e1
        have h2 : W6.ownsRow q 3 1 (.slice (some ⟨q, 0, none⟩) n n) n ((nI (ocR ps k 1 n)).map (Value.int .i64)) := by rw [← hW6, ← e1]; simpa using h1
        have HO6 := Lib.hid h2
        have HB6 : Hid (Below w.heap.size w W6) := Lib.hid (by rw [← hW6]; exact HB5.out.setCell (by simp only; omega) _)
        have p2 : W6.cell? ⟨g5, 2, none⟩ = some (.slice Kk ks.length ck) := by rw [← hW6]; exact (World.cell?_setCell_far _ _ _ _ (by simp only; omega)).trans p2
        clear hW6 h1 h2 e1 co fo p0
        have HCS : Hid (pcCnt (cntL ps k) ⟨1, l, ks⟩ = ocK (cntL ps k) 1 ks) := Lib.hid (by unfold pcCnt ocK; simp)
        rw [HCS.out] at HNX
        clear HCS
        go_wp2
        go_loopw [29] (fun j wr => ∃ (t : Nat), t ≤ ks.length ∧ j = .int .i64 t ∧ wr.ownsRow q 3 1 (.slice (some ⟨q, 0, none⟩) n n) n ((nI (ocR ps k (ocK (cntL ps k) 1 (ks.take t)) n)).map (Value.int .i64)) ∧ Below w.heap.size w wr) (fun j _ => ks.length - (intOf j).toNat)
        case atStart => exact ⟨0, Nat.zero_le _, rfl, HO6.out, HB6.out⟩
        case round =>
          clear HO6 HB6
          obtain ⟨t, ht, rfl, hown, hb⟩ := hrel
          by_cases htl : t < ks.length
          · obtain ⟨ad, rfl, cz⟩ := RdI.at_ (HRK.out.below hb) htl
            obtain ⟨z, hz⟩ : ∃ z, ks.getD t 0 = z := ⟨_, rfl⟩
            have hzm : z ∈ ks := by rw [← hz]; simp [List.getD, htl]
            obtain ⟨j, rfl⟩ : ∃ j : Nat, z = j := ⟨z.toNat, by have := HKD.out z hzm; omega⟩
            have hjk : j < k := by have := HKD.out j hzm; omega
            rw [hz] at cz
            have hnx := ocK_next (cs := cntL ps k) (a := 1) htl
            rw [hz, Int.toNat_natCast] at hnx
            obtain ⟨u, hu⟩ : ∃ u, ocK (cntL ps k) 1 (ks.take t) = u := ⟨_, rfl⟩
            have hu24 : u ≤ 24 := by rw [← hu]; exact ocK_le _ _ _ (by omega)
            rw [hu] at hown hnx
            obtain ⟨v, hv⟩ : ∃ v, (cntL ps k).getD j 0 = v := ⟨_, rfl⟩
            have hv24 : v ≤ 24 := by rw [← hv]; exact cntL_le ps k j
            rw [hv] at hnx
            have cj := hown.cellAt j (by omega)
            rw [nI_cell (by rw [ocR_len hlt]; omega), ocR_old hjk, hv] at cj
            have ck := hown.cellAt k (by omega)
            rw [nI_cell (by rw [ocR_len hlt]; exact hlt), ocR_at] at ck
            have fk := hown.frozenAt k
            have hst := hown.stored k (.int .i64 ((min (u + v) 24 : Nat) : Int))
            rw [nI_set, ocR_set] at hst
            have HST := Lib.hid hst
            have HNY := Lib.hid hnx
            have HB7 := Lib.hid hb
            have hadd : IntKind.i64.wrap ((u : Int) + (v : Int)) = (u : Int) + (v : Int) := IntWalk.i64_in _ (by omega)
            have t0 : (0 : Int) ≤ (t : Int) := by omega
            have t1 : (t : Int) < (ks.length : Int) := by omega
            have j0 : (0 : Int) ≤ (j : Int) := by omega
            have j1 : (j : Int) < (n : Int) := by omega
            have hjne : j ≠ k := by omega
            clear hzm hz hu hv hnx hst hown hb
            go_wp2_with fail
            refine wp_region_held_drew (S := fun w' => w'.cell? ⟨q, j, none⟩ = some (.int .i64 v)) (by kernel_rfl) cj (fun hHeld => ?_)
            refine wpAnyH_take (i := 0) (oi := _) (v := ?_) rfl (by kernel_rfl) (by kernel_rfl) (by kernel_rfl) (fun _ _ _ h => h) (Or.inl ⟨by rfl, ?_⟩) (by assumption) ?_
            rotate_left 1
            · intro w hSw; (try dsimp only at hSw); go_simp; try with_reducible rfl
            simp only [Act.put, List.setIfInBounds_toArray]
            refine wpAnyH_take (i := 1) (oi := _) (v := ?_) rfl (by kernel_rfl) (by kernel_rfl) (by kernel_rfl) (fun _ _ _ h => h) (Or.inl ⟨by rfl, ?_⟩) (by assumption) ?_
            rotate_left 1
            · intro w hSw; (try dsimp only at hSw); go_simp; try with_reducible rfl
            simp only [Act.put]
            refine wpAnyH_take (i := 2) (oi := _) (v := ?_) rfl (by kernel_rfl) (by kernel_rfl) (by kernel_rfl) (fun _ _ _ h => h) (Or.inl ⟨by rfl, ?_⟩) (by assumption) ?_
            rotate_left 1
            · intro w hSw; (try dsimp only at hSw); go_simp; try with_reducible rfl
            simp only [Act.put]
            refine wpAnyH_take (i := 3) (oi := _) (v := ?_) rfl (by kernel_rfl) (by kernel_rfl) (by kernel_rfl) (fun _ _ _ h => h) (Or.inl ⟨by rfl, ?_⟩) (by assumption) ?_
            rotate_left 1
            · intro w hSw; (try dsimp only at hSw); go_simp; try with_reducible rfl
            simp only [Act.put]
            refine wpAnyH_take (i := 4) (oi := _) (v := ?_) rfl (by kernel_rfl) (by kernel_rfl) (by kernel_rfl) (fun _ _ _ h => h) (Or.inl ⟨by rfl, ?_⟩) (by assumption) ?_
            rotate_left 1
            · intro w hSw; (try dsimp only at hSw); go_simp; try with_reducible rfl
            simp only [Act.put]
            refine wpAnyH_take (i := 6) (oi := _) (v := ?_) rfl (by kernel_rfl) (by kernel_rfl) (by kernel_rfl) (fun _ _ _ h => h) (Or.inl ⟨by rfl, ?_⟩) (by assumption) ?_
            rotate_left 1
            · intro w hSw; (try dsimp only at hSw); go_simp; try with_reducible rfl
            simp only [Act.put]
            refine wpAnyH_take (i := 7) (oi := _) (v := ?_) rfl (by kernel_rfl) (by kernel_rfl) (by kernel_rfl) (fun _ _ _ h => h) (Or.inl ⟨by rfl, ?_⟩) (by assumption) ?_
            rotate_left 1
            · intro w hSw; (try dsimp only at hSw); go_simp; try with_reducible rfl
            simp only [Act.put]
            refine wpAnyH_take (i := 8) (oi := _) (v := ?_) rfl (by kernel_rfl) (by kernel_rfl) (by kernel_rfl) (fun _ _ _ h => h) (Or.inl ⟨by rfl, ?_⟩) (by assumption) ?_
            rotate_left 1
            · intro w hSw; (try dsimp only at hSw); go_simp; try with_reducible rfl
            simp only [Act.put]
            refine wpAnyH_take (i := 9) (oi := _) (v := ?_) rfl (by kernel_rfl) (by kernel_rfl) (by kernel_rfl) (fun _ _ _ h => h) (Or.inl ⟨by rfl, ?_⟩) (by assumption) ?_
            rotate_left 1
            · intro w hSw; (try dsimp only at hSw); go_simp; try with_reducible rfl
            simp only [Act.put]
            refine wpAnyH_ready (rs := [5]) (by kernel_rfl) (by simp) ?_
            refine AllReadyH.cons (o := _) rfl (fun K hK => ?_) AllReadyH.nil
            go_simp
            refine hK.out _ _ hHeld (fun hHeld => ?_)
            clear hK K
            try simp only [Act.put]
            refine wpAnyH_take (i := 10) (oi := _) (v := ?_) rfl (by kernel_rfl) (by kernel_rfl) (by kernel_rfl) (fun _ _ _ h => h) (Or.inl ⟨by rfl, ?_⟩) (by assumption) ?_
            rotate_left 1
            · intro w hSw; (try dsimp only at hSw); go_simp; try with_reducible rfl
            simp only [Act.put, List.setIfInBounds_toArray]
            refine wpAnyH_ready (rs := [11]) (by kernel_rfl) (by simp) ?_
            refine AllReadyH.cons (o := _) rfl (fun K hK => ?_) AllReadyH.nil
            go_simp
            refine hK.out _ _ hHeld (fun hHeld => ?_)
            clear hK K
            try simp only [Act.put]
            have hmin : (if (24 : Int) < (u : Int) + (v : Int) then 24 else (u : Int) + (v : Int)) = ((min (u + v) 24 : Nat) : Int) := by split <;> omega
            simp only [hmin]
            clear hmin
            refine wpAnyH_take (i := 12) (oi := _) (v := ?_) rfl (by kernel_rfl) (by kernel_rfl) (by kernel_rfl) (fun _ _ _ h => h) (Or.inl ⟨by rfl, ?_⟩) (by assumption) ?_
            rotate_left 1
            · intro w hSw; (try dsimp only at hSw); go_simp; try with_reducible rfl
            simp only [Act.put, List.setIfInBounds_toArray]
            refine wpAnyH_ready (rs := [13]) (by kernel_rfl) (by simp) ?_
            refine AllReadyH.cons (o := _) rfl (fun K hK => ?_) AllReadyH.nil
            go_simp
            refine hK.out _ _ (by first | exact (World.cell?_setCell_other _ ⟨q, k, none⟩ ⟨q, j, none⟩ _ (by first | (simp; done) | (simp; omega))).trans hHeld) (fun hHeld => ?_)
            clear hK K
            try simp only [Act.put]
            refine wpAnyH_done (by kernel_rfl) ?_ _
            clear hHeld cj ck fk cz
            go_wp2
            go_roundw
            case rel => exact ⟨t + 1, by omega, by go_num, by rw [HNY.out]; exact HST.out.1, by first | exact (HB7.out.setCell (p := ⟨q, k, none⟩) (by simp only; omega) _) | exact (HB7.out.setCell (p := ⟨q, k, none⟩) (by simp only; omega) _).drew⟩
            case measure => simp [intOf]; omega
          · obtain rfl : t = ks.length := by omega
            rw [List.take_of_length_le (Nat.le_refl _), HNX.out] at hown
            have HOX := Lib.hid hown
            have HBX := Lib.hid hb
            clear hown hb
            go_wp2
            go_roundw
            case rel => exact ⟨k + 1, by omega, by go_num, HOX.out, HBX.out⟩
            case measure => simp [intOf]; omega
      · have hopb : (op == 1) = false := by rw [beq_eq_false_iff_ne]; exact hop
        have HO6 : Hid (W5.ownsRow q 3 1 (.slice (some ⟨q, 0, none⟩) n n) n ((nI (ocR ps k (ocK (cntL ps k) 0 (ks.take 0)) n)).map (Value.int .i64))) := HO5
        have HB6 := HB5
        have HCS : Hid (pcCnt (cntL ps k) ⟨op, l, ks⟩ = ocK (cntL ps k) 0 ks) := Lib.hid (by unfold pcCnt ocK; simp [hop])
        rw [HCS.out] at HNX
        clear HCS
        go_wp2
        go_loopw [29] (fun j wr => ∃ (t : Nat), t ≤ ks.length ∧ j = .int .i64 t ∧ wr.ownsRow q 3 1 (.slice (some ⟨q, 0, none⟩) n n) n ((nI (ocR ps k (ocK (cntL ps k) 0 (ks.take t)) n)).map (Value.int .i64)) ∧ Below w.heap.size w wr) (fun j _ => ks.length - (intOf j).toNat)
        case atStart => exact ⟨0, Nat.zero_le _, rfl, HO6.out, HB6.out⟩
        case round =>
          clear HO6 HB6
          obtain ⟨t, ht, rfl, hown, hb⟩ := hrel
          by_cases htl : t < ks.length
          · obtain ⟨ad, rfl, cz⟩ := RdI.at_ (HRK.out.below hb) htl
            obtain ⟨z, hz⟩ : ∃ z, ks.getD t 0 = z := ⟨_, rfl⟩
            have hzm : z ∈ ks := by rw [← hz]; simp [List.getD, htl]
            obtain ⟨j, rfl⟩ : ∃ j : Nat, z = j := ⟨z.toNat, by have := HKD.out z hzm; omega⟩
            have hjk : j < k := by have := HKD.out j hzm; omega
            rw [hz] at cz
            have hnx := ocK_next (cs := cntL ps k) (a := 0) htl
            rw [hz, Int.toNat_natCast] at hnx
            obtain ⟨u, hu⟩ : ∃ u, ocK (cntL ps k) 0 (ks.take t) = u := ⟨_, rfl⟩
            have hu24 : u ≤ 24 := by rw [← hu]; exact ocK_le _ _ _ (by omega)
            rw [hu] at hown hnx
            obtain ⟨v, hv⟩ : ∃ v, (cntL ps k).getD j 0 = v := ⟨_, rfl⟩
            have hv24 : v ≤ 24 := by rw [← hv]; exact cntL_le ps k j
            rw [hv] at hnx
            have cj := hown.cellAt j (by omega)
            rw [nI_cell (by rw [ocR_len hlt]; omega), ocR_old hjk, hv] at cj
            have ck := hown.cellAt k (by omega)
            rw [nI_cell (by rw [ocR_len hlt]; exact hlt), ocR_at] at ck
            have fk := hown.frozenAt k
            have hst := hown.stored k (.int .i64 ((min (u + v) 24 : Nat) : Int))
            rw [nI_set, ocR_set] at hst
            have HST := Lib.hid hst
            have HNY := Lib.hid hnx
            have HB7 := Lib.hid hb
            have hadd : IntKind.i64.wrap ((u : Int) + (v : Int)) = (u : Int) + (v : Int) := IntWalk.i64_in _ (by omega)
            have t0 : (0 : Int) ≤ (t : Int) := by omega
            have t1 : (t : Int) < (ks.length : Int) := by omega
            have j0 : (0 : Int) ≤ (j : Int) := by omega
            have j1 : (j : Int) < (n : Int) := by omega
            have hjne : j ≠ k := by omega
            clear hzm hz hu hv hnx hst hown hb
            go_wp2_with fail
            refine wp_region_held_drew (S := fun w' => w'.cell? ⟨q, j, none⟩ = some (.int .i64 v)) (by kernel_rfl) cj (fun hHeld => ?_)
            refine wpAnyH_take (i := 0) (oi := _) (v := ?_) rfl (by kernel_rfl) (by kernel_rfl) (by kernel_rfl) (fun _ _ _ h => h) (Or.inl ⟨by rfl, ?_⟩) (by assumption) ?_
            rotate_left 1
            · intro w hSw; (try dsimp only at hSw); go_simp; try with_reducible rfl
            simp only [Act.put, List.setIfInBounds_toArray]
            refine wpAnyH_take (i := 1) (oi := _) (v := ?_) rfl (by kernel_rfl) (by kernel_rfl) (by kernel_rfl) (fun _ _ _ h => h) (Or.inl ⟨by rfl, ?_⟩) (by assumption) ?_
            rotate_left 1
            · intro w hSw; (try dsimp only at hSw); go_simp; try with_reducible rfl
            simp only [Act.put]
            refine wpAnyH_take (i := 2) (oi := _) (v := ?_) rfl (by kernel_rfl) (by kernel_rfl) (by kernel_rfl) (fun _ _ _ h => h) (Or.inl ⟨by rfl, ?_⟩) (by assumption) ?_
            rotate_left 1
            · intro w hSw; (try dsimp only at hSw); go_simp; try with_reducible rfl
            simp only [Act.put]
            refine wpAnyH_take (i := 3) (oi := _) (v := ?_) rfl (by kernel_rfl) (by kernel_rfl) (by kernel_rfl) (fun _ _ _ h => h) (Or.inl ⟨by rfl, ?_⟩) (by assumption) ?_
            rotate_left 1
            · intro w hSw; (try dsimp only at hSw); go_simp; try with_reducible rfl
            simp only [Act.put]
            refine wpAnyH_take (i := 4) (oi := _) (v := ?_) rfl (by kernel_rfl) (by kernel_rfl) (by kernel_rfl) (fun _ _ _ h => h) (Or.inl ⟨by rfl, ?_⟩) (by assumption) ?_
            rotate_left 1
            · intro w hSw; (try dsimp only at hSw); go_simp; try with_reducible rfl
            simp only [Act.put]
            refine wpAnyH_take (i := 6) (oi := _) (v := ?_) rfl (by kernel_rfl) (by kernel_rfl) (by kernel_rfl) (fun _ _ _ h => h) (Or.inl ⟨by rfl, ?_⟩) (by assumption) ?_
            rotate_left 1
            · intro w hSw; (try dsimp only at hSw); go_simp; try with_reducible rfl
            simp only [Act.put]
            refine wpAnyH_take (i := 7) (oi := _) (v := ?_) rfl (by kernel_rfl) (by kernel_rfl) (by kernel_rfl) (fun _ _ _ h => h) (Or.inl ⟨by rfl, ?_⟩) (by assumption) ?_
            rotate_left 1
            · intro w hSw; (try dsimp only at hSw); go_simp; try with_reducible rfl
            simp only [Act.put]
            refine wpAnyH_take (i := 8) (oi := _) (v := ?_) rfl (by kernel_rfl) (by kernel_rfl) (by kernel_rfl) (fun _ _ _ h => h) (Or.inl ⟨by rfl, ?_⟩) (by assumption) ?_
            rotate_left 1
            · intro w hSw; (try dsimp only at hSw); go_simp; try with_reducible rfl
            simp only [Act.put]
            refine wpAnyH_take (i := 9) (oi := _) (v := ?_) rfl (by kernel_rfl) (by kernel_rfl) (by kernel_rfl) (fun _ _ _ h => h) (Or.inl ⟨by rfl, ?_⟩) (by assumption) ?_
            rotate_left 1
            · intro w hSw; (try dsimp only at hSw); go_simp; try with_reducible rfl
            simp only [Act.put]
            refine wpAnyH_ready (rs := [5]) (by kernel_rfl) (by simp) ?_
            refine AllReadyH.cons (o := _) rfl (fun K hK => ?_) AllReadyH.nil
            go_simp
            refine hK.out _ _ hHeld (fun hHeld => ?_)
            clear hK K
            try simp only [Act.put]
            refine wpAnyH_take (i := 10) (oi := _) (v := ?_) rfl (by kernel_rfl) (by kernel_rfl) (by kernel_rfl) (fun _ _ _ h => h) (Or.inl ⟨by rfl, ?_⟩) (by assumption) ?_
            rotate_left 1
            · intro w hSw; (try dsimp only at hSw); go_simp; try with_reducible rfl
            simp only [Act.put, List.setIfInBounds_toArray]
            refine wpAnyH_ready (rs := [11]) (by kernel_rfl) (by simp) ?_
            refine AllReadyH.cons (o := _) rfl (fun K hK => ?_) AllReadyH.nil
            go_simp
            refine hK.out _ _ hHeld (fun hHeld => ?_)
            clear hK K
            try simp only [Act.put]
            have hmin : (if (24 : Int) < (u : Int) + (v : Int) then 24 else (u : Int) + (v : Int)) = ((min (u + v) 24 : Nat) : Int) := by split <;> omega
            simp only [hmin]
            clear hmin
            refine wpAnyH_take (i := 12) (oi := _) (v := ?_) rfl (by kernel_rfl) (by kernel_rfl) (by kernel_rfl) (fun _ _ _ h => h) (Or.inl ⟨by rfl, ?_⟩) (by assumption) ?_
            rotate_left 1
            · intro w hSw; (try dsimp only at hSw); go_simp; try with_reducible rfl
            simp only [Act.put, List.setIfInBounds_toArray]
            refine wpAnyH_ready (rs := [13]) (by kernel_rfl) (by simp) ?_
            refine AllReadyH.cons (o := _) rfl (fun K hK => ?_) AllReadyH.nil
            go_simp
            refine hK.out _ _ (by first | exact (World.cell?_setCell_other _ ⟨q, k, none⟩ ⟨q, j, none⟩ _ (by first | (simp; done) | (simp; omega))).trans hHeld) (fun hHeld => ?_)
            clear hK K
            try simp only [Act.put]
            refine wpAnyH_done (by kernel_rfl) ?_ _
            clear hHeld cj ck fk cz
            go_wp2
            go_roundw
            case rel => exact ⟨t + 1, by omega, by go_num, by rw [HNY.out]; exact HST.out.1, by first | exact (HB7.out.setCell (p := ⟨q, k, none⟩) (by simp only; omega) _) | exact (HB7.out.setCell (p := ⟨q, k, none⟩) (by simp only; omega) _).drew⟩
            case measure => simp [intOf]; omega
          · obtain rfl : t = ks.length := by omega
            rw [List.take_of_length_le (Nat.le_refl _), HNX.out] at hown
            have HOX := Lib.hid hown
            have HBX := Lib.hid hb
            clear hown hb
            go_wp2
            go_roundw
            case rel => exact ⟨k + 1, by omega, by go_num, HOX.out, HBX.out⟩
            case measure => simp [intOf]; omega
    · obtain rfl : k = n := by omega
      have hwr : IntKind.i64.wrap ((k : Int) - 1) = ((k - 1 : Nat) : Int) := (IntWalk.i64_in _ (by omega)).trans (by omega)
      have co := hown.cellAt (k - 1) (by omega)
      have hz : ocZ ps k k = cntL ps k := by unfold ocZ; simp
      rw [hz, nI_cell (by rw [cntL_len]; omega), ← HOC.out] at co
      obtain ⟨m, hm⟩ : ∃ m, k - 1 = m := ⟨_, rfl⟩
      rw [hm] at hwr co
      have k0 : (0 : Int) ≤ (m : Int) := by omega
      have k1 : (m : Int) < (k : Int) := by omega
      have HB := Lib.hid hb
      clear hown hb hz hm
      go_wp2
      go_ret
      exact ⟨rfl, HB.out⟩
end Go.Proofs.Ytjlekcoikceidaa
