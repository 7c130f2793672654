/- FnParts: all parts of a drawn graph together are it; each edge is in its owner's part. No conditions. -/
import Derived.Test.YtlnphcongijfiaaDrawTg
import Derived.Test.YtlnphcongijfiaaTgI
import Derived.Test.YtlnphcongijfiaaTgS
import Derived.Test.YtlnphcongijfiaaDrawn
import Derived.Test.YtlnphcongijfiaaBig
import Derived.Test.YtlnphcongijfiaaSame
namespace Go.Proofs.Ytlnphcongijfiaa
open Go.RowKit

theorem owner_bd {v n : Int} (h1 : 1 ≤ n) (h2 : n ≤ 8) (h3 : 0 ≤ v) (h4 : v ≤ 11) : 0 ≤ owner v n ∧ owner v n < n := by
  unfold owner
  rw [if_pos ⟨h1, h2, h3, h4⟩]
  exact ⟨Int.emod_nonneg _ (by omega), Int.emod_lt_of_pos _ (by omega)⟩
theorem gd_mem {zs : List Int} {j : Nat} (h : j < zs.length) : zs.getD j 0 ∈ zs := by
  simp [List.getD, List.getElem?_eq_getElem h]
def cntE (es : List Ed) (n : Int) : Nat → Nat
  | 0 => 0
  | w + 1 => cntE es n w + (partE w n es).length
theorem cntE_cons (e : Ed) (es : List Ed) (n : Int) : ∀ k : Nat, cntE (e :: es) n k = cntE es n k + (if 0 ≤ owner e.f n ∧ owner e.f n < k then 1 else 0)
  | 0 => by
    simp only [cntE]
    rw [if_neg (by omega)]
  | k + 1 => by
    simp only [cntE]
    rw [cntE_cons e es n k]
    have h : (partE k n (e :: es)).length = (partE k n es).length + (if owner e.f n = k then 1 else 0) := by
      unfold partE
      by_cases h : owner e.f n = k
      · rw [List.filter_cons_of_pos (by simpa using h), if_pos h]; rfl
      · rw [List.filter_cons_of_neg (by simpa using h), if_neg h]; rfl
    rw [h]
    by_cases h : owner e.f n = k
    · rw [if_pos h, if_neg (by omega), if_pos (by omega)]; omega
    · rw [if_neg h]
      by_cases h2 : 0 ≤ owner e.f n ∧ owner e.f n < k
      · rw [if_pos h2, if_pos (by omega)]; omega
      · rw [if_neg h2, if_neg (by omega)]; omega
theorem ed_f {s : Int} {es : List Ed} (h : GOk s es) : ∀ e ∈ es, 0 ≤ e.f ∧ e.f ≤ 11 := by
  intro e he
  have h1 := ((gOk_iff.1 h).2.2.1 e he).1
  have h2 := h.1
  unfold vtxB at h1
  simp at h1
  omega
theorem cntE_all {n : Nat} (h1 : 1 ≤ n) (h2 : n ≤ 8) : ∀ es : List Ed, (∀ e ∈ es, 0 ≤ e.f ∧ e.f ≤ 11) → cntE es n n = es.length
  | [], _ => by
    have : ∀ w, cntE [] n w = 0 := by
      intro w
      induction w with
      | zero => rfl
      | succ w ih => simp [cntE, ih, partE]
    exact this n
  | e :: es, h => by
    rw [cntE_cons, cntE_all h1 h2 es (fun x hx => h x (List.mem_cons_of_mem _ hx))]
    have h3 := h e (List.mem_cons_self ..)
    have := owner_bd (v := e.f) (n := n) (by omega) (by omega) h3.1 h3.2
    rw [if_pos this]
    rfl
theorem cntE_le (es : List Ed) (n : Int) : ∀ k : Nat, cntE es n k ≤ es.length * k
  | 0 => by simp [cntE]
  | k + 1 => by
    have h1 := cntE_le es n k
    have h2 : (partE k n es).length ≤ es.length := List.length_filter_le _ _
    simp only [cntE]
    rw [Nat.mul_add]
    omega
/-- The parts. -/
def partsL (s : Int) (es : List Ed) (n : Int) (k : Nat) : List Gr := (List.range k).map (fun (i : Nat) => (⟨s, partE (i : Int) n es⟩ : Gr))
theorem partsL_next (s : Int) (es : List Ed) (n : Int) (k : Nat) : partsL s es n (k + 1) = partsL s es n k ++ [⟨s, partE k n es⟩] := by simp [partsL, List.range_succ]
theorem partE_ok {s : Int} {es : List Ed} {w n : Int} (h : GOk s es) : GOk s (partE w n es) := by
  rw [gOk_iff] at h ⊢
  refine ⟨h.1, Nat.le_trans (List.length_filter_le _ _) h.2.1, fun e he => h.2.2.1 e (List.mem_filter.1 he).1, List.Pairwise.filter _ h.2.2.2⟩
theorem s0_parts {s : Int} {es : List Ed} {n : Nat} (h1 : 1 ≤ n) : s0G (partsL s es n n) = s := by
  obtain ⟨m, rfl⟩ : ∃ m, n = m + 1 := ⟨n - 1, by omega⟩
  simp [s0G, partsL, List.getD]
theorem putG_parts {s : Int} {es : List Ed} {n : Nat} (h1 : 1 ≤ n) (h2 : n ≤ 8) (h : GOk s es) : putG (partsL s es n n) = es := by
  refine asc_ext (putG_asc _) (gOk_iff.1 h).2.2.2 (fun y => ?_)
  have h3 : y ∈ putG (partsL s es n n) ↔ y ∈ ([] : List Ed) ∨ ∃ g ∈ partsL s es n n, y ∈ g.e := mem_putF (partsL s es n n) []
  rw [h3]
  constructor
  · rintro (h | ⟨g, hg, hy⟩)
    · simp at h
    · unfold partsL at hg
      obtain ⟨i, _, rfl⟩ := List.mem_map.1 hg
      exact (List.mem_filter.1 hy).1
  · intro hy
    have h4 := ed_f h y hy
    have h5 := owner_bd (v := y.f) (n := n) (by omega) (by omega) h4.1 h4.2
    refine .inr ⟨⟨s, partE (owner y.f n) n es⟩, ?_, List.mem_filter.2 ⟨hy, by simp⟩⟩
    unfold partsL
    refine List.mem_map.2 ⟨(owner y.f n).toNat, List.mem_range.2 (by omega), ?_⟩
    rw [show (((owner y.f n).toNat : Nat) : Int) = owner y.f n by omega]
theorem tg_parts {s : Int} {es : List Ed} {n : Nat} (h1 : 1 ≤ n) (h2 : n ≤ 8) (h : GOk s es) : tgOk (partsL s es n n) := by
  refine ⟨by simp [partsL]; omega, fun k hk => ?_, ?_⟩
  · rw [s0_parts h1]
    have hk' : k < n := by simpa [partsL] using hk
    simp only [partsL, List.getElem_map, List.getElem_range]
    exact ⟨partE_ok h, trivial⟩
  · rw [s0_parts h1, putG_parts h1 h2 h]
    exact h

set_option maxRecDepth 100000 in
set_option maxHeartbeats 6400000 in
theorem FnParts_walk (w : World) (v0 : Value) (cs : List Int) (h0 : SlK w .u8 v0 cs) :
    Calls Try.prog 6 #[v0] w fun e w' => e = .returned (.bool true) ∧ Below w.heap.size w w' := by
  obtain ⟨i0, hi, hz0, hz1, hz2⟩ := info_parts Try.infoGraph
  obtain ⟨A, n, c, rfl, hn, hcode⟩ := code0_of h0
  clear h0
  by_cases hbig : 1048576 < n
  · have B := Lib.hid (big_any A n c w hn)
    rw [show decide (1048576 < n) = true by simp; omega] at B
    clear hcode
    go_enter Try.func6, Try.ntmps6
    go_wp2_with fail
    refine B.out.mono ?_
    rintro e w1 ⟨rfl, rfl⟩
    go_wp2
    go_ret
    exact ⟨rfl, Below.refl _ _⟩
  · have B := Lib.hid (big_any A n c w hn)
    rw [show decide (1048576 < n) = false by simp; omega] at B
    have hc := hcode (by omega)
    clear hcode
    have HC := Lib.hid hc
    clear hc
    go_enter Try.func6, Try.ntmps6
    go_wp2_with fail
    refine B.out.mono ?_
    rintro e w1 ⟨rfl, rfl⟩
    clear B
    go_wp2_with fail
    refine (DrawGraph_any A n c cs _ HC.out).mono ?_
    rintro e w1 ⟨s, A1, c1, es, rfl, hok, hl1, hl10, own1, k1⟩
    have HOK := Lib.hid hok
    clear hok
    have ka := below_alloc w1 (.cells #[.int .i64 s, .slice A1 es.length c1] 44)
    have Q1 := Lib.hid (heap_alloc_new w1 (.cells #[.int .i64 s, .slice A1 es.length c1] 44))
    have R1 := Lib.hid (RdE.below (Rd.of_own own1) ka)
    have B1 := Lib.hid (below_step k1 ka)
    have HC1 := Lib.hid (HC.out.keep B1.out)
    obtain ⟨q, hq⟩ : ∃ q, w1.heap.size = q := ⟨_, rfl⟩
    rw [hq] at Q1
    clear own1 k1 ka
    go_wp2_with fail
    refine (DrawPlaces_any A n c cs _ HC1.out).mono ?_
    clear hq
    rintro e w2 ⟨P, pc, ps, rfl, hps, hpb, hpr, k2⟩
    have Q2 := Lib.hid (blk_below k2 Q1.out)
    have R2 := Lib.hid (R1.out.below k2)
    have B2 := Lib.hid (below_step B1.out k2)
    clear Q1 R1 B1 HC1 k2
    obtain ⟨ad, rfl, hp0⟩ := hpr.at_ (show 0 < 12 by omega)
    have hp := hpb (ps.getD 0 0) (gd_mem (by omega))
    obtain ⟨p0, hp0'⟩ : ∃ p, ps.getD 0 0 = p := ⟨_, rfl⟩
    rw [hp0'] at hp hp0
    clear hp0' hpr hpb
    obtain ⟨hpa, hpb⟩ := hp
    have hadd : ad.add 0 = ad := by unfold Addr.add; simp
    rw [hadd] at hp0
    clear hadd
    obtain ⟨nn, hnn⟩ : ∃ nn : Nat, 1 + p0 % 8 = nn := ⟨(1 + p0 % 8).toNat, by omega⟩
    have hn1 : 1 ≤ nn := by omega
    have hn8 : nn ≤ 8 := by omega
    have OW := Lib.hid (fun (k : Nat) w hx => impl_PartOf_any s A1 c1 es k nn w hx (by omega) (gOk_lab HOK.out))
    unfold partL at OW
    rw [PP_yes HOK.out] at OW
    simp only [if_true] at OW
    have D0 := Lib.hid (show GsI w2.heap.size (.slice (some ⟨w2.heap.size, 0, none⟩) 0 0) [] (w2.alloc (.cells #[] 44)) from ⟨World.ownsRow_made w2 #[] 0 (Nat.le_refl _) (by unfold maxLen; omega) rfl, by simp⟩)
    go_wp2_with fail
    clear hp0 hnn
    go_loopw [5, 6, 7] (fun v cn i wr => ∃ (k : Nat) (xs : List GrX), k ≤ nn ∧ xs.length ≤ k ∧ i = .int .i64 k ∧ cn = .int .i64 (cntE es nn k : Nat) ∧ Hid (xs.map GrX.p = partsL s es nn k) ∧ GsI w2.heap.size v xs wr ∧ Below w2.heap.size w2 wr) (fun _ _ i _ => nn - (intOf i).toNat)
    case atStart => exact ⟨0, [], Nat.zero_le _, Nat.le_refl _, rfl, rfl, Lib.hid rfl, D0.out, below_alloc _ _⟩
    case round =>
      clear D0
      obtain ⟨k, xs, hk, hxl, rfl, rfl, HX, hgs, hb⟩ := hrel
      obtain ⟨wo, rfl⟩ : ∃ wo : World, wo = wr := ⟨_, rfl⟩
      have HG := Lib.hid hgs
      have HB := Lib.hid hb
      have hcl : cntE es nn k ≤ 80 := by
        have h1 := cntE_le es nn k
        have h2 : es.length * k ≤ 10 * 8 := Nat.mul_le_mul hl10 (by omega)
        omega
      by_cases hlt : k < nn
      · have b0 := held_step hb (blk_cell (o := 0) Q2.out rfl)
        have b1 := held_step hb (blk_cell (o := 1) Q2.out rfl)
        have hfl : (partE k nn es).length ≤ 10 := Nat.le_trans (List.length_filter_le _ _) hl10
        have hfo : ∀ e ∈ partE k nn es, owner e.f nn = k := fun e he => by have := (List.mem_filter.1 he).2; simpa using this
        have hnx : cntE es nn (k + 1) = cntE es nn k + (partE k nn es).length := rfl
        have hpn := partsL_next s es nn k
        have P := Lib.hid (OW.out k wo (R2.out.below hb))
        obtain ⟨fs, hfs⟩ : ∃ fs, partE k nn es = fs := ⟨_, rfl⟩
        rw [hfs] at P hfl hfo hnx hpn
        have HFO := Lib.hid hfo
        have HNX := Lib.hid hnx
        have HPN := Lib.hid hpn
        clear hgs hb hfs hfo hnx hpn
        go_wp2_with fail
        refine P.out.mono ?_
        rintro e w4 ⟨K, kc, rfl, ownK, kK⟩
        have hqr := HB.out.size
        have ka := below_alloc w4 (.cells #[.int .i64 s, .slice K fs.length kc] 44)
        have p8 := heap_alloc_new w4 (.cells #[.int .i64 s, .slice K fs.length kc] 44)
        have k5 := below_step kK ka
        have own5 := own_below (own_mono ownK hqr) ka
        obtain ⟨g8, hg8⟩ : ∃ g, w4.heap.size = g := ⟨_, rfl⟩
        obtain ⟨W5, hW5⟩ : ∃ W, w4.alloc (.cells #[.int .i64 s, .slice K fs.length kc] 44) = W := ⟨_, rfl⟩
        rw [hW5] at p8 k5 own5
        rw [hg8] at p8
        have P8 := Lib.hid p8
        have G5 := Lib.hid (HG.out.keep k5)
        have O5 := Lib.hid own5
        have B5 := Lib.hid (below_step HB.out k5)
        clear P ownK kK ka p8 k5 own5 b0 b1
        go_wp2_with fail
        clear hg8 hW5
        go_loopw [9] (fun i wq => ∃ (j : Nat), j ≤ fs.length ∧ i = .int .i64 j ∧ Below W5.heap.size W5 wq) (fun i _ => fs.length - (intOf i).toNat)
        case atStart => exact ⟨0, Nat.zero_le _, rfl, Below.refl _ _⟩
        case round =>
          obtain ⟨j, hj, rfl, hb6⟩ := hrel
          obtain ⟨wq, rfl⟩ : ∃ wq : World, wq = wr := ⟨_, rfl⟩
          have HB6 := Lib.hid hb6
          have e0 := blk_cell (o := 0) (blk_below hb6 P8.out) rfl
          have e1 := blk_cell (o := 1) (blk_below hb6 P8.out) rfl
          by_cases hjl : j < fs.length
          · obtain ⟨b2, o2, rfl, y0, y1, y2⟩ := (RdE.below (Rd.of_own O5.out) hb6).at_ hjl
            have ho := HFO.out _ (List.getElem_mem hjl)
            obtain ⟨y, hyy⟩ : ∃ y, fs[j] = y := ⟨_, rfl⟩
            rw [hyy] at y0 ho
            have T := Lib.hid (fun w => impl_OwnerOf_any y.f nn w)
            rw [ho] at T
            have hkk : ((k : Int) != (k : Int)) = false := by simp
            have j0 : (0 : Int) ≤ (j : Int) := by omega
            have j1 : (j : Int) < (fs.length : Int) := by omega
            clear hyy ho y1 y2 hb6
            go_wp2_with fail
            refine (T.out _).mono ?_
            rintro e w7 ⟨rfl, k7⟩
            have HB7 := Lib.hid (below_step HB6.out k7)
            clear k7
            go_wp2
            go_roundw
            case rel => exact ⟨j + 1, by omega, by go_num, HB7.out⟩
            case measure => simp [intOf]; omega
          · obtain rfl : j = fs.length := by omega
            have G6 := Lib.hid (G5.out.keep hb6)
            have O6 := Lib.hid (own_below O5.out hb6)
            have B6 := Lib.hid (below_step B5.out hb6)
            have hz6 := (below_step B5.out hb6).size
            clear hb6
            go_wp2_with (first
              | (at_builtin
                 refine wpList_append_any _ rfl (.tmp 59) (.tmp 61) 47 rfl w2.heap.size 44 i0 _ 2 32 Try.underlying47 hi hz0 hz1 hz2 rfl (by decide) _ xs.length (gxCells xs) rfl (own_below G6.out.row (below_alloc _ _)) (some ⟨wq.heap.size, 0, none⟩) 1 1 [.int .i64 s, .slice K fs.length kc] rfl (Rd.new2 wq _ _ _) (by intro u hu; simp at hu; rcases hu with rfl | rfl <;> rfl) (by unfold maxLen; omega) (by omega) (by simp; omega) ?_
                 intro v9 w9 hown hg hob
                 have G9 := Lib.hid (G6.out.push O6.out hown hg)
                 have B9 := Lib.hid ((below_step B6.out (below_alloc wq (.cells #[.int .i64 s, .slice K fs.length kc] 44))).grown hg (by simp; omega) (fun g hgg => (G6.out.row.lt g hgg).1))))
            go_roundw
            case rel =>
              refine ⟨k + 1, _, by omega, by simp; omega, by go_num, ?_, Lib.hid (by rw [HPN.out, List.map_append, HX.out]; rfl), G9.out, B9.out⟩
              rw [HNX.out]
              go_num
            case measure => simp [intOf]; omega
      · obtain rfl : k = nn := by omega
        have hall := cntE_all hn1 hn8 es (ed_f HOK.out)
        rw [hall]
        obtain ⟨A2, c2, rfl, _, _⟩ := own_slice hgs.row
        have hmap := HX.out
        have hxn : xs.length = k := by
          have := congrArg List.length hmap
          simpa [partsL] using this
        have hrd := hgs.rd
        have hlen : (xs.map GrX.p).length = xs.length := by simp
        have T1 := Lib.hid (by
          have := impl_Together_any A2 c2 (xs.map GrX.p) wo hrd (by rw [hlen]; omega) (fun g hg => by
            rw [hmap] at hg
            unfold partsL at hg
            obtain ⟨i, _, rfl⟩ := List.mem_map.1 hg
            exact ⟨Nat.le_trans (List.length_filter_le _ _) (by omega), fun e he => gOk_lab HOK.out e (List.mem_filter.1 he).1⟩)
          rw [hlen] at this
          exact this)
        have ht := tg_parts hn1 hn8 HOK.out
        rw [hmap] at T1
        unfold TgOut tgS tgL at T1
        rw [show tgB (partsL s es k k) = true from PP_yes ht] at T1
        simp only [if_true] at T1
        rw [s0_parts hn1, putG_parts hn1 hn8 HOK.out] at T1
        unfold MadeT at T1
        clear hall hgs hb hmap hrd hlen ht hxn HX HG
        go_wp2_with fail
        refine T1.out.mono ?_
        rintro e w3 ⟨A3, c3, rfl, own3, k3⟩
        clear T1
        have ka := below_alloc w3 (.cells #[.int .i64 s, .slice A3 es.length c3] 44)
        have p10 := heap_alloc_new w3 (.cells #[.int .i64 s, .slice A3 es.length c3] 44)
        have R10 := Lib.hid (RdE.below (Rd.of_own own3) ka)
        have B10 := Lib.hid (below_step (below_step HB.out k3) ka)
        obtain ⟨g10, hg10⟩ : ∃ g, w3.heap.size = g := ⟨_, rfl⟩
        obtain ⟨W10, hW10⟩ : ∃ W, w3.alloc (.cells #[.int .i64 s, .slice A3 es.length c3] 44) = W := ⟨_, rfl⟩
        rw [hW10] at p10 R10 B10
        rw [hg10] at p10
        have P10 := Lib.hid p10
        clear ka p10 own3 k3
        go_wp2_with fail
        refine (DrawTogether_any A n c cs W10 (HC.out.keep (below_step B2.out B10.out))).mono ?_
        clear hg10 hW10
        rintro e w5 ⟨A5, c5, gs, rfl, hrg, hgl, hgb, k5⟩
        have hsum : sumG gs ≤ 1048576 := by
          have h1 : ∀ gs : List Gr, (∀ g ∈ gs, g.e.length ≤ 11) → sumG gs ≤ 11 * gs.length := by
            intro gs
            induction gs with
            | nil => intro _; simp [sumG]
            | cons g gs ih =>
              intro h
              have h1 := ih (fun x hx => h x (List.mem_cons_of_mem _ hx))
              have h2 := h g (List.mem_cons_self ..)
              simp only [sumG, List.map_cons, List.sum_cons, List.length_cons] at h1 ⊢
              omega
          have := h1 gs (fun g hg => (hgb g hg).1)
          omega
        have hgb2 : ∀ g ∈ gs, g.e.length ≤ 1048576 ∧ ∀ e ∈ g.e, 0 ≤ e.l ∧ e.l ≤ 255 := fun g hg => ⟨by have := (hgb g hg).1; omega, (hgb g hg).2⟩
        have P5 := Lib.hid (blk_below k5 P10.out)
        have R5 := Lib.hid (R10.out.below k5)
        have B5 := Lib.hid (below_step B10.out k5)
        have HRG := Lib.hid hrg
        have T2 := Lib.hid (fun w h => impl_Together_any A5 c5 gs w h (by omega) hgb2)
        have T3 := Lib.hid (fun w h => spec_Together_any A5 c5 gs w h (by omega) hsum hgb2)
        have hLL : (tgL gs).length ≤ 1048576 := by
          unfold tgL
          split
          · have := putG_len gs; omega
          · simp
        unfold TgOut MadeT at T2 T3
        obtain ⟨L, hL⟩ : ∃ L, tgL gs = L := ⟨_, rfl⟩
        obtain ⟨sL, hsL⟩ : ∃ s, tgS gs = s := ⟨_, rfl⟩
        obtain ⟨bL, hbL⟩ : ∃ b, tgB gs = b := ⟨_, rfl⟩
        rw [hL, hsL, hbL] at T2 T3
        rw [hL] at hLL
        clear k5 hrg hgb hgb2 hsum hL hsL hbL P10 R10 B10
        go_wp2_with fail
        refine (T2.out _ HRG.out).mono ?_
        rintro e w6 ⟨A6, c6, rfl, own6, k6⟩
        have ka := below_alloc w6 (.cells #[.int .i64 sL, .slice A6 L.length c6] 44)
        have p13 := heap_alloc_new w6 (.cells #[.int .i64 sL, .slice A6 L.length c6] 44)
        have R13 := Lib.hid (RdE.below (Rd.of_own own6) ka)
        have k7 := below_step k6 ka
        obtain ⟨g13, hg13⟩ : ∃ g, w6.heap.size = g := ⟨_, rfl⟩
        obtain ⟨W13, hW13⟩ : ∃ W, w6.alloc (.cells #[.int .i64 sL, .slice A6 L.length c6] 44) = W := ⟨_, rfl⟩
        rw [hW13] at p13 R13 k7
        rw [hg13] at p13
        have P13 := Lib.hid p13
        have P7 := Lib.hid (blk_below k7 P5.out)
        have R7 := Lib.hid (R5.out.below k7)
        have B7 := Lib.hid (below_step B5.out k7)
        have HRG7 := Lib.hid (HRG.out.keep k7)
        clear ka p13 own6 k6 k7 P5 R5 B5 HRG
        go_wp2_with fail
        refine (T3.out _ HRG7.out).mono ?_
        clear hg13 hW13
        rintro e w8 ⟨A8, c8, rfl, own8, k8⟩
        have ka := below_alloc w8 (.cells #[.int .i64 sL, .slice A8 L.length c8] 44)
        have p15 := heap_alloc_new w8 (.cells #[.int .i64 sL, .slice A8 L.length c8] 44)
        have R15 := Lib.hid (RdE.below (Rd.of_own own8) ka)
        have k9 := below_step k8 ka
        obtain ⟨g15, hg15⟩ : ∃ g, w8.heap.size = g := ⟨_, rfl⟩
        obtain ⟨W15, hW15⟩ : ∃ W, w8.alloc (.cells #[.int .i64 sL, .slice A8 L.length c8] 44) = W := ⟨_, rfl⟩
        rw [hW15] at p15 R15 k9
        rw [hg15] at p15
        have P15 := Lib.hid p15
        have P9 := Lib.hid (blk_below k9 P7.out)
        have R9 := Lib.hid (R7.out.below k9)
        have B9 := Lib.hid (below_step B7.out k9)
        have P93 := Lib.hid (blk_below k9 P13.out)
        have R93 := Lib.hid (R13.out.below k9)
        have S1 := Lib.hid (sameGraph_any s A3 c3 es s A1 c1 es W15 R9.out (R2.out.below B9.out) (by omega))
        have S2 := Lib.hid (fun w h1 h2 => sameGraph_any sL A6 c6 L sL A8 c8 L w h1 h2 (by omega))
        rw [PP_yes ⟨rfl, rfl⟩] at S1 S2
        have x0 := blk_cell (o := 0) P15.out rfl
        have x1 := blk_cell (o := 1) P15.out rfl
        have y0 := blk_cell (o := 0) P9.out rfl
        have y1 := blk_cell (o := 1) P9.out rfl
        have z0 := blk_cell (o := 0) P93.out rfl
        have z1 := blk_cell (o := 1) P93.out rfl
        have u0 := blk_cell (o := 0) (blk_below B9.out Q2.out) rfl
        have u1 := blk_cell (o := 1) (blk_below B9.out Q2.out) rfl
        have n1 : ((es.length : Int) == (es.length : Int)) = true := by simp
        have n2 : (bL == bL) = true := by simp
        clear ka p15 own8 k8 k9 P7 R7 B7 HRG7
        go_wp2_with fail
        refine S1.out.mono ?_
        clear hg15 hW15 x0 x1 y0 y1 z0 z1 u0 u1
        rintro e w11 ⟨rfl, k11⟩
        have B11 := Lib.hid (below_step B9.out k11)
        have x0 := blk_cell (o := 0) (blk_below k11 P15.out) rfl
        have x1 := blk_cell (o := 1) (blk_below k11 P15.out) rfl
        have z0 := blk_cell (o := 0) (blk_below k11 P93.out) rfl
        have z1 := blk_cell (o := 1) (blk_below k11 P93.out) rfl
        have u0 := blk_cell (o := 0) (blk_below B11.out Q2.out) rfl
        have u1 := blk_cell (o := 1) (blk_below B11.out Q2.out) rfl
        have S3 := Lib.hid (S2.out w11 (R93.out.below k11) (R15.out.below k11))
        clear S1 k11
        go_wp2_with fail
        refine S3.out.mono ?_
        rintro e w12 ⟨rfl, k12⟩
        go_wp2
        go_ret
        exact ⟨rfl, below_step (below_step B2.out B11.out) k12⟩
end Go.Proofs.Ytlnphcongijfiaa
