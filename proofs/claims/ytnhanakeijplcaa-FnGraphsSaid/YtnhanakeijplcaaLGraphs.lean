/- FnGraphs: an edge added to a drawn graph. No conditions. -/
import Derived.Test.YtnhanakeijplcaaGAdd
import Derived.Test.YtnhanakeijplcaaNextOf
import Derived.Test.YtnhanakeijplcaaSame
import Derived.Test.YtnhanakeijplcaaInL
import Derived.Test.YtnhanakeijplcaaDrawH
import Derived.Test.YtnhanakeijplcaaDrawn
import Derived.Test.YtnhanakeijplcaaBig
import Derived.Deep.DeepCutAuto
namespace Go.Proofs.Ytnhanakeijplcaa
open Go.RowKit

theorem next_mem {es : List Ed} {e : Ed} : e.t ∈ setI (nextRaw e.f e.l es) ↔ e ∈ es := by
  rw [setI_mem]
  unfold nextRaw
  constructor
  · intro h
    obtain ⟨y, hy, ht⟩ := List.mem_map.1 h
    obtain ⟨hy, hp⟩ := List.mem_filter.1 hy
    simp only [nextP, Bool.and_eq_true, beq_iff_eq] at hp
    have : y = e := by
      obtain ⟨yf, yl, yt⟩ := y
      obtain ⟨ef, el, et⟩ := e
      simp_all
    exact this ▸ hy
  · intro h
    exact List.mem_map.2 ⟨e, List.mem_filter.2 ⟨h, by simp [nextP]⟩, rfl⟩
theorem gaB_put {s : Int} {es : List Ed} {x : Ed} (h : GOk s es) (hx : EdOk s x) (hl : es.length < 40) : gaB s es x = true := PP_yes ⟨h, gOk_put h hx hl⟩
theorem ga_twice {s : Int} {es : List Ed} {x : Ed} (h : GOk s es) (hx : x ∈ es) : gaL s es x = es ∧ gaB s es x = true := by
  have hp := put_same (gOk_iff.1 h).2.2.2 hx
  have hb : gaB s es x = true := PP_yes ⟨h, by rw [hp]; exact h⟩
  refine ⟨?_, hb⟩
  unfold gaL
  rw [hb, hp]
  rfl
theorem put_len_in {es : List Ed} {x : Ed} (ha : Asc es) (h : x ∈ es) : (putE es x).length = es.length := by rw [put_same ha h]
theorem filt_three (x : Ed) : ∀ es : List Ed, x ∉ es → (es.filter fun y => edLess y x).length + (es.filter fun y => edLess x y).length = es.length
  | [], _ => rfl
  | y :: es, h => by
    have ih := filt_three x es (fun h2 => h (List.mem_cons_of_mem _ h2))
    have hne : y ≠ x := fun e => h (e ▸ List.mem_cons_self)
    rcases edLess_tri y x with h2 | h2 | h2
    · have h3 := edLess_asymm h2
      simp only [List.filter_cons, h2, h3, if_true, List.length_cons]
      simp
      omega
    · exact absurd h2 hne
    · have h3 := edLess_asymm h2
      simp only [List.filter_cons, h2, h3, if_true, List.length_cons]
      simp
      omega
theorem put_len_out {es : List Ed} {x : Ed} (h : x ∉ es) : (putE es x).length = es.length + 1 := by
  have := filt_three x es h
  unfold putE
  simp only [List.length_append, List.length_cons, List.length_nil]
  omega

theorem below_eq {w w' : World} (h : w = w') : Below w.heap.size w w' := h ▸ Below.refl _ _
/-- An edge of the call's own, in a variable of the call's own. -/
def OutE (w : World) (x : Ed) (p : Value) (w' : World) : Prop := ∃ g, p = .pointer (some ⟨g, 0, none⟩) ∧ w'.heap[g]? = some (.cells #[.int .i64 x.f, .int .u8 x.l, .int .i64 x.t] 31 (0, 0)) ∧ Below w.heap.size w w'

set_option maxRecDepth 100000 in
set_option linter.unusedSimpArgs false in
set_option maxHeartbeats 6400000 in
theorem FnGraphs_walk (w : World) (v0 : Value) (cs : List Int) (h0 : SlK w .u8 v0 cs) :
    Calls Try.prog 3 #[v0] w fun e w' => e = .returned (.bool true) ∧ Below w.heap.size w w' := by
  obtain ⟨A, n, c, rfl, hn, hcode⟩ := code0_of h0
  clear h0
  by_cases hbig : 1048576 < n
  · have B := Lib.hid (big_any A n c w hn)
    rw [show decide (1048576 < n) = true by simp; omega] at B
    clear hcode
    go_enter Try.func3, Try.ntmps3
    go_wp2_with fail
    refine B.out.mono ?_
    rintro e w1 ⟨rfl, rfl⟩
    go_wp2
    go_ret
    exact ⟨rfl, Below.refl _ _⟩
  · have B := Lib.hid (big_any A n c w hn)
    rw [show decide (1048576 < n) = false by simp; omega] at B
    have hc := hcode (by omega)
    clear hcode
    have HC := Lib.hid hc
    clear hc
    go_enter Try.func3, Try.ntmps3
    go_wp2_with fail
    refine B.out.mono ?_
    rintro e w1 ⟨rfl, rfl⟩
    clear B
    go_wp2_with fail
    refine (DrawGraph_any A n c cs _ HC.out).mono ?_
    rintro e w1 ⟨s, A1, c1, es, rfl, hok, hl1, hl10, own1, k1⟩
    have HOK := Lib.hid hok
    have HL := Lib.hid (gOk_lab hok)
    obtain ⟨hs1, hs12⟩ := (gOk_iff.1 hok).1
    have ka := below_alloc w1 (.cells #[.int .i64 s, .slice A1 es.length c1] 26)
    have Q1 := Lib.hid (heap_alloc_new w1 (.cells #[.int .i64 s, .slice A1 es.length c1] 26))
    have R1 := Lib.hid (Rd.below (Rd.of_own own1) ka)
    have B1 := Lib.hid (below_step k1 ka)
    obtain ⟨q1, hq1⟩ : ∃ q, w1.heap.size = q := ⟨_, rfl⟩
    rw [hq1] at Q1
    obtain ⟨W1, hW1⟩ : ∃ W, w1.alloc (.cells #[.int .i64 s, .slice A1 es.length c1] 26) = W := ⟨_, rfl⟩
    rw [hW1] at Q1 R1 B1
    clear own1 k1 ka hok
    go_wp2_with fail
    refine (DrawPlaces_any A n c cs W1 (HC.out.keep B1.out)).mono ?_
    clear hW1 hq1
    rintro e w2 ⟨AP, cP, ps, rfl, hpl, hpb, rp, k2⟩
    have hp0 := hpb (ps.getD 0 0) (by rw [List.getD_eq_getElem?_getD, List.getElem?_eq_getElem (by omega)]; exact List.getElem_mem _)
    have hp1 := hpb (ps.getD 1 0) (by rw [List.getD_eq_getElem?_getD, List.getElem?_eq_getElem (by omega)]; exact List.getElem_mem _)
    have hp2 := hpb (ps.getD 2 0) (by rw [List.getD_eq_getElem?_getD, List.getElem?_eq_getElem (by omega)]; exact List.getElem_mem _)
    obtain ⟨ad, rfl, c0⟩ := rp.at_ (show 0 < 12 by omega)
    obtain ⟨_, e1, c1'⟩ := rp.at_ (show 1 < 12 by omega)
    injection e1 with e1
    subst e1
    obtain ⟨_, e2, c2'⟩ := rp.at_ (show 2 < 12 by omega)
    injection e2 with e2
    subst e2
    obtain ⟨p0, hp0'⟩ : ∃ p, ps.getD 0 0 = p := ⟨_, rfl⟩
    obtain ⟨p1, hp1'⟩ : ∃ p, ps.getD 1 0 = p := ⟨_, rfl⟩
    obtain ⟨p2, hp2'⟩ : ∃ p, ps.getD 2 0 = p := ⟨_, rfl⟩
    rw [hp0'] at hp0 c0
    rw [hp1'] at hp1 c1'
    rw [hp2'] at hp2 c2'
    have B2 := Lib.hid (below_step B1.out k2)
    have Q2 := Lib.hid (blk_below k2 Q1.out)
    have R2 := Lib.hid (RdE.below R1.out k2)
    clear Q1 R1 B1 hp0' hp1' hp2' hpb rp hpl k2
    obtain ⟨p00, p01⟩ := hp0
    obtain ⟨p10, p11⟩ := hp1
    obtain ⟨p20, p21⟩ := hp2
    obtain ⟨x, hx⟩ : ∃ x : Ed, (⟨p0 % s, 97 + p1 % 4, p2 % s⟩ : Ed) = x := ⟨_, rfl⟩
    have HXE := Lib.hid hx
    have hxo : EdOk s x := by
      subst hx
      have h1 := Int.emod_nonneg p0 (show s ≠ 0 by omega)
      have h2 := Int.emod_lt_of_pos p0 (show 0 < s by omega)
      have h3 := Int.emod_nonneg p2 (show s ≠ 0 by omega)
      have h4 := Int.emod_lt_of_pos p2 (show 0 < s by omega)
      refine ⟨?_, ?_, ?_⟩ <;> simp only [vtxB, lblB, Bool.and_eq_true, decide_eq_true_eq] <;> omega
    clear hx
    have c00 : w2.cell? ad = some (.int .i64 p0) := by simpa [Addr.add] using c0
    have c1' : w2.cell? ⟨ad.block, ad.off + 1, none⟩ = some (.int .i64 p1) := by simpa [Addr.add] using c1'
    have c2' : w2.cell? ⟨ad.block, ad.off + 2, none⟩ = some (.int .i64 p2) := by simpa [Addr.add] using c2'
    go_upto_region 5 with fail
    go_cut [5] (fun s5 wx => OutE w2 x s5 wx)
    case first =>
      have g0 := blk_cell (o := 0) Q2.out rfl
      have MK := Lib.hid (fun (w' : World) (hB : Below w2.heap.size w2 w') => (⟨held_step hB c00, held_step hB c1', held_step hB c2', held_step hB g0, hB⟩ : w'.cell? ad = some (.int .i64 p0) ∧ w'.cell? ⟨ad.block, ad.off + 1, none⟩ = some (.int .i64 p1) ∧ w'.cell? ⟨ad.block, ad.off + 2, none⟩ = some (.int .i64 p2) ∧ w'.cell? ⟨q1, 0, none⟩ = some (.int .i64 s) ∧ Below w2.heap.size w2 w'))
      have B0 : Below w2.heap.size w2 w2.drew := (Below.refl _ _).drew
      have m0 : p0.tmod s = p0 % s := Int.tmod_eq_emod_of_nonneg p00
      have m1 : p1.tmod 4 = p1 % 4 := Int.tmod_eq_emod_of_nonneg p10
      have m2 : p2.tmod s = p2 % s := Int.tmod_eq_emod_of_nonneg p20
      have hs0 : (s == 0) = false := by simp; omega
      have hs0' : ¬ (s = 0) := by omega
      have m3 : IntKind.i64.wrap (97 + p1 % 4) = 97 + p1 % 4 := IntWalk.i64_in _ (by omega)
      have m4 : IntKind.u8.wrap (97 + p1 % 4) = 97 + p1 % 4 := by rw [IntKind.wrap_u8]; omega
      go_region_held3 (fun w' => w'.cell? ad = some (.int .i64 p0) ∧ w'.cell? ⟨ad.block, ad.off + 1, none⟩ = some (.int .i64 p1) ∧ w'.cell? ⟨ad.block, ad.off + 2, none⟩ = some (.int .i64 p2) ∧ w'.cell? ⟨q1, 0, none⟩ = some (.int .i64 s) ∧ Below w2.heap.size w2 w')
        ((first
          | (exact MK.out _ B0)
          | assumption
          | (exact MK.out _ (below_step B0 (below_alloc _ _)))
          | (go_split_ands; exact MK.out _ (Below.setCell (Below.setCell (Below.setCell (by assumption) (by first | (simp; done) | (simp; omega)) _) (by first | (simp; done) | (simp; omega)) _) (by first | (simp; done) | (simp; omega)) _))))
        (fail)
      all_goals
        go_wp2_with fail
        go_meet
        refine ⟨_, rfl, ?_, (below_alloc _ _).drew⟩
        rw [← HXE.out]
        exact new_blkd _ _ _
    case rest =>
      obtain ⟨q5, rfl, Q5', k3⟩ := hcut
      obtain ⟨w3, hw3⟩ : ∃ w, wc = w := ⟨_, rfl⟩
      rw [hw3] at Q5' k3 ⊢
      clear hw3
      have Q5 := Lib.hid Q5'
      have B3 := Lib.hid (below_step B2.out k3)
      have Q1 := Lib.hid (blk_below k3 Q2.out)
      have R1 := Lib.hid (RdE.below R2.out k3)
      clear Q2 R2 B2 HXE Q5' k3 c0 c00 c1' c2' p00 p01 p10 p11 p20 p21
      have hLok := gOk_put HOK.out hxo (by omega)
      have HLP := Lib.hid (gaL_put HOK.out hxo (by omega))
      have HBP := Lib.hid (gaB_put HOK.out hxo (by omega))
      have HTW := Lib.hid (ga_twice hLok (mem_put.2 (.inl rfl)))
      have hLl : (putE es x).length ≤ 11 := by have := (put_len es x).1; omega
      have HIN := Lib.hid (fun e (he : e ∈ es) => (mem_put (x := x)).2 (.inr he))
      have HXI := Lib.hid ((mem_put (es := es) (x := x) (y := x)).2 (.inl rfl))
      have HSZ := Lib.hid (fun h : x ∈ es => put_len_in (gOk_iff.1 HOK.out).2.2.2 h)
      have HSO := Lib.hid (fun h : x ∉ es => put_len_out h)
      have hxl : 0 ≤ x.l ∧ x.l ≤ 255 := by
        have := hxo.2.2
        simp only [lblB, Bool.and_eq_true, decide_eq_true_eq] at this
        omega
      have HLOK := Lib.hid hLok
      have HLL := Lib.hid (gOk_lab hLok)
      have G1 := Lib.hid (fun w hx => impl_GraphAdd_any s A1 c1 es x w hx (by omega) HL.out hxl)
      unfold MadeT at G1
      rw [HLP.out, HBP.out] at G1
      have G2 := Lib.hid (fun A c w hx => impl_GraphAdd_any s A c (putE es x) x w hx (by omega) HLL.out hxl)
      unfold MadeT at G2
      rw [HTW.out.1, HTW.out.2] at G2
      obtain ⟨L, hL⟩ : ∃ L, putE es x = L := ⟨_, rfl⟩
      rw [hL] at G1 G2 hLl HIN HXI HLOK HLL HSZ HSO
      clear hL HLP HBP HTW hLok
      have g0 := blk_cell (o := 0) Q1.out rfl
      have g1 := blk_cell (o := 1) Q1.out rfl
      have e0 := blk_cell (o := 0) Q5.out rfl
      have e1 := blk_cell (o := 1) Q5.out rfl
      have e2 := blk_cell (o := 2) Q5.out rfl
      go_wp2_with fail
      refine (G1.out w3 R1.out).mono ?_
      rintro e w4 ⟨A6, c6, rfl, own6, k4⟩
      have ka := below_alloc w4 (.cells #[.int .i64 s, .slice A6 L.length c6] 26)
      have kk := below_step k4 ka
      have Q6 := Lib.hid (heap_alloc_new w4 (.cells #[.int .i64 s, .slice A6 L.length c6] 26))
      have R6 := Lib.hid (Rd.below (Rd.of_own own6) ka)
      have Q1 := Lib.hid (blk_below kk Q1.out)
      have Q5 := Lib.hid (blk_below kk Q5.out)
      have R1 := Lib.hid (RdE.below R1.out kk)
      have B5 := Lib.hid (below_step B3.out kk)
      obtain ⟨q6, hq6⟩ : ∃ q, w4.heap.size = q := ⟨_, rfl⟩
      obtain ⟨W5, hW5⟩ : ∃ W, w4.alloc (.cells #[.int .i64 s, .slice A6 L.length c6] 26) = W := ⟨_, rfl⟩
      rw [hq6, hW5] at Q6
      rw [hW5] at R6 Q1 Q5 R1 B5
      clear own6 k4 ka kk B3 g0 g1 e0 e1 e2
      have n0 := blk_cell (o := 0) Q6.out rfl
      have n1 := blk_cell (o := 1) Q6.out rfl
      have e0 := blk_cell (o := 0) Q5.out rfl
      have e1 := blk_cell (o := 1) Q5.out rfl
      have e2 := blk_cell (o := 2) Q5.out rfl
      go_wp2_with fail
      clear hW5 hq6
      refine (G2.out A6 c6 W5 R6.out).mono ?_
      rintro e w6 ⟨A8, c8, rfl, own8, k6⟩
      have ka := below_alloc w6 (.cells #[.int .i64 s, .slice A8 L.length c8] 26)
      have kk := below_step k6 ka
      have Q8 := Lib.hid (heap_alloc_new w6 (.cells #[.int .i64 s, .slice A8 L.length c8] 26))
      have R8 := Lib.hid (Rd.below (Rd.of_own own8) ka)
      have Q1 := Lib.hid (blk_below kk Q1.out)
      have Q5 := Lib.hid (blk_below kk Q5.out)
      have Q6 := Lib.hid (blk_below kk Q6.out)
      have R1 := Lib.hid (RdE.below R1.out kk)
      have R6 := Lib.hid (RdE.below R6.out kk)
      have B7 := Lib.hid (below_step B5.out kk)
      obtain ⟨q8, hq8⟩ : ∃ q, w6.heap.size = q := ⟨_, rfl⟩
      obtain ⟨W7, hW7⟩ : ∃ W, w6.alloc (.cells #[.int .i64 s, .slice A8 L.length c8] 26) = W := ⟨_, rfl⟩
      rw [hq8, hW7] at Q8
      rw [hW7] at R6 Q1 Q5 Q6 R1 R8 B7
      clear own8 k6 ka kk B5 n0 n1 e0 e1 e2 G1 G2
      go_wp2_with fail
      clear hW7 hq8
      have hB8 : Below W7.heap.size W7 W7.drew := (Below.refl _ _).drew
      have MK := Lib.hid (fun (w' : World) (hB : Below W7.heap.size W7 w') => (⟨blk_cell (o := 0) (blk_below hB Q1.out) rfl, blk_cell (o := 1) (blk_below hB Q1.out) rfl, blk_cell (o := 0) (blk_below hB Q5.out) rfl, blk_cell (o := 1) (blk_below hB Q5.out) rfl, blk_cell (o := 2) (blk_below hB Q5.out) rfl, hB⟩ : w'.cell? ⟨q1, 0, none⟩ = some (.int .i64 s) ∧ w'.cell? ⟨q1, 1, none⟩ = some (.slice A1 es.length c1) ∧ w'.cell? ⟨q5, 0, none⟩ = some (.int .i64 x.f) ∧ w'.cell? ⟨q5, 1, none⟩ = some (.int .u8 x.l) ∧ w'.cell? ⟨q5, 2, none⟩ = some (.int .i64 x.t) ∧ Below W7.heap.size W7 w'))
      have CN := Lib.hid (fun w hx => spec_NextOf_any s A1 c1 es x.f x.l w hx (by omega))
      have hzl : (setI (nextRaw x.f x.l es)).length ≤ 10 := by have := setI_len (nextRaw x.f x.l es); have := nextRaw_len x.f x.l es; omega
      have HMEM := Lib.hid (next_mem (es := es) (e := x))
      obtain ⟨zs, hzs⟩ : ∃ zs, setI (nextRaw x.f x.l es) = zs := ⟨_, rfl⟩
      unfold MadeI at CN
      rw [hzs] at CN hzl HMEM
      have CI := Lib.hid (fun A c w hx => laws_in_any A zs.length c zs x.t w hx (by omega))
      have HHD : Hid (decide (x.t ∈ zs) = true ↔ x ∈ es) := by
        show _ ↔ _
        rw [decide_eq_true_eq]
        exact HMEM.out
      obtain ⟨hd, hhd⟩ : ∃ b, decide (x.t ∈ zs) = b := ⟨_, rfl⟩
      rw [hhd] at CI HHD
      clear hzs hhd HMEM
      go_region_held3 (fun w' => w'.cell? ⟨q1, 0, none⟩ = some (.int .i64 s) ∧ w'.cell? ⟨q1, 1, none⟩ = some (.slice A1 es.length c1) ∧ w'.cell? ⟨q5, 0, none⟩ = some (.int .i64 x.f) ∧ w'.cell? ⟨q5, 1, none⟩ = some (.int .u8 x.l) ∧ w'.cell? ⟨q5, 2, none⟩ = some (.int .i64 x.t) ∧ Below W7.heap.size W7 w')
        ((first
          | (exact MK.out _ hB8)
          | assumption
          | (go_split_ands; exact MK.out _ (below_step (by assumption) hbk))))
        ((first
          | (go_at_call 20; go_split_ands; refine (CN.out _ (RdE.below R1.out (by assumption))).mono ?_; rintro e w' ⟨A5, c5, rfl, o5, hbk⟩; have r5 : RdI w' A5 zs.length zs := Rd.of_own o5; clear o5)
          | (go_at_call 19; go_split_ands; refine (CI.out _ _ _ (by assumption)).mono ?_; rintro e w' ⟨rfl, hw'⟩; have hbk := below_eq hw'; clear hw')))
      go_split_ands
      have U : Below W7.heap.size W7 w' := by assumption
      have Q1 := Lib.hid (blk_below U Q1.out)
      have Q5 := Lib.hid (blk_below U Q5.out)
      have Q6 := Lib.hid (blk_below U Q6.out)
      have Q8 := Lib.hid (blk_below U Q8.out)
      have R1 := Lib.hid (RdE.below R1.out U)
      have R6 := Lib.hid (RdE.below R6.out U)
      have R8 := Lib.hid (Rd.below R8.out U)
      have B8 := Lib.hid (below_step B7.out U)
      clear MK hB8 CN CI B7 U
      obtain ⟨W8, hW8⟩ : ∃ W, w' = W := ⟨_, rfl⟩
      rw [hW8] at Q1 Q5 Q6 Q8 R1 R6 R8 B8 ⊢
      go_wp2_with fail
      --LOOP
      go_loopw [11] (fun i wr => ∃ (k : Nat), k ≤ es.length ∧ i = .int .i64 k ∧ Below W8.heap.size W8 wr) (fun i _ => es.length - (intOf i).toNat)
      case atStart => exact ⟨0, Nat.zero_le _, rfl, Below.refl _ _⟩
      case round =>
        obtain ⟨k, hk, rfl, hb⟩ := hrel
        have b0 := held_step hb (blk_cell (o := 0) Q1.out rfl)
        have b1 := held_step hb (blk_cell (o := 1) Q1.out rfl)
        have d0 := held_step hb (blk_cell (o := 0) Q6.out rfl)
        have d1 := held_step hb (blk_cell (o := 1) Q6.out rfl)
        by_cases hlt : k < es.length
        · have hmem : es[k] ∈ es := List.getElem_mem hlt
          obtain ⟨b, o, rfl, e0, e1, e2⟩ := (RdE.below R1.out hb).at_ hlt
          have hnx := (next_mem (es := L) (e := es[k])).2 (HIN.out _ hmem)
          obtain ⟨y, hyy⟩ : ∃ y, es[k] = y := ⟨_, rfl⟩
          rw [hyy] at e0 e1 e2 hnx
          clear hyy hmem
          obtain ⟨yf, yl, yt⟩ := y
          simp only at e0 e1 e2 hnx
          have HNX := Lib.hid hnx
          have k0 : (0 : Int) ≤ (k : Int) := by omega
          have k1 : (k : Int) < (es.length : Int) := by omega
          have hS := Lib.hid (show RdE wr.drew A6 L from RdE.below R6.out hb.drew)
          have HB := Lib.hid hb
          clear hnx hb
          go_wp2_with fail
          have hzl : (setI (nextRaw yf yl L)).length ≤ 11 := by have := setI_len (nextRaw yf yl L); have := nextRaw_len yf yl L; omega
          obtain ⟨zs, hzs⟩ : ∃ zs, setI (nextRaw yf yl L) = zs := ⟨_, rfl⟩
          have CN := Lib.hid (fun w hx => impl_NextOf_any s A6 c6 L yf yl w hx (by omega))
          unfold MadeIc at CN
          rw [hzs] at CN HNX hzl
          have CI := Lib.hid (fun A c w hx => laws_in_any A zs.length c zs yt w hx (by omega))
          rw [decide_eq_true HNX.out] at CI
          clear hzs HNX
          have hB7 : Below wr.heap.size wr wr.drew := (Below.refl _ _).drew
          have hSd : RdE wr.drew A6 L := hS.out
          go_region_held3 (fun w' => w'.cell? ⟨q1, 0, none⟩ = some (.int .i64 s) ∧ w'.cell? ⟨q1, 1, none⟩ = some (.slice (some ⟨b, o, none⟩) es.length c1) ∧ w'.cell? ⟨q6, 0, none⟩ = some (.int .i64 s) ∧ w'.cell? ⟨q6, 1, none⟩ = some (.slice A6 L.length c6) ∧
              w'.cell? ⟨b, o + k * 3, none⟩ = some (.int .i64 yf) ∧ w'.cell? ⟨b, o + k * 3 + 1, none⟩ = some (.int .u8 yl) ∧ w'.cell? ⟨b, o + k * 3 + 2, none⟩ = some (.int .i64 yt) ∧ RdE w' A6 L ∧ Below wr.heap.size wr w')
            ((first
              | (go_split_ands; exact ⟨held_step hbk (by assumption), held_step hbk (by assumption), held_step hbk (by assumption), held_step hbk (by assumption), held_step hbk (by assumption), held_step hbk (by assumption), held_step hbk (by assumption), RdE.below (by assumption) hbk, below_step (by assumption) hbk⟩)
              | (exact ⟨b0, b1, d0, d1, e0, e1, e2, hSd, hB7⟩)))
            ((first
              | (go_at_call 21; go_split_ands; refine (CN.out _ (by assumption)).mono ?_; rintro e w' ⟨A5, c5, g5, rfl, o5, hbk⟩; have r5 : RdI w' A5 zs.length zs := Rd.of_own o5; clear o5)
              | (go_at_call 19; go_split_ands; refine (CI.out _ _ _ (by assumption)).mono ?_; rintro e w' ⟨rfl, hw'⟩; have hbk := below_eq hw'; clear hw')))
          clear hB7 hSd
          go_split_ands
          have U : Below wr.heap.size wr w' := by assumption
          have hb9 := below_step HB.out U
          clear U b0 b1 d0 d1 e0 e1 e2
          go_wp2
          go_roundw
          case rel => exact ⟨k + 1, by omega, by go_num, hb9⟩
          case measure => simp [intOf]; omega
        · obtain rfl : k = es.length := by omega
          have B9 := Lib.hid (below_step B8.out hb)
          obtain ⟨b, o, rfl, y0, y1, y2⟩ := (RdE.below R1.out hb).at_ (show 0 < es.length by omega)
          obtain ⟨y, hyy⟩ : ∃ y, es[0] = y := ⟨_, rfl⟩
          have hyl := HL.out es[0] (List.getElem_mem _)
          rw [hyy] at y0 y1 y2 hyl
          have hyin : y ∈ es := hyy ▸ List.getElem_mem _
          have HYIN := Lib.hid hyin
          clear hyy hyin
          have HTRI := Lib.hid (edLess_tri x y)
          simp only [Nat.zero_mul, Nat.add_zero] at y0 y1 y2
          have R6 := Lib.hid (RdE.below R6.out hb)
          have R8 := Lib.hid (RdE.below R8.out hb)
          have Q1 := Lib.hid (blk_below hb Q1.out)
          have Q5 := Lib.hid (blk_below hb Q5.out)
          have Q6 := Lib.hid (blk_below hb Q6.out)
          have Q8 := Lib.hid (blk_below hb Q8.out)
          have hzl : (setI (nextRaw x.f x.l L)).length ≤ 11 := by have := setI_len (nextRaw x.f x.l L); have := nextRaw_len x.f x.l L; omega
          have hxn := (next_mem (es := L) (e := x)).2 HXI.out
          obtain ⟨us, hus⟩ : ∃ us, setI (nextRaw x.f x.l L) = us := ⟨_, rfl⟩
          have XN := Lib.hid (fun w hx => impl_NextOf_any s A6 c6 L x.f x.l w hx (by omega))
          unfold MadeIc at XN
          rw [hus] at XN hxn hzl
          have XI := Lib.hid (fun A c w hx => laws_in_any A us.length c us x.t w hx (by omega))
          rw [decide_eq_true hxn] at XI
          have XS := Lib.hid (fun w hx hy => sameGraph_any s A8 c8 L s A6 c6 L w hx hy (by omega))
          rw [PP_yes ⟨rfl, rfl⟩] at XS
          have XG := Lib.hid (fun w hx => impl_GraphOk_any s A6 c6 L w hx (by omega) HLL.out)
          rw [PP_yes HLOK.out] at XG
          have hxl : 0 ≤ x.l ∧ x.l ≤ 255 := ⟨by assumption, by assumption⟩
          have X1 := Lib.hid (fun w => impl_EdgeLess_any x y hxl hyl w)
          have X2 := Lib.hid (fun w => impl_EdgeLess_any y x hyl hxl w)
          have hsize : hd = true ∧ L.length = es.length ∨ hd = false ∧ L.length = es.length + 1 := by
            cases hd
            · exact .inr ⟨rfl, HSO.out (fun h => by have := HHD.out.2 h; cases this)⟩
            · exact .inl ⟨rfl, HSZ.out (HHD.out.1 rfl)⟩
          have HSIZE := Lib.hid hsize
          clear hus hxn hsize b0 b1 d0 d1 HHD HSO HSZ
          obtain ⟨xf, xl, xt⟩ := x
          obtain ⟨yf, yl, yt⟩ := y
          unfold Ed.val at X1 X2
          simp only at y0 y1 y2 X1 X2 XN XI
          have MK := Lib.hid (fun (w' : World) (hB : Below wr.heap.size wr w') => (⟨blk_cell (o := 0) (blk_below hB Q1.out) rfl, blk_cell (o := 1) (blk_below hB Q1.out) rfl, blk_cell (o := 0) (blk_below hB Q5.out) rfl, blk_cell (o := 1) (blk_below hB Q5.out) rfl, blk_cell (o := 2) (blk_below hB Q5.out) rfl, blk_cell (o := 0) (blk_below hB Q6.out) rfl, blk_cell (o := 1) (blk_below hB Q6.out) rfl, blk_cell (o := 0) (blk_below hB Q8.out) rfl, blk_cell (o := 1) (blk_below hB Q8.out) rfl, held_step hB y0, held_step hB y1, held_step hB y2, hB⟩ : w'.cell? ⟨q1, 0, none⟩ = some (.int .i64 s) ∧ w'.cell? ⟨q1, 1, none⟩ = some (.slice (some ⟨b, o, none⟩) es.length c1) ∧ w'.cell? ⟨q5, 0, none⟩ = some (.int .i64 xf) ∧ w'.cell? ⟨q5, 1, none⟩ = some (.int .u8 xl) ∧ w'.cell? ⟨q5, 2, none⟩ = some (.int .i64 xt) ∧ w'.cell? ⟨q6, 0, none⟩ = some (.int .i64 s) ∧ w'.cell? ⟨q6, 1, none⟩ = some (.slice A6 L.length c6) ∧ w'.cell? ⟨q8, 0, none⟩ = some (.int .i64 s) ∧ w'.cell? ⟨q8, 1, none⟩ = some (.slice A8 L.length c8) ∧ w'.cell? ⟨b, o, none⟩ = some (.int .i64 yf) ∧ w'.cell? ⟨b, o + 1, none⟩ = some (.int .u8 yl) ∧ w'.cell? ⟨b, o + 2, none⟩ = some (.int .i64 yt) ∧ Below wr.heap.size wr w'))
          have b0 := blk_cell (o := 0) Q1.out rfl
          have b1 := blk_cell (o := 1) Q1.out rfl
          clear y0 y1 y2 hb
          have hy0 : 0 < es.length := by omega
          have hy1 : (0 : Int) < (es.length : Int) := by omega
          go_upto_if 92 with fail
          go_cut [12] (fun s12 wx => s12 = .int .i64 L.length ∧ wr = wx)
          case first =>
            rcases HSIZE.out with ⟨rfl, hLe⟩ | ⟨rfl, hLe⟩
            all_goals
              have HLE := Lib.hid hLe
              clear hLe
              go_wp2_with fail
              go_meet
              refine ⟨?_, rfl⟩
              have := HLE.out
              congr 1
              omega
          case rest =>
            obtain ⟨rfl, rfl⟩ := hcut
            go_wp2_with fail
            refine wp_region_noPanic ?_
            refine wp_region_held_drew (S := (fun w' => w'.cell? ⟨q1, 0, none⟩ = some (.int .i64 s) ∧ w'.cell? ⟨q1, 1, none⟩ = some (.slice (some ⟨b, o, none⟩) es.length c1) ∧ w'.cell? ⟨q5, 0, none⟩ = some (.int .i64 xf) ∧ w'.cell? ⟨q5, 1, none⟩ = some (.int .u8 xl) ∧ w'.cell? ⟨q5, 2, none⟩ = some (.int .i64 xt) ∧ w'.cell? ⟨q6, 0, none⟩ = some (.int .i64 s) ∧ w'.cell? ⟨q6, 1, none⟩ = some (.slice A6 L.length c6) ∧ w'.cell? ⟨q8, 0, none⟩ = some (.int .i64 s) ∧ w'.cell? ⟨q8, 1, none⟩ = some (.slice A8 L.length c8) ∧ w'.cell? ⟨b, o, none⟩ = some (.int .i64 yf) ∧ w'.cell? ⟨b, o + 1, none⟩ = some (.int .u8 yl) ∧ w'.cell? ⟨b, o + 2, none⟩ = some (.int .i64 yt) ∧ Below wr.heap.size wr w')) (by kernel_rfl) (MK.out _ (Below.refl _ _).drew) (fun hHeld => ?_)
            refine wpAnyH_take (i := 0) (v := ?_) rfl (by kernel_rfl) (by kernel_rfl) (by kernel_rfl) (fun _ _ _ h => h) (Or.inl ⟨by rfl, ?_⟩) hHeld ?_
            rotate_left
            · intro w hSw
              (try dsimp only at hSw)
              go_simp
              try with_reducible rfl
            try simp only [List.getElem_toArray, List.getElem_cons_zero, List.getElem_cons_succ, Act.put, List.setIfInBounds_toArray, List.set_cons_zero, List.set_cons_succ]
            refine wpAnyH_take (i := 1) (v := ?_) rfl (by kernel_rfl) (by kernel_rfl) (by kernel_rfl) (fun _ _ _ h => h) (Or.inl ⟨by rfl, ?_⟩) hHeld ?_
            rotate_left
            · intro w hSw
              (try dsimp only at hSw)
              go_simp
              try with_reducible rfl
            try simp only [List.getElem_toArray, List.getElem_cons_zero, List.getElem_cons_succ, Act.put, List.setIfInBounds_toArray, List.set_cons_zero, List.set_cons_succ]
            refine wpAnyH_take (i := 2) (v := ?_) rfl (by kernel_rfl) (by kernel_rfl) (by kernel_rfl) (fun _ _ _ h => h) (Or.inl ⟨by rfl, ?_⟩) hHeld ?_
            rotate_left
            · intro w hSw
              (try dsimp only at hSw)
              go_simp
              try with_reducible rfl
            try simp only [List.getElem_toArray, List.getElem_cons_zero, List.getElem_cons_succ, Act.put, List.setIfInBounds_toArray, List.set_cons_zero, List.set_cons_succ]
            refine wpAnyH_take (i := 3) (v := ?_) rfl (by kernel_rfl) (by kernel_rfl) (by kernel_rfl) (fun _ _ _ h => h) (Or.inl ⟨by rfl, ?_⟩) hHeld ?_
            rotate_left
            · intro w hSw
              (try dsimp only at hSw)
              go_simp
              try with_reducible rfl
            try simp only [List.getElem_toArray, List.getElem_cons_zero, List.getElem_cons_succ, Act.put, List.setIfInBounds_toArray, List.set_cons_zero, List.set_cons_succ]
            refine wpAnyH_take (i := 4) (v := ?_) rfl (by kernel_rfl) (by kernel_rfl) (by kernel_rfl) (fun _ _ _ h => h) (Or.inl ⟨by rfl, ?_⟩) hHeld ?_
            rotate_left
            · intro w hSw
              (try dsimp only at hSw)
              go_simp
              try with_reducible rfl
            try simp only [List.getElem_toArray, List.getElem_cons_zero, List.getElem_cons_succ, Act.put, List.setIfInBounds_toArray, List.set_cons_zero, List.set_cons_succ]
            refine wpAnyH_take (i := 5) (v := ?_) rfl (by kernel_rfl) (by kernel_rfl) (by kernel_rfl) (fun _ _ _ h => h) (Or.inl ⟨by rfl, ?_⟩) hHeld ?_
            rotate_left
            · intro w hSw
              (try dsimp only at hSw)
              go_simp
              try with_reducible rfl
            try simp only [List.getElem_toArray, List.getElem_cons_zero, List.getElem_cons_succ, Act.put, List.setIfInBounds_toArray, List.set_cons_zero, List.set_cons_succ]
            refine wpAnyH_take (i := 6) (v := ?_) rfl (by kernel_rfl) (by kernel_rfl) (by kernel_rfl) (fun _ _ _ h => h) (Or.inl ⟨by rfl, ?_⟩) hHeld ?_
            rotate_left
            · intro w hSw
              (try dsimp only at hSw)
              go_simp
              try with_reducible rfl
            try simp only [List.getElem_toArray, List.getElem_cons_zero, List.getElem_cons_succ, Act.put, List.setIfInBounds_toArray, List.set_cons_zero, List.set_cons_succ]
            refine wpAnyH_ready (rs := [7]) (by kernel_rfl) (by simp) ?_
            refine AllReadyH.cons rfl (fun K hK => ?_) ?_
            · go_simp
              refine (XS.out _ (RdE.below R8.out hHeld.2.2.2.2.2.2.2.2.2.2.2.2) (RdE.below R6.out hHeld.2.2.2.2.2.2.2.2.2.2.2.2)).mono ?_
              rintro e w' ⟨rfl, hbk⟩
              go_simp
              refine hK.out _ _ (MK.out _ (below_step hHeld.2.2.2.2.2.2.2.2.2.2.2.2 hbk)) (fun hHeld => ?_)
              clear hK K
              try simp only [List.getElem_toArray, List.getElem_cons_zero, List.getElem_cons_succ, Act.put, List.setIfInBounds_toArray, List.set_cons_zero, List.set_cons_succ]
              refine wpAnyH_take (i := 8) (v := ?_) rfl (by kernel_rfl) (by kernel_rfl) (by kernel_rfl) (fun _ _ _ h => h) (Or.inl ⟨by rfl, ?_⟩) hHeld ?_
              rotate_left
              · intro w hSw
                (try dsimp only at hSw)
                go_simp
                try with_reducible rfl
              try simp only [List.getElem_toArray, List.getElem_cons_zero, List.getElem_cons_succ, Act.put, List.setIfInBounds_toArray, List.set_cons_zero, List.set_cons_succ]
              refine wpAnyH_take (i := 9) (v := ?_) rfl (by kernel_rfl) (by kernel_rfl) (by kernel_rfl) (fun _ _ _ h => h) (Or.inl ⟨by rfl, ?_⟩) hHeld ?_
              rotate_left
              · intro w hSw
                (try dsimp only at hSw)
                go_simp
                try with_reducible rfl
              try simp only [List.getElem_toArray, List.getElem_cons_zero, List.getElem_cons_succ, Act.put, List.setIfInBounds_toArray, List.set_cons_zero, List.set_cons_succ]
              refine wpAnyH_take (i := 10) (v := ?_) rfl (by kernel_rfl) (by kernel_rfl) (by kernel_rfl) (fun _ _ _ h => h) (Or.inl ⟨by rfl, ?_⟩) hHeld ?_
              rotate_left
              · intro w hSw
                (try dsimp only at hSw)
                go_simp
                try with_reducible rfl
              try simp only [List.getElem_toArray, List.getElem_cons_zero, List.getElem_cons_succ, Act.put, List.setIfInBounds_toArray, List.set_cons_zero, List.set_cons_succ]
              refine wpAnyH_take (i := 11) (v := ?_) rfl (by kernel_rfl) (by kernel_rfl) (by kernel_rfl) (fun _ _ _ h => h) (Or.inl ⟨by rfl, ?_⟩) hHeld ?_
              rotate_left
              · intro w hSw
                (try dsimp only at hSw)
                go_simp
                try with_reducible rfl
              try simp only [List.getElem_toArray, List.getElem_cons_zero, List.getElem_cons_succ, Act.put, List.setIfInBounds_toArray, List.set_cons_zero, List.set_cons_succ]
              refine wpAnyH_take (i := 12) (v := ?_) rfl (by kernel_rfl) (by kernel_rfl) (by kernel_rfl) (fun _ _ _ h => h) (Or.inl ⟨by rfl, ?_⟩) hHeld ?_
              rotate_left
              · intro w hSw
                (try dsimp only at hSw)
                go_simp
                try with_reducible rfl
              try simp only [List.getElem_toArray, List.getElem_cons_zero, List.getElem_cons_succ, Act.put, List.setIfInBounds_toArray, List.set_cons_zero, List.set_cons_succ]
              refine wpAnyH_take (i := 13) (v := ?_) rfl (by kernel_rfl) (by kernel_rfl) (by kernel_rfl) (fun _ _ _ h => h) (Or.inl ⟨by rfl, ?_⟩) hHeld ?_
              rotate_left
              · intro w hSw
                (try dsimp only at hSw)
                go_simp
                try with_reducible rfl
              try simp only [List.getElem_toArray, List.getElem_cons_zero, List.getElem_cons_succ, Act.put, List.setIfInBounds_toArray, List.set_cons_zero, List.set_cons_succ]
              refine wpAnyH_take (i := 14) (v := ?_) rfl (by kernel_rfl) (by kernel_rfl) (by kernel_rfl) (fun _ _ _ h => h) (Or.inl ⟨by rfl, ?_⟩) hHeld ?_
              rotate_left
              · intro w hSw
                (try dsimp only at hSw)
                go_simp
                try with_reducible rfl
              try simp only [List.getElem_toArray, List.getElem_cons_zero, List.getElem_cons_succ, Act.put, List.setIfInBounds_toArray, List.set_cons_zero, List.set_cons_succ]
              refine wpAnyH_take (i := 15) (v := ?_) rfl (by kernel_rfl) (by kernel_rfl) (by kernel_rfl) (fun _ _ _ h => h) (Or.inl ⟨by rfl, ?_⟩) hHeld ?_
              rotate_left
              · intro w hSw
                (try dsimp only at hSw)
                go_simp
                try with_reducible rfl
              try simp only [List.getElem_toArray, List.getElem_cons_zero, List.getElem_cons_succ, Act.put, List.setIfInBounds_toArray, List.set_cons_zero, List.set_cons_succ]
              refine wpAnyH_take (i := 16) (v := ?_) rfl (by kernel_rfl) (by kernel_rfl) (by kernel_rfl) (fun _ _ _ h => h) (Or.inl ⟨by rfl, ?_⟩) hHeld ?_
              rotate_left
              · intro w hSw
                (try dsimp only at hSw)
                go_simp
                try with_reducible rfl
              try simp only [List.getElem_toArray, List.getElem_cons_zero, List.getElem_cons_succ, Act.put, List.setIfInBounds_toArray, List.set_cons_zero, List.set_cons_succ]
              refine wpAnyH_take (i := 17) (v := ?_) rfl (by kernel_rfl) (by kernel_rfl) (by kernel_rfl) (fun _ _ _ h => h) (Or.inl ⟨by rfl, ?_⟩) hHeld ?_
              rotate_left
              · intro w hSw
                (try dsimp only at hSw)
                go_simp
                try with_reducible rfl
              try simp only [List.getElem_toArray, List.getElem_cons_zero, List.getElem_cons_succ, Act.put, List.setIfInBounds_toArray, List.set_cons_zero, List.set_cons_succ]
              refine wpAnyH_take (i := 18) (v := ?_) rfl (by kernel_rfl) (by kernel_rfl) (by kernel_rfl) (fun _ _ _ h => h) (Or.inl ⟨by rfl, ?_⟩) hHeld ?_
              rotate_left
              · intro w hSw
                (try dsimp only at hSw)
                go_simp
                try with_reducible rfl
              try simp only [List.getElem_toArray, List.getElem_cons_zero, List.getElem_cons_succ, Act.put, List.setIfInBounds_toArray, List.set_cons_zero, List.set_cons_succ]
              refine wpAnyH_take (i := 19) (v := ?_) rfl (by kernel_rfl) (by kernel_rfl) (by kernel_rfl) (fun _ _ _ h => h) (Or.inl ⟨by rfl, ?_⟩) hHeld ?_
              rotate_left
              · intro w hSw
                (try dsimp only at hSw)
                go_simp
                try with_reducible rfl
              try simp only [List.getElem_toArray, List.getElem_cons_zero, List.getElem_cons_succ, Act.put, List.setIfInBounds_toArray, List.set_cons_zero, List.set_cons_succ]
              refine wpAnyH_take (i := 20) (v := ?_) rfl (by kernel_rfl) (by kernel_rfl) (by kernel_rfl) (fun _ _ _ h => h) (Or.inl ⟨by rfl, ?_⟩) hHeld ?_
              rotate_left
              · intro w hSw
                (try dsimp only at hSw)
                go_simp
                try with_reducible rfl
              try simp only [List.getElem_toArray, List.getElem_cons_zero, List.getElem_cons_succ, Act.put, List.setIfInBounds_toArray, List.set_cons_zero, List.set_cons_succ]
              refine wpAnyH_take (i := 21) (v := ?_) rfl (by kernel_rfl) (by kernel_rfl) (by kernel_rfl) (fun _ _ _ h => h) (Or.inl ⟨by rfl, ?_⟩) hHeld ?_
              rotate_left
              · intro w hSw
                (try dsimp only at hSw)
                go_simp
                try with_reducible rfl
              try simp only [List.getElem_toArray, List.getElem_cons_zero, List.getElem_cons_succ, Act.put, List.setIfInBounds_toArray, List.set_cons_zero, List.set_cons_succ]
              refine wpAnyH_take (i := 23) (v := ?_) rfl (by kernel_rfl) (by kernel_rfl) (by kernel_rfl) (fun _ _ _ h => h) (Or.inl ⟨by rfl, ?_⟩) hHeld ?_
              rotate_left
              · intro w hSw
                (try dsimp only at hSw)
                go_simp
                try with_reducible rfl
              try simp only [List.getElem_toArray, List.getElem_cons_zero, List.getElem_cons_succ, Act.put, List.setIfInBounds_toArray, List.set_cons_zero, List.set_cons_succ]
              refine wpAnyH_take (i := 24) (v := ?_) rfl (by kernel_rfl) (by kernel_rfl) (by kernel_rfl) (fun _ _ _ h => h) (Or.inl ⟨by rfl, ?_⟩) hHeld ?_
              rotate_left
              · intro w hSw
                (try dsimp only at hSw)
                go_simp
                try with_reducible rfl
              try simp only [List.getElem_toArray, List.getElem_cons_zero, List.getElem_cons_succ, Act.put, List.setIfInBounds_toArray, List.set_cons_zero, List.set_cons_succ]
              refine wpAnyH_ready (rs := [22]) (by kernel_rfl) (by simp) ?_
              refine AllReadyH.cons rfl (fun K hK => ?_) ?_
              · go_simp
                refine (XN.out _ (RdE.below R6.out hHeld.2.2.2.2.2.2.2.2.2.2.2.2)).mono ?_
                rintro e w' ⟨A5, c5, g5, rfl, o5, hbk⟩
                have r5 : RdI w' A5 us.length us := Rd.of_own o5
                clear o5
                go_simp
                refine hK.out _ _ (MK.out _ (below_step hHeld.2.2.2.2.2.2.2.2.2.2.2.2 hbk)) (fun hHeld => ?_)
                clear hK K
                try simp only [List.getElem_toArray, List.getElem_cons_zero, List.getElem_cons_succ, Act.put, List.setIfInBounds_toArray, List.set_cons_zero, List.set_cons_succ]
                refine wpAnyH_ready (rs := [25]) (by kernel_rfl) (by simp) ?_
                refine AllReadyH.cons rfl (fun K hK => ?_) ?_
                · go_simp
                  refine (XI.out _ _ _ r5).mono ?_
                  rintro e w' ⟨rfl, hw'⟩
                  have hbk := below_eq hw'
                  clear hw' r5
                  go_simp
                  refine hK.out _ _ (MK.out _ (below_step hHeld.2.2.2.2.2.2.2.2.2.2.2.2 hbk)) (fun hHeld => ?_)
                  clear hK K
                  try simp only [List.getElem_toArray, List.getElem_cons_zero, List.getElem_cons_succ, Act.put, List.setIfInBounds_toArray, List.set_cons_zero, List.set_cons_succ]
                  refine wpAnyH_take (i := 26) (v := ?_) rfl (by kernel_rfl) (by kernel_rfl) (by kernel_rfl) (fun _ _ _ h => h) (Or.inl ⟨by rfl, ?_⟩) hHeld ?_
                  rotate_left
                  · intro w hSw
                    (try dsimp only at hSw)
                    go_simp
                    try with_reducible rfl
                  try simp only [List.getElem_toArray, List.getElem_cons_zero, List.getElem_cons_succ, Act.put, List.setIfInBounds_toArray, List.set_cons_zero, List.set_cons_succ]
                  refine wpAnyH_take (i := 27) (v := ?_) rfl (by kernel_rfl) (by kernel_rfl) (by kernel_rfl) (fun _ _ _ h => h) (Or.inl ⟨by rfl, ?_⟩) hHeld ?_
                  rotate_left
                  · intro w hSw
                    (try dsimp only at hSw)
                    go_simp
                    try with_reducible rfl
                  try simp only [List.getElem_toArray, List.getElem_cons_zero, List.getElem_cons_succ, Act.put, List.setIfInBounds_toArray, List.set_cons_zero, List.set_cons_succ]
                  refine wpAnyH_take (i := 28) (v := ?_) rfl (by kernel_rfl) (by kernel_rfl) (by kernel_rfl) (fun _ _ _ h => h) (Or.inl ⟨by rfl, ?_⟩) hHeld ?_
                  rotate_left
                  · intro w hSw
                    (try dsimp only at hSw)
                    go_simp
                    try with_reducible rfl
                  try simp only [List.getElem_toArray, List.getElem_cons_zero, List.getElem_cons_succ, Act.put, List.setIfInBounds_toArray, List.set_cons_zero, List.set_cons_succ]
                  refine wpAnyH_ready (rs := [29]) (by kernel_rfl) (by simp) ?_
                  refine AllReadyH.cons rfl (fun K hK => ?_) ?_
                  · go_simp
                    refine (XG.out _ (RdE.below R6.out hHeld.2.2.2.2.2.2.2.2.2.2.2.2)).mono ?_
                    rintro e w' ⟨rfl, hbk⟩
                    go_simp
                    refine hK.out _ _ (MK.out _ (below_step hHeld.2.2.2.2.2.2.2.2.2.2.2.2 hbk)) (fun hHeld => ?_)
                    clear hK K
                    try simp only [List.getElem_toArray, List.getElem_cons_zero, List.getElem_cons_succ, Act.put, List.setIfInBounds_toArray, List.set_cons_zero, List.set_cons_succ]
                    refine wpAnyH_take (i := 30) (v := ?_) rfl (by kernel_rfl) (by kernel_rfl) (by kernel_rfl) (fun _ _ _ h => h) (Or.inl ⟨by rfl, ?_⟩) hHeld ?_
                    rotate_left
                    · intro w hSw
                      (try dsimp only at hSw)
                      go_simp
                      try with_reducible rfl
                    try simp only [List.getElem_toArray, List.getElem_cons_zero, List.getElem_cons_succ, Act.put, List.setIfInBounds_toArray, List.set_cons_zero, List.set_cons_succ]
                    refine wpAnyH_take (i := 31) (v := ?_) rfl (by kernel_rfl) (by kernel_rfl) (by kernel_rfl) (fun _ _ _ h => h) (Or.inl ⟨by rfl, ?_⟩) hHeld ?_
                    rotate_left
                    · intro w hSw
                      (try dsimp only at hSw)
                      go_simp
                      try with_reducible rfl
                    try simp only [List.getElem_toArray, List.getElem_cons_zero, List.getElem_cons_succ, Act.put, List.setIfInBounds_toArray, List.set_cons_zero, List.set_cons_succ]
                    refine wpAnyH_take (i := 32) (v := ?_) rfl (by kernel_rfl) (by kernel_rfl) (by kernel_rfl) (fun _ _ _ h => h) (Or.inl ⟨by rfl, ?_⟩) hHeld ?_
                    rotate_left
                    · intro w hSw
                      (try dsimp only at hSw)
                      go_simp
                      try with_reducible rfl
                    try simp only [List.getElem_toArray, List.getElem_cons_zero, List.getElem_cons_succ, Act.put, List.setIfInBounds_toArray, List.set_cons_zero, List.set_cons_succ]
                    refine wpAnyH_take (i := 33) (v := ?_) rfl (by kernel_rfl) (by kernel_rfl) (by kernel_rfl) (fun _ _ _ h => h) (Or.inl ⟨by rfl, ?_⟩) hHeld ?_
                    rotate_left
                    · intro w hSw
                      (try dsimp only at hSw)
                      go_simp
                      try with_reducible rfl
                    try simp only [List.getElem_toArray, List.getElem_cons_zero, List.getElem_cons_succ, Act.put, List.setIfInBounds_toArray, List.set_cons_zero, List.set_cons_succ]
                    refine wpAnyH_take (i := 34) (v := ?_) rfl (by kernel_rfl) (by kernel_rfl) (by kernel_rfl) (fun _ _ _ h => h) (Or.inl ⟨by rfl, ?_⟩) hHeld ?_
                    rotate_left
                    · intro w hSw
                      (try dsimp only at hSw)
                      go_simp
                      try with_reducible rfl
                    try simp only [List.getElem_toArray, List.getElem_cons_zero, List.getElem_cons_succ, Act.put, List.setIfInBounds_toArray, List.set_cons_zero, List.set_cons_succ]
                    refine wpAnyH_take (i := 35) (v := ?_) rfl (by kernel_rfl) (by kernel_rfl) (by kernel_rfl) (fun _ _ _ h => h) (Or.inl ⟨by rfl, ?_⟩) hHeld ?_
                    rotate_left
                    · intro w hSw
                      (try dsimp only at hSw)
                      go_simp
                      try with_reducible rfl
                    try simp only [List.getElem_toArray, List.getElem_cons_zero, List.getElem_cons_succ, Act.put, List.setIfInBounds_toArray, List.set_cons_zero, List.set_cons_succ]
                    refine wpAnyH_take (i := 36) (v := ?_) rfl (by kernel_rfl) (by kernel_rfl) (by kernel_rfl) (fun _ _ _ h => h) (Or.inl ⟨by rfl, ?_⟩) hHeld ?_
                    rotate_left
                    · intro w hSw
                      (try dsimp only at hSw)
                      go_simp
                      try with_reducible rfl
                    try simp only [List.getElem_toArray, List.getElem_cons_zero, List.getElem_cons_succ, Act.put, List.setIfInBounds_toArray, List.set_cons_zero, List.set_cons_succ]
                    rcases HTRI.out with ht | ht | ht
                    · have ht : edLess ⟨xf, xl, xt⟩ ⟨yf, yl, yt⟩ = true := by assumption
                      rw [ht] at X1
                      clear ht
                      refine wpAnyH_ready (rs := [37]) (by kernel_rfl) (by simp) ?_
                      refine AllReadyH.cons rfl (fun K hK => ?_) ?_
                      · go_simp
                        refine (X1.out _).mono ?_
                        rintro e w' ⟨rfl, hbk⟩
                        go_simp
                        refine hK.out _ _ (MK.out _ (below_step hHeld.2.2.2.2.2.2.2.2.2.2.2.2 hbk)) (fun hHeld => ?_)
                        clear hK K
                        try simp only [List.getElem_toArray, List.getElem_cons_zero, List.getElem_cons_succ, Act.put, List.setIfInBounds_toArray, List.set_cons_zero, List.set_cons_succ]
                        refine wpAnyH_take (i := 38) (v := ?_) rfl (by kernel_rfl) (by kernel_rfl) (by kernel_rfl) (fun _ _ _ h => h) (Or.inl ⟨by rfl, ?_⟩) hHeld ?_
                        rotate_left
                        · intro w hSw
                          (try dsimp only at hSw)
                          go_simp
                          try with_reducible rfl
                        try simp only [List.getElem_toArray, List.getElem_cons_zero, List.getElem_cons_succ, Act.put, List.setIfInBounds_toArray, List.set_cons_zero, List.set_cons_succ]
                        refine wpAnyH_take (i := 39) (v := undef) rfl (by kernel_rfl) (by kernel_rfl) (by kernel_rfl) (fun _ _ _ h => h) (Or.inr ⟨by rfl, rfl⟩) hHeld ?_
                        try simp only [List.getElem_toArray, List.getElem_cons_zero, List.getElem_cons_succ, Act.put, List.setIfInBounds_toArray, List.set_cons_zero, List.set_cons_succ]
                        refine wpAnyH_take (i := 40) (v := undef) rfl (by kernel_rfl) (by kernel_rfl) (by kernel_rfl) (fun _ _ _ h => h) (Or.inr ⟨by rfl, rfl⟩) hHeld ?_
                        try simp only [List.getElem_toArray, List.getElem_cons_zero, List.getElem_cons_succ, Act.put, List.setIfInBounds_toArray, List.set_cons_zero, List.set_cons_succ]
                        refine wpAnyH_take (i := 41) (v := undef) rfl (by kernel_rfl) (by kernel_rfl) (by kernel_rfl) (fun _ _ _ h => h) (Or.inr ⟨by rfl, rfl⟩) hHeld ?_
                        try simp only [List.getElem_toArray, List.getElem_cons_zero, List.getElem_cons_succ, Act.put, List.setIfInBounds_toArray, List.set_cons_zero, List.set_cons_succ]
                        refine wpAnyH_take (i := 42) (v := undef) rfl (by kernel_rfl) (by kernel_rfl) (by kernel_rfl) (fun _ _ _ h => h) (Or.inr ⟨by rfl, rfl⟩) hHeld ?_
                        try simp only [List.getElem_toArray, List.getElem_cons_zero, List.getElem_cons_succ, Act.put, List.setIfInBounds_toArray, List.set_cons_zero, List.set_cons_succ]
                        refine wpAnyH_take (i := 43) (v := undef) rfl (by kernel_rfl) (by kernel_rfl) (by kernel_rfl) (fun _ _ _ h => h) (Or.inr ⟨by rfl, rfl⟩) hHeld ?_
                        try simp only [List.getElem_toArray, List.getElem_cons_zero, List.getElem_cons_succ, Act.put, List.setIfInBounds_toArray, List.set_cons_zero, List.set_cons_succ]
                        refine wpAnyH_take (i := 44) (v := undef) rfl (by kernel_rfl) (by kernel_rfl) (by kernel_rfl) (fun _ _ _ h => h) (Or.inr ⟨by rfl, rfl⟩) hHeld ?_
                        try simp only [List.getElem_toArray, List.getElem_cons_zero, List.getElem_cons_succ, Act.put, List.setIfInBounds_toArray, List.set_cons_zero, List.set_cons_succ]
                        refine wpAnyH_take (i := 45) (v := ?_) rfl (by kernel_rfl) (by kernel_rfl) (by kernel_rfl) (fun _ _ _ h => h) (Or.inl ⟨by rfl, ?_⟩) hHeld ?_
                        rotate_left
                        · intro w hSw
                          (try dsimp only at hSw)
                          go_simp
                          try with_reducible rfl
                        try simp only [List.getElem_toArray, List.getElem_cons_zero, List.getElem_cons_succ, Act.put, List.setIfInBounds_toArray, List.set_cons_zero, List.set_cons_succ]
                        refine wpAnyH_take (i := 46) (v := ?_) rfl (by kernel_rfl) (by kernel_rfl) (by kernel_rfl) (fun _ _ _ h => h) (Or.inl ⟨by rfl, ?_⟩) hHeld ?_
                        rotate_left
                        · intro w hSw
                          (try dsimp only at hSw)
                          go_simp
                          try with_reducible rfl
                        try simp only [List.getElem_toArray, List.getElem_cons_zero, List.getElem_cons_succ, Act.put, List.setIfInBounds_toArray, List.set_cons_zero, List.set_cons_succ]
                        refine wpAnyH_take (i := 47) (v := undef) rfl (by kernel_rfl) (by kernel_rfl) (by kernel_rfl) (fun _ _ _ h => h) (Or.inr ⟨by rfl, rfl⟩) hHeld ?_
                        try simp only [List.getElem_toArray, List.getElem_cons_zero, List.getElem_cons_succ, Act.put, List.setIfInBounds_toArray, List.set_cons_zero, List.set_cons_succ]
                        refine wpAnyH_take (i := 48) (v := undef) rfl (by kernel_rfl) (by kernel_rfl) (by kernel_rfl) (fun _ _ _ h => h) (Or.inr ⟨by rfl, rfl⟩) hHeld ?_
                        try simp only [List.getElem_toArray, List.getElem_cons_zero, List.getElem_cons_succ, Act.put, List.setIfInBounds_toArray, List.set_cons_zero, List.set_cons_succ]
                        refine wpAnyH_take (i := 49) (v := undef) rfl (by kernel_rfl) (by kernel_rfl) (by kernel_rfl) (fun _ _ _ h => h) (Or.inr ⟨by rfl, rfl⟩) hHeld ?_
                        try simp only [List.getElem_toArray, List.getElem_cons_zero, List.getElem_cons_succ, Act.put, List.setIfInBounds_toArray, List.set_cons_zero, List.set_cons_succ]
                        refine wpAnyH_take (i := 50) (v := undef) rfl (by kernel_rfl) (by kernel_rfl) (by kernel_rfl) (fun _ _ _ h => h) (Or.inr ⟨by rfl, rfl⟩) hHeld ?_
                        try simp only [List.getElem_toArray, List.getElem_cons_zero, List.getElem_cons_succ, Act.put, List.setIfInBounds_toArray, List.set_cons_zero, List.set_cons_succ]
                        refine wpAnyH_take (i := 51) (v := undef) rfl (by kernel_rfl) (by kernel_rfl) (by kernel_rfl) (fun _ _ _ h => h) (Or.inr ⟨by rfl, rfl⟩) hHeld ?_
                        try simp only [List.getElem_toArray, List.getElem_cons_zero, List.getElem_cons_succ, Act.put, List.setIfInBounds_toArray, List.set_cons_zero, List.set_cons_succ]
                        refine wpAnyH_take (i := 52) (v := undef) rfl (by kernel_rfl) (by kernel_rfl) (by kernel_rfl) (fun _ _ _ h => h) (Or.inr ⟨by rfl, rfl⟩) hHeld ?_
                        try simp only [List.getElem_toArray, List.getElem_cons_zero, List.getElem_cons_succ, Act.put, List.setIfInBounds_toArray, List.set_cons_zero, List.set_cons_succ]
                        refine wpAnyH_take (i := 53) (v := ?_) rfl (by kernel_rfl) (by kernel_rfl) (by kernel_rfl) (fun _ _ _ h => h) (Or.inl ⟨by rfl, ?_⟩) hHeld ?_
                        rotate_left
                        · intro w hSw
                          (try dsimp only at hSw)
                          go_simp
                          try with_reducible rfl
                        try simp only [List.getElem_toArray, List.getElem_cons_zero, List.getElem_cons_succ, Act.put, List.setIfInBounds_toArray, List.set_cons_zero, List.set_cons_succ]
                        refine wpAnyH_take (i := 54) (v := ?_) rfl (by kernel_rfl) (by kernel_rfl) (by kernel_rfl) (fun _ _ _ h => h) (Or.inl ⟨by rfl, ?_⟩) hHeld ?_
                        rotate_left
                        · intro w hSw
                          (try dsimp only at hSw)
                          go_simp
                          try with_reducible rfl
                        try simp only [List.getElem_toArray, List.getElem_cons_zero, List.getElem_cons_succ, Act.put, List.setIfInBounds_toArray, List.set_cons_zero, List.set_cons_succ]
                        refine wpAnyH_take (i := 55) (v := ?_) rfl (by kernel_rfl) (by kernel_rfl) (by kernel_rfl) (fun _ _ _ h => h) (Or.inl ⟨by rfl, ?_⟩) hHeld ?_
                        rotate_left
                        · intro w hSw
                          (try dsimp only at hSw)
                          go_simp
                          try with_reducible rfl
                        try simp only [List.getElem_toArray, List.getElem_cons_zero, List.getElem_cons_succ, Act.put, List.setIfInBounds_toArray, List.set_cons_zero, List.set_cons_succ]
                        refine wpAnyH_done (by kernel_rfl) ?_ _
                        refine NoPanic.normal ?_
                        have hb9 := below_step B9.out hHeld.2.2.2.2.2.2.2.2.2.2.2.2
                        clear hHeld
                        go_wp2
                        go_ret
                        exact ⟨rfl, hb9⟩
                      exact AllReadyH.nil
                    · have ht : (⟨xf, xl, xt⟩ : Ed) = ⟨yf, yl, yt⟩ := by assumption
                      injection ht with t1 t2 t3
                      subst t1 t2 t3
                      rw [edLess_irrefl] at X1 X2
                      refine wpAnyH_ready (rs := [37]) (by kernel_rfl) (by simp) ?_
                      refine AllReadyH.cons rfl (fun K hK => ?_) ?_
                      · go_simp
                        refine (X1.out _).mono ?_
                        rintro e w' ⟨rfl, hbk⟩
                        go_simp
                        refine hK.out _ _ (MK.out _ (below_step hHeld.2.2.2.2.2.2.2.2.2.2.2.2 hbk)) (fun hHeld => ?_)
                        clear hK K
                        try simp only [List.getElem_toArray, List.getElem_cons_zero, List.getElem_cons_succ, Act.put, List.setIfInBounds_toArray, List.set_cons_zero, List.set_cons_succ]
                        refine wpAnyH_take (i := 38) (v := ?_) rfl (by kernel_rfl) (by kernel_rfl) (by kernel_rfl) (fun _ _ _ h => h) (Or.inl ⟨by rfl, ?_⟩) hHeld ?_
                        rotate_left
                        · intro w hSw
                          (try dsimp only at hSw)
                          go_simp
                          try with_reducible rfl
                        try simp only [List.getElem_toArray, List.getElem_cons_zero, List.getElem_cons_succ, Act.put, List.setIfInBounds_toArray, List.set_cons_zero, List.set_cons_succ]
                        refine wpAnyH_take (i := 39) (v := ?_) rfl (by kernel_rfl) (by kernel_rfl) (by kernel_rfl) (fun _ _ _ h => h) (Or.inl ⟨by rfl, ?_⟩) hHeld ?_
                        rotate_left
                        · intro w hSw
                          (try dsimp only at hSw)
                          go_simp
                          try with_reducible rfl
                        try simp only [List.getElem_toArray, List.getElem_cons_zero, List.getElem_cons_succ, Act.put, List.setIfInBounds_toArray, List.set_cons_zero, List.set_cons_succ]
                        refine wpAnyH_take (i := 40) (v := ?_) rfl (by kernel_rfl) (by kernel_rfl) (by kernel_rfl) (fun _ _ _ h => h) (Or.inl ⟨by rfl, ?_⟩) hHeld ?_
                        rotate_left
                        · intro w hSw
                          (try dsimp only at hSw)
                          go_simp
                          try with_reducible rfl
                        try simp only [List.getElem_toArray, List.getElem_cons_zero, List.getElem_cons_succ, Act.put, List.setIfInBounds_toArray, List.set_cons_zero, List.set_cons_succ]
                        refine wpAnyH_take (i := 41) (v := ?_) rfl (by kernel_rfl) (by kernel_rfl) (by kernel_rfl) (fun _ _ _ h => h) (Or.inl ⟨by rfl, ?_⟩) hHeld ?_
                        rotate_left
                        · intro w hSw
                          (try dsimp only at hSw)
                          go_simp
                          try with_reducible rfl
                        try simp only [List.getElem_toArray, List.getElem_cons_zero, List.getElem_cons_succ, Act.put, List.setIfInBounds_toArray, List.set_cons_zero, List.set_cons_succ]
                        refine wpAnyH_take (i := 42) (v := ?_) rfl (by kernel_rfl) (by kernel_rfl) (by kernel_rfl) (fun _ _ _ h => h) (Or.inl ⟨by rfl, ?_⟩) hHeld ?_
                        rotate_left
                        · intro w hSw
                          (try dsimp only at hSw)
                          go_simp
                          try with_reducible rfl
                        try simp only [List.getElem_toArray, List.getElem_cons_zero, List.getElem_cons_succ, Act.put, List.setIfInBounds_toArray, List.set_cons_zero, List.set_cons_succ]
                        refine wpAnyH_take (i := 43) (v := ?_) rfl (by kernel_rfl) (by kernel_rfl) (by kernel_rfl) (fun _ _ _ h => h) (Or.inl ⟨by rfl, ?_⟩) hHeld ?_
                        rotate_left
                        · intro w hSw
                          (try dsimp only at hSw)
                          go_simp
                          try with_reducible rfl
                        try simp only [List.getElem_toArray, List.getElem_cons_zero, List.getElem_cons_succ, Act.put, List.setIfInBounds_toArray, List.set_cons_zero, List.set_cons_succ]
                        refine wpAnyH_ready (rs := [44]) (by kernel_rfl) (by simp) ?_
                        refine AllReadyH.cons rfl (fun K hK => ?_) ?_
                        · go_simp
                          refine (X2.out _).mono ?_
                          rintro e w' ⟨rfl, hbk⟩
                          go_simp
                          refine hK.out _ _ (MK.out _ (below_step hHeld.2.2.2.2.2.2.2.2.2.2.2.2 hbk)) (fun hHeld => ?_)
                          clear hK K
                          try simp only [List.getElem_toArray, List.getElem_cons_zero, List.getElem_cons_succ, Act.put, List.setIfInBounds_toArray, List.set_cons_zero, List.set_cons_succ]
                          refine wpAnyH_take (i := 45) (v := ?_) rfl (by kernel_rfl) (by kernel_rfl) (by kernel_rfl) (fun _ _ _ h => h) (Or.inl ⟨by rfl, ?_⟩) hHeld ?_
                          rotate_left
                          · intro w hSw
                            (try dsimp only at hSw)
                            go_simp
                            try with_reducible rfl
                          try simp only [List.getElem_toArray, List.getElem_cons_zero, List.getElem_cons_succ, Act.put, List.setIfInBounds_toArray, List.set_cons_zero, List.set_cons_succ]
                          refine wpAnyH_take (i := 46) (v := ?_) rfl (by kernel_rfl) (by kernel_rfl) (by kernel_rfl) (fun _ _ _ h => h) (Or.inl ⟨by rfl, ?_⟩) hHeld ?_
                          rotate_left
                          · intro w hSw
                            (try dsimp only at hSw)
                            go_simp
                            try with_reducible rfl
                          try simp only [List.getElem_toArray, List.getElem_cons_zero, List.getElem_cons_succ, Act.put, List.setIfInBounds_toArray, List.set_cons_zero, List.set_cons_succ]
                          refine wpAnyH_take (i := 47) (v := ?_) rfl (by kernel_rfl) (by kernel_rfl) (by kernel_rfl) (fun _ _ _ h => h) (Or.inl ⟨by rfl, ?_⟩) hHeld ?_
                          rotate_left
                          · intro w hSw
                            (try dsimp only at hSw)
                            go_simp
                            try with_reducible rfl
                          try simp only [List.getElem_toArray, List.getElem_cons_zero, List.getElem_cons_succ, Act.put, List.setIfInBounds_toArray, List.set_cons_zero, List.set_cons_succ]
                          refine wpAnyH_take (i := 48) (v := ?_) rfl (by kernel_rfl) (by kernel_rfl) (by kernel_rfl) (fun _ _ _ h => h) (Or.inl ⟨by rfl, ?_⟩) hHeld ?_
                          rotate_left
                          · intro w hSw
                            (try dsimp only at hSw)
                            go_simp
                            try with_reducible rfl
                          try simp only [List.getElem_toArray, List.getElem_cons_zero, List.getElem_cons_succ, Act.put, List.setIfInBounds_toArray, List.set_cons_zero, List.set_cons_succ]
                          refine wpAnyH_take (i := 49) (v := ?_) rfl (by kernel_rfl) (by kernel_rfl) (by kernel_rfl) (fun _ _ _ h => h) (Or.inl ⟨by rfl, ?_⟩) hHeld ?_
                          rotate_left
                          · intro w hSw
                            (try dsimp only at hSw)
                            go_simp
                            try with_reducible rfl
                          try simp only [List.getElem_toArray, List.getElem_cons_zero, List.getElem_cons_succ, Act.put, List.setIfInBounds_toArray, List.set_cons_zero, List.set_cons_succ]
                          refine wpAnyH_take (i := 50) (v := ?_) rfl (by kernel_rfl) (by kernel_rfl) (by kernel_rfl) (fun _ _ _ h => h) (Or.inl ⟨by rfl, ?_⟩) hHeld ?_
                          rotate_left
                          · intro w hSw
                            (try dsimp only at hSw)
                            go_simp
                            try with_reducible rfl
                          try simp only [List.getElem_toArray, List.getElem_cons_zero, List.getElem_cons_succ, Act.put, List.setIfInBounds_toArray, List.set_cons_zero, List.set_cons_succ]
                          refine wpAnyH_take (i := 51) (v := ?_) rfl (by kernel_rfl) (by kernel_rfl) (by kernel_rfl) (fun _ _ _ h => h) (Or.inl ⟨by rfl, ?_⟩) hHeld ?_
                          rotate_left
                          · intro w hSw
                            (try dsimp only at hSw)
                            go_simp
                            try with_reducible rfl
                          try simp only [List.getElem_toArray, List.getElem_cons_zero, List.getElem_cons_succ, Act.put, List.setIfInBounds_toArray, List.set_cons_zero, List.set_cons_succ]
                          refine wpAnyH_take (i := 52) (v := ?_) rfl (by kernel_rfl) (by kernel_rfl) (by kernel_rfl) (fun _ _ _ h => h) (Or.inl ⟨by rfl, ?_⟩) hHeld ?_
                          rotate_left
                          · intro w hSw
                            (try dsimp only at hSw)
                            go_simp
                            try with_reducible rfl
                          try simp only [List.getElem_toArray, List.getElem_cons_zero, List.getElem_cons_succ, Act.put, List.setIfInBounds_toArray, List.set_cons_zero, List.set_cons_succ]
                          refine wpAnyH_take (i := 53) (v := ?_) rfl (by kernel_rfl) (by kernel_rfl) (by kernel_rfl) (fun _ _ _ h => h) (Or.inl ⟨by rfl, ?_⟩) hHeld ?_
                          rotate_left
                          · intro w hSw
                            (try dsimp only at hSw)
                            go_simp
                            try with_reducible rfl
                          try simp only [List.getElem_toArray, List.getElem_cons_zero, List.getElem_cons_succ, Act.put, List.setIfInBounds_toArray, List.set_cons_zero, List.set_cons_succ]
                          refine wpAnyH_take (i := 54) (v := ?_) rfl (by kernel_rfl) (by kernel_rfl) (by kernel_rfl) (fun _ _ _ h => h) (Or.inl ⟨by rfl, ?_⟩) hHeld ?_
                          rotate_left
                          · intro w hSw
                            (try dsimp only at hSw)
                            go_simp
                            try with_reducible rfl
                          try simp only [List.getElem_toArray, List.getElem_cons_zero, List.getElem_cons_succ, Act.put, List.setIfInBounds_toArray, List.set_cons_zero, List.set_cons_succ]
                          refine wpAnyH_take (i := 55) (v := ?_) rfl (by kernel_rfl) (by kernel_rfl) (by kernel_rfl) (fun _ _ _ h => h) (Or.inl ⟨by rfl, ?_⟩) hHeld ?_
                          rotate_left
                          · intro w hSw
                            (try dsimp only at hSw)
                            go_simp
                            try with_reducible rfl
                          try simp only [List.getElem_toArray, List.getElem_cons_zero, List.getElem_cons_succ, Act.put, List.setIfInBounds_toArray, List.set_cons_zero, List.set_cons_succ]
                          refine wpAnyH_done (by kernel_rfl) ?_ _
                          refine NoPanic.normal ?_
                          have hb9 := below_step B9.out hHeld.2.2.2.2.2.2.2.2.2.2.2.2
                          clear hHeld
                          go_wp2
                          go_ret
                          exact ⟨rfl, hb9⟩
                        exact AllReadyH.nil
                      exact AllReadyH.nil
                    · have ht : edLess ⟨yf, yl, yt⟩ ⟨xf, xl, xt⟩ = true := by assumption
                      rw [edLess_asymm ht] at X1
                      rw [ht] at X2
                      clear ht
                      refine wpAnyH_ready (rs := [37]) (by kernel_rfl) (by simp) ?_
                      refine AllReadyH.cons rfl (fun K hK => ?_) ?_
                      · go_simp
                        refine (X1.out _).mono ?_
                        rintro e w' ⟨rfl, hbk⟩
                        go_simp
                        refine hK.out _ _ (MK.out _ (below_step hHeld.2.2.2.2.2.2.2.2.2.2.2.2 hbk)) (fun hHeld => ?_)
                        clear hK K
                        try simp only [List.getElem_toArray, List.getElem_cons_zero, List.getElem_cons_succ, Act.put, List.setIfInBounds_toArray, List.set_cons_zero, List.set_cons_succ]
                        refine wpAnyH_take (i := 38) (v := ?_) rfl (by kernel_rfl) (by kernel_rfl) (by kernel_rfl) (fun _ _ _ h => h) (Or.inl ⟨by rfl, ?_⟩) hHeld ?_
                        rotate_left
                        · intro w hSw
                          (try dsimp only at hSw)
                          go_simp
                          try with_reducible rfl
                        try simp only [List.getElem_toArray, List.getElem_cons_zero, List.getElem_cons_succ, Act.put, List.setIfInBounds_toArray, List.set_cons_zero, List.set_cons_succ]
                        refine wpAnyH_take (i := 39) (v := ?_) rfl (by kernel_rfl) (by kernel_rfl) (by kernel_rfl) (fun _ _ _ h => h) (Or.inl ⟨by rfl, ?_⟩) hHeld ?_
                        rotate_left
                        · intro w hSw
                          (try dsimp only at hSw)
                          go_simp
                          try with_reducible rfl
                        try simp only [List.getElem_toArray, List.getElem_cons_zero, List.getElem_cons_succ, Act.put, List.setIfInBounds_toArray, List.set_cons_zero, List.set_cons_succ]
                        refine wpAnyH_take (i := 40) (v := ?_) rfl (by kernel_rfl) (by kernel_rfl) (by kernel_rfl) (fun _ _ _ h => h) (Or.inl ⟨by rfl, ?_⟩) hHeld ?_
                        rotate_left
                        · intro w hSw
                          (try dsimp only at hSw)
                          go_simp
                          try with_reducible rfl
                        try simp only [List.getElem_toArray, List.getElem_cons_zero, List.getElem_cons_succ, Act.put, List.setIfInBounds_toArray, List.set_cons_zero, List.set_cons_succ]
                        refine wpAnyH_take (i := 41) (v := ?_) rfl (by kernel_rfl) (by kernel_rfl) (by kernel_rfl) (fun _ _ _ h => h) (Or.inl ⟨by rfl, ?_⟩) hHeld ?_
                        rotate_left
                        · intro w hSw
                          (try dsimp only at hSw)
                          go_simp
                          try with_reducible rfl
                        try simp only [List.getElem_toArray, List.getElem_cons_zero, List.getElem_cons_succ, Act.put, List.setIfInBounds_toArray, List.set_cons_zero, List.set_cons_succ]
                        refine wpAnyH_take (i := 42) (v := ?_) rfl (by kernel_rfl) (by kernel_rfl) (by kernel_rfl) (fun _ _ _ h => h) (Or.inl ⟨by rfl, ?_⟩) hHeld ?_
                        rotate_left
                        · intro w hSw
                          (try dsimp only at hSw)
                          go_simp
                          try with_reducible rfl
                        try simp only [List.getElem_toArray, List.getElem_cons_zero, List.getElem_cons_succ, Act.put, List.setIfInBounds_toArray, List.set_cons_zero, List.set_cons_succ]
                        refine wpAnyH_take (i := 43) (v := ?_) rfl (by kernel_rfl) (by kernel_rfl) (by kernel_rfl) (fun _ _ _ h => h) (Or.inl ⟨by rfl, ?_⟩) hHeld ?_
                        rotate_left
                        · intro w hSw
                          (try dsimp only at hSw)
                          go_simp
                          try with_reducible rfl
                        try simp only [List.getElem_toArray, List.getElem_cons_zero, List.getElem_cons_succ, Act.put, List.setIfInBounds_toArray, List.set_cons_zero, List.set_cons_succ]
                        refine wpAnyH_ready (rs := [44]) (by kernel_rfl) (by simp) ?_
                        refine AllReadyH.cons rfl (fun K hK => ?_) ?_
                        · go_simp
                          refine (X2.out _).mono ?_
                          rintro e w' ⟨rfl, hbk⟩
                          go_simp
                          refine hK.out _ _ (MK.out _ (below_step hHeld.2.2.2.2.2.2.2.2.2.2.2.2 hbk)) (fun hHeld => ?_)
                          clear hK K
                          try simp only [List.getElem_toArray, List.getElem_cons_zero, List.getElem_cons_succ, Act.put, List.setIfInBounds_toArray, List.set_cons_zero, List.set_cons_succ]
                          refine wpAnyH_take (i := 45) (v := ?_) rfl (by kernel_rfl) (by kernel_rfl) (by kernel_rfl) (fun _ _ _ h => h) (Or.inl ⟨by rfl, ?_⟩) hHeld ?_
                          rotate_left
                          · intro w hSw
                            (try dsimp only at hSw)
                            go_simp
                            try with_reducible rfl
                          try simp only [List.getElem_toArray, List.getElem_cons_zero, List.getElem_cons_succ, Act.put, List.setIfInBounds_toArray, List.set_cons_zero, List.set_cons_succ]
                          refine wpAnyH_take (i := 46) (v := ?_) rfl (by kernel_rfl) (by kernel_rfl) (by kernel_rfl) (fun _ _ _ h => h) (Or.inl ⟨by rfl, ?_⟩) hHeld ?_
                          rotate_left
                          · intro w hSw
                            (try dsimp only at hSw)
                            go_simp
                            try with_reducible rfl
                          try simp only [List.getElem_toArray, List.getElem_cons_zero, List.getElem_cons_succ, Act.put, List.setIfInBounds_toArray, List.set_cons_zero, List.set_cons_succ]
                          refine wpAnyH_take (i := 47) (v := undef) rfl (by kernel_rfl) (by kernel_rfl) (by kernel_rfl) (fun _ _ _ h => h) (Or.inr ⟨by rfl, rfl⟩) hHeld ?_
                          try simp only [List.getElem_toArray, List.getElem_cons_zero, List.getElem_cons_succ, Act.put, List.setIfInBounds_toArray, List.set_cons_zero, List.set_cons_succ]
                          refine wpAnyH_take (i := 48) (v := undef) rfl (by kernel_rfl) (by kernel_rfl) (by kernel_rfl) (fun _ _ _ h => h) (Or.inr ⟨by rfl, rfl⟩) hHeld ?_
                          try simp only [List.getElem_toArray, List.getElem_cons_zero, List.getElem_cons_succ, Act.put, List.setIfInBounds_toArray, List.set_cons_zero, List.set_cons_succ]
                          refine wpAnyH_take (i := 49) (v := undef) rfl (by kernel_rfl) (by kernel_rfl) (by kernel_rfl) (fun _ _ _ h => h) (Or.inr ⟨by rfl, rfl⟩) hHeld ?_
                          try simp only [List.getElem_toArray, List.getElem_cons_zero, List.getElem_cons_succ, Act.put, List.setIfInBounds_toArray, List.set_cons_zero, List.set_cons_succ]
                          refine wpAnyH_take (i := 50) (v := undef) rfl (by kernel_rfl) (by kernel_rfl) (by kernel_rfl) (fun _ _ _ h => h) (Or.inr ⟨by rfl, rfl⟩) hHeld ?_
                          try simp only [List.getElem_toArray, List.getElem_cons_zero, List.getElem_cons_succ, Act.put, List.setIfInBounds_toArray, List.set_cons_zero, List.set_cons_succ]
                          refine wpAnyH_take (i := 51) (v := undef) rfl (by kernel_rfl) (by kernel_rfl) (by kernel_rfl) (fun _ _ _ h => h) (Or.inr ⟨by rfl, rfl⟩) hHeld ?_
                          try simp only [List.getElem_toArray, List.getElem_cons_zero, List.getElem_cons_succ, Act.put, List.setIfInBounds_toArray, List.set_cons_zero, List.set_cons_succ]
                          refine wpAnyH_take (i := 52) (v := undef) rfl (by kernel_rfl) (by kernel_rfl) (by kernel_rfl) (fun _ _ _ h => h) (Or.inr ⟨by rfl, rfl⟩) hHeld ?_
                          try simp only [List.getElem_toArray, List.getElem_cons_zero, List.getElem_cons_succ, Act.put, List.setIfInBounds_toArray, List.set_cons_zero, List.set_cons_succ]
                          refine wpAnyH_take (i := 53) (v := ?_) rfl (by kernel_rfl) (by kernel_rfl) (by kernel_rfl) (fun _ _ _ h => h) (Or.inl ⟨by rfl, ?_⟩) hHeld ?_
                          rotate_left
                          · intro w hSw
                            (try dsimp only at hSw)
                            go_simp
                            try with_reducible rfl
                          try simp only [List.getElem_toArray, List.getElem_cons_zero, List.getElem_cons_succ, Act.put, List.setIfInBounds_toArray, List.set_cons_zero, List.set_cons_succ]
                          refine wpAnyH_take (i := 54) (v := ?_) rfl (by kernel_rfl) (by kernel_rfl) (by kernel_rfl) (fun _ _ _ h => h) (Or.inl ⟨by rfl, ?_⟩) hHeld ?_
                          rotate_left
                          · intro w hSw
                            (try dsimp only at hSw)
                            go_simp
                            try with_reducible rfl
                          try simp only [List.getElem_toArray, List.getElem_cons_zero, List.getElem_cons_succ, Act.put, List.setIfInBounds_toArray, List.set_cons_zero, List.set_cons_succ]
                          refine wpAnyH_take (i := 55) (v := ?_) rfl (by kernel_rfl) (by kernel_rfl) (by kernel_rfl) (fun _ _ _ h => h) (Or.inl ⟨by rfl, ?_⟩) hHeld ?_
                          rotate_left
                          · intro w hSw
                            (try dsimp only at hSw)
                            go_simp
                            try with_reducible rfl
                          try simp only [List.getElem_toArray, List.getElem_cons_zero, List.getElem_cons_succ, Act.put, List.setIfInBounds_toArray, List.set_cons_zero, List.set_cons_succ]
                          refine wpAnyH_done (by kernel_rfl) ?_ _
                          refine NoPanic.normal ?_
                          have hb9 := below_step B9.out hHeld.2.2.2.2.2.2.2.2.2.2.2.2
                          clear hHeld
                          go_wp2
                          go_ret
                          exact ⟨rfl, hb9⟩
                        exact AllReadyH.nil
                      exact AllReadyH.nil
                  exact AllReadyH.nil
                exact AllReadyH.nil
              exact AllReadyH.nil
            exact AllReadyH.nil
end Go.Proofs.Ytnhanakeijplcaa
