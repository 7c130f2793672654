/- OneWay: the program's function and the reference's. Conditions: the labels' range and the sizes of the lengths. -/
import Derived.Test.YtdmheaommmnhoaaSNfaOk
namespace Go.Proofs.Ytdmheaommmnhoaa
open Go.RowKit

/-- No two neighbours have the same beginning and the same label, up to j. -/
def OWto (es : List Ed) (j : Nat) : Prop := ∀ t m (ht : t < es.length) (hm : m + 1 = t), t < j → ¬ (es[t].f = (es[m]'(by omega)).f ∧ es[t].l = (es[m]'(by omega)).l)
def OWok (es : List Ed) : Prop := ∀ t m (ht : t < es.length) (hm : m + 1 = t), ¬ (es[t].f = (es[m]'(by omega)).f ∧ es[t].l = (es[m]'(by omega)).l)
theorem OWto.next {es : List Ed} {j m : Nat} (h : OWto es j) (hj : j < es.length) (hm : m + 1 = j) (hn : ¬ (es[j].f = (es[m]'(by omega)).f ∧ es[j].l = (es[m]'(by omega)).l)) : OWto es (j + 1) := by
  intro t m' ht hm' hlt
  by_cases e : t = j
  · subst e
    have : m' = m := by omega
    subst this
    exact hn
  · exact h t m' ht hm' (by omega)
theorem OWto.full {es : List Ed} {j : Nat} (h : OWto es j) (hj : es.length ≤ j) : OWok es := fun t m ht hm => h t m ht hm (by omega)

set_option maxRecDepth 100000 in
set_option maxHeartbeats 3200000 in
theorem spec_OneWay_any (s : Int) (A B : Option Addr) (c d : Nat) (es : List Ed) (bs : List Bool) (w : World) (hx : RdE w A es) (hn : es.length ≤ 4294967296) (hm : bs.length ≤ 4294967296) (hl : ∀ e ∈ es, 0 ≤ e.l ∧ e.l ≤ 255) :
    Calls Try.prog 31 #[.agg #[.int .i64 s, .slice A es.length c, .slice B bs.length d]] w fun e w' => e = .returned (.bool (PP (NOk s es bs ∧ OWok es))) ∧ Below w.heap.size w w' := by
  have HX := Lib.hid hx
  have C := Lib.hid (fun w hx => spec_NfaOk_any s A B c d es bs w hx hn hm hl)
  clear hx hl
  obtain ⟨q, hq⟩ : ∃ q, PP (NOk s es bs) = q := ⟨_, rfl⟩
  rw [hq] at C
  have HQ := Lib.hid hq
  clear hq
  go_enter Try.func31, Try.ntmps31
  go_wp2
  go_loopw [3] (fun i wr => ∃ j : Nat, 1 ≤ j ∧ j ≤ es.length + 1 ∧ i = .int .i64 j ∧ Hid (OWto es j) ∧ wr.heap[w.heap.size]? = some (.cells #[.int .i64 s, .slice A es.length c, .slice B bs.length d] 43 (0, 0)) ∧ Below w.heap.size w wr) (fun i _ => es.length + 1 - (intOf i).toNat)
  case atStart => exact ⟨1, Nat.le_refl _, by omega, rfl, Lib.hid (fun t m ht hm h => by omega), heap_alloc_new _ _, below_alloc _ _⟩
  case round =>
    obtain ⟨j, hj1, hj2, rfl, HK, hbx, hb⟩ := hrel
    by_cases hlt : j < es.length
    · obtain ⟨m, hm1⟩ : ∃ m, j = m + 1 := ⟨j - 1, by omega⟩
      have hml : m < es.length := by omega
      obtain ⟨b, o, rfl, c0, c1, c2⟩ := (RdE.below HX.out hb).at_ hlt
      obtain ⟨b', o', hbo, p0, p1, p2⟩ := (RdE.below HX.out hb).at_ hml
      injection hbo with hbo
      injection hbo with e1 e2 _
      subst e1 e2
      obtain ⟨x, hxx⟩ : ∃ x, es[j] = x := ⟨_, rfl⟩
      obtain ⟨y, hyy⟩ : ∃ y, es[m] = y := ⟨_, rfl⟩
      rw [hxx] at c0 c1 c2
      rw [hyy] at p0 p1 p2
      have EX := Lib.hid hxx
      have EY := Lib.hid hyy
      clear hxx hyy
      have z1 := blk_cell (o := 1) hbx rfl
      have b0 := fun p => cellQ (blk_cell (o := 0) hbx rfl) p
      have b1 := fun p => cellQ (blk_cell (o := 1) hbx rfl) p
      have c0 := fun p => cellQ c0 p
      have c1 := fun p => cellQ c1 p
      have p0 := fun p => cellQ p0 p
      have p1 := fun p => cellQ p1 p
      have k0 : (0 : Int) ≤ (j : Int) := by omega
      have k1 : (j : Int) < (es.length : Int) := by omega
      have e3 : (j : Int) - 1 = (m : Int) := by omega
      have e4 : (0 : Int) ≤ (m : Int) := by omega
      have e5 : (m : Int) < (es.length : Int) := by omega
      have e6 : IntKind.i64.wrap ((j : Int) - 1) = (m : Int) := by rw [e3]; exact IntWalk.i64_in _ (by omega)
      have e7 : IntKind.i64.wrap (m : Int) = (m : Int) := IntWalk.i64_in _ (by omega)
      have HM := Lib.hid hm1
      have HBX := Lib.hid hbx
      clear hm1 c2 p2 hbx
      by_cases hf : x.f = y.f
      · have f1 : (x.f == y.f) = true := by rw [hf]; simp
        have f2 : (y.f == x.f) = true := by rw [hf]; simp
        have HF := Lib.hid hf
        clear hf
        by_cases hl : x.l = y.l
        · have l1 : (x.l == y.l) = true := by rw [hl]; simp
          have l2 : (y.l == x.l) = true := by rw [hl]; simp
          have HLB := Lib.hid hl
          clear hl
          go_wp2_with fail
          refine wp_region_below (by kernel_rfl) (by kernel_rfl) ?_
          repeat (first
            | go_big_quiet_step (fail)
            | quiet_step (fail))
          refine wpQuiet_nil ?_
          intro _ hw'
          obtain ⟨⟨w5, kk⟩, hw''⟩ := hw'
          subst hw''
          have hb5 := below_step hb kk
          clear b0 b1 c0 c1 p0 p1 e3 e4 e5 e6 e7 f1 f2 l1 l2
          go_wp2
          go_ret
          exact ⟨ret_b2 (PP_no fun h => h.2 j m hlt HM.out.symm ⟨by rw [EX.out, EY.out]; exact HF.out, by rw [EX.out, EY.out]; exact HLB.out⟩).symm, hb5⟩
        · have l1 : (x.l == y.l) = false := by simpa using hl
          have l2 : (y.l == x.l) = false := by simpa using fun h => hl h.symm
          have HLB := Lib.hid hl
          clear hl
          go_wp2_with fail
          refine wp_region_below (by kernel_rfl) (by kernel_rfl) ?_
          repeat (first
            | go_big_quiet_step (fail)
            | quiet_step (fail))
          refine wpQuiet_nil ?_
          intro _ hw'
          obtain ⟨⟨w5, kk⟩, hw''⟩ := hw'
          subst hw''
          have hb5 := below_step hb kk
          have hbx5 := blk_below kk HBX.out
          clear b0 b1 c0 c1 p0 p1 e3 e4 e5 e6 e7 f1 f2 l1 l2
          go_wp2
          go_roundw
          case rel => exact ⟨j + 1, by omega, by omega, by go_num, HK.out.next hlt HM.out.symm (fun h => HLB.out (by have := h.2; rwa [EX.out, EY.out] at this)), hbx5, hb5⟩
          case measure => simp [intOf]; omega
      · have f1 : (x.f == y.f) = false := by simpa using hf
        have f2 : (y.f == x.f) = false := by simpa using fun h => hf h.symm
        have HF := Lib.hid hf
        clear hf
        go_wp2_with fail
        refine wp_region_below (by kernel_rfl) (by kernel_rfl) ?_
        repeat (first
          | go_big_quiet_step (fail)
          | quiet_step (fail))
        refine wpQuiet_nil ?_
        intro _ hw'
        obtain ⟨⟨w5, kk⟩, hw''⟩ := hw'
        subst hw''
        have hb5 := below_step hb kk
        have hbx5 := blk_below kk HBX.out
        clear b0 b1 c0 c1 p0 p1 e3 e4 e5 e6 e7 f1 f2
        go_wp2
        go_roundw
        case rel => exact ⟨j + 1, by omega, by omega, by go_num, HK.out.next hlt HM.out.symm (fun h => HF.out (by have := h.1; rwa [EX.out, EY.out] at this)), hbx5, hb5⟩
        case measure => simp [intOf]; omega
    · have hfull := HK.out.full (by omega)
      have HFU := Lib.hid hfull
      clear hfull
      have b0 := blk_cell (o := 0) hbx rfl
      have b1 := blk_cell (o := 1) hbx rfl
      have b2 := blk_cell (o := 2) hbx rfl
      clear hbx
      go_wp2_with fail
      refine (C.out _ (RdE.below HX.out hb)).mono ?_
      rintro e w2 ⟨rfl, k2⟩
      go_wp2
      go_ret
      refine ⟨ret_b2 ?_, below_step hb k2⟩
      rw [← HQ.out]
      by_cases hok : NOk s es bs
      · rw [PP_yes hok, PP_yes ⟨hok, HFU.out⟩]
      · rw [PP_no hok, PP_no fun h => hok h.1]

set_option maxRecDepth 100000 in
set_option maxHeartbeats 3200000 in
theorem impl_OneWay_any (s : Int) (A B : Option Addr) (c d : Nat) (es : List Ed) (bs : List Bool) (w : World) (hx : RdE w A es) (hn : es.length ≤ 4294967296) (hm : bs.length ≤ 4294967296) (hl : ∀ e ∈ es, 0 ≤ e.l ∧ e.l ≤ 255) :
    Calls Try.prog 32 #[.agg #[.int .i64 s, .slice A es.length c, .slice B bs.length d]] w fun e w' => e = .returned (.bool (PP (NOk s es bs ∧ OWok es))) ∧ Below w.heap.size w w' := by
  have HX := Lib.hid hx
  have C := Lib.hid (fun w hx => impl_NfaOk_any s A B c d es bs w hx hn hm hl)
  clear hx hl
  by_cases hok : NOk s es bs
  · rw [PP_yes hok] at C
    have HOK := Lib.hid hok
    clear hok
    go_enter Try.func32, Try.ntmps32
    go_wp2_with fail
    refine (C.out _ (RdE.below HX.out (below_alloc _ _))).mono ?_
    rintro e w2 ⟨rfl, k2⟩
    have hbx2 := blk_below k2 (heap_alloc_new w (.cells #[.int .i64 s, .slice A es.length c, .slice B bs.length d] 43))
    have hb2 := below_step (below_alloc w (.cells #[.int .i64 s, .slice A es.length c, .slice B bs.length d] 43)) k2
    have HBX2 := Lib.hid hbx2
    have HB2 := Lib.hid hb2
    clear hbx2 hb2 k2
    go_wp2_with fail
    go_loopw [3] (fun i wr => ∃ j : Nat, 1 ≤ j ∧ j ≤ es.length + 1 ∧ i = .int .i64 j ∧ Hid (OWto es j) ∧ wr.heap[w.heap.size]? = some (.cells #[.int .i64 s, .slice A es.length c, .slice B bs.length d] 43 (0, 0)) ∧ Below w.heap.size w wr) (fun i _ => es.length + 1 - (intOf i).toNat)
    case atStart => exact ⟨1, Nat.le_refl _, by omega, rfl, Lib.hid (fun t m ht hm h => by omega), HBX2.out, HB2.out⟩
    case round =>
      obtain ⟨j, hj1, hj2, rfl, HK, hbx, hb⟩ := hrel
      by_cases hlt : j < es.length
      · obtain ⟨m, hm1⟩ : ∃ m, j = m + 1 := ⟨j - 1, by omega⟩
        have hml : m < es.length := by omega
        obtain ⟨b, o, rfl, c0, c1, c2⟩ := (RdE.below HX.out hb).at_ hlt
        obtain ⟨b', o', hbo, p0, p1, p2⟩ := (RdE.below HX.out hb).at_ hml
        injection hbo with hbo
        injection hbo with e1 e2 _
        subst e1 e2
        obtain ⟨x, hxx⟩ : ∃ x, es[j] = x := ⟨_, rfl⟩
        obtain ⟨y, hyy⟩ : ∃ y, es[m] = y := ⟨_, rfl⟩
        rw [hxx] at c0 c1 c2
        rw [hyy] at p0 p1 p2
        have EX := Lib.hid hxx
        have EY := Lib.hid hyy
        clear hxx hyy
        have z1 := blk_cell (o := 1) hbx rfl
        have b0 := fun p => cellQ (blk_cell (o := 0) hbx rfl) p
        have b1 := fun p => cellQ (blk_cell (o := 1) hbx rfl) p
        have c0 := fun p => cellQ c0 p
        have c1 := fun p => cellQ c1 p
        have p0 := fun p => cellQ p0 p
        have p1 := fun p => cellQ p1 p
        have k0 : (0 : Int) ≤ (j : Int) := by omega
        have k1 : (j : Int) < (es.length : Int) := by omega
        have e3 : (j : Int) - 1 = (m : Int) := by omega
        have e4 : (0 : Int) ≤ (m : Int) := by omega
        have e5 : (m : Int) < (es.length : Int) := by omega
        have e6 : IntKind.i64.wrap ((j : Int) - 1) = (m : Int) := by rw [e3]; exact IntWalk.i64_in _ (by omega)
        have e7 : IntKind.i64.wrap (m : Int) = (m : Int) := IntWalk.i64_in _ (by omega)
        have HM := Lib.hid hm1
        have HBX := Lib.hid hbx
        clear hm1 c2 p2 hbx
        by_cases hf : x.f = y.f
        · have f1 : (x.f == y.f) = true := by rw [hf]; simp
          have f2 : (y.f == x.f) = true := by rw [hf]; simp
          have HF := Lib.hid hf
          clear hf
          by_cases hl : x.l = y.l
          · have l1 : (x.l == y.l) = true := by rw [hl]; simp
            have l2 : (y.l == x.l) = true := by rw [hl]; simp
            have HLB := Lib.hid hl
            clear hl
            go_wp2_with fail
            refine wp_region_below (by kernel_rfl) (by kernel_rfl) ?_
            repeat (first
              | go_big_quiet_step (fail)
              | quiet_step (fail))
            refine wpQuiet_nil ?_
            intro _ hw'
            obtain ⟨⟨w5, kk⟩, hw''⟩ := hw'
            subst hw''
            have hb5 := below_step hb kk
            clear b0 b1 c0 c1 p0 p1 e3 e4 e5 e6 e7 f1 f2 l1 l2
            go_wp2
            go_ret
            exact ⟨ret_b2 (PP_no fun h => h.2 j m hlt HM.out.symm ⟨by rw [EX.out, EY.out]; exact HF.out, by rw [EX.out, EY.out]; exact HLB.out⟩).symm, hb5⟩
          · have l1 : (x.l == y.l) = false := by simpa using hl
            have l2 : (y.l == x.l) = false := by simpa using fun h => hl h.symm
            have HLB := Lib.hid hl
            clear hl
            go_wp2_with fail
            refine wp_region_below (by kernel_rfl) (by kernel_rfl) ?_
            repeat (first
              | go_big_quiet_step (fail)
              | quiet_step (fail))
            refine wpQuiet_nil ?_
            intro _ hw'
            obtain ⟨⟨w5, kk⟩, hw''⟩ := hw'
            subst hw''
            have hb5 := below_step hb kk
            have hbx5 := blk_below kk HBX.out
            clear b0 b1 c0 c1 p0 p1 e3 e4 e5 e6 e7 f1 f2 l1 l2
            go_wp2
            go_roundw
            case rel => exact ⟨j + 1, by omega, by omega, by go_num, HK.out.next hlt HM.out.symm (fun h => HLB.out (by have := h.2; rwa [EX.out, EY.out] at this)), hbx5, hb5⟩
            case measure => simp [intOf]; omega
        · have f1 : (x.f == y.f) = false := by simpa using hf
          have f2 : (y.f == x.f) = false := by simpa using fun h => hf h.symm
          have HF := Lib.hid hf
          clear hf
          go_wp2_with fail
          refine wp_region_below (by kernel_rfl) (by kernel_rfl) ?_
          repeat (first
            | go_big_quiet_step (fail)
            | quiet_step (fail))
          refine wpQuiet_nil ?_
          intro _ hw'
          obtain ⟨⟨w5, kk⟩, hw''⟩ := hw'
          subst hw''
          have hb5 := below_step hb kk
          have hbx5 := blk_below kk HBX.out
          clear b0 b1 c0 c1 p0 p1 e3 e4 e5 e6 e7 f1 f2
          go_wp2
          go_roundw
          case rel => exact ⟨j + 1, by omega, by omega, by go_num, HK.out.next hlt HM.out.symm (fun h => HF.out (by have := h.1; rwa [EX.out, EY.out] at this)), hbx5, hb5⟩
          case measure => simp [intOf]; omega
      · have hfull := HK.out.full (by omega)
        have HFU := Lib.hid hfull
        clear hfull
        have b0 := blk_cell (o := 0) hbx rfl
        have b1 := blk_cell (o := 1) hbx rfl
        have b2 := blk_cell (o := 2) hbx rfl
        clear hbx
        go_wp2
        go_ret
        exact ⟨ret_b2 (PP_yes ⟨HOK.out, HFU.out⟩).symm, hb⟩
  · rw [PP_no hok] at C
    rw [PP_no fun h => hok h.1]
    clear hok
    go_enter Try.func32, Try.ntmps32
    go_wp2_with fail
    refine (C.out _ (RdE.below HX.out (below_alloc _ _))).mono ?_
    rintro e w2 ⟨rfl, k2⟩
    go_wp2
    go_ret
    exact ⟨rfl, below_step (below_alloc _ _) k2⟩
end Go.Proofs.Ytdmheaommmnhoaa
