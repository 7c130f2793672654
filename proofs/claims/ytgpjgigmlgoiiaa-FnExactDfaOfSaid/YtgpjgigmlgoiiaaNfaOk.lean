/- NfaOk: the program's function and the reference's. Conditions: the labels' range and the size of a length. -/
import Derived.Test.YtgpjgigmlgoiiaaNfa
import Derived.Test.YtgpjgigmlgoiiaaSGraphOk
import Derived.Test.YtgpjgigmlgoiiaaBelowQ
namespace Go.Proofs.Ytgpjgigmlgoiiaa
open Go.RowKit
set_option maxRecDepth 100000 in

theorem spec_l07Less_any (a b : Ed) (w : World) : Calls Try.prog 83 #[a.val, b.val] w fun e w' => e = .returned (.bool (edLess a b)) ∧ Below w.heap.size w w' := by
  obtain ⟨af, al, at_⟩ := a
  obtain ⟨bf, bl, bt⟩ := b
  unfold Ed.val
  by_cases h1 : af = bf
  · subst h1
    by_cases h2 : al = bl
    · subst h2
      rw [show edLess ⟨af, al, at_⟩ ⟨af, al, bt⟩ = decide (at_ < bt) by simp [edLess]]
      go_enter Try.func83, Try.ntmps83
      go_wp2
      go_ret
      exact ⟨rfl, ((Below.refl w.heap.size w).alloc (Nat.le_refl _) _).alloc (by simp) _⟩
    · have b2 : (al != bl) = true := by rw [bne_iff_ne]; exact h2
      rw [show edLess ⟨af, al, at_⟩ ⟨af, bl, bt⟩ = decide (al < bl) by simp [edLess, h2]]
      go_enter Try.func83, Try.ntmps83
      go_wp2
      go_ret
      exact ⟨rfl, ((Below.refl w.heap.size w).alloc (Nat.le_refl _) _).alloc (by simp) _⟩
  · have b1 : (af != bf) = true := by rw [bne_iff_ne]; exact h1
    rw [show edLess ⟨af, al, at_⟩ ⟨bf, bl, bt⟩ = decide (af < bf) by simp [edLess, h1]]
    go_enter Try.func83, Try.ntmps83
    go_wp2
    go_ret
    exact ⟨rfl, ((Below.refl w.heap.size w).alloc (Nat.le_refl _) _).alloc (by simp) _⟩

/-- The order of arcs. -/
def arcCmp (a b : Ed) : Int := cmpI [a.f, a.l, a.t] [b.f, b.l, b.t]
theorem RdI.three (w : World) (a b c : Int) (e : TypeId) {g : Nat} (hg : w.heap.size = g) : RdI (w.alloc (.cells #[.int .i64 a, .int .i64 b, .int .i64 c] e)) (some ⟨g, 0, none⟩) 3 [a, b, c] :=
  Rd.new w #[.int .i64 a, .int .i64 b, .int .i64 c] e hg rfl
set_option maxRecDepth 100000 in
theorem compareArcs_any (a b : Ed) (ha : 0 ≤ a.l ∧ a.l ≤ 255) (hb : 0 ≤ b.l ∧ b.l ≤ 255) (w : World) : Calls Try.prog 85 #[a.val, b.val] w fun e w' => e = .returned (.int .i64 (arcCmp a b)) ∧ Below w.heap.size w w' := by
  obtain ⟨af, al, at_⟩ := a
  obtain ⟨bf, bl, bt⟩ := b
  obtain ⟨ha1, ha2⟩ := ha
  obtain ⟨hb1, hb2⟩ := hb
  simp only at ha1 ha2 hb1 hb2
  unfold Ed.val
  rw [show arcCmp ⟨af, al, at_⟩ ⟨bf, bl, bt⟩ = cmpI [af, al, at_] [bf, bl, bt] from rfl]
  go_enter Try.func85, Try.ntmps85
  go_wp2_with (go_at_call 102; refine (Compare_any _ _ 3 3 3 3 [af, al, at_] [bf, bl, bt] _ ((RdI.three _ _ _ _ _ (by simp)).alloc _) (RdI.three _ _ _ _ _ (by simp)) (by omega) (by omega)).mono ?_; rintro e w1 ⟨rfl, rfl⟩)
  go_ret
  exact ⟨rfl, ((((Below.refl w.heap.size w).alloc (Nat.le_refl _) _).alloc (by simp) _).alloc (by simp; omega) _).alloc (by simp; omega) _⟩
theorem arcCmp_ge (a b : Ed) : decide (0 ≤ arcCmp a b) = !edLess a b := by
  obtain ⟨af, al, at_⟩ := a
  obtain ⟨bf, bl, bt⟩ := b
  unfold arcCmp edLess
  simp only [cmpI]
  by_cases h1 : af = bf
  · subst h1
    by_cases h2 : al = bl
    · subst h2
      rcases (by omega : at_ < bt ∨ at_ = bt ∨ bt < at_) with h | h | h
      · simp [h]
      · simp [h]
      · simp [h, Int.lt_irrefl, show ¬ at_ < bt by omega]
    · rcases (by omega : al < bl ∨ bl < al) with h | h
      · simp [h2, h, Int.lt_irrefl]
      · simp [h2, h, Int.lt_irrefl, show ¬ al < bl by omega]
  · rcases (by omega : af < bf ∨ bf < af) with h | h
    · simp [h1, h]
    · simp [h1, h, show ¬ af < bf by omega]

/-- A valid automaton. -/
def NOk (s : Int) (es : List Ed) (bs : List Bool) : Prop := (1 ≤ s ∧ s ≤ 24) ∧ (bs.length : Int) = s ∧ OkTo s es es.length

set_option maxRecDepth 100000 in
set_option maxHeartbeats 6400000 in
theorem impl_NfaOk_any (s : Int) (A B : Option Addr) (c d : Nat) (es : List Ed) (bs : List Bool) (w : World) (hx : RdE w A es) (hn : es.length ≤ 4294967296) (hm : bs.length ≤ 4294967296) (hl : ∀ e ∈ es, 0 ≤ e.l ∧ e.l ≤ 255) :
    Calls Try.prog 46 #[.agg #[.int .i64 s, .slice A es.length c, .slice B bs.length d]] w fun e w' => e = .returned (.bool (PP (NOk s es bs))) ∧ Below w.heap.size w w' := by
  have HX := Lib.hid hx
  have HL := Lib.hid hl
  clear hx hl
  by_cases hg : 1 ≤ s ∧ s ≤ 24 ∧ (bs.length : Int) = s
  · obtain ⟨hs1, hs2, hbl⟩ := hg
    have nb : ((bs.length : Int) != s) = false := by simpa using hbl
    have HBL := Lib.hid hbl
    clear hbl
    go_enter Try.func46, Try.ntmps46
    go_wp2
    go_loopw [24] (fun i wr => ∃ k : Nat, k ≤ es.length ∧ i = .int .i64 k ∧ Hid (OkTo s es k) ∧ wr.heap[w.heap.size]? = some (.cells #[.int .i64 s, .slice A es.length c, .slice B bs.length d] 29 (0, 0)) ∧ Below w.heap.size w wr) (fun i _ => es.length - (intOf i).toNat)
    case atStart => exact ⟨0, Nat.zero_le _, rfl, fun i _ h => absurd h (by omega), heap_alloc_new _ _, below_alloc _ _⟩
    case round =>
      clear nb
      obtain ⟨k, hk, rfl, HK, hbx, hb⟩ := hrel
      have HBX := Lib.hid hbx
      have b0 := blk_cell (o := 0) hbx rfl
      have b1 := blk_cell (o := 1) hbx rfl
      have hbl := blk_lt hbx
      clear hbx
      by_cases hlt : k < es.length
      · obtain ⟨b, o, rfl, c0, c1, c2⟩ := (RdE.below HX.out hb).at_ hlt
        obtain ⟨x, hxx⟩ : ∃ x, es[k] = x := ⟨_, rfl⟩
        have hxl := HL.out es[k] (List.getElem_mem hlt)
        rw [hxx] at c0 c1 c2 hxl
        have EX := Lib.hid hxx
        clear hxx
        have k0 : (0 : Int) ≤ (k : Int) := by omega
        have k1 : (k : Int) < (es.length : Int) := by omega
        have hno : ¬ EdOk s x → PP (NOk s es bs) = false := fun h => PP_no fun hh => h (by have := (hh.2.2 k hlt hlt).1; rwa [EX.out] at this)
        have HNO := Lib.hid hno
        clear hno
        have hB1 := hb.alloc hb.size (.cells #[.int .i64 x.f, .int .u8 x.l, .int .i64 x.t] 76)
        by_cases g1 : x.f < 0
        · go_wp2
          go_ret
          exact ⟨ret_b2 (HNO.out fun h => by have := h.1; simp only [vtxB, Bool.and_eq_true, decide_eq_true_eq] at this; omega).symm, hB1⟩
        by_cases g2 : s ≤ x.f
        · have g1' : 0 ≤ x.f := by omega
          go_wp2
          go_ret
          exact ⟨ret_b2 (HNO.out fun h => by have := h.1; simp only [vtxB, Bool.and_eq_true, decide_eq_true_eq] at this; omega).symm, hB1⟩
        by_cases g3 : x.t < 0
        · have g1' : 0 ≤ x.f := by omega
          have g2' : x.f < s := by omega
          go_wp2
          go_ret
          exact ⟨ret_b2 (HNO.out fun h => by have := h.2.1; simp only [vtxB, Bool.and_eq_true, decide_eq_true_eq] at this; omega).symm, hB1⟩
        by_cases g4 : s ≤ x.t
        · have g1' : 0 ≤ x.f := by omega
          have g2' : x.f < s := by omega
          have g3' : 0 ≤ x.t := by omega
          go_wp2
          go_ret
          exact ⟨ret_b2 (HNO.out fun h => by have := h.2.1; simp only [vtxB, Bool.and_eq_true, decide_eq_true_eq] at this; omega).symm, hB1⟩
        have g1' : 0 ≤ x.f := by omega
        have g2' : x.f < s := by omega
        have g3' : 0 ≤ x.t := by omega
        have g4' : x.t < s := by omega
        have CL := Lib.hid (fun w => isLabel_any x.l w)
        cases hq : lblB x.l with
        | false =>
          rw [hq] at CL
          have HQ := Lib.hid hq
          clear hq
          go_wp2_with fail
          refine (CL.out _).mono ?_
          rintro e w1 ⟨rfl, rfl⟩
          go_wp2
          go_ret
          exact ⟨ret_b2 (HNO.out fun h => by have := h.2.2; rw [HQ.out] at this; cases this).symm, hB1⟩
        | true =>
          rw [hq] at CL
          have hed : EdOk s es[k] := by rw [EX.out]; refine ⟨?_, ?_, hq⟩ <;> simp only [vtxB, Bool.and_eq_true, decide_eq_true_eq] <;> omega
          have HED := Lib.hid hed
          clear hq hed HNO
          go_wp2_with fail
          refine (CL.out _).mono ?_
          rintro e w1 ⟨rfl, rfl⟩
          clear CL
          have hB3 := Lib.hid hB1
          have hx3 := heap_alloc_new wr (.cells #[.int .i64 x.f, .int .u8 x.l, .int .i64 x.t] 76)
          have HBX3 := Lib.hid (blk_below (below_alloc wr (.cells #[.int .i64 x.f, .int .u8 x.l, .int .i64 x.t] 76)) HBX.out)
          have HX3 := Lib.hid (RdE.below (RdE.below HX.out hb) (below_alloc wr (.cells #[.int .i64 x.f, .int .u8 x.l, .int .i64 x.t] 76)))
          obtain ⟨W3, hW3⟩ : ∃ W, wr.alloc (.cells #[.int .i64 x.f, .int .u8 x.l, .int .i64 x.t] 76) = W := ⟨_, rfl⟩
          obtain ⟨g3, hg3⟩ : ∃ g, wr.heap.size = g := ⟨_, rfl⟩
          rw [hW3] at hB3 hx3 HBX3 HX3
          rw [hg3] at hx3
          clear b0 b1 c0 c1 c2 hB1 hbl
          have b0 := fun p => cellQ (blk_cell (o := 0) HBX3.out rfl) p
          have b1 := fun p => cellQ (blk_cell (o := 1) HBX3.out rfl) p
          have y0 := fun p => cellQ (blk_cell (o := 0) hx3 rfl) p
          have y1 := fun p => cellQ (blk_cell (o := 1) hx3 rfl) p
          have y2 := fun p => cellQ (blk_cell (o := 2) hx3 rfl) p
          rcases (by omega : k ≤ 0 ∨ 0 < k) with hk0 | hkp
          · have d0 : decide ((0 : Int) < (k : Int)) = false := by simp; omega
            have d1 : decide (0 < k) = false := by simp; omega
            go_wp2_with fail
            refine wp_region_below (by kernel_rfl) (by kernel_rfl) ?_
            repeat (first
              | go_big_quiet_step (fail)
              | quiet_step (fail))
            refine wpQuiet_nil ?_
            intro _ hw'
            obtain ⟨⟨w5, kk⟩, hw''⟩ := hw'
            subst hw''
            have hb5 := below_step hB3.out kk
            have hbx5 := blk_below kk HBX3.out
            clear d0 d1 b0 b1 y0 y1 y2 hW3 hg3
            go_wp2
            go_roundw
            case rel => exact ⟨k + 1, by omega, by go_num, OkTo.next HK.out hlt HED.out (fun j hj => by omega), hbx5, hb5⟩
            case measure => simp [intOf]; omega
          · obtain ⟨j, hj⟩ : ∃ j, k = j + 1 := ⟨k - 1, by omega⟩
            have hjl : j < es.length := by omega
            obtain ⟨b', o', hbo, p0, p1, p2⟩ := HX3.out.at_ hjl
            injection hbo with hbo
            injection hbo with e1 e2 _
            subst e1 e2
            obtain ⟨y, hyy⟩ : ∃ y, es[j] = y := ⟨_, rfl⟩
            have hyl := HL.out es[j] (List.getElem_mem hjl)
            rw [hyy] at p0 p1 p2 hyl
            have EY := Lib.hid hyy
            clear hyy
            have T := Lib.hid (fun w => compareArcs_any y x hyl hxl w)
            unfold Ed.val at T
            have hr := arcCmp_ge y x
            obtain ⟨r, hrr⟩ : ∃ r, arcCmp y x = r := ⟨_, rfl⟩
            rw [hrr] at T hr
            have HR := Lib.hid hr
            clear hr hrr
            have p0 := fun p => cellQ p0 p
            have p1 := fun p => cellQ p1 p
            have p2 := fun p => cellQ p2 p
            have d0 : decide ((0 : Int) < (k : Int)) = true := decide_eq_true (by omega)
            have d1 : decide (0 < k) = true := decide_eq_true (by omega)
            have d3 : (k : Int) - 1 = (j : Int) := by omega
            have d4 : (0 : Int) ≤ (j : Int) := by omega
            have d5 : (j : Int) < (es.length : Int) := by omega
            have d6 : IntKind.i64.wrap ((k : Int) - 1) = (j : Int) := by rw [d3]; exact IntWalk.i64_in _ (by omega)
            have d7 : IntKind.i64.wrap (j : Int) = (j : Int) := IntWalk.i64_in _ (by omega)
            have HJ := Lib.hid hj
            clear hj
            go_wp2_with fail
            refine wp_region_below (by kernel_rfl) (by kernel_rfl) ?_
            repeat (first
              | go_big_quiet_step ((go_at_call 85; exact Calls.below_of (T.out _)))
              | quiet_step ((go_at_call 85; exact Calls.below_of (T.out _))))
            refine wpQuiet_nil ?_
            intro _ hw'
            obtain ⟨⟨w5, kk⟩, hw''⟩ := hw'
            subst hw''
            have hb5 := below_step hB3.out kk
            have hbx5 := blk_below kk HBX3.out
            clear d0 d1 d3 d4 d5 d6 d7 p0 p1 p2 b0 b1 y0 y1 y2 hW3 hg3
            by_cases hr0 : 0 ≤ r
            · have e0 : decide (0 ≤ r) = true := decide_eq_true hr0
              go_wp2
              go_ret
              refine ⟨ret_b2 (PP_no fun h => ?_).symm, hb5⟩
              have h1 := (h.2.2 k hlt hlt).2 j HJ.out.symm
              rw [EX.out, EY.out] at h1
              have h2 := HR.out
              rw [h1, e0] at h2
              cases h2
            · have e0 : decide (0 ≤ r) = false := decide_eq_false hr0
              go_wp2
              go_roundw
              case rel =>
                refine ⟨k + 1, by omega, by go_num, OkTo.next HK.out hlt HED.out (fun i hi => ?_), hbx5, hb5⟩
                have hij : i = j := by have := HJ.out; omega
                subst hij
                rw [EX.out, EY.out]
                have h2 := HR.out
                rw [e0] at h2
                cases h3 : edLess y x
                · rw [h3] at h2; cases h2
                · rfl
              case measure => simp [intOf]; omega
      · obtain rfl : k = es.length := by omega
        go_wp2
        go_ret
        exact ⟨ret_b2 (PP_yes ⟨⟨hs1, hs2⟩, HBL.out, HK.out⟩).symm, hb⟩
  · rw [PP_no (fun h => hg ⟨h.1.1, h.1.2, h.2.1⟩)]
    rcases (by omega : s < 1 ∨ (1 ≤ s ∧ 24 < s) ∨ (1 ≤ s ∧ s ≤ 24 ∧ (bs.length : Int) ≠ s)) with h1 | ⟨h1, h2⟩ | ⟨h1, h2, h3⟩
    · clear hg
      go_enter Try.func46, Try.ntmps46
      go_wp2
      go_ret
      exact ⟨rfl, below_alloc _ _⟩
    · clear hg
      go_enter Try.func46, Try.ntmps46
      go_wp2
      go_ret
      exact ⟨rfl, below_alloc _ _⟩
    · have nb : ((bs.length : Int) != s) = true := by simpa using h3
      clear hg h3
      go_enter Try.func46, Try.ntmps46
      go_wp2
      go_ret
      exact ⟨rfl, below_alloc _ _⟩
end Go.Proofs.Ytgpjgigmlgoiiaa
