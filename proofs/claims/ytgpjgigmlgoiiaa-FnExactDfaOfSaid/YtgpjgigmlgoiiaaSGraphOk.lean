/- GraphOk: the reference's function. No conditions but the labels' range and the size of a length. -/
import Derived.Test.YtgpjgigmlgoiiaaGraphOk
import Derived.Test.YtgpjgigmlgoiiaaIn
namespace Go.Proofs.Ytgpjgigmlgoiiaa
open Go.RowKit

theorem spec_vtx_any (s v : Int) (w : World) : Calls Try.prog 78 #[.int .i64 v, .int .i64 0, .int .i64 (s - 1)] w fun e w' => e = .returned (.bool (vtxB s v)) ∧ Below w.heap.size w w' := by
  refine (spec_l01In_any v 0 (s - 1) w).mono ?_
  rintro e w1 ⟨rfl, rfl⟩
  refine ⟨?_, Below.refl _ _⟩
  unfold vtxB
  have : decide (v ≤ s - 1) = decide (v < s) := by apply decide_eq_decide.2; omega
  rw [this]

theorem spec_vtx_same (s v : Int) (n : Nat) (w : World) : Calls Try.prog 78 #[.int .i64 v, .int .i64 0, .int .i64 (s - 1)] (w.drewN n) fun e w' => e = .returned (.bool (vtxB s v)) ∧ w' = w.drewN n := by
  refine (spec_l01In_any v 0 (s - 1) _).mono ?_
  rintro e w1 ⟨rfl, rfl⟩
  refine ⟨?_, rfl⟩
  unfold vtxB
  have : decide (v ≤ s - 1) = decide (v < s) := by apply decide_eq_decide.2; omega
  rw [this]

set_option maxRecDepth 100000 in
set_option maxHeartbeats 6400000 in
theorem spec_GraphOk_any (s : Int) (A : Option Addr) (c : Nat) (es : List Ed) (w : World) (hx : RdE w A es) (hn : es.length ≤ 4294967296) (hl : ∀ e ∈ es, 0 ≤ e.l ∧ e.l ≤ 255) :
    Calls Try.prog 60 #[.agg #[.int .i64 s, .slice A es.length c]] w fun e w' => e = .returned (.bool (PP (GOk s es))) ∧ Below w.heap.size w w' := by
  have HX := Lib.hid hx
  have HL := Lib.hid hl
  clear hx hl
  by_cases hg : 1 ≤ s ∧ s ≤ 12 ∧ es.length ≤ 40
  · obtain ⟨hs1, hs2, hl40⟩ := hg
    have t1 : decide ((1 : Int) ≤ s) = true := decide_eq_true hs1
    have t2 : decide (s ≤ (12 : Int)) = true := decide_eq_true hs2
    have ww : IntKind.i64.wrap (s - 1) = s - 1 := IntWalk.i64_in _ (by omega)
    go_enter Try.func60, Try.ntmps60
    go_wp2_with fail
    refine (spec_l01In_any s 1 12 _).mono ?_
    rw [t1, t2]
    rintro e w1 ⟨rfl, rfl⟩
    clear t1 t2
    go_wp2
    go_loopw [3] (fun i wr => ∃ k : Nat, k ≤ es.length ∧ i = .int .i64 k ∧ Hid (OkTo s es k) ∧ wr.cell? ⟨w.heap.size, 0, none⟩ = some (.int .i64 s) ∧ wr.cell? ⟨w.heap.size, 1, none⟩ = some (.slice A es.length c) ∧ w.heap.size < wr.heap.size ∧ Below w.heap.size w wr) (fun i _ => es.length - (intOf i).toNat)
    case atStart => exact ⟨0, Nat.zero_le _, rfl, fun i _ h => absurd h (by omega), by go_simp, by go_simp, by simp, (Below.refl _ _).alloc (Nat.le_refl _) _⟩
    case round =>
      obtain ⟨k, hk, rfl, HK, b0, b1, hsz, hb⟩ := hrel
      by_cases hlt : k < es.length
      · obtain ⟨b, o, rfl, c0, c1, c2⟩ := (RdE.below HX.out hb).at_ hlt
        obtain ⟨x, hxx⟩ : ∃ x, es[k] = x := ⟨_, rfl⟩
        have hxl := HL.out es[k] (List.getElem_mem hlt)
        rw [hxx] at c0 c1 c2 hxl
        have EX := Lib.hid hxx
        clear hxx
        obtain ⟨q1, hq1⟩ : ∃ q, vtxB s x.f = q := ⟨_, rfl⟩
        obtain ⟨q2, hq2⟩ : ∃ q, vtxB s x.t = q := ⟨_, rfl⟩
        have L1 := Lib.hid (fun w => spec_vtx_any s x.f w)
        have L2 := Lib.hid (fun w => spec_vtx_any s x.t w)
        have M1 := Lib.hid (fun n w => spec_vtx_same s x.f n w)
        have M2 := Lib.hid (fun n w => spec_vtx_same s x.t n w)
        rw [hq1] at L1 M1
        rw [hq2] at L2 M2
        have Q1 := Lib.hid hq1
        have Q2 := Lib.hid hq2
        clear hq1 hq2
        obtain ⟨xf, xl, xt⟩ := x
        simp only at c0 c1 c2 Q1 Q2 hxl L1 L2 M1 M2
        obtain ⟨xl0, xl1⟩ := hxl
        have k0 : (0 : Int) ≤ (k : Int) := by omega
        have k1 : (k : Int) < (es.length : Int) := by omega
        have hW : Below wr.heap.size wr (wr.alloc (.cells #[.int .i64 xf, .int .u8 xl, .int .i64 xt] 119)).drew := ((Below.refl wr.heap.size wr).alloc (Nat.le_refl _) _).drew
        have hs3 : w.heap.size < (wr.alloc (.cells #[.int .i64 xf, .int .u8 xl, .int .i64 xt] 119)).drew.heap.size := by simp; omega
        have hB3 : Below w.heap.size w (wr.alloc (.cells #[.int .i64 xf, .int .u8 xl, .int .i64 xt] 119)).drew := (hb.alloc hb.size _).drew
        by_cases hgood : q1 = true ∧ q2 = true ∧ 97 ≤ xl ∧ xl ≤ 100
        · obtain ⟨rfl, rfl, g3, g4⟩ := hgood
          have hed : EdOk s es[k] := by rw [EX.out]; exact ⟨Q1.out, Q2.out, by simp [lblB, g3, g4]⟩
          have HED := Lib.hid hed
          clear hed
          have e3 : decide (xl < 97) = false := decide_eq_false (by omega)
          have e4 : decide (100 < xl) = false := decide_eq_false (by omega)
          rcases (by omega : k ≤ 0 ∨ 0 < k) with hk0 | hkp
          · have d0 : decide ((0 : Int) < (k : Int)) = false := by simp; omega
            have d1 : decide (0 < k) = false := by simp; omega
            go_wp2_with fail
            go_quiet ((go_at_call 78; first | (with_reducible exact Calls.quiet_of_same (M1.out _ _)) | (with_reducible exact Calls.quiet_of_same (M2.out _ _))))
            clear hs3 d0 d1 e3 e4
            have hV := below_drewN ((Below.refl wr.heap.size wr).alloc (Nat.le_refl _) (.cells #[.int .i64 xf, .int .u8 xl, .int .i64 xt] 119)) nq
            clear hW hB3
            go_wp2
            go_roundw
            case rel =>
              refine ⟨k + 1, by omega, by go_num, OkTo.next HK.out hlt HED.out (fun j hj => by omega), held_step hV b0, held_step hV b1, by simp; omega, below_drewN (hb.alloc hb.size _) _⟩
            case measure => simp [intOf]; omega
          · obtain ⟨j, rfl⟩ : ∃ j, k = j + 1 := ⟨k - 1, by omega⟩
            have hjl : j < es.length := by omega
            obtain ⟨b', o', hbo, p0, p1, p2⟩ := (RdE.below HX.out hb).at_ hjl
            injection hbo with hbo
            injection hbo with e1 e2 _
            subst e1 e2
            obtain ⟨y, hyy⟩ : ∃ y, es[j] = y := ⟨_, rfl⟩
            rw [hyy] at p0 p1 p2
            have EY := Lib.hid hyy
            clear hyy
            obtain ⟨yf, yl, yt⟩ := y
            simp only at p0 p1 p2
            have T := Lib.hid (fun w => spec_EdgeLess_any ⟨yf, yl, yt⟩ ⟨xf, xl, xt⟩ w)
            unfold Ed.val at T
            obtain ⟨r, hr⟩ : ∃ r, edLess ⟨yf, yl, yt⟩ ⟨xf, xl, xt⟩ = r := ⟨_, rfl⟩
            rw [hr] at T
            have HR := Lib.hid hr
            clear hr
            have d0 : decide ((0 : Int) < ((j + 1 : Nat) : Int)) = true := decide_eq_true (by omega)
            have d1 : decide ((0 : Int) < (j : Int) + 1) = true := decide_eq_true (by omega)
            have d2 : ((j + 1 : Nat) : Int) - 1 = (j : Int) := by omega
            have d3 : (j : Int) + 1 - 1 = (j : Int) := by omega
            have d4 : (0 : Int) ≤ (j : Int) := by omega
            have d5 : (j : Int) < (es.length : Int) := by omega
            have d6 : IntKind.i64.wrap ((j : Int) + 1 - 1) = (j : Int) := by rw [d3]; exact IntWalk.i64_in _ (by omega)
            have d7 : IntKind.i64.wrap (j : Int) = (j : Int) := IntWalk.i64_in _ (by omega)
            go_wp2_with fail
            go_region_held3 (fun w' => w'.cell? ⟨b, o + j * 3, none⟩ = some (.int .i64 yf) ∧ w'.cell? ⟨b, o + j * 3 + 1, none⟩ = some (.int .u8 yl) ∧ w'.cell? ⟨b, o + j * 3 + 2, none⟩ = some (.int .i64 yt) ∧
                w'.cell? ⟨wr.heap.size, 0, none⟩ = some (.int .i64 xf) ∧ w'.cell? ⟨wr.heap.size, 1, none⟩ = some (.int .u8 xl) ∧ w'.cell? ⟨wr.heap.size, 2, none⟩ = some (.int .i64 xt) ∧
                w'.cell? ⟨w.heap.size, 0, none⟩ = some (.int .i64 s) ∧ w'.cell? ⟨w.heap.size, 1, none⟩ = some (.slice (some ⟨b, o, none⟩) es.length c) ∧ w.heap.size < w'.heap.size ∧ Below w.heap.size w w')
              ((first
                | (go_split_ands; exact ⟨held_step hbk (by assumption), held_step hbk (by assumption), held_step hbk (by assumption), held_step hbk (by assumption), held_step hbk (by assumption), held_step hbk (by assumption), held_step hbk (by assumption), held_step hbk (by assumption), Nat.lt_of_lt_of_le (by assumption) hbk.size, below_step (by assumption) hbk⟩)
                | (refine ⟨held_step hW p0, held_step hW p1, held_step hW p2, ?_, ?_, ?_, held_step hW b0, held_step hW b1, hs3, hB3⟩ <;> go_keep)))
              ((first
                | (go_at_call 78; first | ((with_reducible refine (L1.out _).mono ?_); rintro e w' ⟨rfl, hbk⟩) | ((with_reducible refine (L2.out _).mono ?_); rintro e w' ⟨rfl, hbk⟩))
                | (go_at_call 87; refine (T.out _).mono ?_; rintro e w' ⟨rfl, hbk⟩)))
            clear hB3 hW hs3 d0 d1 d2 d3 d4 d5 d6 d7 e3 e4
            go_split_ands
            have hbn : Below w.heap.size w w' := by assumption
            have hsn : w.heap.size < w'.heap.size := by assumption
            have hc0 : w'.cell? ⟨w.heap.size, 0, none⟩ = some (.int .i64 s) := by assumption
            have hc1 : w'.cell? ⟨w.heap.size, 1, none⟩ = some (.slice (some ⟨b, o, none⟩) es.length c) := by assumption
            cases r
            · go_wp2
              go_ret
              refine ⟨ret_b2 (PP_no fun h => ?_).symm, hbn⟩
              have h1 := (h.2.2 (j + 1) hlt).2 j rfl
              rw [EX.out, EY.out, HR.out] at h1
              cases h1
            · go_wp2
              go_roundw
              case rel =>
                refine ⟨j + 1 + 1, by omega, by go_num, OkTo.next HK.out hlt HED.out (fun i hi => ?_), hc0, hc1, hsn, hbn⟩
                obtain rfl : i = j := by omega
                rw [EX.out, EY.out, HR.out]
              case measure => simp [intOf]; omega
        · have hbad : Hid (¬ EdOk s es[k]) := Lib.hid (fun h => hgood (by
            rw [EX.out] at h
            have h1 := h.1
            have h2 := h.2.1
            have h3 := h.2.2
            rw [Q1.out] at h1
            rw [Q2.out] at h2
            simp [lblB] at h3
            exact ⟨h1, h2, h3⟩))
          have hcase : q1 = false ∨ (q1 = true ∧ q2 = false) ∨ (q1 = true ∧ q2 = true ∧ decide (xl < 97) = true) ∨ (q1 = true ∧ q2 = true ∧ decide (xl < 97) = false ∧ decide (100 < xl) = true) := by
            cases q1 <;> cases q2 <;> simp at hgood ⊢
            omega
          clear hgood
          rcases hcase with rfl | ⟨rfl, rfl⟩ | ⟨rfl, rfl, e3⟩ | ⟨rfl, rfl, e3, e4⟩
          all_goals
            go_wp2_with fail
            go_quiet ((go_at_call 78; first | (with_reducible exact Calls.quiet_of_same (M1.out _ _)) | (with_reducible exact Calls.quiet_of_same (M2.out _ _))))
            go_wp2
            go_ret
            exact ⟨ret_b2 (PP_no fun h => hbad.out (h.2.2 k hlt).1).symm, below_drewN (hb.alloc hb.size _) _⟩
      · obtain rfl : k = es.length := by omega
        go_wp2
        go_ret
        exact ⟨ret_b2 (PP_yes ⟨⟨hs1, hs2⟩, hl40, fun i hi => HK.out i hi hi⟩).symm, hb⟩
  · rw [PP_no (fun h => hg ⟨h.1.1, h.1.2, h.2.1⟩)]
    rcases (by omega : ¬ (1 ≤ s ∧ s ≤ 12) ∨ (1 ≤ s ∧ s ≤ 12 ∧ 40 < es.length)) with h1 | ⟨h1, h2, h3⟩
    · have t1 : (decide ((1 : Int) ≤ s) && decide (s ≤ (12 : Int))) = false := by
        by_cases a1 : 1 ≤ s <;> by_cases a2 : s ≤ 12 <;> simp [a1, a2]
        exact absurd ⟨a1, a2⟩ h1
      clear hg h1
      go_enter Try.func60, Try.ntmps60
      go_wp2_with fail
      refine (spec_l01In_any s 1 12 _).mono ?_
      rw [t1]
      rintro e w1 ⟨rfl, rfl⟩
      clear t1
      go_wp2
      go_ret
      exact ⟨rfl, (Below.refl _ _).alloc (Nat.le_refl _) _⟩
    · have t1 : (decide ((1 : Int) ≤ s) && decide (s ≤ (12 : Int))) = true := by simp [h1, h2]
      clear hg
      go_enter Try.func60, Try.ntmps60
      go_wp2_with fail
      refine (spec_l01In_any s 1 12 _).mono ?_
      rw [t1]
      rintro e w1 ⟨rfl, rfl⟩
      clear t1
      go_wp2
      go_ret
      exact ⟨rfl, (Below.refl _ _).alloc (Nat.le_refl _) _⟩
end Go.Proofs.Ytgpjgigmlgoiiaa
