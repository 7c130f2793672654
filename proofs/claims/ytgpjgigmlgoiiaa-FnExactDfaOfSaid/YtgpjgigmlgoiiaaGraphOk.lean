/- GraphOk: the program's function. No conditions but the labels' range. -/
import Derived.Test.YtgpjgigmlgoiiaaGraph
import Derived.Deep.QuietTactic
import Derived.BigQuiet
namespace Go.Proofs.Ytgpjgigmlgoiiaa
open Go.RowKit

noncomputable def PP (p : Prop) : Bool := @decide p (Classical.propDecidable p)
theorem PP_yes {p : Prop} (h : p) : PP p = true := by simp [PP, h]
theorem PP_no {p : Prop} (h : ¬ p) : PP p = false := by simp [PP, h]

def vtxB (s v : Int) : Bool := decide (0 ≤ v) && decide (v < s)
def lblB (l : Int) : Bool := decide (97 ≤ l) && decide (l ≤ 100)
/-- An edge of a graph with s vertices. -/
def EdOk (s : Int) (e : Ed) : Prop := vtxB s e.f = true ∧ vtxB s e.t = true ∧ lblB e.l = true
/-- A valid graph. -/
def GOk (s : Int) (es : List Ed) : Prop := (1 ≤ s ∧ s ≤ 12) ∧ es.length ≤ 40 ∧ ∀ i (h : i < es.length), EdOk s es[i] ∧ ∀ j (hj : j + 1 = i), edLess (es[j]'(by omega)) es[i] = true

set_option maxRecDepth 100000 in
theorem isVertex_any (s : Int) (A : Option Addr) (n c : Nat) (v : Int) (w : World) :
    Calls Try.prog 79 #[.agg #[.int .i64 s, .slice A n c], .int .i64 v] w fun e w' => e = .returned (.bool (vtxB s v)) ∧ w.alloc (.cells #[.int .i64 s, .slice A n c] 45) = w' := by
  unfold vtxB
  by_cases h1 : 0 ≤ v <;> by_cases h2 : v < s
  all_goals
    go_enter Try.func79, Try.ntmps79
    go_wp2
    go_ret
    simp [*]
set_option maxRecDepth 100000 in
theorem isLabel_any (l : Int) (w : World) : Calls Try.prog 74 #[.int .u8 l] w fun e w' => e = .returned (.bool (lblB l)) ∧ w = w' := by
  unfold lblB
  by_cases h1 : 97 ≤ l <;> by_cases h2 : l ≤ 100
  all_goals
    go_enter Try.func74, Try.ntmps74
    go_wp2
    go_ret
    simp [*]

/-- The first k edges are in order. -/
def OkTo (s : Int) (es : List Ed) (k : Nat) : Prop := ∀ i (h : i < es.length), i < k → EdOk s es[i] ∧ ∀ j (hj : j + 1 = i), edLess (es[j]'(by omega)) es[i] = true
theorem OkTo.next {s : Int} {es : List Ed} {k : Nat} (h : OkTo s es k) (hk : k < es.length) (he : EdOk s es[k]) (hl : ∀ j (hj : j + 1 = k), edLess (es[j]'(by omega)) es[k] = true) : OkTo s es (k + 1) := by
  intro i hi hik
  by_cases e : i = k
  · subst e; exact ⟨he, hl⟩
  · exact h i hi (by omega)
theorem ret_b2 {a b : Bool} (h : a = b) : Ending.returned (.bool a) = .returned (.bool b) := by rw [h]

set_option maxRecDepth 100000 in
set_option maxHeartbeats 3200000 in
theorem impl_GraphOk_any (s : Int) (A : Option Addr) (c : Nat) (es : List Ed) (w : World) (hx : RdE w A es) (hn : es.length ≤ 4294967296) (hl : ∀ e ∈ es, 0 ≤ e.l ∧ e.l ≤ 255) :
    Calls Try.prog 63 #[.agg #[.int .i64 s, .slice A es.length c]] w fun e w' => e = .returned (.bool (PP (GOk s es))) ∧ Below w.heap.size w w' := by
  have HX := Lib.hid hx
  have HL := Lib.hid hl
  clear hx hl
  by_cases hg : 1 ≤ s ∧ s ≤ 12 ∧ es.length ≤ 40
  · obtain ⟨hs1, hs2, hl40⟩ := hg
    go_enter Try.func63, Try.ntmps63
    go_wp2
    go_loopw [22] (fun i wr => ∃ k : Nat, k ≤ es.length ∧ i = .int .i64 k ∧ Hid (OkTo s es k) ∧ wr.cell? ⟨w.heap.size, 0, none⟩ = some (.int .i64 s) ∧ wr.cell? ⟨w.heap.size, 1, none⟩ = some (.slice A es.length c) ∧ w.heap.size < wr.heap.size ∧ Below w.heap.size w wr) (fun i _ => es.length - (intOf i).toNat)
    case atStart => exact ⟨0, Nat.zero_le _, rfl, fun i _ h => absurd h (by omega), by go_simp, by go_simp, by simp, (Below.refl _ _).alloc (Nat.le_refl _) _⟩
    case round =>
      obtain ⟨k, hk, rfl, HK, b0, b1, hsz, hb⟩ := hrel
      by_cases hlt : k < es.length
      · obtain ⟨b, o, rfl, c0, c1, c2⟩ := (RdE.below HX.out hb).at_ hlt
        obtain ⟨x, hxx⟩ : ∃ x, es[k] = x := ⟨_, rfl⟩
        have hxl := HL.out es[k] (List.getElem_mem hlt)
        rw [hxx] at c0 c1 c2 hxl
        have EX := Lib.hid hxx
        clear hxx
        obtain ⟨q1, hq1⟩ : ∃ q, vtxB s x.f = q := ⟨_, rfl⟩
        obtain ⟨q2, hq2⟩ : ∃ q, vtxB s x.t = q := ⟨_, rfl⟩
        obtain ⟨q3, hq3⟩ : ∃ q, lblB x.l = q := ⟨_, rfl⟩
        have Q1 := Lib.hid hq1
        have Q2 := Lib.hid hq2
        have Q3 := Lib.hid hq3
        clear hq1 hq2 hq3
        obtain ⟨xf, xl, xt⟩ := x
        simp only at c0 c1 c2 Q1 Q2 Q3 hxl
        obtain ⟨xl0, xl1⟩ := hxl
        have k0 : (0 : Int) ≤ (k : Int) := by omega
        have k1 : (k : Int) < (es.length : Int) := by omega
        cases q1
        · go_wp2_with fail
          refine (isVertex_any s _ _ c xf _).mono ?_
          rw [Q1.out]
          rintro e w1 ⟨rfl, rfl⟩
          go_wp2
          go_ret
          refine ⟨ret_b2 (PP_no fun h => ?_).symm, ((hb.alloc hb.size _).alloc (by simp; omega) _)⟩
          have h1 := (h.2.2 k hlt).1.1
          rw [EX.out, Q1.out] at h1
          cases h1
        · cases q2
          · go_wp2_with fail
            refine (isVertex_any s _ _ c xf _).mono ?_
            rw [Q1.out]
            rintro e w1 ⟨rfl, rfl⟩
            go_wp2_with fail
            refine (isVertex_any s _ _ c xt _).mono ?_
            rw [Q2.out]
            rintro e w1 ⟨rfl, rfl⟩
            go_wp2
            go_ret
            refine ⟨ret_b2 (PP_no fun h => ?_).symm, (((hb.alloc hb.size _).alloc (by simp; omega) _).alloc (by simp; omega) _)⟩
            have h1 := (h.2.2 k hlt).1.2.1
            rw [EX.out, Q2.out] at h1
            cases h1
          · cases q3
            · go_wp2_with fail
              refine (isVertex_any s _ _ c xf _).mono ?_
              rw [Q1.out]
              rintro e w1 ⟨rfl, rfl⟩
              go_wp2_with fail
              refine (isVertex_any s _ _ c xt _).mono ?_
              rw [Q2.out]
              rintro e w1 ⟨rfl, rfl⟩
              go_wp2_with fail
              refine (isLabel_any xl _).mono ?_
              rw [Q3.out]
              rintro e w1 ⟨rfl, rfl⟩
              go_wp2
              go_ret
              refine ⟨ret_b2 (PP_no fun h => ?_).symm, (((hb.alloc hb.size _).alloc (by simp; omega) _).alloc (by simp; omega) _)⟩
              have h1 := (h.2.2 k hlt).1.2.2
              rw [EX.out, Q3.out] at h1
              cases h1
            · have hed : EdOk s es[k] := by rw [EX.out]; exact ⟨Q1.out, Q2.out, Q3.out⟩
              have HED := Lib.hid hed
              clear hed
              rcases (by omega : k ≤ 0 ∨ 0 < k) with hk0 | hkp
              · go_wp2_with fail
                refine (isVertex_any s _ _ c xf _).mono ?_
                rw [Q1.out]
                rintro e w1 ⟨rfl, rfl⟩
                go_wp2_with fail
                refine (isVertex_any s _ _ c xt _).mono ?_
                rw [Q2.out]
                rintro e w1 ⟨rfl, rfl⟩
                go_wp2_with fail
                refine (isLabel_any xl _).mono ?_
                rw [Q3.out]
                rintro e w1 ⟨rfl, rfl⟩
                have d0 : decide ((0 : Int) < (k : Int)) = false := by simp; omega
                have d1 : decide (0 < k) = false := by simp; omega
                go_wp2_with fail
                go_quiet (fail)
                clear d0 d1
                go_wp2
                go_roundw
                case rel =>
                  refine ⟨k + 1, by omega, rfl, OkTo.next HK.out hlt HED.out (fun j hj => by omega), held_step (((Below.refl wr.heap.size wr).alloc (Nat.le_refl _) _).alloc (by simp) _ |>.alloc (by simp; omega) _) b0, held_step (((Below.refl wr.heap.size wr).alloc (Nat.le_refl _) _).alloc (by simp) _ |>.alloc (by simp; omega) _) b1, by simp; omega, below_drewN (((hb.alloc hb.size _).alloc (by simp; omega) _).alloc (by simp; omega) _) _⟩
                case measure => simp [intOf]; omega
              · obtain ⟨j, rfl⟩ : ∃ j, k = j + 1 := ⟨k - 1, by omega⟩
                have hjl : j < es.length := by omega
                obtain ⟨b', o', hbo, p0, p1, p2⟩ := (RdE.below HX.out hb).at_ hjl
                injection hbo with hbo
                injection hbo with e1 e2 _
                subst e1 e2
                obtain ⟨y, hyy⟩ : ∃ y, es[j] = y := ⟨_, rfl⟩
                have hyl := HL.out es[j] (List.getElem_mem hjl)
                rw [hyy] at p0 p1 p2 hyl
                have EY := Lib.hid hyy
                clear hyy
                obtain ⟨yf, yl, yt⟩ := y
                simp only at p0 p1 p2 hyl
                have T := Lib.hid (fun w => impl_EdgeLess_any ⟨yf, yl, yt⟩ ⟨xf, xl, xt⟩ hyl ⟨xl0, xl1⟩ w)
                clear hyl
                unfold Ed.val at T
                obtain ⟨r, hr⟩ : ∃ r, edLess ⟨yf, yl, yt⟩ ⟨xf, xl, xt⟩ = r := ⟨_, rfl⟩
                rw [hr] at T
                have HR := Lib.hid hr
                clear hr
                go_wp2_with fail
                refine (isVertex_any s _ _ c xf _).mono ?_
                rw [Q1.out]
                rintro e w1 ⟨rfl, rfl⟩
                go_wp2_with fail
                refine (isVertex_any s _ _ c xt _).mono ?_
                rw [Q2.out]
                rintro e w1 ⟨rfl, rfl⟩
                go_wp2_with fail
                refine (isLabel_any xl _).mono ?_
                rw [Q3.out]
                rintro e w1 ⟨rfl, rfl⟩
                have hB3 := ((hb.alloc hb.size (.cells #[.int .i64 xf, .int .u8 xl, .int .i64 xt] 119)).alloc (by simp; omega) (.cells #[.int .i64 s, .slice (some ⟨b, o, none⟩) es.length c] 45)).alloc (by simp; omega) (.cells #[.int .i64 s, .slice (some ⟨b, o, none⟩) es.length c] 45)
                have d0 : decide ((0 : Int) < ((j + 1 : Nat) : Int)) = true := decide_eq_true (by omega)
                have d1 : decide ((0 : Int) < (j : Int) + 1) = true := decide_eq_true (by omega)
                have d2 : ((j + 1 : Nat) : Int) - 1 = (j : Int) := by omega
                have d3 : (j : Int) + 1 - 1 = (j : Int) := by omega
                have d4 : (0 : Int) ≤ (j : Int) := by omega
                have d5 : (j : Int) < (es.length : Int) := by omega
                have d6 : IntKind.i64.wrap ((j : Int) + 1 - 1) = (j : Int) := by rw [d3]; exact IntWalk.i64_in _ (by omega)
                have d7 : IntKind.i64.wrap (j : Int) = (j : Int) := IntWalk.i64_in _ (by omega)
                go_wp2_with fail
                have hW : Below wr.heap.size wr (((wr.alloc (.cells #[.int .i64 xf, .int .u8 xl, .int .i64 xt] 119)).alloc (.cells #[.int .i64 s, .slice (some ⟨b, o, none⟩) es.length c] 45)).alloc (.cells #[.int .i64 s, .slice (some ⟨b, o, none⟩) es.length c] 45)).drew := ((((Below.refl wr.heap.size wr).alloc (Nat.le_refl _) _).alloc (by simp) _).alloc (by simp; omega) _).drew
                have hs3 : w.heap.size < (((wr.alloc (.cells #[.int .i64 xf, .int .u8 xl, .int .i64 xt] 119)).alloc (.cells #[.int .i64 s, .slice (some ⟨b, o, none⟩) es.length c] 45)).alloc (.cells #[.int .i64 s, .slice (some ⟨b, o, none⟩) es.length c] 45)).drew.heap.size := by simp; omega
                go_region_held3 (fun w' => w'.cell? ⟨b, o + j * 3, none⟩ = some (.int .i64 yf) ∧ w'.cell? ⟨b, o + j * 3 + 1, none⟩ = some (.int .u8 yl) ∧ w'.cell? ⟨b, o + j * 3 + 2, none⟩ = some (.int .i64 yt) ∧
                    w'.cell? ⟨wr.heap.size, 0, none⟩ = some (.int .i64 xf) ∧ w'.cell? ⟨wr.heap.size, 1, none⟩ = some (.int .u8 xl) ∧ w'.cell? ⟨wr.heap.size, 2, none⟩ = some (.int .i64 xt) ∧
                    w'.cell? ⟨w.heap.size, 0, none⟩ = some (.int .i64 s) ∧ w'.cell? ⟨w.heap.size, 1, none⟩ = some (.slice (some ⟨b, o, none⟩) es.length c) ∧ w.heap.size < w'.heap.size ∧ Below w.heap.size w w')
                  ((first
                    | (go_split_ands; exact ⟨held_step hbk (by assumption), held_step hbk (by assumption), held_step hbk (by assumption), held_step hbk (by assumption), held_step hbk (by assumption), held_step hbk (by assumption), held_step hbk (by assumption), held_step hbk (by assumption), Nat.lt_of_lt_of_le (by assumption) hbk.size, below_step (by assumption) hbk⟩)
                    | (refine ⟨held_step hW p0, held_step hW p1, held_step hW p2, ?_, ?_, ?_, held_step hW b0, held_step hW b1, hs3, hB3.drew⟩ <;> go_keep)))
                  ((go_at_call 89; refine (T.out _).mono ?_; rintro e w' ⟨rfl, hbk⟩))
                clear hB3 hW hs3
                go_split_ands
                have hbn : Below w.heap.size w w' := by assumption
                have hsn : w.heap.size < w'.heap.size := by assumption
                have hc0 : w'.cell? ⟨w.heap.size, 0, none⟩ = some (.int .i64 s) := by assumption
                have hc1 : w'.cell? ⟨w.heap.size, 1, none⟩ = some (.slice (some ⟨b, o, none⟩) es.length c) := by assumption
                clear d0 d1 d2 d3 d4 d5 d6 d7
                cases r
                · go_wp2
                  go_ret
                  refine ⟨ret_b2 (PP_no fun h => ?_).symm, hbn⟩
                  have h1 := (h.2.2 (j + 1) hlt).2 j rfl
                  rw [EX.out, EY.out, HR.out] at h1
                  cases h1
                · go_wp2
                  go_roundw
                  case rel =>
                    refine ⟨j + 1 + 1, by omega, by go_num, OkTo.next HK.out hlt HED.out (fun i hi => ?_), hc0, hc1, hsn, hbn⟩
                    obtain rfl : i = j := by omega
                    rw [EX.out, EY.out, HR.out]
                  case measure => simp [intOf]; omega
      · obtain rfl : k = es.length := by omega
        go_wp2
        go_ret
        exact ⟨ret_b2 (PP_yes ⟨⟨hs1, hs2⟩, hl40, fun i hi => HK.out i hi hi⟩).symm, hb⟩
  · rw [PP_no (fun h => hg ⟨h.1.1, h.1.2, h.2.1⟩)]
    rcases (by omega : s < 1 ∨ (1 ≤ s ∧ 12 < s) ∨ (1 ≤ s ∧ s ≤ 12 ∧ 40 < es.length)) with h1 | ⟨h1, h2⟩ | ⟨h1, h2, h3⟩
    all_goals
      clear hg
      go_enter Try.func63, Try.ntmps63
      go_wp2
      go_ret
      exact ⟨rfl, (Below.refl _ _).alloc (Nat.le_refl _) _⟩
end Go.Proofs.Ytgpjgigmlgoiiaa
