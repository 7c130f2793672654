/- A text spoilt; the draws of GraphText and ReadGraph. No conditions but the length of the code. -/
import Derived.Test.YtnhanakeijplcaaDrawA
import Derived.Test.YtnhanakeijplcaaGraphText
import Derived.Test.YtnhanakeijplcaaSReadGraph
namespace Go.Proofs.Ytnhanakeijplcaa
open Go.RowKit

/-- What the spoiling of a text leaves. -/
def DrawnS (w0 : World) (g : Nat) (w : World) (n : Nat) (e : Ending) (w' : World) : Prop := ∃ t : ByteArray, e = .returned (.string t) ∧ t.size ≤ n + 1 ∧ CurAt w0 g w' ∧ w.grownBy w' (some g)

theorem run_catS {P : Program} (a b : ByteArray) (h : a.size + b.size ≤ 4294967296) (w : World) : (Op.stringOp .add a b).run P w = .ok (.string (a ++ b)) w := by
  have h2 : ¬ (9223372036854775807 < a.size + b.size) := by omega
  go_simp
theorem str_size1 {zs : List Int} (h : (zs.length : Int) ≤ max 1 0) : (strOfNums zs).size ≤ 1 := by
  rw [strOfNums_size]
  omega
theorem CurAt.size {w0 w : World} {g : Nat} (h : CurAt w0 g w) : g < w.heap.size := h.lt
set_option maxRecDepth 100000 in
set_option maxHeartbeats 6400000 in
theorem l02Spoilt_any (w0 : World) (g : Nat) (w : World) (s : ByteArray) (hs : s.size ≤ 5000) (hcur : CurAt w0 g w) (hB : Below w0.heap.size w0 w) :
    Calls Try.prog 87 #[.pointer (some ⟨g, 0, none⟩), .string s] w (DrawnS w0 g w s.size) := by
  have C12 := Lib.hid (l01Below_any w0 g w 12 (by omega) hcur hB)
  clear hcur
  go_enter Try.func87, Try.ntmps87
  go_wp2_with fail
  refine C12.out.mono ?_
  rintro e w1 h
  obtain ⟨k, rfl, ⟨hk0, hk1⟩, hc1, hg1, hb1⟩ := h.step hB
  clear h C12
  have hk12 : k < 12 := by omega
  clear hk1
  rcases (by omega : k = 0 ∨ k = 1 ∨ k = 2 ∨ k = 3 ∨ 4 ≤ k) with rfl | rfl | rfl | rfl | hk4
  · go_wp2_with fail
    refine (l01Text_any w0 g w1 1 (by omega) hc1 hb1).mono ?_
    rintro e w2 ⟨zs, rfl, hl, _, hc2, hg2⟩
    have hz := str_size1 hl
    clear hl
    obtain ⟨t, ht⟩ : ∃ t, strOfNums zs = t := ⟨_, rfl⟩
    rw [ht] at hz ⊢
    clear ht
    have q0 := fun (w : World) => run_catS (P := Try.prog) s t (by omega) w
    go_wp2
    go_ret
    exact ⟨_, rfl, by simp; omega, hc2, only_trans hg1 hg2⟩
  · go_wp2_with fail
    refine (l01Below_any w0 g w1 (s.size + 1) (by omega) hc1 hb1).mono ?_
    rintro e w2 ⟨x, rfl, hx, hc2, hg2⟩
    obtain ⟨x, rfl⟩ : ∃ k : Nat, x = k := ⟨x.toNat, by omega⟩
    have hxs : x ≤ s.size := by omega
    clear hx
    go_wp2
    go_ret
    exact ⟨_, rfl, by simp; omega, hc2, only_trans hg1 hg2⟩
  rotate_left 2
  · go_wp2
    go_ret
    exact ⟨_, rfl, by omega, hc1, hg1⟩
  all_goals
    by_cases hs0 : 0 < s.size
    · go_wp2_with fail
      refine (l01Below_any w0 g w1 s.size (by omega) hc1 hb1).mono ?_
      rintro e w2 h
      obtain ⟨x, rfl, hx, hc2, hg2, hb2⟩ := h.step hb1
      clear h
      obtain ⟨x, rfl⟩ : ∃ k : Nat, x = k := ⟨x.toNat, by omega⟩
      have hxs : x + 1 ≤ s.size := by omega
      have hxi : (x : Int) + 1 ≤ (s.size : Int) := by omega
      have hx1 : x ≤ s.size := by omega
      have hx0 : (0 : Int) ≤ (x : Int) + 1 := by omega
      have hw : IntKind.i64.wrap ((x : Int) + 1) = ((x + 1 : Nat) : Int) := IntWalk.i64_in _ (by omega)
      have hG := Lib.hid (only_trans hg1 hg2)
      have hc3 : CurAt w0 g w2.drew := hc2
      have hb3 : Below w0.heap.size w0 w2.drew := hb2.drew
      have hG3 : Hid (w.grownBy w2.drew (some g)) := Lib.hid (only_drewN hG.out 1)
      clear hx hc1 hb1 hg1 hg2 hc2 hb2 hG
      have q0 := fun (w : World) (t : ByteArray) (h : t.size ≤ 1) => run_catS (P := Try.prog) (s.extract 0 x) t (by simp; omega) w
      have q1 := fun (w : World) (t : ByteArray) (h : t.size ≤ 1) => run_catS (P := Try.prog) (s.extract 0 x ++ t) (s.extract (x + 1) s.size) (by simp; omega) w
      have Q0 := Lib.hid q0
      have Q1 := Lib.hid q1
      clear q0 q1
      go_wp2_with fail
      go_region_law (first
        | (go_simp
           go_at_call 103
           refine (l01Text_any w0 g w2.drew 1 (by omega) hc3 hb3).mono ?_
           rintro e w3 ⟨zs, rfl, hl, _, hc4, hg4⟩
           have hz := str_size1 hl
           clear hl
           obtain ⟨t, ht⟩ : ∃ t, strOfNums zs = t := ⟨_, rfl⟩
           rw [ht] at hz ⊢
           clear ht
           have q0 := fun (w : World) => Q0.out w t hz
           have q1 := fun (w : World) => Q1.out w t hz))
      all_goals
        clear hw hx0
        go_wp2
        go_ret
        exact ⟨_, rfl, by simp; omega, hc4, only_trans hG3.out hg4⟩
    · have hs0' : s.size ≤ 0 := by omega
      go_wp2
      go_ret
      exact ⟨_, rfl, by omega, hc1, hg1⟩

/-- A drawn graph, right or not, of not more than 11 edges. -/
def DrawnGt (w : World) (e : Ending) (w' : World) : Prop :=
  ∃ (s : Int) (A : Option Addr) (c : Nat) (es : List Ed), e = .returned (.agg #[.int .i64 s, .slice A es.length c]) ∧ es.length ≤ 11 ∧ (∀ e ∈ es, 0 ≤ e.l ∧ e.l ≤ 255) ∧ w'.ownsRow w.heap.size 31 3 (.slice A es.length c) es.length (edCells es) ∧ Below w.heap.size w w'

set_option maxRecDepth 100000 in
set_option maxHeartbeats 1600000 in
theorem DrawGraphText_any (A : Option Addr) (n c : Nat) (zs : List Int) (w : World) (hc : Code0 w A n zs) :
    Calls Try.prog 40 #[.slice A n c] w (DrawnGt w) := by
  have k0 := below_alloc w (.cells #[.int .i64 0, .slice none 0 0] 26)
  have q0 := heap_alloc_new w (.cells #[.int .i64 0, .slice none 0 0] 26)
  have C := Lib.hid (l01New_any A n c zs _ (hc.keep k0))
  have Q0 := Lib.hid q0
  have K0 := Lib.hid k0
  clear hc q0 k0
  go_enter Try.func40, Try.ntmps40
  go_wp2_with fail
  refine C.out.mono ?_
  rintro e w1 ⟨rfl, hc1, hb1⟩
  have Q1 := Lib.hid (blk_below hb1 Q0.out)
  have hw1 := hb1.size
  clear C
  go_wp2_with fail
  refine (l04Any_any _ _ w1 (by simpa using hc1) hb1).mono ?_
  rintro e w2 ⟨s, A2, c2, es, rfl, h1, h10, hc2, own2, hg2⟩
  have q2 := (hg2.block _ (blk_lt Q1.out) (fun e => by injection e with e; simp at e)).trans Q1.out
  have d0 := blk_cell (o := 0) q2 rfl
  have d1 := blk_cell (o := 1) q2 rfl
  have f0 : w2.frozen? ⟨w.heap.size, 0, none⟩ = false := frozen_of_row w2 _ 0 _ _ q2
  have f1 : w2.frozen? ⟨w.heap.size, 1, none⟩ = false := frozen_of_row w2 _ 1 _ _ q2
  have hwl := blk_lt Q1.out
  have HOK := Lib.hid h10
  have B2 : Hid (Below w.heap.size w w2) := below_step K0.out (below_only hb1 hg2 (by simp))
  clear hc1 hc2 hb1 h10 hg2 q2
  go_wp2
  refine bodyPost_ret (v := .agg #[.int .i64 s, .slice A2 es.length c2]) (by simp [results, Try.results40, go_sem, d0, d1]) rfl ⟨s, A2, c2, es, rfl, h1, HOK.out, ?_, ?_⟩
  · exact own_mono (ownsRow_setCell_below (ownsRow_setCell_below own2 (a := ⟨w.heap.size, 0, none⟩) (by simp; omega) _) (a := ⟨w.heap.size, 1, none⟩) (by simp; omega) _) (by omega)
  · exact (B2.out.setCell (Nat.le_refl _) _).setCell (Nat.le_refl _) _

/-- What the drawing of a text of a graph leaves. -/
def DrawnGx (w : World) (e : Ending) (w' : World) : Prop := ∃ t : ByteArray, e = .returned (.string t) ∧ t.size ≤ 5000 ∧ Below w.heap.size w w'
theorem edsT_len {s : Int} {es : List Ed} (h : GOk s es) : ∀ k, k ≤ es.length → (edsT (es.take k)).length ≤ 11 * k
  | 0, _ => by simp [edsT]
  | k + 1, hk => by
    have h1 := edsT_len h k (by omega)
    obtain ⟨f0, f1, t0, t1, _, _⟩ := gOk_ed h (show k < es.length by omega)
    have h2 := vt_len5 (n := es[k].f.toNat) (by omega)
    have h3 := vt_len5 (n := es[k].t.toNat) (by omega)
    rw [edsT_next (show k < es.length by omega)]
    simp [edT]
    omega
theorem gtVal_small {s : Int} {es : List Ed} (h : es.length ≤ 11) : ∃ (t : ByteArray) (b : Bool), gtVal s es = .tuple #[.string t, .bool b] ∧ t.size ≤ 200 := by
  by_cases hg : GOk s es
  · rw [gtVal_yes hg]
    refine ⟨_, _, rfl, ?_⟩
    rw [strOfNums_size]
    have h1 := edsT_len hg es.length (Nat.le_refl _)
    rw [List.take_of_length_le (Nat.le_refl _)] at h1
    have h2 := vt_len5 (n := s.toNat) (by have := hg.1; omega)
    have h3 := vt_len5 (n := es.length) (by omega)
    simp [gText]
    omega
  · rw [gtVal_no hg]
    exact ⟨_, _, rfl, by decide⟩

set_option maxRecDepth 100000 in
set_option maxHeartbeats 1600000 in
theorem DrawReadGraph_any (A : Option Addr) (n c : Nat) (zs : List Int) (w : World) (hc : Code0 w A n zs) :
    Calls Try.prog 41 #[.slice A n c] w (DrawnGx w) := by
  have C := Lib.hid (l01New_any A n c zs w hc)
  clear hc
  go_enter Try.func41, Try.ntmps41
  go_wp2_with fail
  refine C.out.mono ?_
  rintro e w1 ⟨rfl, hc1, hb1⟩
  have hw1 := hb1.size
  clear C
  go_wp2_with fail
  refine (l01Below_any _ _ w1 3 (by omega) hc1 hb1).mono ?_
  rintro e w2 h
  obtain ⟨k, rfl, ⟨hk0, hk1⟩, hc2, hg2, hb2⟩ := h.step hb1
  clear h hc1 hb1 hg2
  go_wp2_with fail
  refine (l04Any_any _ _ w2 hc2 hb2).mono ?_
  rintro e w3 ⟨s, A2, c2, es, rfl, h1, h10, hc3, own3, hg3⟩
  have hb3 := below_only hb2 hg3 (by simp)
  clear hc2 hg3 hb2
  obtain ⟨t, b, hv, ht⟩ := gtVal_small (s := s) h1
  go_wp2_with fail
  refine (spec_GraphText_any s A2 c2 es w3 (Rd.of_own own3) (by omega) h10).mono ?_
  rw [hv]
  rintro e w4 ⟨rfl, k4⟩
  have hc4 := hc3.below k4
  have hb4 := below_step hb3 k4
  clear hv h10 own3 hc3 hb3 k4
  by_cases hk : k = 0
  · subst hk
    go_wp2_with fail
    refine (l02Spoilt_any _ _ w4 t (by omega) hc4 hb4).mono ?_
    rintro e w5 ⟨t2, rfl, ht2, hc5, hg5⟩
    have hb5 := below_only hb4 hg5 (by simp)
    go_wp2
    go_ret
    exact ⟨_, rfl, by omega, hb5⟩
  · go_wp2
    go_ret
    exact ⟨_, rfl, by omega, hb4⟩
end Go.Proofs.Ytnhanakeijplcaa
