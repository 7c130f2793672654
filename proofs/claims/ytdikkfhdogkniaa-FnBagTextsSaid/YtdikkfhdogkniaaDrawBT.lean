/- DrawBagText, DrawReadBag: a drawn bag of any kind, a drawn text. No conditions but the length of the code. Printed by xdrawbt.py. -/
import Derived.Test.YtdikkfhdogkniaaDrawBA
import Derived.Test.YtdikkfhdogkniaaSpoilt
import Derived.Test.YtdikkfhdogkniaaBagText
namespace Go.Proofs.Ytdikkfhdogkniaa
open Go.RowKit

theorem Code0.keep {w w' : World} {A : Option Addr} {n : Nat} {zs : List Int} (h : Code0 w A n zs) (hb : Below w.heap.size w w') : Code0 w' A n zs := ⟨Rd.below h.rd hb, h.le, h.bd⟩
/-- A drawn bag, right or not. -/
def DrawnBt (w : World) (e : Ending) (w' : World) : Prop :=
  ∃ A c L, e = .returned (.agg #[.slice A L.length c]) ∧ L.length ≤ 14 ∧ (∀ p ∈ L, p.r.length ≤ 3) ∧ OwnQ w' w.heap.size A c L ∧ Below w.heap.size w w'

set_option maxRecDepth 100000 in
set_option maxHeartbeats 1600000 in
theorem DrawBagOk_any (A : Option Addr) (n c : Nat) (zs : List Int) (w : World) (hc : Code0 w A n zs) :
    Calls Try.prog 71 #[.slice A n c] w (DrawnBt w) := by
  have k0 := below_alloc w (.cells #[.slice none 0 0] 29)
  have q0 := heap_alloc_new w (.cells #[.slice none 0 0] 29)
  have C := Lib.hid (l01New_any A n c zs _ (hc.keep k0))
  have Q0 := Lib.hid q0
  have K0 := Lib.hid k0
  clear hc q0 k0
  go_enter Try.func71, Try.ntmps71
  go_wp2_with fail
  refine C.out.mono ?_
  rintro e w1 ⟨rfl, hc1, hb1⟩
  have Q1 := Lib.hid (blk_below hb1 Q0.out)
  have hw1 := hb1.size
  clear C
  have hc1' : CurAt (w.alloc (.cells #[.slice none 0 0] 29)) (w.heap.size + 1) w1 := by simpa using hc1
  clear hc1
  go_wp2_with fail
  refine (l01Below_any _ _ w1 4 (by omega) hc1' hb1).mono ?_
  rintro e w2 h
  obtain ⟨k, rfl, ⟨hk0, hk1⟩, hc2, hg2, hb2⟩ := h.step hb1
  have Q2 := Lib.hid ((hg2.block _ (blk_lt Q1.out) (fun e => by injection e with e; omega)).trans Q1.out)
  clear h hc1' hb1 Q1
  obtain ⟨wide, rfl⟩ : ∃ n : Nat, k = n := ⟨k.toNat, by omega⟩
  go_wp2_with fail
  refine (l03Any_any wide _ _ w2 (by omega) hc2 hb2).mono ?_
  rintro e w3 ⟨A2, c2, L, rfl, h1, h2, o3, hc3, hg3⟩
  have q3 := (hg3.block _ (blk_lt Q2.out) (fun e => by injection e with e; omega)).trans Q2.out
  have d0 := blk_cell (o := 0) q3 rfl
  have f0 : w3.frozen? ⟨w.heap.size, 0, none⟩ = false := frozen_of_row w3 _ 0 _ _ q3
  have hwl := blk_lt Q2.out
  have H2 := Lib.hid h2
  have B3 : Hid (Below w.heap.size w w3) := below_step K0.out (below_only hb2 hg3 (by simp))
  have O3 := Lib.hid ((o3.mono (by omega : w.heap.size ≤ w2.heap.size)).kept (g := w.heap.size) (grown_set w3 w.heap.size 0 (.slice A2 L.length c2)) q3 (by decide) (by decide))
  clear hc2 hc3 hb2 h2 hg3 q3 o3 hg2 hw1
  go_wp2
  refine bodyPost_ret (v := .agg #[.slice A2 L.length c2]) (by simp [results, Try.results71, go_sem, d0]) rfl ⟨A2, c2, L, rfl, h1, H2.out, O3.out, B3.out.setCell (Nat.le_refl _) _⟩

set_option maxRecDepth 100000 in
theorem DrawBagText_any (A : Option Addr) (n c : Nat) (zs : List Int) (w : World) (hc : Code0 w A n zs) :
    Calls Try.prog 41 #[.slice A n c] w (DrawnBt w) := by
  have k0 := below_alloc w (.cells #[.slice none 0 0] 29)
  have q0 := heap_alloc_new w (.cells #[.slice none 0 0] 29)
  have C := Lib.hid (DrawBagOk_any A n c zs _ (hc.keep k0))
  have Q0 := Lib.hid q0
  have K0 := Lib.hid k0
  have hs : w.heap.size < (w.alloc (.cells #[.slice none 0 0] 29)).heap.size := by simp
  clear hc q0 k0
  go_enter Try.func41, Try.ntmps41
  go_wp2_with fail
  refine C.out.mono ?_
  rintro e w3 ⟨A2, c2, L, rfl, h1, h2, o3, k3⟩
  have q3 := blk_below k3 Q0.out
  have d0 := blk_cell (o := 0) q3 rfl
  have f0 : w3.frozen? ⟨w.heap.size, 0, none⟩ = false := frozen_of_row w3 _ 0 _ _ q3
  have hwl := blk_lt q3
  have H2 := Lib.hid h2
  have B3 := Lib.hid (below_step K0.out k3)
  have O3 := Lib.hid ((o3.mono (by simp : w.heap.size ≤ _)).kept (g := w.heap.size) (grown_set w3 w.heap.size 0 (.slice A2 L.length c2)) q3 (by decide) (by decide))
  clear h2 k3 q3 o3 hs
  go_wp2
  refine bodyPost_ret (v := .agg #[.slice A2 L.length c2]) (by simp [results, Try.results41, go_sem, d0]) rfl ⟨A2, c2, L, rfl, h1, H2.out, O3.out, B3.out.setCell (Nat.le_refl _) _⟩

theorem btVal_small {ps : List It} (h : ps.length ≤ 14) : ∃ (t : ByteArray), btVal ps = .tuple #[.string t, .bool (PP (BgOk ps))] ∧ t.size ≤ 500 ∧ (BgOk ps → t = strOfNums (bText ps)) := by
  unfold btVal
  by_cases hg : BgOk ps
  · rw [PP_yes hg, if_pos rfl]
    refine ⟨_, rfl, ?_, fun _ => rfl⟩
    rw [strOfNums_size]
    have h1 := vt_len5 (n := ps.length) (by omega)
    have h2 : ∀ qs : List It, (∀ x ∈ qs, ItOk x) → (itsT qs).length ≤ 30 * qs.length := by
      intro qs
      induction qs with
      | nil => intro _; simp [itsT]
      | cons x qs ih =>
        intro hx
        have e1 := itT_len (hx x (by simp))
        have e2 := ih (fun y hy => hx y (by simp [hy]))
        simp only [itsT, List.flatMap_cons, List.length_append, List.length_cons] at e2 ⊢
        omega
    have h3 := h2 ps (fun x hx => hg.it hx)
    simp only [bText, List.length_append]
    omega
  · rw [PP_no hg, if_neg (by simp)]
    exact ⟨_, rfl, by decide, fun h => absurd h hg⟩
/-- What the drawing of a text of a bag leaves. -/
def DrawnBx (w : World) (e : Ending) (w' : World) : Prop := ∃ t : ByteArray, e = .returned (.string t) ∧ t.size ≤ 5000 ∧ Below w.heap.size w w'

set_option maxRecDepth 100000 in
set_option maxHeartbeats 1600000 in
theorem DrawReadBag_any (A : Option Addr) (n c : Nat) (zs : List Int) (w : World) (hc : Code0 w A n zs) :
    Calls Try.prog 42 #[.slice A n c] w (DrawnBx w) := by
  have C := Lib.hid (l01New_any A n c zs w hc)
  clear hc
  go_enter Try.func42, Try.ntmps42
  go_wp2_with fail
  refine C.out.mono ?_
  rintro e w1 ⟨rfl, hc1, hb1⟩
  have hw1 := hb1.size
  clear C
  go_wp2_with fail
  refine (l01Below_any _ _ w1 3 (by omega) hc1 hb1).mono ?_
  rintro e w2 h
  obtain ⟨k, rfl, ⟨hk0, hk1⟩, hc2, hg2, hb2⟩ := h.step hb1
  clear h hc1 hb1 hg2
  go_wp2_with fail
  refine (l01Below_any _ _ w2 4 (by omega) hc2 hb2).mono ?_
  rintro e w2' h
  obtain ⟨m, rfl, ⟨hm0, hm1⟩, hc2', hg2', hb2'⟩ := h.step hb2
  clear h hc2 hb2 hg2'
  obtain ⟨wide, rfl⟩ : ∃ n : Nat, m = n := ⟨m.toNat, by omega⟩
  go_wp2_with fail
  refine (l03Any_any wide _ _ w2' (by omega) hc2' hb2').mono ?_
  rintro e w3 ⟨A2, c2, L, rfl, h1, h10, o3, hc3, hg3⟩
  have hb3 := below_only hb2' hg3 (by simp)
  clear hc2' hg3 hb2'
  obtain ⟨t, hv, ht, _⟩ := btVal_small h1
  have rd := o3.rd
  clear o3
  go_wp2_with fail
  refine (spec_BagText_any A2 c2 L w3 rd (by omega) (fun p hp => by have := h10 p hp; omega)).mono ?_
  rw [hv]
  rintro e w4 ⟨rfl, k4⟩
  have hc4 := hc3.below k4
  have hb4 := below_step hb3 k4
  clear hv h10 rd hc3 hb3 k4
  by_cases hk : k = 0
  · subst hk
    go_wp2_with fail
    refine (l02Spoilt_any _ _ w4 t (by omega) hc4 hb4).mono ?_
    rintro e w5 ⟨t2, rfl, ht2, hc5, hg5⟩
    have hb5 := below_only hb4 hg5 (by simp)
    go_wp2
    go_ret
    exact ⟨t2, rfl, by omega, hb5⟩
  · go_wp2
    go_ret
    exact ⟨t, rfl, by omega, hb4⟩
end Go.Proofs.Ytdikkfhdogkniaa
