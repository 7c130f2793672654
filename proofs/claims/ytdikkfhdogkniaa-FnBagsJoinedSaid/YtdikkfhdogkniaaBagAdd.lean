/- impl.BagAdd: what it makes. Conditions: the sizes of the lengths. Printed by xbagadd.py. -/
import Derived.Test.YtdikkfhdogkniaaPutB
import Derived.Test.YtdikkfhdogkniaaCopyB
import Derived.Test.YtdikkfhdogkniaaJoinP
namespace Go.Proofs.Ytdikkfhdogkniaa
open Go.RowKit

/-- What a call that makes a bag and a bool leaves: own rows. -/
def MadeB2 (w : World) (qs : List It) (b : Bool) (e : Ending) (w' : World) : Prop :=
  ∃ A c, e = .returned (.tuple #[.agg #[.slice A qs.length c], .bool b]) ∧ OwnB w' w.heap.size A c qs ∧ Below w.heap.size w w'
theorem MadeB2.of {w w' : World} {qs qs' : List It} {b b' : Bool} {e : Ending} (h : qs = qs') (hb : b = b') (hm : MadeB2 w qs' b' e w') : MadeB2 w qs b e w' := by subst h hb; exact hm
theorem OwnB.setBag {w : World} {base c g j : Nat} {A : Option Addr} {ps : List It} {u : Value} {cs : Array Value} {fz : Nat × Nat} (h : OwnB w base A c ps) (hq : w.heap[g]? = some (.cells cs 29 fz)) : OwnB (w.setCell ⟨g, j, none⟩ u) base A c ps := by
  obtain ⟨xs, h1, h2⟩ := h
  exact ⟨xs, h1, h2.setBag hq⟩
theorem RdB.setBag {w : World} {g j : Nat} {A : Option Addr} {ps : List It} {u : Value} {cs : Array Value} {fz : Nat × Nat} {base c : Nat} (h : OwnB w base A c ps) (hq : w.heap[g]? = some (.cells cs 29 fz)) : RdB (w.setCell ⟨g, j, none⟩ u) A ps := (h.setBag hq).rd
/-- Can the row be added? -/
def AddOk (ps : List It) (row : List Int) (t : Int) : Prop := BgOk ps ∧ TimesOk t ∧ BgOk (lput ps row t)
noncomputable def addL (ps : List It) (row : List Int) (t : Int) : List It := by classical exact if AddOk ps row t then lput ps row t else ps
theorem addL_yes {ps : List It} {row : List Int} {t : Int} (h : AddOk ps row t) : addL ps row t = lput ps row t := by unfold addL; exact if_pos h
theorem addL_no {ps : List It} {row : List Int} {t : Int} (h : ¬ AddOk ps row t) : addL ps row t = ps := by unfold addL; exact if_neg h

set_option maxRecDepth 100000 in
set_option maxHeartbeats 6400000 in
theorem impl_BagAdd_any (B E : Option Addr) (d m : Nat) (ps : List It) (row : List Int) (t : Int) (w : World) (hx : RdB w B ps) (hy : RdI w E row.length row) (hn : ps.length ≤ 4294967296) (hk : ∀ p ∈ ps, p.r.length ≤ 4294967296) (hrl : row.length ≤ 4294967296) :
    Calls Try.prog 27 #[.agg #[.slice B ps.length d], .slice E row.length m, .int .i64 t] w (MadeB2 w (addL ps row t) (PP (AddOk ps row t))) := by
  have HX := Lib.hid hx
  have HY := Lib.hid hy
  have HK := Lib.hid hk
  clear hx hy hk
  have HTO := Lib.hid (fun w => timesOk_any t w)
  have BO := Lib.hid (fun w (h : RdB w B ps) => impl_BagOk_any B d ps w h hn HK.out)
  obtain ⟨ok1, hok1⟩ : ∃ b, PP (BgOk ps) = b := ⟨_, rfl⟩
  obtain ⟨ok2, hok2⟩ : ∃ b, PP (TimesOk t) = b := ⟨_, rfl⟩
  rw [hok1] at BO
  rw [hok2] at HTO
  have H1 := Lib.hid hok1
  have H2 := Lib.hid hok2
  clear hok1 hok2
  have P0 := heap_alloc_new w (.cells #[.slice B ps.length d] 29)
  have ka := below_alloc w (.cells #[.slice B ps.length d] 29)
  have kb := below_alloc (w.alloc (.cells #[.slice B ps.length d] 29)) (.cells #[.slice none 0 0] 29)
  have R0 := heap_alloc_new (w.alloc (.cells #[.slice B ps.length d] 29)) (.cells #[.slice none 0 0] 29)
  replace P0 := blk_below kb P0
  have hB := below_step ka kb
  have hs1 : ((w.alloc (.cells #[.slice B ps.length d] 29)).alloc (.cells #[.slice none 0 0] 29)).heap.size = w.heap.size + 2 := by simp
  rw [show (w.alloc (.cells #[.slice B ps.length d] 29)).heap.size = w.heap.size + 1 by simp] at R0
  obtain ⟨W1, hW1⟩ : ∃ W, ((w.alloc (.cells #[.slice B ps.length d] 29)).alloc (.cells #[.slice none 0 0] 29)) = W := ⟨_, rfl⟩
  rw [hW1] at P0 R0 hB hs1
  clear ka kb
  go_enter Try.func27, Try.ntmps27
  have b0 := blk_cell (o := 0) P0 rfl
  go_wp2_with fail
  clear hW1
  refine (copyBag_any B d ps W1 (HX.out.keep hB) hn HK.out).mono ?_
  rintro e w2 ⟨A1, c1, rfl, o1, k1⟩
  clear b0
  replace P0 := blk_below k1 P0
  replace R0 := blk_below k1 R0
  replace hB := below_step hB k1
  have hs2 := k1.size
  have ka := below_alloc w2 (.cells #[.slice A1 ps.length c1] 29)
  have Q0 := heap_alloc_new w2 (.cells #[.slice A1 ps.length c1] 29)
  replace P0 := blk_below ka P0
  replace R0 := blk_below ka R0
  replace hB := below_step hB ka
  replace o1 := o1.keep ka
  have hs3 : (w2.alloc (.cells #[.slice A1 ps.length c1] 29)).heap.size = w2.heap.size + 1 := by simp
  obtain ⟨gq, hgq⟩ : ∃ g, w2.heap.size = g := ⟨_, rfl⟩
  obtain ⟨W3, hW3⟩ : ∃ W, w2.alloc (.cells #[.slice A1 ps.length c1] 29) = W := ⟨_, rfl⟩
  rw [hW3] at P0 R0 hB Q0 o1 hs3
  rw [hgq] at Q0 hs2 hs3
  clear k1 ka
  have b0 := blk_cell (o := 0) P0 rfl
  go_wp2_with fail
  clear hW3 hgq
  refine (BO.out _ (HX.out.keep hB)).mono ?_
  rintro e w4 ⟨rfl, k4⟩
  clear b0
  replace P0 := blk_below k4 P0
  replace R0 := blk_below k4 R0
  replace hB := below_step hB k4
  replace Q0 := blk_below k4 Q0
  replace o1 := o1.keep k4
  have hs4 := k4.size
  clear k4
  cases ok1
  · have HN : Hid (¬ AddOk ps row t) := Lib.hid (fun h => PP_not H1.out h.1)
    have b0 := blk_cell (o := 0) P0 rfl
    go_wp2_with fail
    refine (copyBag_any B d ps w4 (HX.out.keep hB) hn HK.out).mono ?_
    rintro e w9 ⟨A9, c9, rfl, o9, k9⟩
    clear b0
    replace P0 := blk_below k9 P0
    replace R0 := blk_below k9 R0
    replace hB := below_step hB k9
    have hz9 := k9.size
    have q9 := blk_cell (o := 0) R0 rfl
    have f9 : w9.frozen? ⟨w.heap.size + 1, 0, none⟩ = false := frozen_of_row w9 _ 0 _ _ R0
    go_wp2
    refine bodyPost_ret (v := .tuple #[.agg #[.slice A9 ps.length c9], .bool false]) (by simp [results, Try.results27, go_sem, q9]) rfl (MadeB2.of (addL_no HN.out) (PP_no HN.out) ⟨A9, c9, rfl, (o9.setBag R0).mono (by have := hB.size; omega), hB.setCell (by show w.heap.size ≤ w.heap.size + 1; omega) _⟩)
  · go_wp2_with fail
    refine (HTO.out _).mono ?_
    rintro e w5 ⟨rfl, rfl⟩
    cases ok2
    · have HN : Hid (¬ AddOk ps row t) := Lib.hid (fun h => PP_not H2.out h.2.1)
      have b0 := blk_cell (o := 0) P0 rfl
      go_wp2_with fail
      refine (copyBag_any B d ps w4 (HX.out.keep hB) hn HK.out).mono ?_
      rintro e w9 ⟨A9, c9, rfl, o9, k9⟩
      clear b0
      replace P0 := blk_below k9 P0
      replace R0 := blk_below k9 R0
      replace hB := below_step hB k9
      have hz9 := k9.size
      have q9 := blk_cell (o := 0) R0 rfl
      have f9 : w9.frozen? ⟨w.heap.size + 1, 0, none⟩ = false := frozen_of_row w9 _ 0 _ _ R0
      go_wp2
      refine bodyPost_ret (v := .tuple #[.agg #[.slice A9 ps.length c9], .bool false]) (by simp [results, Try.results27, go_sem, q9]) rfl (MadeB2.of (addL_no HN.out) (PP_no HN.out) ⟨A9, c9, rfl, (o9.setBag R0).mono (by have := hB.size; omega), hB.setCell (by show w.heap.size ≤ w.heap.size + 1; omega) _⟩)
    · have hok := PP_of H1.out
      have HRT := Lib.hid (HY.out.below hB)
      obtain ⟨lp, hlp⟩ : ∃ l, lput ps row t = l := ⟨_, rfl⟩
      have PU := Lib.hid (put_any gq W1.heap.size c1 m A1 E ps row t w4 Q0 o1 (by omega) hok HRT.out hrl (PP_of H2.out))
      rw [hlp] at PU
      have HLP := Lib.hid hlp
      clear hlp
      obtain ⟨ok3, hok3⟩ : ∃ b, PP (BgOk lp) = b := ⟨_, rfl⟩
      unfold PutB at PU
      rw [hok3] at PU
      have H3 := Lib.hid hok3
      clear hok3 hok
      go_wp2_with fail
      refine PU.out.mono ?_
      rintro e w6 ⟨rfl, but, hq⟩
      have k6 := but.below (b0 := W1.heap.size) (by omega) (Nat.le_refl _) (by omega)
      replace P0 := but.blk P0 (by omega) (by omega)
      replace R0 := but.blk R0 (by omega) (by omega)
      replace hB := hB.trans (but.below (by omega) (by omega) (by omega))
      have hs6 := but.size
      clear Q0 o1 but k6 PU
      cases ok3
      · have HN : Hid (¬ AddOk ps row t) := Lib.hid (fun h => PP_not H3.out (HLP.out ▸ h.2.2))
        have b0 := blk_cell (o := 0) P0 rfl
        go_wp2_with fail
        refine (copyBag_any B d ps w6 (HX.out.keep hB) hn HK.out).mono ?_
        rintro e w9 ⟨A9, c9, rfl, o9, k9⟩
        clear b0
        replace P0 := blk_below k9 P0
        replace R0 := blk_below k9 R0
        replace hB := below_step hB k9
        have hz9 := k9.size
        have q9 := blk_cell (o := 0) R0 rfl
        have f9 : w9.frozen? ⟨w.heap.size + 1, 0, none⟩ = false := frozen_of_row w9 _ 0 _ _ R0
        go_wp2
        refine bodyPost_ret (v := .tuple #[.agg #[.slice A9 ps.length c9], .bool false]) (by simp [results, Try.results27, go_sem, q9]) rfl (MadeB2.of (addL_no HN.out) (PP_no HN.out) ⟨A9, c9, rfl, (o9.setBag R0).mono (by have := hB.size; omega), hB.setCell (by show w.heap.size ≤ w.heap.size + 1; omega) _⟩)
      · obtain ⟨A7, c7, Q7, o7⟩ := hq (PP_of H3.out)
        have HY7 : Hid (AddOk ps row t) := Lib.hid ⟨PP_of H1.out, PP_of H2.out, by rw [HLP.out]; exact PP_of H3.out⟩
        have b7 := blk_cell (o := 0) Q7 rfl
        have q9 := blk_cell (o := 0) R0 rfl
        have f9 : w6.frozen? ⟨w.heap.size + 1, 0, none⟩ = false := frozen_of_row w6 _ 0 _ _ R0
        clear hq
        go_wp2
        refine bodyPost_ret (v := .tuple #[.agg #[.slice A7 lp.length c7], .bool true]) (by simp [results, Try.results27, go_sem, q9]) rfl (MadeB2.of ((addL_yes HY7.out).trans HLP.out) (PP_yes HY7.out) ⟨A7, c7, rfl, (o7.setBag R0).mono (by omega), hB.setCell (by show w.heap.size ≤ w.heap.size + 1; omega) _⟩)
end Go.Proofs.Ytdikkfhdogkniaa
