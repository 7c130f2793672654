/- spec.BagAdd: what it makes. Conditions: the sizes of the lengths. Printed by xbagadd.py. -/
import Derived.Test.YtdikkfhdogkniaaSPutB
import Derived.Test.YtdikkfhdogkniaaSCopyB
import Derived.Test.YtdikkfhdogkniaaSBagOk
import Derived.Test.YtdikkfhdogkniaaBagAdd
import Derived.Test.YtdikkfhdogkniaaIn
namespace Go.Proofs.Ytdikkfhdogkniaa
open Go.RowKit

theorem cell_set_ne {w : World} {g j : Nat} {u : Value} {p : Addr} (h : p.block ≠ g) : (w.setCell ⟨g, j, none⟩ u).cell? p = w.cell? p := by
  unfold World.cell?
  rw [Below.heap_setCell _ _ _ _ (fun e => h e)]
theorem cell_one {w : World} {g : Nat} {v u : Value} {t : TypeId} {fz : Nat × Nat} {p : Addr} (hq : w.heap[g]? = some (.cells #[v] t fz)) (hp : p.block = g) (h : w.cell? p = some u) : p.off = 0 ∧ u = v := by
  unfold World.cell? at h
  rw [hp, hq] at h
  simp only at h
  split at h
  · cases h
  · have hl : p.off < 1 := by
      rcases Nat.lt_or_ge p.off 1 with k | k
      · exact k
      · rw [Array.getElem?_eq_none (by simpa using k)] at h
        cases h
    have h0 : p.off = 0 := by omega
    rw [h0] at h
    simp at h
    exact ⟨h0, h.symm⟩
theorem RdI.set1 {w : World} {A : Option Addr} {n : Nat} {xs : List Int} {g : Nat} {a : Option Addr} {b c : Nat} {t : TypeId} {fz : Nat × Nat} (h : RdI w A n xs) (hq : w.heap[g]? = some (.cells #[.slice a b c] t fz)) (u : Value) : RdI (w.setCell ⟨g, 0, none⟩ u) A n xs := by
  refine ⟨h.1, fun hn => ?_⟩
  obtain ⟨ad, e, hc⟩ := h.2 hn
  refine ⟨ad, e, fun j v hv => (cell_set_ne fun hp => ?_).trans (hc j v hv)⟩
  have h1 := (cell_one hq hp (hc j v hv)).2
  rw [List.getElem?_map] at hv
  cases hx : xs[j]? with
  | none => rw [hx] at hv; cases hv
  | some z => rw [hx] at hv; simp only [Option.map_some, Option.some.injEq] at hv; rw [← hv] at h1; cases h1
theorem RdB.set1 {w : World} {A : Option Addr} {ps : List It} {g : Nat} {a : Option Addr} {b c : Nat} {t : TypeId} {fz : Nat × Nat} (h : RdB w A ps) (hq : w.heap[g]? = some (.cells #[.slice a b c] t fz)) (u : Value) : RdB (w.setCell ⟨g, 0, none⟩ u) A ps := by
  obtain ⟨xs, h1, h2, h3⟩ := h
  refine ⟨xs, h1, ⟨h2.1, fun hn => ?_⟩, fun x hx => (h3 x hx).set1 hq u⟩
  obtain ⟨ad, e, hc⟩ := h2.2 hn
  refine ⟨ad, e, fun j v hv => (cell_set_ne fun hp => ?_).trans (hc j v hv)⟩
  rw [block_of_add] at hp
  have hl : 1 < (ixCells xs).length := by have := h2.1; omega
  have k := (cell_one hq (by rw [block_of_add]; exact hp) (hc 1 _ (List.getElem?_eq_getElem hl))).1
  unfold Addr.add at k
  simp at k
/-- What a call that makes a bag to be read and a bool leaves. -/
def MadeR2 (w : World) (qs : List It) (b : Bool) (e : Ending) (w' : World) : Prop :=
  ∃ A c, e = .returned (.tuple #[.agg #[.slice A qs.length c], .bool b]) ∧ RdB w' A qs ∧ Below w.heap.size w w'
theorem MadeR2.of {w w' : World} {qs qs' : List It} {b b' : Bool} {e : Ending} (h : qs = qs') (hb : b = b') (hm : MadeR2 w qs' b' e w') : MadeR2 w qs b e w' := by subst h hb; exact hm
theorem PP_iff_timesOk (t : Int) : PP (TimesOk t) = (decide (1 ≤ t) && decide (t ≤ 1000000)) := by
  by_cases h : TimesOk t
  · rw [PP_yes h]; obtain ⟨h1, h2⟩ := h; rw [decide_eq_true h1, decide_eq_true h2]; rfl
  · rw [PP_no h]
    unfold TimesOk at h
    by_cases h1 : 1 ≤ t
    · rw [decide_eq_true h1, decide_eq_false (show ¬ t ≤ 1000000 by omega)]; rfl
    · rw [decide_eq_false h1]; rfl

set_option maxRecDepth 100000 in
set_option maxHeartbeats 6400000 in
theorem spec_BagAdd_any (B E : Option Addr) (d m : Nat) (ps : List It) (row : List Int) (t : Int) (w : World) (hx : RdB w B ps) (hy : RdI w E row.length row) (hn : ps.length ≤ 4294967294) (hk : ∀ p ∈ ps, p.r.length ≤ 4294967296) (hrl : row.length ≤ 4294967296) :
    Calls Try.prog 25 #[.agg #[.slice B ps.length d], .slice E row.length m, .int .i64 t] w (MadeR2 w (addL ps row t) (PP (AddOk ps row t))) := by
  have HX := Lib.hid hx
  have HY := Lib.hid hy
  have HK := Lib.hid hk
  have hn' : ps.length ≤ 4294967296 := by omega
  clear hx hy hk
  have HTO := Lib.hid (fun w => spec_l01In_any t 1 1000000 w)
  rw [← PP_iff_timesOk] at HTO
  have BO := Lib.hid (fun w (h : RdB w B ps) => spec_BagOk_any B d ps w h hn' HK.out)
  obtain ⟨ok1, hok1⟩ : ∃ b, PP (BgOk ps) = b := ⟨_, rfl⟩
  obtain ⟨ok2, hok2⟩ : ∃ b, PP (TimesOk t) = b := ⟨_, rfl⟩
  rw [hok1] at BO
  rw [hok2] at HTO
  have H1 := Lib.hid hok1
  have H2 := Lib.hid hok2
  clear hok1 hok2
  have P0 := heap_alloc_new w (.cells #[.slice B ps.length d] 29)
  have ka := below_alloc w (.cells #[.slice B ps.length d] 29)
  have kb := below_alloc (w.alloc (.cells #[.slice B ps.length d] 29)) (.cells #[.slice none 0 0] 29)
  have R0 := heap_alloc_new (w.alloc (.cells #[.slice B ps.length d] 29)) (.cells #[.slice none 0 0] 29)
  replace P0 := blk_below kb P0
  have hB := below_step ka kb
  have hs1 : ((w.alloc (.cells #[.slice B ps.length d] 29)).alloc (.cells #[.slice none 0 0] 29)).heap.size = w.heap.size + 2 := by simp
  rw [show (w.alloc (.cells #[.slice B ps.length d] 29)).heap.size = w.heap.size + 1 by simp] at R0
  obtain ⟨W1, hW1⟩ : ∃ W, ((w.alloc (.cells #[.slice B ps.length d] 29)).alloc (.cells #[.slice none 0 0] 29)) = W := ⟨_, rfl⟩
  rw [hW1] at P0 R0 hB hs1
  clear ka kb
  go_enter Try.func25, Try.ntmps25
  have b0 := blk_cell (o := 0) P0 rfl
  go_wp2_with fail
  clear hW1
  refine (BO.out _ (HX.out.keep hB)).mono ?_
  rintro e w4 ⟨rfl, k4⟩
  clear b0
  replace P0 := blk_below k4 P0
  replace R0 := blk_below k4 R0
  replace hB := below_step hB k4
  have hs4 := k4.size
  clear k4
  cases ok1
  · have HN : Hid (¬ AddOk ps row t) := Lib.hid (fun h => PP_not H1.out h.1)
    have b0 := blk_cell (o := 0) P0 rfl
    go_wp2_with fail
    refine (l03Copy_any B d ps w4 (HX.out.keep hB) hn' HK.out).mono ?_
    rintro e w9 ⟨A9, c9, rfl, o9, k9⟩
    clear b0
    replace P0 := blk_below k9 P0
    replace R0 := blk_below k9 R0
    replace hB := below_step hB k9
    have hz9 := k9.size
    have q9 := blk_cell (o := 0) R0 rfl
    have f9 : w9.frozen? ⟨w.heap.size + 1, 0, none⟩ = false := frozen_of_row w9 _ 0 _ _ R0
    go_wp2
    refine bodyPost_ret (v := .tuple #[.agg #[.slice A9 ps.length c9], .bool false]) (by simp [results, Try.results25, go_sem, q9]) rfl (MadeR2.of (addL_no HN.out) (PP_no HN.out) ⟨A9, c9, rfl, o9.rd.set1 R0 _, hB.setCell (by show w.heap.size ≤ w.heap.size + 1; omega) _⟩)
  · go_wp2_with fail
    refine (HTO.out _).mono ?_
    rintro e w5 ⟨rfl, rfl⟩
    cases ok2
    · have HN : Hid (¬ AddOk ps row t) := Lib.hid (fun h => PP_not H2.out h.2.1)
      have b0 := blk_cell (o := 0) P0 rfl
      go_wp2_with fail
      refine (l03Copy_any B d ps w4 (HX.out.keep hB) hn' HK.out).mono ?_
      rintro e w9 ⟨A9, c9, rfl, o9, k9⟩
      clear b0
      replace P0 := blk_below k9 P0
      replace R0 := blk_below k9 R0
      replace hB := below_step hB k9
      have hz9 := k9.size
      have q9 := blk_cell (o := 0) R0 rfl
      have f9 : w9.frozen? ⟨w.heap.size + 1, 0, none⟩ = false := frozen_of_row w9 _ 0 _ _ R0
      go_wp2
      refine bodyPost_ret (v := .tuple #[.agg #[.slice A9 ps.length c9], .bool false]) (by simp [results, Try.results25, go_sem, q9]) rfl (MadeR2.of (addL_no HN.out) (PP_no HN.out) ⟨A9, c9, rfl, o9.rd.set1 R0 _, hB.setCell (by show w.heap.size ≤ w.heap.size + 1; omega) _⟩)
    · have hok := PP_of H1.out
      have ht := PP_of H2.out
      have b0 := blk_cell (o := 0) P0 rfl
      go_wp2_with fail
      refine (l03Copy_any B d ps w4 (HX.out.keep hB) hn' HK.out).mono ?_
      rintro e w5 ⟨A1, c1, rfl, o1, k5⟩
      clear b0
      replace P0 := blk_below k5 P0
      replace R0 := blk_below k5 R0
      replace hB := below_step hB k5
      have hs5 := k5.size
      obtain ⟨lp, hlp⟩ : ∃ l, lput ps row t = l := ⟨_, rfl⟩
      have PU := Lib.hid (l03Put_any A1 E c1 m ps row t w5 o1.rd (HY.out.below hB) hn' HK.out hrl ⟨by have := ht.1; omega, by have := ht.2; omega⟩ (fun p hp => by have := (hok.it hp).2; omega))
      have hll := (lput_len row t ps).2
      have hlk : ∀ p ∈ lput ps row t, p.r.length ≤ 4294967296 := fun p hp => by rcases lput_mem row t ps p hp with h | h | ⟨x, h1, h2, h⟩; exact HK.out p h; (rw [h]; exact hrl); (rw [h, ← h2] ; exact HK.out x h1)
      rw [hlp] at PU hll hlk
      have HLP := Lib.hid hlp
      have HLK := Lib.hid hlk
      clear hlp k5 o1 hok ht hlk
      obtain ⟨ok3, hok3⟩ : ∃ b, PP (BgOk lp) = b := ⟨_, rfl⟩
      have H3 := Lib.hid hok3
      have BO2 := Lib.hid (fun A c w (h : RdB w A lp) => spec_BagOk_any A c lp w h (by omega) HLK.out)
      rw [hok3] at BO2
      clear hok3
      go_wp2_with fail
      refine PU.out.mono ?_
      clear PU
      rintro e w6 ⟨A2, c2, rfl, o2, k6⟩
      replace P0 := blk_below k6 P0
      replace R0 := blk_below k6 R0
      replace hB := below_step hB k6
      have hs6 := k6.size
      have ka := below_alloc w6 (.cells #[.slice A2 lp.length c2] 29)
      have Q0 := heap_alloc_new w6 (.cells #[.slice A2 lp.length c2] 29)
      replace P0 := blk_below ka P0
      replace R0 := blk_below ka R0
      replace hB := below_step hB ka
      replace o2 := o2.keep ka
      obtain ⟨gq, hgq⟩ : ∃ g, w6.heap.size = g := ⟨_, rfl⟩
      obtain ⟨W7, hW7⟩ : ∃ W, w6.alloc (.cells #[.slice A2 lp.length c2] 29) = W := ⟨_, rfl⟩
      rw [hW7] at P0 R0 hB Q0 o2
      rw [hgq] at Q0 hs6
      clear k6 ka
      have b0 := blk_cell (o := 0) Q0 rfl
      go_wp2_with fail
      clear hW7 hgq
      refine (BO2.out _ _ _ o2).mono ?_
      rintro e w8 ⟨rfl, k8⟩
      clear b0
      replace P0 := blk_below k8 P0
      replace R0 := blk_below k8 R0
      replace hB := below_step hB k8
      replace Q0 := blk_below k8 Q0
      replace o2 := o2.keep k8
      have hs8 := k8.size
      clear k8
      cases ok3
      · have HN : Hid (¬ AddOk ps row t) := Lib.hid (fun h => PP_not H3.out (HLP.out ▸ h.2.2))
        have b0 := blk_cell (o := 0) P0 rfl
        go_wp2_with fail
        refine (l03Copy_any B d ps w8 (HX.out.keep hB) hn' HK.out).mono ?_
        rintro e w9 ⟨A9, c9, rfl, o9, k9⟩
        clear b0
        replace P0 := blk_below k9 P0
        replace R0 := blk_below k9 R0
        replace hB := below_step hB k9
        have hz9 := k9.size
        have q9 := blk_cell (o := 0) R0 rfl
        have f9 : w9.frozen? ⟨w.heap.size + 1, 0, none⟩ = false := frozen_of_row w9 _ 0 _ _ R0
        go_wp2
        refine bodyPost_ret (v := .tuple #[.agg #[.slice A9 ps.length c9], .bool false]) (by simp [results, Try.results25, go_sem, q9]) rfl (MadeR2.of (addL_no HN.out) (PP_no HN.out) ⟨A9, c9, rfl, o9.rd.set1 R0 _, hB.setCell (by show w.heap.size ≤ w.heap.size + 1; omega) _⟩)
      · have HY7 : Hid (AddOk ps row t) := Lib.hid ⟨PP_of H1.out, PP_of H2.out, by rw [HLP.out]; exact PP_of H3.out⟩
        have b7 := blk_cell (o := 0) Q0 rfl
        have q9 := blk_cell (o := 0) R0 rfl
        have f9 : w8.frozen? ⟨w.heap.size + 1, 0, none⟩ = false := frozen_of_row w8 _ 0 _ _ R0
        go_wp2
        refine bodyPost_ret (v := .tuple #[.agg #[.slice A2 lp.length c2], .bool true]) (by simp [results, Try.results25, go_sem, q9]) rfl (MadeR2.of ((addL_yes HY7.out).trans HLP.out) (PP_yes HY7.out) ⟨A2, c2, rfl, o2.set1 R0 _, hB.setCell (by show w.heap.size ≤ w.heap.size + 1; omega) _⟩)
end Go.Proofs.Ytdikkfhdogkniaa
