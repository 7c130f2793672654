/- spec.DfaOf: what it makes is what the sets make. Conditions: the lengths, the labels in their range. -/
import Derived.Test.YtgpjgigmlgoiiaaIDfa
import Derived.Test.YtgpjgigmlgoiiaaSameB
import Derived.Test.YtgpjgigmlgoiiaaSTakes
namespace Go.Proofs.Ytgpjgigmlgoiiaa
open Go.RowKit

theorem Try.infoBS : (Try.prog.info? 23).map (fun i => (i.zero, i.size, i.bytes)) = some (some (.slice none 0 0), 1, 24) := by kernel_rfl
theorem setL_inj {S T m : Nat} (hS : InS S m) (hT : InS T m) (h : setL S m = setL T m) : S = T := by
  apply Nat.eq_of_testBit_eq
  intro i
  by_cases hi : i < m
  · rw [← setL_at S m i hi, ← setL_at T m i hi, h]
  · have h1 : S.testBit i = false := by
      cases hb : S.testBit i with
      | false => rfl
      | true => exact absurd (hS i hb) hi
    have h2 : T.testBit i = false := by
      cases hb : T.testBit i with
      | false => rfl
      | true => exact absurd (hT i hb) hi
    rw [h1, h2]
theorem moveN_take_lt {es : List Ed} (k S : Nat) (l : Int) (h : ∀ e ∈ es, Sm e) : moveN (es.take k) S l < 16777216 := moveN_lt S l (fun e he => h e (List.mem_of_mem_take he))
theorem or_pow_ne (T t : Nat) : T ||| 2 ^ t ≠ 0 := fun h => by
  have h2 : (T ||| 2 ^ t).testBit t = true := by rw [Nat.testBit_or, Nat.testBit_two_pow]; simp
  rw [h] at h2
  simp at h2
/-- The state of spec.DfaOf in its first phase. -/
structure SeB (w : World) (N : Obj) (g1 g2 g6 q m : Nat) (vs va : Value) (vss : List Value) (sets : List Nat) (ar : List Ed) (wr : World) : Prop where
  nb : wr.heap[g1]? = some N
  res : wr.heap[g2]? = some (.cells #[.int .i64 0, .slice none 0 0, .slice none 0 0] 29 (0, 0))
  ob : wr.heap[g6]? = some (.cells #[.int .i64 0, va, .slice none 0 0] 29 (0, 0))
  so : wr.ownsRow q 23 1 vs sets.length vss
  kids : ∀ j, j < sets.length → ∃ A c, vss[j]? = some (.slice A m c) ∧ wr.ownsRow q 4 1 (.slice A m c) m ((setL (sets.getD j 0) m).map Value.bool)
  ao : wr.ownsRow q 76 3 va ar.length (edCells ar)
  bel : Below w.heap.size w wr
theorem SeB.keep {w wr w' : World} {N : Obj} {g1 g2 g6 q m : Nat} {vs va : Value} {vss : List Value} {sets : List Nat} {ar : List Ed} (h : SeB w N g1 g2 g6 q m vs va vss sets ar wr) (hb : Below wr.heap.size wr w') : SeB w N g1 g2 g6 q m vs va vss sets ar w' :=
  ⟨blk_below hb h.nb, blk_below hb h.res, blk_below hb h.ob, own_below h.so hb, fun j hj => by obtain ⟨A, c, h1, h2⟩ := h.kids j hj; exact ⟨A, c, h1, own_below h2 hb⟩, own_below h.ao hb, below_step h.bel hb⟩
theorem SeB.growS {w wr w' : World} {N : Obj} {g1 g2 g6 q m : Nat} {vs vs' va : Value} {vss : List Value} {sets : List Nat} {ar : List Ed} {S c b : Nat} {A : Option Addr} (h : SeB w N g1 g2 g6 q m vs va vss sets ar wr) (Q : DfQ w g1 g2 g6 q) (hk : wr.ownsRow b 4 1 (.slice A m c) m ((setL S m).map Value.bool)) (hq : q ≤ b)
    (ho : w'.ownsRow q 23 1 vs' (sets.length + 1) (vss ++ [.slice A m c])) (hg : wr.grownBy w' vs.ownBlock) : SeB w N g1 g2 g6 q m vs' va (vss ++ [.slice A m c]) (sets ++ [S]) ar w' := by
  have hl : vss.length = sets.length := by have := h.so.1; omega
  refine ⟨(hg.block _ (blk_lt h.nb) (fun e => by have := (h.so.lt _ e.symm).1; have := Q.h1; omega)).trans h.nb, (hg.block _ (blk_lt h.res) (fun e => by have := (h.so.lt _ e.symm).1; have := Q.h2; omega)).trans h.res, (hg.block _ (blk_lt h.ob) (fun e => row_ne h.so h.ob (by decide) e.symm)).trans h.ob,
    by rw [List.length_append]; exact ho, fun j hj => ?_, h.ao.kept hg (own_ne h.ao h.so (by decide)), h.bel.grown hg h.bel.size (fun r hr => by have := (h.so.lt r hr).1; have := Q.hq; omega)⟩
  by_cases e : j < sets.length
  · obtain ⟨A', c', h1, h2⟩ := h.kids j e
    exact ⟨A', c', by rw [List.getElem?_append_left (by omega)]; exact h1, by rw [getD_app e]; exact h2.kept hg (own_ne h2 h.so (by decide))⟩
  · have e2 : j = sets.length := by rw [List.length_append] at hj; simp at hj; omega
    subst e2
    refine ⟨A, c, by simp [← hl], ?_⟩
    have e3 : (sets ++ [S]).getD sets.length 0 = S := by simp [List.getD]
    rw [e3]
    exact own_mono (hk.kept hg (own_ne hk h.so (by decide))) hq
theorem SeB.growA {w wr w' : World} {N : Obj} {g1 g2 g6 q m : Nat} {vs va va' : Value} {vss : List Value} {sets : List Nat} {ar ar' : List Ed} (h : SeB w N g1 g2 g6 q m vs va vss sets ar wr) (Q : DfQ w g1 g2 g6 q) (ho : w'.ownsRow q 76 3 va' ar'.length (edCells ar')) (hg : wr.grownBy w' va.ownBlock) : SeB w N g1 g2 g6 q m vs va' vss sets ar' (w'.setCell ⟨g6, 1, none⟩ va') := by
  have hob := (hg.block _ (blk_lt h.ob) (fun e => row_ne h.ao h.ob (by decide) e.symm)).trans h.ob
  have hso := h.so.kept hg (own_ne h.so h.ao (by decide))
  have q1 := Q.h1
  have q2 := Q.h2
  have q5 := Q.h5
  refine ⟨blk_set_ne ((hg.block _ (blk_lt h.nb) (fun e => by have := (h.ao.lt _ e.symm).1; omega)).trans h.nb) (by omega), blk_set_ne ((hg.block _ (blk_lt h.res) (fun e => by have := (h.ao.lt _ e.symm).1; omega)).trans h.res) (by omega), ?_, own_setCell_other hso (row_ne hso hob (by decide)) _, fun j hj => ?_, own_setCell_other ho (row_ne ho hob (by decide)) _, (h.bel.grown hg h.bel.size (fun r hr => by have := (h.ao.lt r hr).1; have := Q.hq; omega)).setCell (by have := Q.hq; show _ ≤ g6; omega) _⟩
  · simp [World.setCell, Array.getElem?_modify, hob]
  · obtain ⟨A, c, h1, h2⟩ := h.kids j hj
    have h3 := h2.kept hg (own_ne h2 h.ao (by decide))
    exact ⟨A, c, h1, own_setCell_other h3 (row_ne h3 hob (by decide)) _⟩
theorem SeB.at_ {w wr : World} {N : Obj} {g1 g2 g6 q m : Nat} {A : Option Addr} {c : Nat} {va : Value} {vss : List Value} {sets : List Nat} {ar : List Ed} (h : SeB w N g1 g2 g6 q m (.slice A sets.length c) va vss sets ar wr) {j : Nat} (hj : j < sets.length) :
    ∃ ad A1 c1, A = some ad ∧ wr.cell? (ad.add j) = some (.slice A1 m c1) ∧ RdB wr A1 m (setL (sets.getD j 0) m) := by
  obtain ⟨A1, c1, h1, h2⟩ := h.kids j hj
  obtain ⟨ad, e, hc⟩ := (Rd.of_own h.so).2 (by omega)
  exact ⟨ad, A1, c1, e, hc _ _ h1, Rd.of_own h2⟩
/-- The state of spec.DfaOf in its second phase. -/
structure PhB (w : World) (N : Obj) (g1 g2 g6 q q2 m : Nat) (vs va ve : Value) (vss : List Value) (sets : List Nat) (ar : List Ed) (en : List Bool) (wr : World) : Prop where
  nb : wr.heap[g1]? = some N
  res : wr.heap[g2]? = some (.cells #[.int .i64 0, .slice none 0 0, .slice none 0 0] 29 (0, 0))
  ob : wr.heap[g6]? = some (.cells #[.int .i64 sets.length, va, ve] 29 (0, 0))
  so : wr.ownsRow q 23 1 vs sets.length vss
  kids : ∀ j, j < sets.length → ∃ A c, vss[j]? = some (.slice A m c) ∧ wr.ownsRow q 4 1 (.slice A m c) m ((setL (sets.getD j 0) m).map Value.bool) ∧ ∀ r, (Value.slice A m c).ownBlock = some r → r < q2
  ao : wr.ownsRow q 76 3 va ar.length (edCells ar)
  eo : wr.ownsRow q2 4 1 ve en.length (bls en)
  bel : Below w.heap.size w wr
theorem PhB.keep {w wr w' : World} {N : Obj} {g1 g2 g6 q q2 m : Nat} {vs va ve : Value} {vss : List Value} {sets : List Nat} {ar : List Ed} {en : List Bool} (h : PhB w N g1 g2 g6 q q2 m vs va ve vss sets ar en wr) (hb : Below wr.heap.size wr w') : PhB w N g1 g2 g6 q q2 m vs va ve vss sets ar en w' :=
  ⟨blk_below hb h.nb, blk_below hb h.res, blk_below hb h.ob, own_below h.so hb, fun j hj => by obtain ⟨A, c, h1, h2, h3⟩ := h.kids j hj; exact ⟨A, c, h1, own_below h2 hb, h3⟩, own_below h.ao hb, own_below h.eo hb, below_step h.bel hb⟩
theorem PhB.growE {w wr w' : World} {N : Obj} {g1 g2 g6 q q2 m : Nat} {vs va ve ve' : Value} {vss : List Value} {sets : List Nat} {ar : List Ed} {en en' : List Bool} (h : PhB w N g1 g2 g6 q q2 m vs va ve vss sets ar en wr) (Q : DfQ w g1 g2 g6 q) (hq2 : q ≤ q2) (ho : w'.ownsRow q2 4 1 ve' en'.length (bls en')) (hg : wr.grownBy w' ve.ownBlock) : PhB w N g1 g2 g6 q q2 m vs va ve' vss sets ar en' (w'.setCell ⟨g6, 2, none⟩ ve') := by
  have hob := (hg.block _ (blk_lt h.ob) (fun e => row_ne h.eo h.ob (by decide) e.symm)).trans h.ob
  have hso := h.so.kept hg (own_ne h.so h.eo (by decide))
  have hao := h.ao.kept hg (own_ne h.ao h.eo (by decide))
  have q1 := Q.h1
  have q2' := Q.h2
  have q5 := Q.h5
  refine ⟨blk_set_ne ((hg.block _ (blk_lt h.nb) (fun e => by have := (h.eo.lt _ e.symm).1; omega)).trans h.nb) (by omega), blk_set_ne ((hg.block _ (blk_lt h.res) (fun e => by have := (h.eo.lt _ e.symm).1; omega)).trans h.res) (by omega), ?_, own_setCell_other hso (row_ne hso hob (by decide)) _, fun j hj => ?_, own_setCell_other hao (row_ne hao hob (by decide)) _, own_setCell_other ho (row_ne ho hob (by decide)) _, (h.bel.grown hg h.bel.size (fun r hr => by have := (h.eo.lt r hr).1; have := Q.hq; omega)).setCell (by have := Q.hq; show _ ≤ g6; omega) _⟩
  · simp [World.setCell, Array.getElem?_modify, hob]
  · obtain ⟨A, c, h1, h2, h3⟩ := h.kids j hj
    have hne : (Value.slice A m c).ownBlock = none ∨ (Value.slice A m c).ownBlock ≠ ve.ownBlock := by
      cases hv : (Value.slice A m c).ownBlock with
      | none => exact .inl rfl
      | some r =>
        refine .inr fun e => ?_
        have h5 := h3 r hv
        have h6 := (h.eo.lt r e.symm).1
        omega
    have h4 := h2.kept hg hne
    exact ⟨A, c, h1, own_setCell_other h4 (row_ne h4 hob (by decide)) _, h3⟩
theorem PhB.at_ {w wr : World} {N : Obj} {g1 g2 g6 q q2 m : Nat} {A : Option Addr} {c : Nat} {va ve : Value} {vss : List Value} {sets : List Nat} {ar : List Ed} {en : List Bool} (h : PhB w N g1 g2 g6 q q2 m (.slice A sets.length c) va ve vss sets ar en wr) {j : Nat} (hj : j < sets.length) :
    ∃ ad A1 c1, A = some ad ∧ wr.cell? (ad.add j) = some (.slice A1 m c1) ∧ RdB wr A1 m (setL (sets.getD j 0) m) := by
  obtain ⟨A1, c1, h1, h2, _⟩ := h.kids j hj
  obtain ⟨ad, e, hc⟩ := (Rd.of_own h.so).2 (by omega)
  exact ⟨ad, A1, c1, e, hc _ _ h1, Rd.of_own h2⟩
set_option maxRecDepth 100000 in
set_option maxHeartbeats 12800000 in
theorem spec_DfaOf_any (m : Int) (A B : Option Addr) (c d : Nat) (es : List Ed) (bs : List Bool) (w : World) (hx : RdE w A es) (hn : es.length ≤ 1048576) (hl : ∀ e ∈ es, 0 ≤ e.l ∧ e.l ≤ 255) (hy : RdB w B bs.length bs) (hbl : bs.length ≤ 1048576) :
    Calls Try.prog 10 #[.agg #[.int .i64 m, .slice A es.length c, .slice B bs.length d]] w (MadeNB w (dfS (dfaR m es bs)) (dfA (dfaR m es bs)) (dfE bs (dfaR m es bs)) (dfaR m es bs).isSome) := by
  obtain ⟨i0, hi, hz0, hz1, hz2⟩ := info_parts Try.infoBS
  obtain ⟨a0', ha, hw0, hw1, hw2⟩ := info_parts Try.infoArc
  obtain ⟨j0, hj, hy0, hy1, hy2⟩ := info_parts Try.infoBool
  have HX0 := Lib.hid hx
  have HY0 := Lib.hid hy
  have ka := below_alloc w (.cells #[.int .i64 m, .slice A es.length c, .slice B bs.length d] 29)
  have p1 := heap_alloc_new w (.cells #[.int .i64 m, .slice A es.length c, .slice B bs.length d] 29)
  have hx1 := hx.below ka
  have hy1' := hy.below ka
  obtain ⟨W1, hW1⟩ : ∃ W, w.alloc (.cells #[.int .i64 m, .slice A es.length c, .slice B bs.length d] 29) = W := ⟨_, rfl⟩
  have hgz : w.heap.size < W1.heap.size := by rw [← hW1]; simp
  rw [hW1] at ka p1 hx1 hy1'
  have kb := below_alloc W1 (.cells #[.int .i64 0, .slice none 0 0, .slice none 0 0] 29)
  have p2 := heap_alloc_new W1 (.cells #[.int .i64 0, .slice none 0 0, .slice none 0 0] 29)
  have p1 := blk_below kb p1
  have hx2 := hx1.below kb
  have hy2' := hy1'.below kb
  have kk := below_step ka kb
  obtain ⟨W2, hW2⟩ : ∃ W, W1.alloc (.cells #[.int .i64 0, .slice none 0 0, .slice none 0 0] 29) = W := ⟨_, rfl⟩
  have hgz2 : W1.heap.size < W2.heap.size := by rw [← hW2]; simp
  rw [hW2] at kb p2 p1 hx2 hy2' kk
  obtain ⟨g1, hg1⟩ : ∃ g, w.heap.size = g := ⟨_, rfl⟩
  obtain ⟨g2, hg2⟩ : ∃ g, W1.heap.size = g := ⟨_, rfl⟩
  rw [hg1] at p1 hgz
  rw [hg2] at p2 hgz hgz2
  have HG1 := Lib.hid hg1
  have P1 := Lib.hid p1
  have P2 := Lib.hid p2
  have HX := Lib.hid hx2
  have HY := Lib.hid hy2'
  have KK := Lib.hid kk
  have HL := Lib.hid hl
  have b10 := blk_cell (o := 0) p1 rfl
  have b11 := blk_cell (o := 1) p1 rfl
  have b12 := blk_cell (o := 2) p1 rfl
  have NO := Lib.hid (spec_NfaOk_any m A B c d es bs W2 hx2 (by omega) (by omega) hl)
  clear hx hy hl ka kb kk p1 p2 hx1 hy1' hx2 hy2'
  go_enter Try.func10, Try.ntmps10
  go_wp2_with fail
  clear hW1 hW2 hg1 hg2
  refine NO.out.mono ?_
  by_cases hok : NOk m es bs
  · rw [PP_yes hok]
    rintro e w3 ⟨rfl, k3⟩
    have HR : Hid (dfaR m es bs = dfR es) := Lib.hid (by unfold dfaR; rw [PP_yes hok, if_pos rfl])
    have HOK := Lib.hid hok
    have hmm := hok.1
    have hbm := hok.2.1
    have HIT := Lib.hid hok.inT
    have HSM := Lib.hid hok.sm2
    have hrg := hok.sm
    obtain ⟨mm, rfl⟩ : ∃ mm : Nat, m = mm := ⟨m.toNat, by omega⟩
    have hbmm : bs.length = mm := by omega
    rw [hbmm] at HIT
    have HRG := Lib.hid hrg
    have hm24 : mm ≤ 24 := by omega
    have hm0 : 0 < mm := by omega
    have HBM := Lib.hid hbmm
    have m00 : (0 : Int) < (mm : Int) := by omega
    have hgz3 : g2 < w3.heap.size := by have := k3.size; omega
    have n03 := blk_cell (o := 0) (blk_below k3 P1.out) rfl
    obtain ⟨q, hq⟩ : ∃ g, w3.heap.size = g := ⟨_, rfl⟩
    rw [hq] at hgz3
    have HQ3 := Lib.hid hq
    have K3 := Lib.hid k3
    have hmk := made_bools mm
    clear k3 hok hmm hbm hrg hbmm
    go_wp2_with (first
      | (at_make
         refine wpList_make_full _ rfl _ _ 23 rfl q 4 j0 (.bool false) 1 Try.underlying23 hj hy0 hy1 .i64 .i64 (mm : Int) (mm : Int) mm rfl rfl rfl rfl (by rw [hy2]; omega) (by unfold maxLen; omega) (by omega) ?_
         intro w4 own4 gr4
         have k4 := (Below.refl w3.heap.size w3).grown gr4 (Nat.le_refl _) (fun g hg => by cases hg)
         have own4 : w4.ownsRow q 4 1 (.slice (some ⟨q, 0, none⟩) mm mm) mm ((setL 0 mm).map Value.bool) := by rw [← hmk, ← HQ3.out]; rw [← HQ3.out] at own4; exact own4
         have hco := own4.cellAt 0 (by omega)
         have hls : ((setL 0 mm).map Value.bool)[0]? = some (.bool ((setL 0 mm).getD 0 false)) := by simp [setL, hm0]
         rw [hls] at hco
         have hfo := own4.frozenAt 0
         have hst := own_bool_set own4 0
         rw [setL_set] at hst
         have K5 := Lib.hid (k4.grown hst.2 k4.size (fun r hr => by cases hr; exact Nat.le_of_eq HQ3.out))
         have hq4 := (own4.lt q rfl).2
         obtain ⟨W5, hW5⟩ : ∃ W, w4.setCell ⟨q, 0, none⟩ (.bool true) = W := ⟨_, rfl⟩
         have hz5 : q < W5.heap.size := by rw [← hW5]; simpa using hq4
         rw [hW5] at hst K5
         have O5 := Lib.hid hst.1
         have ka := below_alloc W5 (.cells #[.slice (some ⟨q, 0, none⟩) mm mm] 23)
         have p6 := heap_alloc_new W5 (.cells #[.slice (some ⟨q, 0, none⟩) mm mm] 23)
         obtain ⟨gs, hgs⟩ : ∃ g, W5.heap.size = g := ⟨_, rfl⟩
         obtain ⟨W6, hW6⟩ : ∃ W, W5.alloc (.cells #[.slice (some ⟨q, 0, none⟩) mm mm] 23) = W := ⟨_, rfl⟩
         have hz6 : gs < W6.heap.size := by rw [← hgs, ← hW6]; simp
         rw [hW6] at ka p6
         rw [hgs] at p6 hz5
         have kb := below_alloc W6 (.cells #[.int .i64 0, .slice none 0 0, .slice none 0 0] 29)
         have p7 := heap_alloc_new W6 (.cells #[.int .i64 0, .slice none 0 0, .slice none 0 0] 29)
         obtain ⟨g6, hg6⟩ : ∃ g, W6.heap.size = g := ⟨_, rfl⟩
         rw [hg6] at p7 hz6
         have k57 := below_step ka kb
         have k37 := below_step K3.out (below_step K5.out k57)
         have hso : W6.ownsRow q 23 1 (.slice (some ⟨gs, 0, none⟩) 1 1) 1 [.slice (some ⟨q, 0, none⟩) mm mm] := ⟨rfl, .inr ⟨gs, 1, #[.slice (some ⟨q, 0, none⟩) mm mm], rfl, by omega, p6, Nat.le_refl _, by unfold maxLen; omega, rfl, rfl⟩⟩
         have QQ := Lib.hid (show DfQ w g1 g2 g6 q from ⟨by omega, hgz3, by omega, by have := HG1.out; omega⟩)
         have D0 := Lib.hid (show SeB w (.cells #[.int .i64 (mm : Int), .slice A es.length c, .slice B bs.length d] 29) g1 g2 g6 q mm (.slice (some ⟨gs, 0, none⟩) 1 1) (.slice none 0 0) [.slice (some ⟨q, 0, none⟩) mm mm] [1] [] (W6.alloc (.cells #[.int .i64 0, .slice none 0 0, .slice none 0 0] 29)) from
           ⟨blk_below k37 P1.out, blk_below k37 P2.out, p7, own_below hso kb, fun j hj => by
             obtain rfl : j = 0 := by simpa using hj
             exact ⟨_, _, rfl, by have := own_below O5.out k57; simpa using this⟩, World.ownsRow_nil _ _ _ _, below_step KK.out k37⟩)
         clear ka kb p6 p7 hso k57 k37 hst own4 gr4 k4))
    clear n03 hco hfo hls hW5 hW6 hgs hg6 hq b10 b11 b12 hmk
    go_loopw [5, 7] (fun vs i wr => ∃ (k : Nat) (va : Value) (vss : List Value) (st : DfS), k ≤ st.1.length ∧ st.1.length ≤ 24 ∧ st.2.length ≤ 4 * k ∧ i = .int .i64 k ∧ Hid (dfGo es (25 - k) k st = dfR es) ∧ Hid (DfK mm st) ∧ SeB w (.cells #[.int .i64 (mm : Int), .slice A es.length c, .slice B bs.length d] 29) g1 g2 g6 q mm vs va vss st.1 st.2 wr) (fun _ i _ => 25 - (intOf i).toNat)
    case atStart => exact ⟨0, _, _, ([1], []), Nat.zero_le _, by simp, by simp, rfl, Lib.hid rfl, Lib.hid (DfK.start hm0), D0.out⟩
    case round =>
      clear D0 O5 K5
      obtain ⟨k, va, vss, st, hk, hl24, hal, rfl, HGO, HK, hd⟩ := hrel
      obtain ⟨wo, rfl⟩ : ∃ wo : World, wo = wr := ⟨_, rfl⟩
      have D := Lib.hid hd
      obtain ⟨Av, cv, rfl, _, _⟩ := own_slice hd.so
      by_cases hlt : k < st.1.length
      · have hun : Hid (dfR es = if 24 < (dfL es k st 4).1.length then none else dfGo es (25 - (k + 1)) (k + 1) (dfL es k st 4)) := Lib.hid (by
          rw [← HGO.out, show 25 - k = (25 - (k + 1)) + 1 by omega]
          show (if k < st.1.length then _ else _) = _
          rw [if_pos hlt])
        clear hd
        go_wp2_with fail
        go_loopw [5, 8] (fun vs l wr => ∃ (t : Nat) (va : Value) (vss : List Value) (st' : DfS), t ≤ 4 ∧ l = .int .u8 (97 + t) ∧ st'.1.length ≤ 24 ∧ Hid (st' = dfL es k st t) ∧ SeB w (.cells #[.int .i64 (mm : Int), .slice A es.length c, .slice B bs.length d] 29) g1 g2 g6 q mm vs va vss st'.1 st'.2 wr) (fun _ l _ => 4 - ((intOf l).toNat - 97))
        case atStart => exact ⟨0, va, vss, st, by omega, by simp, hl24, Lib.hid rfl, D.out⟩
        case round =>
          clear D
          obtain ⟨t, va', vss', st', ht, rfl, hl24', HST, hd⟩ := hrel
          obtain ⟨wq, rfl⟩ : ∃ wo : World, wo = wr := ⟨_, rfl⟩
          have D := Lib.hid hd
          obtain ⟨Av, cv, rfl, _, _⟩ := own_slice hd.so
          have hll1 := (dfL_len es k st t).1
          have hal2 := dfL_as es k st t
          rw [← HST.out] at hll1 hal2
          have HK2 : Hid (DfK mm st') := Lib.hid (by rw [HST.out]; exact HK.out.letters HSM.out HIT.out k t)
          by_cases htl : t < 4
          · have hnx : Hid (dfL es k st (t + 1) = dfStep es k (97 + (t : Int)) st') := Lib.hid (by rw [HST.out]; rfl)
            have hls : decide ((97 : Int) + (t : Int) ≤ 100) = true := decide_eq_true (by omega)
            have hat := HK2.out.at_ k
            obtain ⟨S, hS⟩ : ∃ S, st'.1.getD k 0 = S := ⟨_, rfl⟩
            rw [hS] at hat
            have HS := Lib.hid hS
            have HAT := Lib.hid hat
            have n0 := blk_cell (o := 0) hd.nb rfl
            have hqw : q ≤ wq.heap.size := by have := blk_lt hd.ob; have := QQ.out.h5; omega
            obtain ⟨gn, hgn⟩ : ∃ g, wq.heap.size = g := ⟨_, rfl⟩
            have HGN := Lib.hid hgn
            have hmk := made_bools mm
            clear hS hat hd
            go_wp2_with (first
              | (at_make
                 refine wpList_make_full _ rfl _ _ 23 rfl gn 4 j0 (.bool false) 1 Try.underlying23 hj hy0 hy1 .i64 .i64 (mm : Int) (mm : Int) mm rfl rfl rfl rfl (by rw [hy2]; omega) (by unfold maxLen; omega) (by omega) ?_
                 intro w8 own8 gr8
                 have k8 := Lib.hid ((Below.refl wq.heap.size wq).grown gr8 (Nat.le_refl _) (fun g hg => by cases hg))
                 have own8 : w8.ownsRow gn 4 1 (.slice (some ⟨gn, 0, none⟩) mm mm) mm ((setL 0 mm).map Value.bool) := by rw [← hmk, ← HGN.out]; rw [← HGN.out] at own8; exact own8
                 have O8 := Lib.hid own8
                 clear own8 gr8))
            clear hgn hmk n0
            go_loopw [10, 11] (fun sm i wr => ∃ (j T : Nat) (b : Bool), j ≤ es.length ∧ i = .int .i64 j ∧ sm = .bool b ∧ Hid (T = moveN (es.take j) S (97 + (t : Int))) ∧ Hid (b = true ↔ T ≠ 0) ∧ wr.ownsRow gn 4 1 (.slice (some ⟨gn, 0, none⟩) mm mm) mm ((setL T mm).map Value.bool) ∧ Below wq.heap.size wq wr) (fun _ i _ => es.length - (intOf i).toNat)
            case atStart => exact ⟨0, 0, false, Nat.zero_le _, rfl, rfl, Lib.hid rfl, Lib.hid (by simp), O8.out, k8.out⟩
            case round =>
              clear O8 k8
              obtain ⟨j, T, b, hj', rfl, rfl, HT, HBT, hown, hb⟩ := hrel
              obtain ⟨wj, rfl⟩ : ∃ wo : World, wo = wr := ⟨_, rfl⟩
              have DJ := Lib.hid (D.out.keep hb)
              have HO := Lib.hid hown
              have HB := Lib.hid hb
              have n1 := blk_cell (o := 1) DJ.out.nb rfl
              by_cases hjl : j < es.length
              · obtain ⟨bx, ox, rfl, x0, x1, x2⟩ := (RdE.below HX0.out DJ.out.bel).at_ hjl
                have hr := HRG.out _ (List.getElem_mem hjl)
                have hmn := moveN_next S (97 + (t : Int)) hjl
                rw [← HT.out] at hmn
                obtain ⟨x, hxx⟩ : ∃ x, es[j] = x := ⟨_, rfl⟩
                rw [hxx] at x0 x1 x2 hr hmn
                obtain ⟨xf, xl, xt⟩ := x
                simp only at x0 x1 x2 hr hmn
                obtain ⟨⟨hf0, hf1⟩, ⟨ht0, ht1⟩, hl0, hl1⟩ := hr
                obtain ⟨f, rfl⟩ : ∃ f : Nat, xf = f := ⟨xf.toNat, by omega⟩
                obtain ⟨tt, rfl⟩ : ∃ t : Nat, xt = t := ⟨xt.toNat, by omega⟩
                have hfm : f < mm := by omega
                have htm : tt < mm := by omega
                obtain ⟨ad, A1, c1, rfl, e1, r1⟩ := DJ.out.at_ (j := k) (by omega)
                rw [HS.out] at r1
                obtain ⟨ad1, rfl, z1⟩ := r1.at_ hfm
                rw [setL_at S mm f hfm] at z1
                obtain ⟨sb, hsb⟩ : ∃ sb, S.testBit f = sb := ⟨_, rfl⟩
                rw [hsb] at z1
                have hco := hown.cellAt tt (by omega)
                have hls2 : ((setL T mm).map Value.bool)[tt]? = some (.bool ((setL T mm).getD tt false)) := by simp [setL, htm]
                rw [hls2] at hco
                have hfo := hown.frozenAt tt
                obtain ⟨u, hu⟩ : ∃ u, (setL T mm).getD tt false = u := ⟨_, rfl⟩
                rw [hu] at hco
                have HMN := Lib.hid (show (sb = true ∧ xl = 97 + (t : Int) → moveN (es.take (j + 1)) S (97 + (t : Int)) = T ||| 2 ^ tt) ∧ (¬ (sb = true ∧ xl = 97 + (t : Int)) → moveN (es.take (j + 1)) S (97 + (t : Int)) = T) from by
                  constructor
                  · rintro ⟨h1, h2⟩
                    rw [hmn, if_pos (by show (decide (xl = 97 + (t : Int)) && S.testBit f) = true; rw [hsb, h1]; simp [h2])]
                    rfl
                  · intro h
                    rw [hmn, if_neg (by show ¬ (decide (xl = 97 + (t : Int)) && S.testBit f) = true; rw [hsb]; intro e; rw [Bool.and_eq_true] at e; exact h ⟨e.2, of_decide_eq_true e.1⟩)])
                have k0 : (0 : Int) ≤ (k : Int) := by omega
                have k1 : (k : Int) < (st'.1.length : Int) := by omega
                have j0' : (0 : Int) ≤ (j : Int) := by omega
                have j1' : (j : Int) < (es.length : Int) := by omega
                have f0' : (0 : Int) ≤ (f : Int) := by omega
                have f1' : (f : Int) < (mm : Int) := by omega
                have t0' : (0 : Int) ≤ (tt : Int) := by omega
                have t1' : (tt : Int) < (mm : Int) := by omega
                have qe1 := fun p => cellQ e1 p
                have qn1 := fun p => cellQ n1 p
                have qx0 := fun p => cellQ x0 p
                have qx1 := fun p => cellQ x1 p
                have qz1 := fun p => cellQ z1 p
                clear hxx hown hb hu hls2 r1 hsb hmn
                cases sb
                · have HT2 : Hid (T = moveN (es.take (j + 1)) S (97 + (t : Int))) := Lib.hid (HMN.out.2 (fun h => by cases h.1)).symm
                  go_wp2_with fail
                  refine wp_region_below (by kernel_rfl) (by kernel_rfl) ?_
                  repeat (first | go_big_quiet_step (fail) | quiet_step (fail))
                  refine wpQuiet_nil ?_
                  intro w9 hw'
                  obtain ⟨⟨w9, kk⟩, hw''⟩ := hw'
                  subst hw''
                  have O9 := Lib.hid (own_below HO.out kk)
                  have B9 := Lib.hid (below_step HB.out kk)
                  clear qe1 qn1 qx0 qx1 qz1 e1 n1 x0 x1 x2 z1 hco hfo kk
                  go_wp2
                  go_roundw
                  case rel => exact ⟨j + 1, T, b, by omega, by go_num, rfl, HT2, HBT, O9.out, B9.out⟩
                  case measure => simp [intOf]; omega
                · by_cases hll : xl = 97 + (t : Int)
                  · have l1 : (xl == 97 + (t : Int)) = true := by rw [beq_iff_eq]; exact hll
                    have HT2 : Hid (T ||| 2 ^ tt = moveN (es.take (j + 1)) S (97 + (t : Int))) := Lib.hid (HMN.out.1 ⟨rfl, hll⟩).symm
                    clear hll
                    go_wp2_with fail
                    refine wp_region_below (by kernel_rfl) (by kernel_rfl) ?_
                    repeat (first | go_big_quiet_step (fail) | quiet_step (fail))
                    refine wpQuiet_nil ?_
                    intro w9 hw'
                    obtain ⟨⟨w9, kk⟩, hw''⟩ := hw'
                    subst hw''
                    have O9 := Lib.hid (own_below HO.out kk)
                    have B9 := Lib.hid (below_step HB.out kk)
                    have n19 := held_step kk n1
                    have x29 := held_step kk x2
                    have hco9 := held_step kk hco
                    have hfo9 := O9.out.frozenAt tt
                    have hst := own_bool_set O9.out tt
                    rw [setL_set] at hst
                    have HSTO := Lib.hid hst
                    clear qe1 qn1 qx0 qx1 qz1 e1 n1 x0 x1 x2 z1 hco hfo kk hst
                    go_wp2
                    go_roundw
                    case rel => exact ⟨j + 1, T ||| 2 ^ tt, true, by omega, by go_num, rfl, HT2, Lib.hid (by simp only [true_iff]; exact or_pow_ne T tt), HSTO.out.1, B9.out.grown HSTO.out.2 B9.out.size (fun r hr => by cases hr; exact Nat.le_of_eq HGN.out)⟩
                    case measure => simp [intOf]; omega
                  · have l1 : (xl == 97 + (t : Int)) = false := by rw [beq_eq_false_iff_ne]; exact hll
                    have HT2 : Hid (T = moveN (es.take (j + 1)) S (97 + (t : Int))) := Lib.hid (HMN.out.2 (fun h => hll h.2)).symm
                    clear hll
                    go_wp2_with fail
                    refine wp_region_below (by kernel_rfl) (by kernel_rfl) ?_
                    repeat (first | go_big_quiet_step (fail) | quiet_step (fail))
                    refine wpQuiet_nil ?_
                    intro w9 hw'
                    obtain ⟨⟨w9, kk⟩, hw''⟩ := hw'
                    subst hw''
                    have O9 := Lib.hid (own_below HO.out kk)
                    have B9 := Lib.hid (below_step HB.out kk)
                    clear qe1 qn1 qx0 qx1 qz1 e1 n1 x0 x1 x2 z1 hco hfo kk
                    go_wp2
                    go_roundw
                    case rel => exact ⟨j + 1, T, b, by omega, by go_num, rfl, HT2, HBT, O9.out, B9.out⟩
                    case measure => simp [intOf]; omega
              · obtain rfl : j = es.length := by omega
                have hTM : T = moveN es S (97 + (t : Int)) := by have := HT.out; rw [List.take_of_length_le (Nat.le_refl _)] at this; exact this
                have hMl := moveN_lt S (97 + (t : Int)) HSM.out
                have hMin := InS.move (S := S) (l := 97 + (t : Int)) HIT.out
                have HSTEP : Hid (dfStep es k (97 + (t : Int)) st' = if T = 0 then st' else if T ∈ st'.1 then (st'.1, st'.2 ++ [⟨k, 97 + (t : Int), (ixN st'.1 T : Nat)⟩]) else (st'.1 ++ [T], st'.2 ++ [⟨k, 97 + (t : Int), (st'.1.length : Nat)⟩])) := Lib.hid (by unfold dfStep; rw [HS.out, ← hTM])
                rw [← hTM] at hMl hMin
                have HMIN := Lib.hid hMin
                clear hTM hown hb hMin
                cases b
                · have hT0 : T = 0 := Classical.byContradiction fun h => by have := HBT.out.2 h; cases this
                  have HST2 : Hid (st' = dfL es k st (t + 1)) := Lib.hid (by rw [hnx.out, HSTEP.out, if_pos hT0])
                  clear hT0
                  go_wp2
                  go_roundw
                  case rel => exact ⟨t + 1, va', vss', st', by omega, by go_num, hl24', HST2, DJ.out⟩
                  case measure => simp [intOf]; omega
                · have HT0 := Lib.hid (HBT.out.1 rfl)
                  have hcz := Lib.hid (HO.out)
                  go_wp2_with fail
                  go_loopw [12, 13] (fun a i wr => ∃ (j : Nat) (r : Int), j ≤ st'.1.length ∧ i = .int .i64 j ∧ a = .int .i64 r ∧ Hid ((r = -1 ∧ ∀ x, x < j → st'.1.getD x 0 ≠ T) ∨ (∃ k0 : Nat, k0 < j ∧ st'.1.getD k0 0 = T ∧ r = k0)) ∧ Below wj.heap.size wj wr) (fun _ i _ => st'.1.length - (intOf i).toNat)
                  case atStart => exact ⟨0, -1, Nat.zero_le _, rfl, rfl, Lib.hid (.inl ⟨rfl, fun x hx => absurd hx (by omega)⟩), Below.refl _ _⟩
                  case round =>
                    clear n1
                    obtain ⟨j, r, hj2, rfl, rfl, HRR, hb⟩ := hrel
                    obtain ⟨wk, rfl⟩ : ∃ wo : World, wo = wr := ⟨_, rfl⟩
                    have DK := Lib.hid (DJ.out.keep hb)
                    have OK2 := Lib.hid (own_below HO.out hb)
                    have BK := Lib.hid hb
                    clear hb
                    by_cases hjl : j < st'.1.length
                    · obtain ⟨ad, A1, c1, rfl, e1, r1⟩ := DK.out.at_ hjl
                      have hin := (HK2.out.at_ j).2
                      obtain ⟨Sj, hSj⟩ : ∃ S, st'.1.getD j 0 = S := ⟨_, rfl⟩
                      rw [hSj] at r1 hin
                      have SB := Lib.hid (sameBits_any A1 (some ⟨gn, 0, none⟩) c1 mm mm (setL Sj mm) (setL T mm) wk r1 (Rd.of_own OK2.out) (by omega))
                      obtain ⟨sbv, hsbv⟩ : ∃ b, PP (setL Sj mm = setL T mm) = b := ⟨_, rfl⟩
                      rw [hsbv] at SB
                      have HSJ := Lib.hid hSj
                      have HSB : Hid (sbv = true ↔ Sj = T) := Lib.hid (by
                        rw [← hsbv]
                        constructor
                        · intro h
                          have : setL Sj mm = setL T mm := by unfold PP at h; exact @of_decide_eq_true _ (Classical.propDecidable _) h
                          exact setL_inj hin HMIN.out this
                        · intro h; exact PP_yes (by rw [h]))
                      have j0' : (0 : Int) ≤ (j : Int) := by omega
                      have j1' : (j : Int) < (st'.1.length : Int) := by omega
                      clear hSj hsbv hin r1
                      go_wp2_with fail
                      refine SB.out.mono ?_
                      rintro e w9 ⟨rfl, k9⟩
                      have B9 := Lib.hid (below_step BK.out k9)
                      clear k9 e1 SB
                      cases sbv
                      · have HR2 : Hid ((r = -1 ∧ ∀ x, x < j + 1 → st'.1.getD x 0 ≠ T) ∨ (∃ k0 : Nat, k0 < j + 1 ∧ st'.1.getD k0 0 = T ∧ r = k0)) := Lib.hid (by
                          rcases HRR.out with ⟨h1, h2⟩ | ⟨k0, h1, h2, h3⟩
                          · refine .inl ⟨h1, fun x hx => ?_⟩
                            by_cases e : x = j
                            · subst e; rw [HSJ.out]; exact fun h => by have := HSB.out.2 h; cases this
                            · exact h2 x (by omega)
                          · exact .inr ⟨k0, by omega, h2, h3⟩)
                        go_wp2
                        go_roundw
                        case rel => exact ⟨j + 1, r, by omega, by go_num, rfl, HR2, B9.out⟩
                        case measure => simp [intOf]; omega
                      · have HR2 : Hid (((j : Int) = -1 ∧ ∀ x, x < j + 1 → st'.1.getD x 0 ≠ T) ∨ (∃ k0 : Nat, k0 < j + 1 ∧ st'.1.getD k0 0 = T ∧ (j : Int) = k0)) := Lib.hid (.inr ⟨j, by omega, by rw [HSJ.out]; exact HSB.out.1 rfl, rfl⟩)
                        go_wp2
                        go_roundw
                        case rel => exact ⟨j + 1, j, by omega, by go_num, rfl, HR2, B9.out⟩
                        case measure => simp [intOf]; omega
                    · obtain rfl : j = st'.1.length := by omega
                      rcases HRR.out with ⟨hr1, hno⟩ | ⟨k0', hk0', hat, hr1⟩
                      · subst hr1
                        have hnm : T ∉ st'.1 := fun h => by
                          obtain ⟨x, hx, e⟩ := List.getElem_of_mem h
                          exact hno x hx (by simp [List.getD, hx, e])
                        have HST2 : Hid ((st'.1 ++ [T], st'.2 ++ [⟨k, 97 + (t : Int), (st'.1.length : Nat)⟩]) = dfL es k st (t + 1)) := Lib.hid (by rw [hnx.out, HSTEP.out, if_neg HT0.out, if_neg hnm])
                        have kb := below_alloc wk (.cells #[.slice (some ⟨gn, 0, none⟩) mm mm] 23)
                        have DS := Lib.hid (DK.out.keep kb)
                        have OS := Lib.hid (own_below OK2.out kb)
                        have RS := Lib.hid (Rd.new1d wk (.slice (some ⟨gn, 0, none⟩) mm mm) 23)
                        obtain ⟨gy, hgy⟩ : ∃ g, wk.heap.size = g := ⟨_, rfl⟩
                        obtain ⟨Wb, hWb⟩ : ∃ W, wk.alloc (.cells #[.slice (some ⟨gn, 0, none⟩) mm mm] 23) = W := ⟨_, rfl⟩
                        rw [hWb] at DS RS OS
                        rw [hgy] at RS
                        have hqb : q ≤ Wb.heap.size := by have := blk_lt DS.out.ob; have := QQ.out.h5; omega
                        have hqn : q ≤ gn := by have := HGN.out; omega
                        clear kb hno hnm
                        by_cases h24 : 24 < st'.1.length + 1
                        · have g24 : decide ((24 : Int) < (st'.1.length : Int) + 1) = true := decide_eq_true (by omega)
                          have HN : Hid (dfR es = none) := Lib.hid (by
                            have h1 := dfL_up es k st (show t + 1 ≤ 4 by omega)
                            rw [← HST2.out] at h1
                            simp only [List.length_append, List.length_cons, List.length_nil] at h1
                            rw [hun.out, if_pos (by omega)])
                          have hg21 : w.heap.size ≤ g2 := by have := HG1.out; omega
                          go_wp2_with (first
                            | (at_builtin
                               refine wpList_append_any _ rfl (.tmp 96) (.tmp 98) 74 rfl q 23 i0 _ 1 24 Try.underlying74 hi hz0 hz1 hz2 rfl (by decide) _ st'.1.length vss' rfl DS.out.so (some ⟨gy, 0, none⟩) 1 1 [.slice (some ⟨gn, 0, none⟩) mm mm] rfl RS.out (by intro u hu; simp at hu; subst hu; rfl) (by unfold maxLen; omega) (by omega) (by omega) ?_
                               intro v8 w8 hown8 hg8 _
                               have D8 := Lib.hid (DS.out.growS QQ.out OS.out hqn hown8 hg8)
                               obtain ⟨A8, c8, rfl, _, _⟩ := own_slice hown8
                               have r0 := blk_cell (o := 0) D8.out.res rfl
                               have r1 := blk_cell (o := 1) D8.out.res rfl
                               have r2 := blk_cell (o := 2) D8.out.res rfl
                               have f0 : w8.frozen? ⟨g2, 0, none⟩ = false := frozen_of_row _ _ 0 _ _ D8.out.res
                               have f1 : w8.frozen? ⟨g2, 1, none⟩ = false := frozen_of_row _ _ 1 _ _ D8.out.res
                               have f2 : w8.frozen? ⟨g2, 2, none⟩ = false := frozen_of_row _ _ 2 _ _ D8.out.res))
                          refine bodyPost_ret (v := .tuple #[.agg #[.int .i64 0, .slice none 0 0, .slice none 0 0], .bool false]) (by simp [results, Try.results10, go_sem, r0, r1, r2]) rfl ?_
                          show MadeNB w (dfS (dfaR mm es bs)) (dfA (dfaR mm es bs)) (dfE bs (dfaR mm es bs)) (dfaR mm es bs).isSome _ _
                          rw [HR.out, HN.out]
                          refine MadeNB.no ?_
                          exact ((D8.out.bel.setCell (p := ⟨g2, 0, none⟩) hg21 _).setCell (p := ⟨g2, 1, none⟩) hg21 _).setCell (p := ⟨g2, 2, none⟩) hg21 _
                        · have g24 : decide ((24 : Int) < (st'.1.length : Int) + 1) = false := decide_eq_false (by omega)
                          go_wp2_with (first
                            | (at_builtin
                               refine wpList_append_any _ rfl (.tmp 96) (.tmp 98) 74 rfl q 23 i0 _ 1 24 Try.underlying74 hi hz0 hz1 hz2 rfl (by decide) _ st'.1.length vss' rfl DS.out.so (some ⟨gy, 0, none⟩) 1 1 [.slice (some ⟨gn, 0, none⟩) mm mm] rfl RS.out (by intro u hu; simp at hu; subst hu; rfl) (by unfold maxLen; omega) (by omega) (by omega) ?_
                               intro v8 w8 hown8 hg8 _
                               have D8 := Lib.hid (DS.out.growS QQ.out OS.out hqn hown8 hg8)
                               obtain ⟨A8, c8, rfl, _, _⟩ := own_slice hown8
                               have ob1 := blk_cell (o := 1) D8.out.ob rfl
                               have ka := below_alloc w8 (.cells #[.int .i64 k, .int .u8 (97 + (t : Int)), .int .i64 (st'.1.length : Nat)] 76)
                               have DA := Lib.hid (D8.out.keep ka)
                               have RA := Lib.hid (Rd.new3d w8 (.int .i64 k) (.int .u8 (97 + (t : Int))) (.int .i64 (st'.1.length : Nat)) 76)
                               have hqx : q ≤ w8.heap.size := by have := blk_lt D8.out.ob; have := QQ.out.h5; omega
                               obtain ⟨gx, hgx⟩ : ∃ g, w8.heap.size = g := ⟨_, rfl⟩
                               obtain ⟨Wa, hWa⟩ : ∃ W, w8.alloc (.cells #[.int .i64 k, .int .u8 (97 + (t : Int)), .int .i64 (st'.1.length : Nat)] 76) = W := ⟨_, rfl⟩
                               rw [hWa] at DA RA
                               rw [hgx] at RA
                               have hqa : q ≤ Wa.heap.size := by have := blk_lt DA.out.ob; have := QQ.out.h5; omega
                               have oba := blk_cell (o := 1) DA.out.ob rfl
                               clear ka)
                            | (at_builtin
                               refine wpList_append_any _ rfl (.tmp 108) (.tmp 113) 27 rfl q 76 a0' _ 3 24 Try.underlying27 ha hw0 hw1 hw2 rfl (by decide) va' st'.2.length (edCells st'.2) rfl DA.out.ao (some ⟨gx, 0, none⟩) 1 1 [.int .i64 k, .int .u8 (97 + (t : Int)), .int .i64 (st'.1.length : Nat)] rfl RA.out (by intro u hu; simp at hu; rcases hu with rfl | rfl | rfl <;> rfl) (by unfold maxLen; omega) (by omega) (by omega) ?_
                               intro v9 w9 hown9 hg9 _
                               obtain ⟨A9, c9, rfl, _, _⟩ := own_slice hown9
                               have D9 := Lib.hid (DA.out.growA QQ.out (va' := .slice A9 (st'.2.length + 1) c9) (ar' := st'.2 ++ [⟨k, 97 + (t : Int), (st'.1.length : Nat)⟩]) (by rw [List.length_append, edCells_one]; exact hown9) hg9)
                               have ob9 := (hg9.block _ (blk_lt DA.out.ob) (fun e => row_ne DA.out.ao DA.out.ob (by decide) e.symm)).trans DA.out.ob
                               have ob91 := blk_cell (o := 1) ob9 rfl
                               have ob9f : w9.frozen? ⟨g6, 1, none⟩ = false := frozen_of_row _ _ 1 _ _ ob9))
                          go_roundw
                          case rel => exact ⟨t + 1, _, _, (st'.1 ++ [T], st'.2 ++ [⟨k, 97 + (t : Int), (st'.1.length : Nat)⟩]), by omega, by go_num, by simp; omega, HST2, D9.out⟩
                          case measure => simp [intOf]; omega
                      · subst hr1
                        have hix := HK2.out.idx hk0' hat
                        have HST2 : Hid ((st'.1, st'.2 ++ [⟨k, 97 + (t : Int), (k0' : Nat)⟩]) = dfL es k st (t + 1)) := Lib.hid (by rw [hnx.out, HSTEP.out, if_neg HT0.out, if_pos hix.1, hix.2])
                        have g24 : decide ((24 : Int) < (st'.1.length : Int)) = false := decide_eq_false (by omega)
                        clear hix hat
                        have ob1 := blk_cell (o := 1) DK.out.ob rfl
                        have ka := below_alloc wk (.cells #[.int .i64 k, .int .u8 (97 + (t : Int)), .int .i64 (k0' : Nat)] 76)
                        have DA := Lib.hid (DK.out.keep ka)
                        have RA := Lib.hid (Rd.new3d wk (.int .i64 k) (.int .u8 (97 + (t : Int))) (.int .i64 (k0' : Nat)) 76)
                        have hqx : q ≤ wk.heap.size := by have := blk_lt DK.out.ob; have := QQ.out.h5; omega
                        obtain ⟨gx, hgx⟩ : ∃ g, wk.heap.size = g := ⟨_, rfl⟩
                        obtain ⟨Wa, hWa⟩ : ∃ W, wk.alloc (.cells #[.int .i64 k, .int .u8 (97 + (t : Int)), .int .i64 (k0' : Nat)] 76) = W := ⟨_, rfl⟩
                        rw [hWa] at DA RA
                        rw [hgx] at RA
                        have hqa : q ≤ Wa.heap.size := by have := blk_lt DA.out.ob; have := QQ.out.h5; omega
                        have oba := blk_cell (o := 1) DA.out.ob rfl
                        clear ka
                        go_wp2_with (first
                          | (at_builtin
                             refine wpList_append_any _ rfl (.tmp 108) (.tmp 113) 27 rfl q 76 a0' _ 3 24 Try.underlying27 ha hw0 hw1 hw2 rfl (by decide) va' st'.2.length (edCells st'.2) rfl DA.out.ao (some ⟨gx, 0, none⟩) 1 1 [.int .i64 k, .int .u8 (97 + (t : Int)), .int .i64 (k0' : Nat)] rfl RA.out (by intro u hu; simp at hu; rcases hu with rfl | rfl | rfl <;> rfl) (by unfold maxLen; omega) (by omega) (by omega) ?_
                             intro v9 w9 hown9 hg9 _
                             obtain ⟨A9, c9, rfl, _, _⟩ := own_slice hown9
                             have D9 := Lib.hid (DA.out.growA QQ.out (va' := .slice A9 (st'.2.length + 1) c9) (ar' := st'.2 ++ [⟨k, 97 + (t : Int), (k0' : Nat)⟩]) (by rw [List.length_append, edCells_one]; exact hown9) hg9)
                             have ob9 := (hg9.block _ (blk_lt DA.out.ob) (fun e => row_ne DA.out.ao DA.out.ob (by decide) e.symm)).trans DA.out.ob
                             have ob91 := blk_cell (o := 1) ob9 rfl
                             have ob9f : w9.frozen? ⟨g6, 1, none⟩ = false := frozen_of_row _ _ 1 _ _ ob9))
                        clear hWa hgx
                        go_roundw
                        case rel => exact ⟨t + 1, _, _, (st'.1, st'.2 ++ [⟨k, 97 + (t : Int), (k0' : Nat)⟩]), by omega, by go_num, hl24', HST2, D9.out⟩
                        case measure => simp [intOf]; omega
          · obtain rfl : t = 4 := by omega
            have hls : decide ((97 : Int) + ((4 : Nat) : Int) ≤ 100) = false := by decide
            have hgo2 : Hid (dfR es = dfGo es (25 - (k + 1)) (k + 1) st') := Lib.hid (by rw [hun.out, ← HST.out, if_neg (by omega)])
            clear hd
            go_wp2
            go_roundw
            case rel => exact ⟨k + 1, va', vss', st', by omega, hl24', by omega, by go_num, Lib.hid hgo2.out.symm, HK2, D.out⟩
            case measure => simp [intOf]; omega
      · obtain rfl : k = st.1.length := by omega
        have HS0 : Hid (dfR es = some st) := Lib.hid (by
          rw [← HGO.out, show 25 - st.1.length = (24 - st.1.length) + 1 by omega]
          show (if st.1.length < st.1.length then _ else _) = _
          rw [if_neg (by omega)])
        have o0 := blk_cell (o := 0) hd.ob rfl
        have fo0 : wo.frozen? ⟨g6, 0, none⟩ = false := frozen_of_row _ _ 0 _ _ hd.ob
        have hqo : q ≤ wo.heap.size := by have := blk_lt hd.ob; have := QQ.out.h5; omega
        have q1 := QQ.out.h1
        have q2' := QQ.out.h2
        have q5 := QQ.out.h5
        have qq := QQ.out.hq
        have PH0 := Lib.hid (show PhB w (.cells #[.int .i64 (mm : Int), .slice A es.length c, .slice B bs.length d] 29) g1 g2 g6 q wo.heap.size mm (.slice Av st.1.length cv) va (.slice none 0 0) vss st.1 st.2 [] (wo.setCell ⟨g6, 0, none⟩ (.int .i64 st.1.length)) from
          ⟨blk_set_ne hd.nb (by omega), blk_set_ne hd.res (by omega), by simp [World.setCell, Array.getElem?_modify, hd.ob], own_setCell_other hd.so (row_ne hd.so hd.ob (by decide)) _, fun j hj => by
            obtain ⟨A, c, h1, h2⟩ := hd.kids j hj
            exact ⟨A, c, h1, own_setCell_other h2 (row_ne h2 hd.ob (by decide)) _, fun r hr => (h2.lt r hr).2⟩, own_setCell_other hd.ao (row_ne hd.ao hd.ob (by decide)) _, World.ownsRow_nil _ _ _ _, hd.bel.setCell (by show _ ≤ g6; omega) _⟩)
        obtain ⟨qe, hqe⟩ : ∃ g, wo.heap.size = g := ⟨_, rfl⟩
        rw [hqe] at hqo PH0
        have hqz : qe ≤ (wo.setCell ⟨g6, 0, none⟩ (.int .i64 st.1.length)).heap.size := by rw [← hqe]; simp [World.setCell]
        clear hd hqe
        go_wp2_with fail
        go_loopw [14] (fun i wr => ∃ (j : Nat) (ve : Value), j ≤ st.1.length ∧ i = .int .i64 j ∧ PhB w (.cells #[.int .i64 (mm : Int), .slice A es.length c, .slice B bs.length d] 29) g1 g2 g6 q qe mm (.slice Av st.1.length cv) va ve vss st.1 st.2 (enL bs st.1 j) wr ∧ qe ≤ wr.heap.size) (fun i _ => st.1.length - (intOf i).toNat)
        case atStart => exact ⟨0, _, Nat.zero_le _, rfl, PH0.out, hqz⟩
        case round =>
          clear PH0 o0 fo0 D
          obtain ⟨j, ve, hj2, rfl, hp, hqw⟩ := hrel
          obtain ⟨wj, rfl⟩ : ∃ wo : World, wo = wr := ⟨_, rfl⟩
          have P := Lib.hid hp
          by_cases hjl : j < st.1.length
          · obtain ⟨ad, A1, c1, rfl, e1, r1⟩ := hp.at_ hjl
            have hin := HK.out.at_ j
            have hen := enL_succ bs st.1 j
            have hel := Nat.le_of_eq (enL_len bs st.1 j)
            obtain ⟨S, hS⟩ : ∃ S, st.1.getD j 0 = S := ⟨_, rfl⟩
            rw [hS] at r1 hin hen
            have HIN := Lib.hid hin
            have HEN := Lib.hid hen
            obtain ⟨en, hen2⟩ : ∃ en, enL bs st.1 j = en := ⟨_, rfl⟩
            rw [hen2] at P HEN hel
            have R1 := Lib.hid r1
            have E1 := Lib.hid e1
            clear hS hin hen hp hen2 r1 e1
            go_wp2_with fail
            go_loopw [15, 16] (fun b i wr => ∃ (t : Nat) (bb : Bool), t ≤ mm ∧ i = .int .i64 t ∧ b = .bool bb ∧ Hid (bb = true ↔ ∃ s, s < t ∧ S.testBit s = true ∧ bs.getD s false = true) ∧ Hid (wj = wr)) (fun _ i _ => mm - (intOf i).toNat)
            case atStart => exact ⟨0, false, Nat.zero_le _, rfl, rfl, Lib.hid ⟨(fun h => by cases h), (fun h => by obtain ⟨s, hs, _⟩ := h; omega)⟩, Lib.hid rfl⟩
            case round =>
              obtain ⟨t, bb, ht, rfl, rfl, HT, hw⟩ := hrel
              have hw := hw.out
              subst hw
              have n0 := blk_cell (o := 0) P.out.nb rfl
              have n2 := blk_cell (o := 2) P.out.nb rfl
              have e1 := E1.out
              by_cases htl : t < mm
              · obtain ⟨ad1, rfl, z1⟩ := R1.out.at_ htl
                rw [setL_at S mm t htl] at z1
                obtain ⟨ad2, rfl, z2⟩ := (RdB.below HY0.out P.out.bel).at_ (show t < bs.length by rw [HBM.out]; exact htl)
                have t0 : (0 : Int) ≤ (t : Int) := by omega
                have t1 : (t : Int) < (bs.length : Int) := by rw [HBM.out]; omega
                have t2 : (t : Int) < (mm : Int) := by omega
                have j0' : (0 : Int) ≤ (j : Int) := by omega
                have j1' : (j : Int) < (st.1.length : Int) := by omega
                obtain ⟨sv, hsv⟩ : ∃ v, S.testBit t = v := ⟨_, rfl⟩
                obtain ⟨ev, hev⟩ : ∃ v, bs.getD t false = v := ⟨_, rfl⟩
                rw [hsv] at z1
                rw [hev] at z2
                have HN2 : Hid ((bb || (sv && ev)) = true ↔ ∃ s, s < t + 1 ∧ S.testBit s = true ∧ bs.getD s false = true) := Lib.hid (by
                  rw [Bool.or_eq_true, Bool.and_eq_true, HT.out]
                  constructor
                  · rintro (⟨s, h1, h2⟩ | ⟨h1, h2⟩)
                    · exact ⟨s, by omega, h2⟩
                    · exact ⟨t, by omega, by rw [hsv]; exact h1, by rw [hev]; exact h2⟩
                  · rintro ⟨s, h1, h2, h3⟩
                    by_cases e : s = t
                    · subst e
                      rw [hsv] at h2
                      rw [hev] at h3
                      exact .inr ⟨h2, h3⟩
                    · exact .inl ⟨s, by omega, h2, h3⟩)
                clear hsv hev
                cases bb
                · cases sv
                  · go_wp2
                    go_roundw
                    case rel => exact ⟨t + 1, false, by omega, by go_num, rfl, by simpa using HN2, Lib.hid (by first | trivial | rfl)⟩
                    case measure => simp [intOf]; omega
                  · go_wp2
                    go_roundw
                    case rel => exact ⟨t + 1, ev, by omega, by go_num, by first | rfl | simp, by simpa using HN2, Lib.hid (by first | trivial | rfl)⟩
                    case measure => simp [intOf]; omega
                · go_wp2
                  go_roundw
                  case rel => exact ⟨t + 1, true, by omega, by go_num, rfl, by simpa using HN2, Lib.hid (by first | trivial | rfl)⟩
                  case measure => simp [intOf]; omega
              · obtain rfl : t = mm := by omega
                have HAC : Hid (accB bs S = bb) := Lib.hid (by
                  rw [Bool.eq_iff_iff, accB_iff (by rw [HBM.out]; exact HIN.out.2) (by rw [HBM.out]; omega), HT.out, HBM.out])
                have ka := below_alloc wj (.cells #[.bool bb] 4)
                have PA := Lib.hid (P.out.keep ka)
                have RA := Lib.hid (Rd.new1d wj (.bool bb) 4)
                have o2 := blk_cell (o := 2) P.out.ob rfl
                obtain ⟨gx, hgx⟩ : ∃ g, wj.heap.size = g := ⟨_, rfl⟩
                obtain ⟨Wa, hWa⟩ : ∃ W, wj.alloc (.cells #[.bool bb] 4) = W := ⟨_, rfl⟩
                rw [hWa] at PA RA
                rw [hgx] at RA
                have hqa : qe ≤ Wa.heap.size := by rw [← hWa]; simp; omega
                have oa2 := blk_cell (o := 2) PA.out.ob rfl
                clear ka
                go_wp2_with (first
                  | (at_builtin
                     refine wpList_append_any _ rfl (.tmp 149) (.tmp 151) 23 rfl qe 4 j0 _ 1 1 Try.underlying23 hj hy0 hy1 hy2 rfl (by decide) ve en.length (bls en) rfl PA.out.eo (some ⟨gx, 0, none⟩) 1 1 [.bool bb] rfl RA.out (by intro u hu; simp at hu; subst hu; rfl) (by unfold maxLen; omega) (by omega) (by omega) ?_
                     intro v9 w9 hown9 hg9 _
                     obtain ⟨A9, c9, rfl, _, _⟩ := own_slice hown9
                     have D9 := Lib.hid (PA.out.growE QQ.out hqo (ve' := .slice A9 (en.length + 1) c9) (en' := en ++ [bb]) (by rw [List.length_append]; simpa [bls] using hown9) hg9)
                     have ob9 := (hg9.block _ (blk_lt PA.out.ob) (fun e => row_ne PA.out.eo PA.out.ob (by decide) e.symm)).trans PA.out.ob
                     have hq9 : qe ≤ (w9.setCell ⟨g6, 2, none⟩ (.slice A9 (en.length + 1) c9)).heap.size := by have := hg9.size; simp [World.setCell]; omega
                     have ob92 := blk_cell (o := 2) ob9 rfl
                     have ob9f : w9.frozen? ⟨g6, 2, none⟩ = false := frozen_of_row _ _ 2 _ _ ob9))
                clear hWa hgx
                go_roundw
                case rel => exact ⟨j + 1, _, by omega, by go_num, by rw [HEN.out, HAC.out]; exact D9.out, hq9⟩
                case measure => simp [intOf]; omega
          · obtain rfl : j = st.1.length := by omega
            obtain ⟨Aa, ca, rfl, _, _⟩ := own_slice hp.ao
            obtain ⟨Ae, ce, hve, _, _⟩ := own_slice hp.eo
            subst hve
            have o0 := blk_cell (o := 0) hp.ob rfl
            have o1 := blk_cell (o := 1) hp.ob rfl
            have o2 := blk_cell (o := 2) hp.ob rfl
            have r0 := blk_cell (o := 0) hp.res rfl
            have r1 := blk_cell (o := 1) hp.res rfl
            have r2 := blk_cell (o := 2) hp.res rfl
            have f0 : wj.frozen? ⟨g2, 0, none⟩ = false := frozen_of_row _ _ 0 _ _ hp.res
            have f1 : wj.frozen? ⟨g2, 1, none⟩ = false := frozen_of_row _ _ 1 _ _ hp.res
            have f2 : wj.frozen? ⟨g2, 2, none⟩ = false := frozen_of_row _ _ 2 _ _ hp.res
            have hg21 : w.heap.size ≤ g2 := by have := HG1.out; omega
            have qe2 : g2 < qe := by omega
            have hwe : w.heap.size ≤ qe := by omega
            have AO := Lib.hid (own_mono (ownsRow_setCell_below (ownsRow_setCell_below (ownsRow_setCell_below hp.ao (a := ⟨g2, 0, none⟩) q2' (.int .i64 st.1.length)) (a := ⟨g2, 1, none⟩) q2' (.slice Aa st.2.length ca)) (a := ⟨g2, 2, none⟩) q2' (.slice Ae (enL bs st.1 st.1.length).length ce)) qq)
            have EO := Lib.hid (own_mono (ownsRow_setCell_below (ownsRow_setCell_below (ownsRow_setCell_below hp.eo (a := ⟨g2, 0, none⟩) qe2 (.int .i64 st.1.length)) (a := ⟨g2, 1, none⟩) qe2 (.slice Aa st.2.length ca)) (a := ⟨g2, 2, none⟩) qe2 (.slice Ae (enL bs st.1 st.1.length).length ce)) hwe)
            clear hp
            go_wp2
            refine bodyPost_ret (v := .tuple #[.agg #[.int .i64 st.1.length, .slice Aa st.2.length ca, .slice Ae (enL bs st.1 st.1.length).length ce], .bool true]) (by simp [results, Try.results10, go_sem, r0, r1, r2]) rfl ?_
            show MadeNB w (dfS (dfaR mm es bs)) (dfA (dfaR mm es bs)) (dfE bs (dfaR mm es bs)) (dfaR mm es bs).isSome _ _
            rw [HR.out, HS0.out]
            refine ⟨Aa, ca, Ae, ce, rfl, ⟨AO.out, EO.out⟩, ?_⟩
            exact ((P.out.bel.setCell (p := ⟨g2, 0, none⟩) hg21 _).setCell (p := ⟨g2, 1, none⟩) hg21 _).setCell (p := ⟨g2, 2, none⟩) hg21 _
  · rw [PP_no hok]
    rintro e w3 ⟨rfl, k3⟩
    have HR : Hid (dfaR m es bs = none) := Lib.hid (by unfold dfaR; rw [PP_no hok]; simp)
    have r0 := blk_cell (o := 0) (blk_below k3 P2.out) rfl
    have r1 := blk_cell (o := 1) (blk_below k3 P2.out) rfl
    have r2 := blk_cell (o := 2) (blk_below k3 P2.out) rfl
    have f0 : w3.frozen? ⟨g2, 0, none⟩ = false := frozen_of_row _ _ 0 _ _ (blk_below k3 P2.out)
    have f1 : w3.frozen? ⟨g2, 1, none⟩ = false := frozen_of_row _ _ 1 _ _ (blk_below k3 P2.out)
    have f2 : w3.frozen? ⟨g2, 2, none⟩ = false := frozen_of_row _ _ 2 _ _ (blk_below k3 P2.out)
    have K3 := Lib.hid (below_step KK.out k3)
    have hg21 : w.heap.size ≤ g2 := by have := HG1.out; omega
    clear hok k3
    go_wp2
    refine bodyPost_ret (v := .tuple #[.agg #[.int .i64 0, .slice none 0 0, .slice none 0 0], .bool false]) (by simp [results, Try.results10, go_sem, r0, r1, r2]) rfl ?_
    show MadeNB w (dfS (dfaR m es bs)) (dfA (dfaR m es bs)) (dfE bs (dfaR m es bs)) (dfaR m es bs).isSome _ _
    rw [HR.out]
    refine MadeNB.no ?_
    exact ((K3.out.setCell (p := ⟨g2, 0, none⟩) hg21 _).setCell (p := ⟨g2, 1, none⟩) hg21 _).setCell (p := ⟨g2, 2, none⟩) hg21 _
end Go.Proofs.Ytgpjgigmlgoiiaa
