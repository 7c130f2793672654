/- impl.DfaOf: what it makes is what the sets make. Conditions: the lengths, the labels in their range. -/
import Derived.Test.YtgpjgigmlgoiiaaDfP
import Derived.Test.YtgpjgigmlgoiiaaIdx
import Derived.Test.YtgpjgigmlgoiiaaBeh
import Derived.Test.YtgpjgigmlgoiiaaBelowQ
import Derived.Deep.RegionLaw
namespace Go.Proofs.Ytgpjgigmlgoiiaa
open Go.RowKit

/-- What DfaOf returns. -/
noncomputable def dfaR (m : Int) (es : List Ed) (bs : List Bool) : Option DfS := if PP (NOk m es bs) = true then dfR es else none
def dfS (o : Option DfS) : Nat := (o.map (fun st => st.1.length)).getD 0
def dfA (o : Option DfS) : List Ed := (o.map (fun st => st.2)).getD []
def dfE (bs : List Bool) (o : Option DfS) : List Bool := (o.map (fun st => enL bs st.1 st.1.length)).getD []
/-- What a call that makes an automaton and a bool leaves. -/
def MadeNB (w : World) (s : Int) (es : List Ed) (bs : List Bool) (ok : Bool) (e : Ending) (w' : World) : Prop :=
  ∃ A c B d, e = .returned (.tuple #[.agg #[.int .i64 s, .slice A es.length c, .slice B bs.length d], .bool ok]) ∧ (w'.ownsRow w.heap.size 76 3 (.slice A es.length c) es.length (edCells es) ∧ w'.ownsRow w.heap.size 4 1 (.slice B bs.length d) bs.length (bs.map Value.bool)) ∧ Below w.heap.size w w'
theorem MadeNB.no {w w' : World} (h : Below w.heap.size w w') : MadeNB w 0 [] [] false (.returned (.tuple #[.agg #[.int .i64 0, .slice none 0 0, .slice none 0 0], .bool false])) w' :=
  ⟨none, 0, none, 0, rfl, ⟨World.ownsRow_nil _ _ _ _, World.ownsRow_nil _ _ _ _⟩, h⟩
theorem Rd.new3d (w : World) (a b d : Value) (e : TypeId) : Rd (w.alloc (.cells #[a, b, d] e)) 3 (some ⟨w.heap.size, 0, none⟩) 1 [a, b, d] := by
  refine ⟨rfl, fun _ => ⟨_, rfl, fun j u hu => ?_⟩⟩
  have hadd : (⟨w.heap.size, 0, none⟩ : Addr).add j = ⟨w.heap.size, j, none⟩ := by unfold Addr.add; split <;> simp_all
  rw [hadd, cell_of_row _ w.heap.size j #[a, b, d] e (0, 0) (heap_alloc_new w _)]
  simpa using hu
theorem Rd.new1d (w : World) (a : Value) (e : TypeId) : Rd (w.alloc (.cells #[a] e)) 1 (some ⟨w.heap.size, 0, none⟩) 1 [a] := by
  refine ⟨rfl, fun _ => ⟨_, rfl, fun j u hu => ?_⟩⟩
  have hadd : (⟨w.heap.size, 0, none⟩ : Addr).add j = ⟨w.heap.size, j, none⟩ := by unfold Addr.add; split <;> simp_all
  rw [hadd, cell_of_row _ w.heap.size j #[a] e (0, 0) (heap_alloc_new w _)]
  simpa using hu
/-- The state of impl.DfaOf. -/
structure DfB (w : World) (N : Obj) (g1 g2 g5 q : Nat) (vs va ve : Value) (sets : List Nat) (ar : List Ed) (en : List Bool) (wr : World) : Prop where
  nb : wr.heap[g1]? = some N
  res : wr.heap[g2]? = some (.cells #[.int .i64 0, .slice none 0 0, .slice none 0 0] 29 (0, 0))
  ob : wr.heap[g5]? = some (.cells #[.int .i64 0, va, ve] 29 (0, 0))
  so : wr.ownsRow q 80 1 vs sets.length (u32s sets)
  ao : wr.ownsRow q 76 3 va ar.length (edCells ar)
  eo : wr.ownsRow q 4 1 ve en.length (bls en)
  bel : Below w.heap.size w wr
theorem DfB.keep {w wr w' : World} {N : Obj} {g1 g2 g5 q : Nat} {vs va ve : Value} {sets : List Nat} {ar : List Ed} {en : List Bool} (h : DfB w N g1 g2 g5 q vs va ve sets ar en wr) (hb : Below wr.heap.size wr w') : DfB w N g1 g2 g5 q vs va ve sets ar en w' :=
  ⟨blk_below hb h.nb, blk_below hb h.res, blk_below hb h.ob, own_below h.so hb, own_below h.ao hb, own_below h.eo hb, below_step h.bel hb⟩
/-- The numbers of the blocks. -/
structure DfQ (w : World) (g1 g2 g5 q : Nat) : Prop where
  h1 : g1 < q
  h2 : g2 < q
  h5 : q < g5
  hq : w.heap.size ≤ q
theorem DfB.growS {w wr w' : World} {N : Obj} {g1 g2 g5 q : Nat} {vs vs' va ve : Value} {sets sets' : List Nat} {ar : List Ed} {en : List Bool} (h : DfB w N g1 g2 g5 q vs va ve sets ar en wr) (Q : DfQ w g1 g2 g5 q) (ho : w'.ownsRow q 80 1 vs' sets'.length (u32s sets')) (hg : wr.grownBy w' vs.ownBlock) : DfB w N g1 g2 g5 q vs' va ve sets' ar en w' :=
  ⟨(hg.block _ (blk_lt h.nb) (fun e => by have := (h.so.lt _ e.symm).1; have := Q.h1; omega)).trans h.nb, (hg.block _ (blk_lt h.res) (fun e => by have := (h.so.lt _ e.symm).1; have := Q.h2; omega)).trans h.res, (hg.block _ (blk_lt h.ob) (fun e => row_ne h.so h.ob (by decide) e.symm)).trans h.ob,
    ho, h.ao.kept hg (own_ne h.ao h.so (by decide)), h.eo.kept hg (own_ne h.eo h.so (by decide)), h.bel.grown hg h.bel.size (fun r hr => by have := (h.so.lt r hr).1; have := Q.hq; omega)⟩
theorem DfB.growA {w wr w' : World} {N : Obj} {g1 g2 g5 q : Nat} {vs va va' ve : Value} {sets : List Nat} {ar ar' : List Ed} {en : List Bool} (h : DfB w N g1 g2 g5 q vs va ve sets ar en wr) (Q : DfQ w g1 g2 g5 q) (ho : w'.ownsRow q 76 3 va' ar'.length (edCells ar')) (hg : wr.grownBy w' va.ownBlock) : DfB w N g1 g2 g5 q vs va' ve sets ar' en (w'.setCell ⟨g5, 1, none⟩ va') := by
  have hob := (hg.block _ (blk_lt h.ob) (fun e => row_ne h.ao h.ob (by decide) e.symm)).trans h.ob
  have hso := h.so.kept hg (own_ne h.so h.ao (by decide))
  have heo := h.eo.kept hg (own_ne h.eo h.ao (by decide))
  have q1 := Q.h1
  have q2 := Q.h2
  have q5 := Q.h5
  refine ⟨blk_set_ne ((hg.block _ (blk_lt h.nb) (fun e => by have := (h.ao.lt _ e.symm).1; omega)).trans h.nb) (by omega), blk_set_ne ((hg.block _ (blk_lt h.res) (fun e => by have := (h.ao.lt _ e.symm).1; omega)).trans h.res) (by omega), ?_, own_setCell_other hso (row_ne hso hob (by decide)) _, own_setCell_other ho (row_ne ho hob (by decide)) _, own_setCell_other heo (row_ne heo hob (by decide)) _, (h.bel.grown hg h.bel.size (fun r hr => by have := (h.ao.lt r hr).1; have := Q.hq; omega)).setCell (by have := Q.hq; show _ ≤ g5; omega) _⟩
  simp [World.setCell, Array.getElem?_modify, hob]
theorem DfB.growE {w wr w' : World} {N : Obj} {g1 g2 g5 q : Nat} {vs va ve ve' : Value} {sets : List Nat} {ar : List Ed} {en en' : List Bool} (h : DfB w N g1 g2 g5 q vs va ve sets ar en wr) (Q : DfQ w g1 g2 g5 q) (ho : w'.ownsRow q 4 1 ve' en'.length (bls en')) (hg : wr.grownBy w' ve.ownBlock) : DfB w N g1 g2 g5 q vs va ve' sets ar en' (w'.setCell ⟨g5, 2, none⟩ ve') := by
  have hob := (hg.block _ (blk_lt h.ob) (fun e => row_ne h.eo h.ob (by decide) e.symm)).trans h.ob
  have hso := h.so.kept hg (own_ne h.so h.eo (by decide))
  have hao := h.ao.kept hg (own_ne h.ao h.eo (by decide))
  have q1 := Q.h1
  have q2 := Q.h2
  have q5 := Q.h5
  refine ⟨blk_set_ne ((hg.block _ (blk_lt h.nb) (fun e => by have := (h.eo.lt _ e.symm).1; omega)).trans h.nb) (by omega), blk_set_ne ((hg.block _ (blk_lt h.res) (fun e => by have := (h.eo.lt _ e.symm).1; omega)).trans h.res) (by omega), ?_, own_setCell_other hso (row_ne hso hob (by decide)) _, own_setCell_other hao (row_ne hao hob (by decide)) _, own_setCell_other ho (row_ne ho hob (by decide)) _, (h.bel.grown hg h.bel.size (fun r hr => by have := (h.eo.lt r hr).1; have := Q.hq; omega)).setCell (by have := Q.hq; show _ ≤ g5; omega) _⟩
  simp [World.setCell, Array.getElem?_modify, hob]
theorem edCells_one (ar : List Ed) (x : Ed) : edCells (ar ++ [x]) = edCells ar ++ [.int .i64 x.f, .int .u8 x.l, .int .i64 x.t] := by simp [edCells_append, edCells]

set_option maxRecDepth 100000 in
set_option maxHeartbeats 12800000 in
theorem impl_DfaOf_any (m : Int) (A B : Option Addr) (c d : Nat) (es : List Ed) (bs : List Bool) (w : World) (hx : RdE w A es) (hn : es.length ≤ 1048576) (hl : ∀ e ∈ es, 0 ≤ e.l ∧ e.l ≤ 255) (hy : RdB w B bs.length bs) (hbl : bs.length ≤ 1048576) :
    Calls Try.prog 12 #[.agg #[.int .i64 m, .slice A es.length c, .slice B bs.length d]] w (MadeNB w (dfS (dfaR m es bs)) (dfA (dfaR m es bs)) (dfE bs (dfaR m es bs)) (dfaR m es bs).isSome) := by
  obtain ⟨i0, hi, hz0, hz1, hz2⟩ := info_parts Try.infoU32
  obtain ⟨a0', ha, hw0, hw1, hw2⟩ := info_parts Try.infoArc
  obtain ⟨j0, hj, hy0, hy1, hy2⟩ := info_parts Try.infoBool
  have HX0 := Lib.hid hx
  have HY0 := Lib.hid hy
  have ka := below_alloc w (.cells #[.int .i64 m, .slice A es.length c, .slice B bs.length d] 29)
  have p1 := heap_alloc_new w (.cells #[.int .i64 m, .slice A es.length c, .slice B bs.length d] 29)
  have hx1 := hx.below ka
  have hy1' := hy.below ka
  obtain ⟨W1, hW1⟩ : ∃ W, w.alloc (.cells #[.int .i64 m, .slice A es.length c, .slice B bs.length d] 29) = W := ⟨_, rfl⟩
  have hgz : w.heap.size < W1.heap.size := by rw [← hW1]; simp
  rw [hW1] at ka p1 hx1 hy1'
  have kb := below_alloc W1 (.cells #[.int .i64 0, .slice none 0 0, .slice none 0 0] 29)
  have p2 := heap_alloc_new W1 (.cells #[.int .i64 0, .slice none 0 0, .slice none 0 0] 29)
  have p1 := blk_below kb p1
  have hx2 := hx1.below kb
  have hy2' := hy1'.below kb
  have kk := below_step ka kb
  obtain ⟨W2, hW2⟩ : ∃ W, W1.alloc (.cells #[.int .i64 0, .slice none 0 0, .slice none 0 0] 29) = W := ⟨_, rfl⟩
  have hgz2 : W1.heap.size < W2.heap.size := by rw [← hW2]; simp
  rw [hW2] at kb p2 p1 hx2 hy2' kk
  obtain ⟨g1, hg1⟩ : ∃ g, w.heap.size = g := ⟨_, rfl⟩
  obtain ⟨g2, hg2⟩ : ∃ g, W1.heap.size = g := ⟨_, rfl⟩
  rw [hg1] at p1 hgz
  rw [hg2] at p2 hgz hgz2
  have HG1 := Lib.hid hg1
  have P1 := Lib.hid p1
  have P2 := Lib.hid p2
  have HX := Lib.hid hx2
  have HY := Lib.hid hy2'
  have KK := Lib.hid kk
  have HL := Lib.hid hl
  have b10 := blk_cell (o := 0) p1 rfl
  have b11 := blk_cell (o := 1) p1 rfl
  have b12 := blk_cell (o := 2) p1 rfl
  have NO := Lib.hid (impl_NfaOk_any m A B c d es bs W2 hx2 (by omega) (by omega) hl)
  clear hx hy hl ka kb kk p1 p2 hx1 hy1' hx2 hy2'
  go_enter Try.func12, Try.ntmps12
  go_wp2_with fail
  clear hW1 hW2 hg1 hg2
  refine NO.out.mono ?_
  by_cases hok : NOk m es bs
  · rw [PP_yes hok]
    rintro e w3 ⟨rfl, k3⟩
    have HR : Hid (dfaR m es bs = dfR es) := Lib.hid (by unfold dfaR; rw [PP_yes hok, if_pos rfl])
    have HOK := Lib.hid hok
    have ka := below_alloc w3 (.cells #[.int .u32 1] 80)
    have p4 := heap_alloc_new w3 (.cells #[.int .u32 1] 80)
    have hgz3 : g2 < w3.heap.size := by have := k3.size; omega
    obtain ⟨q, hq⟩ : ∃ g, w3.heap.size = g := ⟨_, rfl⟩
    have hqz : q < (w3.alloc (.cells #[.int .u32 1] 80)).heap.size := by rw [← hq]; simp
    obtain ⟨W4, hW4⟩ : ∃ W, w3.alloc (.cells #[.int .u32 1] 80) = W := ⟨_, rfl⟩
    rw [hW4] at ka p4 hqz
    rw [hq] at p4 hgz3
    have kb := below_alloc W4 (.cells #[.int .i64 0, .slice none 0 0, .slice none 0 0] 29)
    have p5 := heap_alloc_new W4 (.cells #[.int .i64 0, .slice none 0 0, .slice none 0 0] 29)
    obtain ⟨g5, hg5⟩ : ∃ g, W4.heap.size = g := ⟨_, rfl⟩
    obtain ⟨W5, hW5⟩ : ∃ W, W4.alloc (.cells #[.int .i64 0, .slice none 0 0, .slice none 0 0] 29) = W := ⟨_, rfl⟩
    rw [hW5] at kb p5
    rw [hg5] at p5 hqz
    have hso4 : W4.ownsRow q 80 1 (.slice (some ⟨q, 0, none⟩) 1 1) 1 (u32s [1]) := ⟨rfl, .inr ⟨q, 1, #[.int .u32 1], rfl, Nat.le_refl _, p4, Nat.le_refl _, by unfold maxLen; omega, rfl, rfl⟩⟩
    have k25 := below_step (below_step k3 ka) kb
    have QQ := Lib.hid (show DfQ w g1 g2 g5 q from ⟨by omega, hgz3, hqz, by have := HG1.out; omega⟩)
    have D0 := Lib.hid (show DfB w (.cells #[.int .i64 m, .slice A es.length c, .slice B bs.length d] 29) g1 g2 g5 q (.slice (some ⟨q, 0, none⟩) 1 1) (.slice none 0 0) (.slice none 0 0) [1] [] [] W5 from
      ⟨blk_below k25 P1.out, blk_below k25 P2.out, p5, own_below hso4 kb, World.ownsRow_nil _ _ _ _, World.ownsRow_nil _ _ _ _, below_step KK.out k25⟩)
    have hmm := hok.1
    have hbm := hok.2.1
    clear k3 ka kb p4 p5 hso4 k25 hok
    go_wp2_with fail
    clear hW4 hW5 hq hg5 b10 b11 b12
    go_loopw [4, 6] (fun vs i wr => ∃ (k : Nat) (va ve : Value) (st : DfS), k ≤ st.1.length ∧ st.1.length ≤ 24 ∧ st.2.length ≤ 4 * k ∧ i = .int .i64 k ∧ Hid (dfGo es (25 - k) k st = dfR es) ∧ Hid (DfK bs.length st) ∧ DfB w (.cells #[.int .i64 m, .slice A es.length c, .slice B bs.length d] 29) g1 g2 g5 q vs va ve st.1 st.2 (enL bs st.1 k) wr) (fun _ i _ => 25 - (intOf i).toNat)
    case atStart => exact ⟨0, _, _, ([1], []), Nat.zero_le _, by simp, by simp, rfl, Lib.hid rfl, Lib.hid (DfK.start (by omega)), D0.out⟩
    case round =>
      clear D0
      obtain ⟨k, va, ve, st, hk, hl24, hal, rfl, HGO, HK, hd⟩ := hrel
      obtain ⟨wo, rfl⟩ : ∃ wo : World, wo = wr := ⟨_, rfl⟩
      have D := Lib.hid hd
      obtain ⟨Av, cv, rfl, _, _⟩ := own_slice hd.so
      by_cases hlt : k < st.1.length
      · have hun : Hid (dfR es = if 24 < (dfL es k st 4).1.length then none else dfGo es (25 - (k + 1)) (k + 1) (dfL es k st 4)) := Lib.hid (by
          rw [← HGO.out, show 25 - k = (25 - (k + 1)) + 1 by omega]
          show (if k < st.1.length then _ else _) = _
          rw [if_pos hlt])
        clear hd
        go_wp2_with fail
        go_loopw [4, 7] (fun vs l wr => ∃ (t : Nat) (va : Value) (st' : DfS), t ≤ 4 ∧ l = .int .u8 (97 + t) ∧ Hid (st' = dfL es k st t) ∧ DfB w (.cells #[.int .i64 m, .slice A es.length c, .slice B bs.length d] 29) g1 g2 g5 q vs va ve st'.1 st'.2 (enL bs st.1 k) wr) (fun _ l _ => 4 - ((intOf l).toNat - 97))
        case atStart => exact ⟨0, va, st, by omega, by simp, Lib.hid rfl, D.out⟩
        case round =>
          clear D
          obtain ⟨t, va', st', ht, rfl, HST, hd⟩ := hrel
          obtain ⟨wq, rfl⟩ : ∃ wo : World, wo = wr := ⟨_, rfl⟩
          have D := Lib.hid hd
          obtain ⟨Av, cv, rfl, _, _⟩ := own_slice hd.so
          have hll1 := (dfL_len es k st t).1
          have hll2 := (dfL_len es k st t).2
          have hal2 := dfL_as es k st t
          rw [← HST.out] at hll1 hll2 hal2
          have HK2 : Hid (DfK bs.length st') := Lib.hid (by rw [HST.out]; exact HK.out.letters HOK.out.sm2 HOK.out.inT k t)
          by_cases htl : t < 4
          · have hnx : Hid (dfL es k st (t + 1) = dfStep es k (97 + (t : Int)) st') := Lib.hid (by rw [HST.out]; rfl)
            have hlo := (HK2.out.at_ k).1
            have hls : decide ((97 : Int) + (t : Int) ≤ 100) = true := decide_eq_true (by omega)
            obtain ⟨ad, rfl, z0⟩ := RdU.at_ (show RdU wq Av st'.1 from Rd.of_own hd.so) (k := k) (by omega)
            obtain ⟨S, hS⟩ : ∃ S, st'.1.getD k 0 = S := ⟨_, rfl⟩
            rw [hS] at z0 hlo
            obtain ⟨M, hM⟩ : ∃ M, moveN es S (97 + (t : Int)) = M := ⟨_, rfl⟩
            have hMl := moveN_lt S (97 + (t : Int)) HOK.out.sm2
            have MV := Lib.hid (fun (p : BelowOf wq) => move_any m A B bs.length c d es S (97 + (t : Int)) p.w (HX0.out.below (below_step D.out.bel p.h)) (by omega) HOK.out.sm2 hlo)
            rw [hM] at MV hMl
            have HSTEP : Hid (dfStep es k (97 + (t : Int)) st' = if M = 0 then st' else if M ∈ st'.1 then (st'.1, st'.2 ++ [⟨k, 97 + (t : Int), (ixN st'.1 M : Nat)⟩]) else (st'.1 ++ [M], st'.2 ++ [⟨k, 97 + (t : Int), (st'.1.length : Nat)⟩])) := Lib.hid (by unfold dfStep; rw [hS, hM])
            have n0 := blk_cell (o := 0) hd.nb rfl
            have n1 := blk_cell (o := 1) hd.nb rfl
            have n2 := blk_cell (o := 2) hd.nb rfl
            have qn0 := fun p => cellQ n0 p
            have qn1 := fun p => cellQ n1 p
            have qn2 := fun p => cellQ n2 p
            have qz0 := fun p => cellQ z0 p
            have k0 : (0 : Int) ≤ (k : Int) := by omega
            have k1 : (k : Int) < (st'.1.length : Int) := by omega
            clear hS hM hd
            go_wp2_with fail
            refine wp_region_below (by kernel_rfl) (by kernel_rfl) ?_
            repeat (first | go_big_quiet_step ((go_at_call 47; exact Calls.below_of (MV.out _))) | quiet_step ((go_at_call 47; exact Calls.below_of (MV.out _))))
            refine wpQuiet_nil ?_
            intro w7 hw'
            obtain ⟨⟨w7, kk⟩, hw''⟩ := hw'
            subst hw''
            have D7 := Lib.hid (D.out.keep kk)
            clear qn0 qn1 qn2 qz0 n0 n1 n2 z0 kk MV
            by_cases hM0 : M = 0
            · have e0 : ((M : Int) == 0) = true := by rw [beq_iff_eq]; omega
              have HST2 : Hid (st' = dfL es k st (t + 1)) := Lib.hid (by rw [hnx.out, HSTEP.out, if_pos hM0])
              clear hM0
              go_wp2
              go_roundw
              case rel => exact ⟨t + 1, va', st', by omega, by go_num, HST2, D7.out⟩
              case measure => simp [intOf]; omega
            · have e0 : ((M : Int) == 0) = false := by rw [beq_eq_false_iff_ne]; omega
              have HM0 := Lib.hid hM0
              clear hM0
              have IX := Lib.hid (Index_any (some ad) cv st'.1 M w7 (Rd.of_own D7.out.so) (by omega))
              go_wp2_with fail
              refine IX.out.mono ?_
              rintro e w8 ⟨hcase, rfl⟩
              rcases hcase with ⟨hno, rfl⟩ | ⟨k0', hk0', hat, rfl⟩
              · have HST2 : Hid ((st'.1 ++ [M], st'.2 ++ [⟨k, 97 + (t : Int), (st'.1.length : Nat)⟩]) = dfL es k st (t + 1)) := Lib.hid (by rw [hnx.out, HSTEP.out, if_neg HM0.out, if_neg hno])
                have kb := below_alloc w7 (.cells #[.int .u32 M] 80)
                have DS := Lib.hid (D7.out.keep kb)
                have RS := Lib.hid (Rd.new1d w7 (.int .u32 M) 80)
                obtain ⟨gy, hgy⟩ : ∃ g, w7.heap.size = g := ⟨_, rfl⟩
                obtain ⟨Wb, hWb⟩ : ∃ W, w7.alloc (.cells #[.int .u32 M] 80) = W := ⟨_, rfl⟩
                rw [hWb] at DS RS
                rw [hgy] at RS
                have hqb : q ≤ Wb.heap.size := by have := blk_lt DS.out.ob; have := QQ.out.h5; omega
                clear kb hno
                go_wp2_with (first
                  | (at_builtin
                     refine wpList_append_any _ rfl (.tmp 41) (.tmp 43) 81 rfl q 80 i0 _ 1 4 Try.underlying81 hi hz0 hz1 hz2 rfl (by decide) _ st'.1.length (u32s st'.1) rfl DS.out.so (some ⟨gy, 0, none⟩) 1 1 [.int .u32 M] rfl RS.out (by intro u hu; simp at hu; subst hu; rfl) (by unfold maxLen; omega) (by omega) (by omega) ?_
                     intro v8 w8 hown8 hg8 _
                     have D8 := Lib.hid (DS.out.growS QQ.out (vs' := v8) (sets' := st'.1 ++ [M]) (by rw [List.length_append]; simpa [u32s] using hown8) hg8)
                     have ob1 := blk_cell (o := 1) D8.out.ob rfl
                     have ka := below_alloc w8 (.cells #[.int .i64 k, .int .u8 (97 + (t : Int)), .int .i64 (st'.1.length : Nat)] 76)
                     have DA := Lib.hid (D8.out.keep ka)
                     have RA := Lib.hid (Rd.new3d w8 (.int .i64 k) (.int .u8 (97 + (t : Int))) (.int .i64 (st'.1.length : Nat)) 76)
                     have hqx : q ≤ w8.heap.size := by have := blk_lt D8.out.ob; have := QQ.out.h5; omega
                     obtain ⟨gx, hgx⟩ : ∃ g, w8.heap.size = g := ⟨_, rfl⟩
                     obtain ⟨Wa, hWa⟩ : ∃ W, w8.alloc (.cells #[.int .i64 k, .int .u8 (97 + (t : Int)), .int .i64 (st'.1.length : Nat)] 76) = W := ⟨_, rfl⟩
                     rw [hWa] at DA RA
                     rw [hgx] at RA
                     have hqa : q ≤ Wa.heap.size := by have := blk_lt DA.out.ob; have := QQ.out.h5; omega
                     have oba := blk_cell (o := 1) DA.out.ob rfl
                     clear ka)
                  | (at_builtin
                     refine wpList_append_any _ rfl (.tmp 46) (.tmp 51) 27 rfl q 76 a0' _ 3 24 Try.underlying27 ha hw0 hw1 hw2 rfl (by decide) va' st'.2.length (edCells st'.2) rfl DA.out.ao (some ⟨gx, 0, none⟩) 1 1 [.int .i64 k, .int .u8 (97 + (t : Int)), .int .i64 (st'.1.length : Nat)] rfl RA.out (by intro u hu; simp at hu; rcases hu with rfl | rfl | rfl <;> rfl) (by unfold maxLen; omega) (by omega) (by omega) ?_
                     intro v9 w9 hown9 hg9 _
                     obtain ⟨A9, c9, rfl, _, _⟩ := own_slice hown9
                     have D9 := Lib.hid (DA.out.growA QQ.out (va' := .slice A9 (st'.2.length + 1) c9) (ar' := st'.2 ++ [⟨k, 97 + (t : Int), (st'.1.length : Nat)⟩]) (by rw [List.length_append, edCells_one]; exact hown9) hg9)
                     have ob9 := (hg9.block _ (blk_lt DA.out.ob) (fun e => row_ne DA.out.ao DA.out.ob (by decide) e.symm)).trans DA.out.ob
                     have ob91 := blk_cell (o := 1) ob9 rfl
                     have ob9f : w9.frozen? ⟨g5, 1, none⟩ = false := frozen_of_row _ _ 1 _ _ ob9))
                go_roundw
                case rel => exact ⟨t + 1, _, _, by omega, by go_num, HST2, D9.out⟩
                case measure => simp [intOf]; omega
              · have hix := HK2.out.idx hk0' hat
                have HST2 : Hid ((st'.1, st'.2 ++ [⟨k, 97 + (t : Int), (k0' : Nat)⟩]) = dfL es k st (t + 1)) := Lib.hid (by rw [hnx.out, HSTEP.out, if_neg HM0.out, if_pos hix.1, hix.2])
                clear hix hat
                have ob1 := blk_cell (o := 1) D7.out.ob rfl
                have ka := below_alloc w7 (.cells #[.int .i64 k, .int .u8 (97 + (t : Int)), .int .i64 (k0' : Nat)] 76)
                have DA := Lib.hid (D7.out.keep ka)
                have RA := Lib.hid (Rd.new3d w7 (.int .i64 k) (.int .u8 (97 + (t : Int))) (.int .i64 (k0' : Nat)) 76)
                have hqx : q ≤ w7.heap.size := by have := blk_lt D7.out.ob; have := QQ.out.h5; omega
                obtain ⟨gx, hgx⟩ : ∃ g, w7.heap.size = g := ⟨_, rfl⟩
                obtain ⟨Wa, hWa⟩ : ∃ W, w7.alloc (.cells #[.int .i64 k, .int .u8 (97 + (t : Int)), .int .i64 (k0' : Nat)] 76) = W := ⟨_, rfl⟩
                rw [hWa] at DA RA
                rw [hgx] at RA
                have hqa : q ≤ Wa.heap.size := by have := blk_lt DA.out.ob; have := QQ.out.h5; omega
                have oba := blk_cell (o := 1) DA.out.ob rfl
                clear ka
                go_wp2_with (first
                  | (at_builtin
                     refine wpList_append_any _ rfl (.tmp 46) (.tmp 51) 27 rfl q 76 a0' _ 3 24 Try.underlying27 ha hw0 hw1 hw2 rfl (by decide) va' st'.2.length (edCells st'.2) rfl DA.out.ao (some ⟨gx, 0, none⟩) 1 1 [.int .i64 k, .int .u8 (97 + (t : Int)), .int .i64 (k0' : Nat)] rfl RA.out (by intro u hu; simp at hu; rcases hu with rfl | rfl | rfl <;> rfl) (by unfold maxLen; omega) (by omega) (by omega) ?_
                     intro v9 w9 hown9 hg9 _
                     obtain ⟨A9, c9, rfl, _, _⟩ := own_slice hown9
                     have D9 := Lib.hid (DA.out.growA QQ.out (va' := .slice A9 (st'.2.length + 1) c9) (ar' := st'.2 ++ [⟨k, 97 + (t : Int), (k0' : Nat)⟩]) (by rw [List.length_append, edCells_one]; exact hown9) hg9)
                     have ob9 := (hg9.block _ (blk_lt DA.out.ob) (fun e => row_ne DA.out.ao DA.out.ob (by decide) e.symm)).trans DA.out.ob
                     have ob91 := blk_cell (o := 1) ob9 rfl
                     have ob9f : w9.frozen? ⟨g5, 1, none⟩ = false := frozen_of_row _ _ 1 _ _ ob9))
                clear hWa hgx
                go_roundw
                case rel => exact ⟨t + 1, _, _, by omega, by go_num, HST2, D9.out⟩
                case measure => simp [intOf]; omega
          · obtain rfl : t = 4 := by omega
            have hls : decide ((97 : Int) + ((4 : Nat) : Int) ≤ 100) = false := by decide
            by_cases h24 : 24 < st'.1.length
            · have g24 : decide ((24 : Int) < (st'.1.length : Int)) = true := decide_eq_true (by omega)
              have HN : Hid (dfR es = none) := Lib.hid (by rw [hun.out, ← HST.out, if_pos h24])
              have r0 := blk_cell (o := 0) hd.res rfl
              have r1 := blk_cell (o := 1) hd.res rfl
              have r2 := blk_cell (o := 2) hd.res rfl
              have f0 : wq.frozen? ⟨g2, 0, none⟩ = false := frozen_of_row _ _ 0 _ _ hd.res
              have f1 : wq.frozen? ⟨g2, 1, none⟩ = false := frozen_of_row _ _ 1 _ _ hd.res
              have f2 : wq.frozen? ⟨g2, 2, none⟩ = false := frozen_of_row _ _ 2 _ _ hd.res
              have hg21 : w.heap.size ≤ g2 := by have := HG1.out; omega
              clear hd
              go_wp2
              refine bodyPost_ret (v := .tuple #[.agg #[.int .i64 0, .slice none 0 0, .slice none 0 0], .bool false]) (by simp [results, Try.results12, go_sem, r0, r1, r2]) rfl ?_
              show MadeNB w (dfS (dfaR m es bs)) (dfA (dfaR m es bs)) (dfE bs (dfaR m es bs)) (dfaR m es bs).isSome _ _
              rw [HR.out, HN.out]
              refine MadeNB.no ?_
              exact ((D.out.bel.setCell (p := ⟨g2, 0, none⟩) hg21 _).setCell (p := ⟨g2, 1, none⟩) hg21 _).setCell (p := ⟨g2, 2, none⟩) hg21 _
            · have g24 : decide ((24 : Int) < (st'.1.length : Int)) = false := decide_eq_false (by omega)
              have hlo := HK2.out.at_ k
              obtain ⟨ad, rfl, z0⟩ := RdU.at_ (show RdU wq Av st'.1 from Rd.of_own hd.so) (k := k) (by omega)
              have HEN : Hid (enL bs st'.1 (k + 1) = enL bs st.1 k ++ [accB bs (st'.1.getD k 0)]) := Lib.hid (by
                rw [enL_succ, enL_congr (s := st'.1) (t := st.1) (fun j hj => by rw [HST.out]; exact dfL_at es k st (by omega) 4)])
              obtain ⟨S, hS⟩ : ∃ S, st'.1.getD k 0 = S := ⟨_, rfl⟩
              rw [hS] at z0 hlo HEN
              have B0 : Below wq.heap.size wq wq.drew := (Below.refl _ _).drew
              have AC := Lib.hid (fun (W : World) (h : Below wq.heap.size wq W) => accepts_any m A B es.length c d bs S W (HY0.out.below (below_step D.out.bel h)) (by have := hlo.1; omega) hlo.2)
              obtain ⟨ab, hab⟩ : ∃ ab, accB bs S = ab := ⟨_, rfl⟩
              rw [hab] at AC HEN
              have n0 := blk_cell (o := 0) hd.nb rfl
              have n1 := blk_cell (o := 1) hd.nb rfl
              have n2 := blk_cell (o := 2) hd.nb rfl
              have o2 := blk_cell (o := 2) hd.ob rfl
              have hel := enL_len bs st.1 k
              have hel1 : (enL bs st.1 k).length ≤ 24 := by omega
              obtain ⟨en, hen⟩ : ∃ en, enL bs st.1 k = en := ⟨_, rfl⟩
              rw [hen] at D HEN hel1
              have k0 : (0 : Int) ≤ (k : Int) := by omega
              have k1 : (k : Int) < (st'.1.length : Int) := by omega
              have hgo2 : Hid (dfR es = dfGo es (25 - (k + 1)) (k + 1) st') := Lib.hid (by rw [hun.out, ← HST.out, if_neg h24])
              have hgl5 : g5 < wq.heap.size := blk_lt hd.ob
              clear hS hab hen hd hel hlo
              go_wp2_with fail
              go_region_law (first
                | (go_simp
                   go_at_call 49
                   refine (AC.out _ B0).mono ?_
                   rintro e w7 ⟨rfl, k7⟩
                   have K7 := Lib.hid (below_step B0 k7)
                   have D7 := Lib.hid (D.out.keep K7.out)
                   have o27 := blk_cell (o := 2) D7.out.ob rfl
                   have n07 := held_step K7.out n0
                   have n17 := held_step K7.out n1
                   have n27 := held_step K7.out n2
                   have z07 := held_step K7.out z0
                   have hq7 : q ≤ w7.heap.size := by have := blk_lt D7.out.ob; have := QQ.out.h5; omega
                   have hgl57 : g5 < w7.heap.size := blk_lt D7.out.ob
                   clear k7)
                | (refine step_append_any _ rfl (.tmp 59) (.tmp 66) 23 rfl q 4 j0 _ 1 1 Try.underlying23 hj hy0 hy1 hy2 rfl (by decide) ve en.length (bls en) rfl (D7.out.eo.alloc _) (some ⟨w7.heap.size, 0, none⟩) 1 1 [.bool ab] rfl (Rd.new1d w7 _ _) (by intro u hu; simp at hu; subst hu; rfl) (by unfold maxLen; omega) (by omega) (by simp; omega) ?_
                   intro v9 w9 hown9 hg9 _
                   obtain ⟨A9, c9, rfl, _, _⟩ := own_slice hown9
                   have DX := Lib.hid (D7.out.keep (below_alloc w7 (.cells #[.bool ab] 4)))
                   have D9 := Lib.hid (DX.out.growE QQ.out (ve' := .slice A9 (en.length + 1) c9) (en' := en ++ [ab]) (by rw [List.length_append]; simpa [bls] using hown9) hg9)
                   have ob9 := (hg9.block _ (blk_lt DX.out.ob) (fun e => row_ne DX.out.eo DX.out.ob (by decide) e.symm)).trans DX.out.ob
                   have ob92 := blk_cell (o := 2) ob9 rfl
                   have ob9f : w9.frozen? ⟨g5, 2, none⟩ = false := frozen_of_row _ _ 2 _ _ ob9))
              all_goals
                go_wp2
                go_roundw
                case rel => exact ⟨k + 1, va', _, st', by omega, by omega, by omega, by go_num, Lib.hid hgo2.out.symm, HK2, by rw [HEN.out]; exact D9.out⟩
                case measure => simp [intOf]; omega
      · obtain rfl : k = st.1.length := by omega
        have HS0 : Hid (dfR es = some st) := Lib.hid (by
          rw [← HGO.out, show 25 - st.1.length = (24 - st.1.length) + 1 by omega]
          show (if st.1.length < st.1.length then _ else _) = _
          rw [if_neg (by omega)])
        obtain ⟨Aa, ca, rfl, _, _⟩ := own_slice hd.ao
        obtain ⟨Ae, ce, hve, _, _⟩ := own_slice hd.eo
        subst hve
        have o0 := blk_cell (o := 0) hd.ob rfl
        have o1 := blk_cell (o := 1) hd.ob rfl
        have o2 := blk_cell (o := 2) hd.ob rfl
        have r0 := blk_cell (o := 0) hd.res rfl
        have r1 := blk_cell (o := 1) hd.res rfl
        have r2 := blk_cell (o := 2) hd.res rfl
        have fo0 : wo.frozen? ⟨g5, 0, none⟩ = false := frozen_of_row _ _ 0 _ _ hd.ob
        have f0 : wo.frozen? ⟨g2, 0, none⟩ = false := frozen_of_row _ _ 0 _ _ hd.res
        have f1 : wo.frozen? ⟨g2, 1, none⟩ = false := frozen_of_row _ _ 1 _ _ hd.res
        have f2 : wo.frozen? ⟨g2, 2, none⟩ = false := frozen_of_row _ _ 2 _ _ hd.res
        have hg21 : w.heap.size ≤ g2 := by have := HG1.out; omega
        have q2 := QQ.out.h2
        have q5 := QQ.out.h5
        have qq := QQ.out.hq
        have AO := Lib.hid (own_mono (ownsRow_setCell_below (ownsRow_setCell_below (ownsRow_setCell_below (own_setCell_other hd.ao (row_ne hd.ao hd.ob (by decide)) (a := ⟨g5, 0, none⟩) (.int .i64 st.1.length)) (a := ⟨g2, 0, none⟩) q2 (.int .i64 st.1.length)) (a := ⟨g2, 1, none⟩) q2 (.slice Aa st.2.length ca)) (a := ⟨g2, 2, none⟩) q2 (.slice Ae (enL bs st.1 st.1.length).length ce)) qq)
        have EO := Lib.hid (own_mono (ownsRow_setCell_below (ownsRow_setCell_below (ownsRow_setCell_below (own_setCell_other hd.eo (row_ne hd.eo hd.ob (by decide)) (a := ⟨g5, 0, none⟩) (.int .i64 st.1.length)) (a := ⟨g2, 0, none⟩) q2 (.int .i64 st.1.length)) (a := ⟨g2, 1, none⟩) q2 (.slice Aa st.2.length ca)) (a := ⟨g2, 2, none⟩) q2 (.slice Ae (enL bs st.1 st.1.length).length ce)) qq)
        clear hd
        go_wp2
        refine bodyPost_ret (v := .tuple #[.agg #[.int .i64 st.1.length, .slice Aa st.2.length ca, .slice Ae (enL bs st.1 st.1.length).length ce], .bool true]) (by simp [results, Try.results12, go_sem, r0, r1, r2]) rfl ?_
        show MadeNB w (dfS (dfaR m es bs)) (dfA (dfaR m es bs)) (dfE bs (dfaR m es bs)) (dfaR m es bs).isSome _ _
        rw [HR.out, HS0.out]
        refine ⟨Aa, ca, Ae, ce, rfl, ⟨AO.out, EO.out⟩, ?_⟩
        exact (((D.out.bel.setCell (p := ⟨g5, 0, none⟩) (by show _ ≤ g5; omega) _).setCell (p := ⟨g2, 0, none⟩) hg21 _).setCell (p := ⟨g2, 1, none⟩) hg21 _).setCell (p := ⟨g2, 2, none⟩) hg21 _
  · rw [PP_no hok]
    rintro e w3 ⟨rfl, k3⟩
    have HR : Hid (dfaR m es bs = none) := Lib.hid (by unfold dfaR; rw [PP_no hok]; simp)
    have r0 := blk_cell (o := 0) (blk_below k3 P2.out) rfl
    have r1 := blk_cell (o := 1) (blk_below k3 P2.out) rfl
    have r2 := blk_cell (o := 2) (blk_below k3 P2.out) rfl
    have f0 : w3.frozen? ⟨g2, 0, none⟩ = false := frozen_of_row _ _ 0 _ _ (blk_below k3 P2.out)
    have f1 : w3.frozen? ⟨g2, 1, none⟩ = false := frozen_of_row _ _ 1 _ _ (blk_below k3 P2.out)
    have f2 : w3.frozen? ⟨g2, 2, none⟩ = false := frozen_of_row _ _ 2 _ _ (blk_below k3 P2.out)
    have K3 := Lib.hid (below_step KK.out k3)
    have hg21 : w.heap.size ≤ g2 := by have := HG1.out; omega
    clear hok k3
    go_wp2
    refine bodyPost_ret (v := .tuple #[.agg #[.int .i64 0, .slice none 0 0, .slice none 0 0], .bool false]) (by simp [results, Try.results12, go_sem, r0, r1, r2]) rfl ?_
    show MadeNB w (dfS (dfaR m es bs)) (dfA (dfaR m es bs)) (dfE bs (dfaR m es bs)) (dfaR m es bs).isSome _ _
    rw [HR.out]
    refine MadeNB.no ?_
    exact ((K3.out.setCell (p := ⟨g2, 0, none⟩) hg21 _).setCell (p := ⟨g2, 1, none⟩) hg21 _).setCell (p := ⟨g2, 2, none⟩) hg21 _
end Go.Proofs.Ytgpjgigmlgoiiaa
