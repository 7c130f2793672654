/- impl.NfaOf. Conditions: the lengths; the contract on slices.SortFunc is a premise here. -/
import Derived.Test.YtjlekcoikceidaaMNfR
import Derived.Test.YtjlekcoikceidaaMVis
import Derived.Test.YtjlekcoikceidaaOcc
namespace Go.Proofs.Ytjlekcoikceidaa
open Go.RowKit

def SortC : Prop := ∀ (base : Nat) (A : Option Addr) (c : Nat) (es : List Ed) (w : World), w.ownsRow base 64 3 (.slice A es.length c) es.length (edCells es) → es.length ≤ 4294967296 → (∀ e ∈ es, 0 ≤ e.l ∧ e.l ≤ 255) →
    Calls Try.prog 24 #[.slice A es.length c, .func (.func 25) #[] #[]] w fun e w' =>
      e = .returned (.tuple #[]) ∧ ∃ fs, (fs.Perm es ∧ fs.Pairwise fun x y => edLess y x = false) ∧ w'.ownsRow base 64 3 (.slice A es.length c) es.length (edCells fs) ∧ w.grownBy w' (Value.slice A es.length c).ownBlock
theorem callF_arcs : ∀ (args : Array Value) (w : World), (callFunc 22 args).run Try.prog w = .ok (.enter 22 args) w := by
  intro args w
  kernel_rfl
/-- The numbers of the blocks. -/
structure NfQ (w : World) (ga gs g5 q : Nat) : Prop where
  h1 : w.heap.size + 2 ≤ q
  h2 : q ≤ gs
  h3 : gs < g5
  h4 : g5 < ga
/-- What NfaOf holds. -/
structure NfI (w : World) (ga gs g5 q : Nat) (P vl vf va ve : Value) (labs : List Int) (fw : List Nat) (x0 : Int) (y : Lk) (ar : List Ed) (en : List Bool) (wr : World) : Prop where
  res : wr.heap[w.heap.size + 1]? = some (.cells #[.int .i64 0, .slice none 0 0, .slice none 0 0] 29 (0, 0))
  ps : PosI gs q P vl vf labs fw wr
  sp : wr.heap[g5]? = some (.cells #[.int .u32 (bitsOf y.fi : Nat), .int .u32 (bitsOf y.la : Nat), .bool y.nul] 60 (0, 0))
  ab : wr.heap[ga]? = some (.cells #[.int .i64 x0, va, ve] 29 (0, 0))
  ao : wr.ownsRow q 64 3 va ar.length (edCells ar)
  eo : wr.ownsRow q 4 1 ve en.length (en.map Value.bool)
  bel : Below w.heap.size w wr
section
variable {w : World} {ga gs g5 q : Nat} {P vl vf va ve : Value} {labs : List Int} {fw : List Nat} {x0 : Int} {y : Lk} {ar : List Ed} {en : List Bool} {wr w' : World}
theorem NfI.below (h : NfI w ga gs g5 q P vl vf va ve labs fw x0 y ar en wr) (hb : Below wr.heap.size wr w') : NfI w ga gs g5 q P vl vf va ve labs fw x0 y ar en w' :=
  ⟨blk_below hb h.res, h.ps.kept hb, blk_below hb h.sp, blk_below hb h.ab, own_below h.ao hb, own_below h.eo hb, below_step h.bel hb⟩
theorem NfI.arcs {va' : Value} {ar' : List Ed} (h : NfI w ga gs g5 q P vl vf va ve labs fw x0 y ar en wr) (Q : NfQ w ga gs g5 q) (ha : ArI ga q (.int .i64 x0) va' ve ar' w') (hk : Kq [64] q ga wr w') : NfI w ga gs g5 q P vl vf va' ve labs fw x0 y ar' en w' := by
  have h1 := Q.h1
  have h2 := Q.h2
  have h3 := Q.h3
  have h4 := Q.h4
  refine ⟨hk.block h.res (by omega) (by decide), ⟨hk.block h.ps.box (by omega) (by decide), hk.own h.ps.lo (row_ne h.ps.lo h.ab (by decide)) (by decide), hk.own h.ps.fo (row_ne h.ps.fo h.ab (by decide)) (by decide)⟩, hk.block h.sp (by omega) (by decide), ha.box, ha.ao, hk.own h.eo (row_ne h.eo h.ab (by decide)) (by decide), ?_⟩
  exact ⟨hk.os.trans h.bel.os, hk.tape.trans h.bel.tape, hk.output.trans h.bel.output, Nat.le_trans h.bel.size hk.size, fun k hk' => (hk.blk k (Nat.lt_of_lt_of_le hk' h.bel.size) (.inl (by omega))).trans (h.bel.block k hk')⟩
theorem NfI.ends {ve' : Value} {en' : List Bool} (h : NfI w ga gs g5 q P vl vf va ve labs fw x0 y ar en wr) (Q : NfQ w ga gs g5 q) (ho : w'.ownsRow q 4 1 ve' en'.length (en'.map Value.bool)) (hg : wr.grownBy w' ve.ownBlock) : NfI w ga gs g5 q P vl vf va ve' labs fw x0 y ar en' (w'.setCell ⟨ga, 2, none⟩ ve') := by
  have h1 := Q.h1
  have h2 := Q.h2
  have h3 := Q.h3
  have h4 := Q.h4
  have hab := (hg.block _ (blk_lt h.ab) (fun e => row_ne h.eo h.ab (by decide) e.symm)).trans h.ab
  have hlo := h.ps.lo.kept hg (own_ne h.ps.lo h.eo (by decide))
  have hfo := h.ps.fo.kept hg (own_ne h.ps.fo h.eo (by decide))
  have hao := h.ao.kept hg (own_ne h.ao h.eo (by decide))
  refine ⟨blk_set_ne ((hg.block _ (blk_lt h.res) (fun e => by have := (h.eo.lt _ e.symm).1; omega)).trans h.res) (by omega), ⟨blk_set_ne ((hg.block _ (blk_lt h.ps.box) (fun e => row_ne h.eo h.ps.box (by decide) e.symm)).trans h.ps.box) (by omega), own_setCell_other hlo (row_ne hlo hab (by decide)) _, own_setCell_other hfo (row_ne hfo hab (by decide)) _⟩,
    blk_set_ne ((hg.block _ (blk_lt h.sp) (fun e => row_ne h.eo h.sp (by decide) e.symm)).trans h.sp) (by omega), ?_, own_setCell_other hao (row_ne hao hab (by decide)) _, own_setCell_other ho (row_ne ho hab (by decide)) _, (h.bel.grown hg h.bel.size (fun r hr => by have := (h.eo.lt r hr).1; omega)).setCell (by show _ ≤ ga; omega) _⟩
  simp [World.setCell, Array.getElem?_modify, hab]
theorem NfI.sort {ar' : List Ed} (h : NfI w ga gs g5 q P vl vf va ve labs fw x0 y ar en wr) (Q : NfQ w ga gs g5 q) (ho : w'.ownsRow q 64 3 va ar'.length (edCells ar')) (hg : wr.grownBy w' va.ownBlock) : NfI w ga gs g5 q P vl vf va ve labs fw x0 y ar' en w' := by
  have h1 := Q.h1
  have h2 := Q.h2
  have h3 := Q.h3
  have h4 := Q.h4
  exact ⟨(hg.block _ (blk_lt h.res) (fun e => by have := (h.ao.lt _ e.symm).1; omega)).trans h.res, ⟨(hg.block _ (blk_lt h.ps.box) (fun e => row_ne h.ao h.ps.box (by decide) e.symm)).trans h.ps.box, h.ps.lo.kept hg (own_ne h.ps.lo h.ao (by decide)), h.ps.fo.kept hg (own_ne h.ps.fo h.ao (by decide))⟩,
    (hg.block _ (blk_lt h.sp) (fun e => row_ne h.ao h.sp (by decide) e.symm)).trans h.sp, (hg.block _ (blk_lt h.ab) (fun e => row_ne h.ao h.ab (by decide) e.symm)).trans h.ab, ho, h.eo.kept hg (own_ne h.eo h.ao (by decide)), h.bel.grown hg h.bel.size (fun r hr => by have := (h.ao.lt r hr).1; omega)⟩
end
set_option maxRecDepth 100000 in

set_option maxHeartbeats 12800000 in
theorem impl_NfaOf_any (SRT : SortC) (A : Option Addr) (c : Nat) (ps : List Pc) (w : World) (hx : RdP w A ps) (hn : ps.length ≤ 1048576) (hkl : ∀ p ∈ ps, p.k.length ≤ 4294967296) :
    Calls Try.prog 7 #[.agg #[.slice A ps.length c]] w (MadeNB w (nfS ps) (nfA ps) (nfE ps) (PP (NfP ps))) := by
  have p0 := heap_alloc_new w (.cells #[.slice A ps.length c] 34)
  have ka := below_alloc w (.cells #[.slice A ps.length c] 34)
  have kb := below_alloc (w.alloc (.cells #[.slice A ps.length c] 34)) (.cells #[.int .i64 0, .slice none 0 0, .slice none 0 0] 29)
  have p1 := heap_alloc_new (w.alloc (.cells #[.slice A ps.length c] 34)) (.cells #[.int .i64 0, .slice none 0 0, .slice none 0 0] 29)
  rw [show (w.alloc (.cells #[.slice A ps.length c] 34)).heap.size = w.heap.size + 1 by simp] at p1
  obtain ⟨W2, hW2⟩ : ∃ W, (w.alloc (.cells #[.slice A ps.length c] 34)).alloc (.cells #[.int .i64 0, .slice none 0 0, .slice none 0 0] 29) = W := ⟨_, rfl⟩
  have k2 := below_step ka kb
  replace p0 := blk_below kb p0
  rw [hW2] at p0 p1 k2
  have P0 := Lib.hid p0
  have P1 := Lib.hid p1
  have K2 := Lib.hid k2
  have HX2 := Lib.hid (hx.keep k2)
  have PO := Lib.hid (impl_PathOk_any A c ps W2 HX2.out (by omega) hkl)
  have b0 : W2.cell? ⟨w.heap.size, 0, none⟩ = some (.slice A ps.length c) := blk_cell (o := 0) p0 rfl
  have HKL := Lib.hid hkl
  clear p0 p1 ka kb k2 hx hkl
  by_cases hok : PaOk ps
  · rw [PP_yes hok] at PO
    have HOK := Lib.hid hok
    have OC := Lib.hid (fun (W : World) (h : RdP W A ps) => occurrences_any hok HKL.out A c W h)
    obtain ⟨oc, hoc⟩ : ∃ z, occ ps = z := ⟨_, rfl⟩
    rw [hoc] at OC
    have HOCC : Hid (24 ≤ oc ↔ 24 ≤ (lkAll ps).2.labs.length) := Lib.hid (by rw [← hoc]; exact occ_iff hok)
    have hn1 := hok.1
    clear hok hoc
    by_cases h24 : 24 ≤ oc
    · have hno : Hid (¬ NfP ps) := Lib.hid (fun h => h.2 (HOCC.out.1 h24))
      have hd : decide ((24 : Int) ≤ (oc : Int)) = true := decide_eq_true (by omega)
      go_enter Try.func7, Try.ntmps7
      go_wp2_with fail
      clear hW2
      refine PO.out.mono ?_
      rintro e w3 ⟨rfl, k3⟩
      have b0 : w3.cell? ⟨w.heap.size, 0, none⟩ = some (.slice A ps.length c) := blk_cell (o := 0) (blk_below k3 P0.out) rfl
      have K3 := Lib.hid k3
      clear k3
      go_wp2_with fail
      refine (OC.out w3 (HX2.out.keep K3.out)).mono ?_
      rintro e w4 ⟨rfl, k4⟩
      have hb4 := blk_below k4 (blk_below K3.out P1.out)
      have r0 : w4.cell? ⟨w.heap.size + 1, 0, none⟩ = _ := blk_cell (o := 0) hb4 rfl
      have r1 : w4.cell? ⟨w.heap.size + 1, 1, none⟩ = _ := blk_cell (o := 1) hb4 rfl
      have r2 : w4.cell? ⟨w.heap.size + 1, 2, none⟩ = _ := blk_cell (o := 2) hb4 rfl
      have f0 : w4.frozen? ⟨w.heap.size + 1, 0, none⟩ = false := frozen_of_row w4 _ 0 _ _ hb4
      have f1 : w4.frozen? ⟨w.heap.size + 1, 1, none⟩ = false := frozen_of_row w4 _ 1 _ _ hb4
      have f2 : w4.frozen? ⟨w.heap.size + 1, 2, none⟩ = false := frozen_of_row w4 _ 2 _ _ hb4
      have K4 := Lib.hid (below_step (below_step K2.out K3.out) k4)
      clear k4 hb4
      go_wp2
      refine bodyPost_ret (v := .tuple #[.agg #[.int .i64 0, .slice none 0 0, .slice none 0 0], .bool false]) (by simp [results, Try.results7, go_sem, r0, r1, r2]) rfl ?_
      refine (nf_no hno.out).2 (MadeNB.no ?_)
      exact ((K4.out.setCell (p := ⟨w.heap.size + 1, 0, none⟩) (Nat.le_add_right _ 1) _).setCell (p := ⟨w.heap.size + 1, 1, none⟩) (Nat.le_add_right _ 1) _).setCell (p := ⟨w.heap.size + 1, 2, none⟩) (Nat.le_add_right _ 1) _
    · have hd : decide ((24 : Int) ≤ (oc : Int)) = false := decide_eq_false (by omega)
      have hyes : Hid (NfP ps) := Lib.hid ⟨HOK.out, fun h => h24 (HOCC.out.2 h)⟩
      have hmf : ∀ (fn : Fn) (first cap : Array Value) (w : World), (Instr.makeFunc fn first cap).run Try.prog w = .ok (.func fn first cap) w := fun _ _ _ _ => rfl
      have hcf := callF_arcs
      obtain ⟨j0, hj, hy0, hy1, hy2⟩ := info_parts Try.infoBool
      have hlen := (show (lkAll ps).2.labs.length < 24 by have := hyes.out.2; omega)
      have HLK := Lib.hid (lkAll_ok HOK.out)
      obtain ⟨r, hr⟩ : ∃ r, lkAll ps = r := ⟨_, rfl⟩
      have HR := Lib.hid hr
      go_enter Try.func7, Try.ntmps7
      go_wp2_with fail
      clear hW2
      refine PO.out.mono ?_
      rintro e w3 ⟨rfl, k3⟩
      have b0 : w3.cell? ⟨w.heap.size, 0, none⟩ = some (.slice A ps.length c) := blk_cell (o := 0) (blk_below k3 P0.out) rfl
      have K3 := Lib.hid k3
      clear k3
      go_wp2_with fail
      refine (OC.out w3 (HX2.out.keep K3.out)).mono ?_
      rintro e w4 ⟨rfl, k4⟩
      have HB4 := Lib.hid (blk_below k4 (blk_below K3.out P1.out))
      have hb0 := blk_below k4 (blk_below K3.out P0.out)
      have K4 := Lib.hid (below_step (below_step K2.out K3.out) k4)
      have HX4 := Lib.hid ((HX2.out.keep K3.out).keep k4)
      have hw4 : w.heap.size + 2 ≤ w4.heap.size := by have h : w.heap.size + 1 < w4.heap.size := blk_lt HB4.out; omega
      clear b0
      have b04 : w4.cell? ⟨w.heap.size, 0, none⟩ = some (.slice A ps.length c) := blk_cell (o := 0) hb0 rfl
      have k5 := below_alloc w4 (.cells #[.slice A ps.length c, .slice none 0 0, .slice none 0 0] 57)
      have p5 := heap_alloc_new w4 (.cells #[.slice A ps.length c, .slice none 0 0, .slice none 0 0] 57)
      have h5 : w4.heap.size < (w4.alloc (.cells #[.slice A ps.length c, .slice none 0 0, .slice none 0 0] 57)).heap.size := by simp
      obtain ⟨q, hq⟩ : ∃ q, w4.heap.size = q := ⟨_, rfl⟩
      have VIS := Lib.hid (vis_any HOK.out HKL.out HX4.out (Nat.le_refl w4.heap.size) (cP := c) ps.length (ps.length - 1) ⟨[], []⟩ _ (by omega) (by omega) StOk.nil (by simp) hlen k5 h5 ⟨.slice none 0 0, .slice none 0 0, p5, World.ownsRow_nil _ _ _ _, World.ownsRow_nil _ _ _ _⟩)
      have b0 := blk_cell (o := 0) (blk_below k5 hb0) rfl
      have HB5 := Lib.hid (blk_below k5 HB4.out)
      have K5 := Lib.hid (below_step K4.out k5)
      rw [show lk ps ps.length (ps.length - 1) ⟨[], []⟩ = r from hr] at VIS
      rw [hr] at HLK hlen
      rw [hq] at VIS p5 h5 hw4
      clear hr
      obtain ⟨W5, hW5⟩ : ∃ W, w4.alloc (.cells #[.slice A ps.length c, .slice none 0 0, .slice none 0 0] 57) = W := ⟨_, rfl⟩
      rw [hW5] at VIS p5 h5 b0 HB5 K5
      have hwn : IntKind.i64.wrap ((ps.length : Int) - 1) = ((ps.length - 1 : Nat) : Int) := (IntWalk.i64_in _ (by omega)).trans (by omega)
      have hqw : q ≤ W5.heap.size := by omega
      have HQ4 := Lib.hid hq
      have HW5 := Lib.hid hW5
      clear hb0 k5 p5 hW5 hq
      go_upto_region 4 with fail
      simp only [HW5.out, HQ4.out]
      go_wp2_with fail
      clear hwn b0 b04 hd
      refine VIS.out.mono ?_
      rintro e w6 ⟨rfl, ⟨vl, vf, hps⟩, kq6⟩
      have HB6 := Lib.hid (kq6.block HB5.out (by omega) (by decide))
      have hll : r.2.labs.length ≤ 24 := by omega
      have hfl := fwOf_len r.2.labs.length r.2.prs
      obtain ⟨fw, hfw⟩ : ∃ fw, fwOf r.2.labs.length r.2.prs = fw := ⟨_, rfl⟩
      rw [hfw] at hps hfl
      obtain ⟨L, cl, rfl, _, _⟩ := own_slice hps.lo
      obtain ⟨F, cf, rfl, _, _⟩ := own_slice hps.fo
      have HFW := Lib.hid hfw
      have HFL := Lib.hid hfl
      have HS24 := Lib.hid (HLK.out.fi.small HLK.out.st.len)
      have HL24 := Lib.hid (HLK.out.la.small HLK.out.st.len)
      have hfi1 : ∀ x ∈ r.1.fi, 1 ≤ x ∧ x ≤ r.2.labs.length := fun x hx => by have := HLK.out.fi.2 x hx; omega
      have HFI := Lib.hid hfi1
      have HFB : Hid (∀ k, k < fw.length → fw.getD k 0 < 16777216 ∧ ∀ i, (fw.getD k 0).testBit i = true → i < r.2.labs.length) := Lib.hid (fun k hk => by
        have h1 : fw.getD k 0 = fwAt r.2.prs k := by rw [← HFW.out]; exact fwOf_at (by rw [HFL.out] at hk; exact hk)
        rw [h1]
        refine ⟨pow_24 hll (fwAt_lt (fun p hp => (HLK.out.st.prs p hp).2)), fun i hi => ?_⟩
        have := HLK.out.st.prs _ ((fwAt_iff (fun p hp => ((HLK.out.st.prs p hp).2).1)).1 hi)
        simp only at this
        omega)
      have K6 := Lib.hid (kq6.bel K5.out (show w.heap.size ≤ q by omega) (Nat.le_refl _))
      have hq6 : q < w6.heap.size := Nat.lt_of_lt_of_le h5 kq6.size
      clear hfw hfl hfi1 kq6 h5 hqw
      have kY := below_alloc w6 (.cells #[.int .u32 (bitsOf r.1.fi : Nat), .int .u32 (bitsOf r.1.la : Nat), .bool r.1.nul] 60)
      have pY := heap_alloc_new w6 (.cells #[.int .u32 (bitsOf r.1.fi : Nat), .int .u32 (bitsOf r.1.la : Nat), .bool r.1.nul] 60)
      obtain ⟨g5, hg5⟩ : ∃ g, w6.heap.size = g := ⟨_, rfl⟩
      obtain ⟨W7, hW7⟩ : ∃ W, w6.alloc (.cells #[.int .u32 (bitsOf r.1.fi : Nat), .int .u32 (bitsOf r.1.la : Nat), .bool r.1.nul] 60) = W := ⟨_, rfl⟩
      have z7 : g5 < W7.heap.size := by rw [← hW7, ← hg5]; simp
      rw [hW7] at kY pY
      rw [hg5] at pY hq6
      have k8 := below_alloc W7 (.cells #[.bool r.1.nul] 4)
      have p8 := heap_alloc_new W7 (.cells #[.bool r.1.nul] 4)
      obtain ⟨g7, hg7⟩ : ∃ g, W7.heap.size = g := ⟨_, rfl⟩
      obtain ⟨W8, hW8⟩ : ∃ W, W7.alloc (.cells #[.bool r.1.nul] 4) = W := ⟨_, rfl⟩
      have z8 : g7 < W8.heap.size := by rw [← hW8, ← hg7]; simp
      rw [hW8] at k8 p8
      rw [hg7] at p8 z7
      have own8 : W8.ownsRow q 4 1 (.slice (some ⟨g7, 0, none⟩) 1 1) 1 [.bool r.1.nul] := ⟨rfl, .inr ⟨g7, 1, #[.bool r.1.nul], rfl, by omega, p8, Nat.le_refl _, by unfold maxLen; omega, rfl, rfl⟩⟩
      have k9 := below_alloc W8 (.cells #[.int .i64 ((r.2.labs.length : Int) + 1), .slice none 0 0, .slice (some ⟨g7, 0, none⟩) 1 1] 29)
      have p9 := heap_alloc_new W8 (.cells #[.int .i64 ((r.2.labs.length : Int) + 1), .slice none 0 0, .slice (some ⟨g7, 0, none⟩) 1 1] 29)
      obtain ⟨ga, hga⟩ : ∃ g, W8.heap.size = g := ⟨_, rfl⟩
      obtain ⟨W9, hW9⟩ : ∃ W, W8.alloc (.cells #[.int .i64 ((r.2.labs.length : Int) + 1), .slice none 0 0, .slice (some ⟨g7, 0, none⟩) 1 1] 29) = W := ⟨_, rfl⟩
      rw [hW9] at k9 p9
      rw [hga] at p9 z8
      have QQ := Lib.hid (show NfQ w ga q g5 q from ⟨hw4, Nat.le_refl _, hq6, by omega⟩)
      have k79 := below_step k8 k9
      have k69 := below_step kY k79
      have NI := Lib.hid (show NfI w ga q g5 q (.slice A ps.length c) (.slice L r.2.labs.length cl) (.slice F fw.length cf) (.slice none 0 0) (.slice (some ⟨g7, 0, none⟩) 1 1) r.2.labs fw ((r.2.labs.length : Int) + 1) r.1 [] [r.1.nul] W9 from
        ⟨blk_below k69 HB6.out, hps.kept k69, blk_below k79 pY, p9, World.ownsRow_nil _ _ _ _, own_below own8 k9, below_step K6.out k69⟩)
      have l1 : W7.cell? ⟨q, 1, none⟩ = some (.slice L r.2.labs.length cl) := blk_cell (o := 1) (blk_below kY hps.box) rfl
      have y2 : W7.cell? ⟨g5, 2, none⟩ = some (.bool r.1.nul) := blk_cell (o := 2) pY rfl
      have hwr : IntKind.i64.wrap ((r.2.labs.length : Int) + 1) = (r.2.labs.length : Int) + 1 := IntWalk.i64_in _ (by omega)
      clear kY pY k8 p8 own8 k9 p9 k79 k69 hps hw4
      go_upto_region 6 with fail
      have Y0 := Lib.hid (blk_cell (o := 0) NI.out.sp rfl)
      have y0 : W9.cell? ⟨g5, 0, none⟩ = _ := Y0.out
      clear l1 y2 hwr hW7 hW8 hW9 hg5 hg7 hga z7 z8
      go_wp2_with fail
      refine (arcs_any ga q q q (.int .i64 ((r.2.labs.length : Int) + 1)) (.slice none 0 0) (.slice (some ⟨g7, 0, none⟩) 1 1) (.slice A ps.length c) (.slice F fw.length cf) L cl [] r.2.labs 0 (bitsOf r.1.fi) W9 ⟨NI.out.ab, NI.out.ao⟩ NI.out.ps.box NI.out.ps.lo HS24.out
        (fun i hi => by have := HFI.out _ ((bitsOf_iff (fun x hx => (HFI.out x hx).1)).1 hi); omega) (Nat.le_of_lt (blk_lt NI.out.ps.box)) (by have := QQ.out.h3; have := QQ.out.h4; omega) hll (by simp)).mono ?_
      rintro e w10 ⟨rfl, ⟨va, hA⟩, kq10⟩
      have NJ := Lib.hid (show NfI w ga q g5 q (.slice A ps.length c) (.slice L r.2.labs.length cl) (.slice F fw.length cf) va (.slice (some ⟨g7, 0, none⟩) 1 1) r.2.labs fw ((r.2.labs.length : Int) + 1) r.1 (arTo r.2.labs r.1.fi fw 0) [r.1.nul] w10 from by
        have := NI.out.arcs QQ.out hA kq10
        simpa [arTo] using this)
      have f2 : w10.cell? ⟨q, 2, none⟩ = some (.slice F fw.length cf) := blk_cell (o := 2) NJ.out.ps.box rfl
      clear y0 Y0 hA kq10 NI
      go_wp2_with fail
      clear f2
      go_loopw [42] (fun i wr => ∃ (k : Nat) (va ve : Value), k ≤ fw.length ∧ i = .int .i64 k ∧ NfI w ga q g5 q (.slice A ps.length c) (.slice L r.2.labs.length cl) (.slice F fw.length cf) va ve r.2.labs fw ((r.2.labs.length : Int) + 1) r.1 (arTo r.2.labs r.1.fi fw k) (r.1.nul :: (List.range k).map (fun i => (bitsOf r.1.la).testBit i)) wr) (fun i _ => fw.length - (intOf i).toNat)
      case atStart => exact ⟨0, _, _, Nat.zero_le _, rfl, NJ.out⟩
      case round =>
        clear NJ
        obtain ⟨k, va, ve, hk, rfl, hI⟩ := hrel
        have NI := Lib.hid hI
        by_cases hlt : k < fw.length
        · obtain ⟨ad, rfl, cF⟩ := RdU.at_ (show RdU wr F fw from Rd.of_own hI.ps.fo) hlt
          obtain ⟨hS, hSb⟩ := HFB.out k hlt
          obtain ⟨S, hSe⟩ : ∃ S, fw.getD k 0 = S := ⟨_, rfl⟩
          rw [hSe] at cF hS hSb
          have HSE := Lib.hid hSe
          have HSB := Lib.hid hSb
          have hk24 : k < 24 := by have := HFL.out; omega
          have hla := HL24.out
          obtain ⟨la, hlae⟩ : ∃ la, bitsOf r.1.la = la := ⟨_, rfl⟩
          have hbt := bit_test (bitsOf r.1.la) k (by omega)
          have y1 : wr.cell? ⟨g5, 1, none⟩ = some (.int .u32 (bitsOf r.1.la : Nat)) := blk_cell (o := 1) hI.sp rfl
          have a2 : wr.cell? ⟨ga, 2, none⟩ = some ve := blk_cell (o := 2) hI.ab rfl
          obtain ⟨b, hb⟩ : ∃ b, (bitsOf r.1.la).testBit k = b := ⟨_, rfl⟩
          have HBE := Lib.hid hb
          rw [hb] at hbt
          rw [hlae] at hbt y1 hla
          obtain ⟨en, hen⟩ : ∃ en, r.1.nul :: (List.range k).map (fun i => (bitsOf r.1.la).testBit i) = en := ⟨_, rfl⟩
          have henl : en.length ≤ 25 := by rw [← hen]; simp; omega
          rw [hen] at NI
          have HEN : Hid (r.1.nul :: (List.range (k + 1)).map (fun i => (bitsOf r.1.la).testBit i) = en ++ [b]) := Lib.hid (by rw [← hen, List.range_succ, List.map_append, ← hb]; rfl)
          have k0 : (0 : Int) ≤ (k : Int) := by omega
          have k1 : (k : Int) < (fw.length : Int) := by omega
          have hwr : IntKind.i64.wrap ((k : Int) + 1) = (k : Int) + 1 := IntWalk.i64_in _ (by omega)
          have kb := below_alloc wr (.cells #[.bool b] 4)
          have NB := Lib.hid (NI.out.below kb)
          have hqb : q ≤ (wr.alloc (.cells #[.bool b] 4)).heap.size := Nat.le_trans (Nat.le_of_lt (blk_lt hI.ps.box)) kb.size
          have a2b : (wr.alloc (.cells #[.bool b] 4)).cell? ⟨ga, 2, none⟩ = some ve := blk_cell (o := 2) NB.out.ab rfl
          clear hI hSe hSb hlae hb hen kb
          go_upto_region 12 with (first
            | (at_builtin
               refine wpList_append_any _ rfl (.tmp 48) (.tmp 56) 27 rfl q 4 j0 _ 1 1 Try.underlying27 hj hy0 hy1 hy2 rfl (by decide) ve en.length _ rfl NB.out.eo (some ⟨wr.heap.size, 0, none⟩) 1 1 [.bool b] rfl (Rd.one2 _ _ _) (by intro u hu; simp at hu; subst hu; rfl) (by unfold maxLen; omega) (by omega) hqb ?_
               intro v8 w8 hown8 hg8 _
               obtain ⟨A8, c8, rfl, _, _⟩ := own_slice hown8
               have NC := Lib.hid (NB.out.ends QQ.out (ve' := .slice A8 (en.length + 1) c8) (en' := en ++ [b]) (by rw [List.length_append, List.map_append]; exact hown8) hg8)
               have hb8 := (hg8.block _ (blk_lt NB.out.ab) (fun e => row_ne NB.out.eo NB.out.ab (by decide) e.symm)).trans NB.out.ab
               have g2 : w8.cell? ⟨ga, 2, none⟩ = some ve := blk_cell (o := 2) hb8 rfl
               have gf : w8.frozen? ⟨ga, 2, none⟩ = false := frozen_of_row w8 _ 2 _ _ hb8
               clear hown8 hg8 hb8))
          clear g2 gf a2 a2b y1 cF hbt hqb
          obtain ⟨W11, hW11⟩ : ∃ W, w8.setCell ⟨ga, 2, none⟩ (.slice A8 (en.length + 1) c8) = W := ⟨_, rfl⟩
          rw [hW11]
          rw [hW11] at NC
          clear hW11
          go_wp2_with fail
          have har := arTo_len r.2.labs r.1.fi fw k
          refine (arcs_any ga q q q (.int .i64 ((r.2.labs.length : Int) + 1)) va (.slice A8 (en.length + 1) c8) (.slice A ps.length c) (.slice (some ad) fw.length cf) L cl (arTo r.2.labs r.1.fi fw k) r.2.labs ((k : Int) + 1) S W11 ⟨NC.out.ab, NC.out.ao⟩ NC.out.ps.box NC.out.ps.lo hS HSB.out (Nat.le_of_lt (blk_lt NC.out.ps.box)) (by have := QQ.out.h3; have := QQ.out.h4; omega) hll (by omega)).mono ?_
          rintro e w12 ⟨rfl, ⟨va', hA⟩, kq12⟩
          have ND := Lib.hid (NC.out.arcs QQ.out hA kq12)
          clear hA kq12 har
          go_wp2
          go_roundw
          case rel => exact ⟨k + 1, va', _, by omega, by go_num, by rw [arTo_succ, HEN.out, HSE.out]; exact ND.out⟩
          case measure => simp [intOf]; omega
        · obtain rfl : k = fw.length := by omega
          obtain ⟨A', c', rfl, _, _⟩ := own_slice hI.ao
          have hen2 : r.1.nul :: (List.range fw.length).map (fun i => (bitsOf r.1.la).testBit i) = nfEnds r := by unfold nfEnds; rw [HFL.out]
          rw [hen2] at NI
          obtain ⟨B', d', hve, _, _⟩ := own_slice NI.out.eo
          subst hve
          clear hen2
          have a1 : wr.cell? ⟨ga, 1, none⟩ = _ := blk_cell (o := 1) hI.ab rfl
          have har := arTo_len r.2.labs r.1.fi fw fw.length
          have HMEM : Hid (∀ y, y ∈ arTo r.2.labs r.1.fi fw fw.length ↔ y ∈ nfArcs r) := Lib.hid (fun y => by rw [HFL.out, ← HFW.out]; exact mem_nf HLK.out.st HFI.out)
          have SR := Lib.hid (SRT q A' c' (arTo r.2.labs r.1.fi fw fw.length) wr hI.ao (by have := HFL.out; omega) (fun e he => by have := (nfArcs_lab HLK.out e ((HMEM.out e).1 he)).2.1; omega))
          obtain ⟨ar, harr⟩ : ∃ ar, arTo r.2.labs r.1.fi fw fw.length = ar := ⟨_, rfl⟩
          rw [harr] at NI SR a1
          have HARR := Lib.hid harr
          clear hI harr har
          go_wp2_with fail
          clear a1
          refine SR.out.mono ?_
          rintro e w13 ⟨rfl, fs, ⟨hp, hs⟩, own13, g13⟩
          have hfs : fs = nfArcs r := sorted_nf HLK.out (by rw [HFW.out, ← HFL.out, HARR.out]; exact hp) hs
          subst hfs
          have hpl := hp.length_eq
          have hNS := NI.out.sort QQ.out (ar' := nfArcs r) (by rw [hpl]; exact own13) g13
          rw [← hpl] at hNS
          have NS := Lib.hid hNS
          have hrs := hNS.res
          have a0 : w13.cell? ⟨ga, 0, none⟩ = _ := blk_cell (o := 0) hNS.ab rfl
          have a1 : w13.cell? ⟨ga, 1, none⟩ = _ := blk_cell (o := 1) hNS.ab rfl
          have a2 : w13.cell? ⟨ga, 2, none⟩ = _ := blk_cell (o := 2) hNS.ab rfl
          have r0 : w13.cell? ⟨w.heap.size + 1, 0, none⟩ = _ := blk_cell (o := 0) hrs rfl
          have r1 : w13.cell? ⟨w.heap.size + 1, 1, none⟩ = _ := blk_cell (o := 1) hrs rfl
          have r2 : w13.cell? ⟨w.heap.size + 1, 2, none⟩ = _ := blk_cell (o := 2) hrs rfl
          have f0 : w13.frozen? ⟨w.heap.size + 1, 0, none⟩ = false := frozen_of_row w13 _ 0 _ _ hrs
          have f1 : w13.frozen? ⟨w.heap.size + 1, 1, none⟩ = false := frozen_of_row w13 _ 1 _ _ hrs
          have f2 : w13.frozen? ⟨w.heap.size + 1, 2, none⟩ = false := frozen_of_row w13 _ 2 _ _ hrs
          clear hp hs own13 g13 hpl hrs hNS
          go_wp2
          have hq1 := QQ.out.h1
          refine bodyPost_ret (v := .tuple #[.agg #[.int .i64 ((r.2.labs.length : Int) + 1), .slice A' (nfArcs r).length c', .slice B' (nfEnds r).length d'], .bool true]) (by simp [results, Try.results7, go_sem, r0, r1, r2]) rfl ?_
          refine (nf_yes hyes.out).2 ?_
          rw [HR.out]
          refine ⟨A', c', B', d', rfl, ⟨?_, ?_⟩, ((NS.out.bel.setCell (p := ⟨w.heap.size + 1, 0, none⟩) (Nat.le_add_right _ 1) _).setCell (p := ⟨w.heap.size + 1, 1, none⟩) (Nat.le_add_right _ 1) _).setCell (p := ⟨w.heap.size + 1, 2, none⟩) (Nat.le_add_right _ 1) _⟩
          · exact own_mono (ownsRow_setCell_below (ownsRow_setCell_below (ownsRow_setCell_below NS.out.ao (a := ⟨w.heap.size + 1, 0, none⟩) (by simp only; omega) _) (a := ⟨w.heap.size + 1, 1, none⟩) (by simp only; omega) _) (a := ⟨w.heap.size + 1, 2, none⟩) (by simp only; omega) _) (by omega)
          · exact own_mono (ownsRow_setCell_below (ownsRow_setCell_below (ownsRow_setCell_below NS.out.eo (a := ⟨w.heap.size + 1, 0, none⟩) (by simp only; omega) _) (a := ⟨w.heap.size + 1, 1, none⟩) (by simp only; omega) _) (a := ⟨w.heap.size + 1, 2, none⟩) (by simp only; omega) _) (by omega)
  · rw [PP_no hok] at PO
    have hno : Hid (¬ NfP ps) := Lib.hid (fun h => hok h.1)
    clear hok
    go_enter Try.func7, Try.ntmps7
    go_wp2_with fail
    clear hW2
    refine PO.out.mono ?_
    rintro e w4 ⟨rfl, k4⟩
    have hb4 := blk_below k4 P1.out
    have r0 : w4.cell? ⟨w.heap.size + 1, 0, none⟩ = _ := blk_cell (o := 0) hb4 rfl
    have r1 : w4.cell? ⟨w.heap.size + 1, 1, none⟩ = _ := blk_cell (o := 1) hb4 rfl
    have r2 : w4.cell? ⟨w.heap.size + 1, 2, none⟩ = _ := blk_cell (o := 2) hb4 rfl
    have f0 : w4.frozen? ⟨w.heap.size + 1, 0, none⟩ = false := frozen_of_row w4 _ 0 _ _ hb4
    have f1 : w4.frozen? ⟨w.heap.size + 1, 1, none⟩ = false := frozen_of_row w4 _ 1 _ _ hb4
    have f2 : w4.frozen? ⟨w.heap.size + 1, 2, none⟩ = false := frozen_of_row w4 _ 2 _ _ hb4
    have K4 := Lib.hid (below_step K2.out k4)
    clear k4 hb4
    go_wp2
    refine bodyPost_ret (v := .tuple #[.agg #[.int .i64 0, .slice none 0 0, .slice none 0 0], .bool false]) (by simp [results, Try.results7, go_sem, r0, r1, r2]) rfl ?_
    refine (nf_no hno.out).2 (MadeNB.no ?_)
    exact ((K4.out.setCell (p := ⟨w.heap.size + 1, 0, none⟩) (Nat.le_add_right _ 1) _).setCell (p := ⟨w.heap.size + 1, 1, none⟩) (Nat.le_add_right _ 1) _).setCell (p := ⟨w.heap.size + 1, 2, none⟩) (Nat.le_add_right _ 1) _
end Go.Proofs.Ytjlekcoikceidaa
