/- spec.NfaOf. Conditions: the lengths. -/
import Derived.Test.YtjlekcoikceidaaMNfR
import Derived.Test.YtjlekcoikceidaaMLook
namespace Go.Proofs.Ytjlekcoikceidaa
open Go.RowKit

/-- The ends that are set so far. -/
def enTo (nul : Bool) (n : Nat) (xs : List Nat) : List Bool := xs.foldl (fun b x => b.set x true) (nul :: List.replicate n false)
theorem enTo_len (nul : Bool) (n : Nat) (xs : List Nat) : (enTo nul n xs).length = n + 1 := by
  have : ∀ (xs : List Nat) (b : List Bool), (xs.foldl (fun b x => b.set x true) b).length = b.length := by
    intro xs
    induction xs with
    | nil => simp
    | cons x r ih => intro b; rw [List.foldl_cons, ih]; simp
  unfold enTo
  rw [this]
  simp
theorem enTo_next {nul : Bool} {n : Nat} {xs : List Nat} {k : Nat} (h : k < xs.length) : enTo nul n (xs.take (k + 1)) = (enTo nul n (xs.take k)).set (xs.getD k 0) true := by
  unfold enTo
  rw [List.take_succ_eq_append_getElem h, List.foldl_append]
  simp [List.getD, h]
theorem enTo_at : ∀ (xs : List Nat) (b : List Bool) (i : Nat), i < b.length → (xs.foldl (fun b x => b.set x true) b).getD i false = (b.getD i false || xs.any (fun x => decide (x = i)))
  | [], b, i, _ => by simp
  | x :: r, b, i, hi => by
    rw [List.foldl_cons, enTo_at r _ i (by simpa using hi), List.any_cons]
    by_cases e : x = i
    · subst e
      simp [List.getD, hi]
    · simp [List.getD, e]
theorem enTo_all {r : Lk × LkS} (h : LkOk ⟨[], []⟩ r) : enTo r.1.nul r.2.labs.length r.1.la = nfEnds r := by
  have hla : ∀ x ∈ r.1.la, 1 ≤ x ∧ x ≤ r.2.labs.length := fun x hx => by have := h.la.2 x hx; omega
  refine List.ext_getElem (by rw [enTo_len, nfEnds_len]) (fun i h1 h2 => ?_)
  rw [enTo_len] at h1
  have e := enTo_at r.1.la (r.1.nul :: List.replicate r.2.labs.length false) i (by simpa using h1)
  have e2 : (enTo r.1.nul r.2.labs.length r.1.la)[i]'(by rw [enTo_len]; exact h1) = (enTo r.1.nul r.2.labs.length r.1.la).getD i false := by
    simp [List.getD, show i < (enTo r.1.nul r.2.labs.length r.1.la).length by rw [enTo_len]; exact h1]
  rw [e2]
  unfold enTo
  rw [e]
  cases i with
  | zero =>
    have : r.1.la.any (fun x => decide (x = 0)) = false := by
      rw [List.any_eq_false]
      intro x hx
      have := (hla x hx).1
      simp
      omega
    rw [this]
    simp [nfEnds]
  | succ j =>
    have hj : j < r.2.labs.length := by omega
    have e3 : (nfEnds r)[j + 1] = (bitsOf r.1.la).testBit j := by simp [nfEnds]
    rw [e3, Bool.eq_iff_iff, bitsOf_iff (fun x hx => (hla x hx).1)]
    simp [List.getD, hj]
theorem ok_nf {r : Lk × LkS} (h : LkOk ⟨[], []⟩ r) (hl : r.2.labs.length < 24) : NOk ((r.2.labs.length : Int) + 1) (nfArcs r) (nfEnds r) := by
  have ha : Asc (nfArcs r) := asc_arcsOf _ _
  unfold Asc at ha
  rw [List.pairwise_iff_getElem] at ha
  refine ⟨by omega, by rw [nfEnds_len]; omega, fun i hi _ => ⟨?_, fun j hj => ha j i (by omega) hi (by omega)⟩⟩
  have := nfArcs_lab h _ (List.getElem_mem hi)
  unfold ArOk at this
  simp [EdOk, vtxB, lblB]
  omega
theorem run_make_rowM {P : Program} (t e : TypeId) (i : TypeInfo) (z : Value) (ht : P.underlying t = some (.slice e)) (hi : P.info? e = some i) (hz : i.zero = some z)
    (kl kc : IntKind) (n c : Nat) (hnc : n ≤ c) (hbytes : i.bytes * c ≤ 281474976710656) (h63 : c ≤ 9223372036854775807) (w : World) :
    (Instr.makeSlice t (.int kl (n : Int)) (.int kc (c : Int))).run P w = .ok (.slice (some ⟨w.heap.size, 0, none⟩) n c) (w.alloc (.cells (madeCells z.cells (c * i.size)) e)) := by
  have hb : (i.bytes : Int) * (c : Int) ≤ 281474976710656 := by
    have h : ((i.bytes * c : Nat) : Int) ≤ 281474976710656 := by omega
    rwa [Int.natCast_mul] at h
  have hr := run_make (P := P) w t e i z ht hi hz kl kc n c (by omega) (by omega) hb (by omega)
  simp only [Int.toNat_natCast] at hr
  exact hr
theorem own_newM (w : World) {base n : Nat} {e : TypeId} {size : Nat} {cur : Array Value} {xs : List Value} (hb : base ≤ w.heap.size) (hm : n ≤ maxLen) (hx : xs.length = n * size) (hc : cur.toList = xs) :
    (w.alloc (.cells cur e)).ownsRow base e size (.slice (some ⟨w.heap.size, 0, none⟩) n n) n xs :=
  ⟨hx, .inr ⟨w.heap.size, n, cur, rfl, hb, heap_alloc_new w _, Nat.le_refl _, hm, by rw [← hx, ← hc]; simp, by rw [hc, ← hx, List.take_length]⟩⟩
theorem made_boolM (m : Nat) : (madeCells #[Value.bool false] m).toList = (List.replicate m false).map Value.bool := by
  apply List.ext_getElem
  · simp [madeCells]
  · intro i h1 h2
    simp [madeCells, Nat.mod_one]
/-- The automaton in the making: blocks of it, of its ends, of what is known. -/
structure NsI (w : World) (ga gb g5 : Nat) (vf : Value) (T : Option Addr) (ct : Nat) (A : Option Addr) (ca m : Nat) (y : Lk) (es : List Ed) (en : List Bool) (wr : World) : Prop where
  res : wr.heap[w.heap.size + 1]? = some (.cells #[.int .i64 0, .slice none 0 0, .slice none 0 0] 29 (0, 0))
  sp : wr.heap[g5]? = some (.cells #[vf, .slice T y.la.length ct, .bool y.nul] 49 (0, 0))
  la : OwnN wr (w.heap.size + 2) (.slice T y.la.length ct) y.la
  ab : wr.heap[ga]? = some (.cells #[.int .i64 m, .slice A es.length ca, .slice (some ⟨gb, 0, none⟩) m m] 29 (0, 0))
  ao : wr.ownsRow (w.heap.size + 2) 64 3 (.slice A es.length ca) es.length (edCells es)
  eo : wr.ownsRow (w.heap.size + 2) 4 1 (.slice (some ⟨gb, 0, none⟩) m m) m (en.map Value.bool)
  bel : Below w.heap.size w wr
section
variable {w : World} {ga gb g5 : Nat} {vf : Value} {T : Option Addr} {ct : Nat} {A : Option Addr} {ca m : Nat} {y : Lk} {es : List Ed} {en : List Bool} {wr w' : World}
theorem NsI.ne (h : NsI w ga gb g5 vf T ct A ca m y es en wr) : gb ≠ ga ∧ gb ≠ g5 ∧ w.heap.size + 2 ≤ gb :=
  ⟨fun e => row_ne h.eo h.ab (by decide) (by rw [← e]; rfl), fun e => row_ne h.eo h.sp (by decide) (by rw [← e]; rfl), (h.eo.lt gb rfl).1⟩
theorem NsI.keep (h : NsI w ga gb g5 vf T ct A ca m y es en wr) (hb : Below wr.heap.size wr w') : NsI w ga gb g5 vf T ct A ca m y es en w' :=
  ⟨blk_below hb h.res, blk_below hb h.sp, own_below h.la hb, blk_below hb h.ab, own_below h.ao hb, own_below h.eo hb, below_step h.bel hb⟩
theorem NsI.put (h : NsI w ga gb g5 vf T ct A ca m y es en wr) (k : Nat) (b : Bool) : NsI w ga gb g5 vf T ct A ca m y es (en.set k b) (wr.setCell ⟨gb, k, none⟩ (.bool b)) := by
  obtain ⟨n1, n2, n3⟩ := h.ne
  have hs := (h.eo.stored k (.bool b)).1
  rw [← List.map_set] at hs
  refine ⟨blk_set_ne h.res (by omega), blk_set_ne h.sp (Ne.symm n2), own_setCell_other h.la (fun e => ?_) _, blk_set_ne h.ab (Ne.symm n1), own_setCell_other h.ao (fun e => ?_) _, hs, h.bel.setCell (by show _ ≤ gb; omega) _⟩
  · rcases own_ne h.la h.eo (by decide) with h1 | h1
    · rw [h1] at e; cases e
    · exact h1 e
  · rcases own_ne h.ao h.eo (by decide) with h1 | h1
    · rw [h1] at e; cases e
    · exact h1 e
end
set_option maxRecDepth 100000 in

set_option maxHeartbeats 12800000 in
theorem spec_NfaOf_any (A : Option Addr) (c : Nat) (ps : List Pc) (w : World) (hx : RdP w A ps) (hn : ps.length ≤ 1048576) (hkl : ∀ p ∈ ps, p.k.length ≤ 4294967296) :
    Calls Try.prog 5 #[.agg #[.slice A ps.length c]] w (MadeNB w (nfS ps) (nfA ps) (nfE ps) (PP (NfP ps))) := by
  have p0 := heap_alloc_new w (.cells #[.slice A ps.length c] 34)
  have ka := below_alloc w (.cells #[.slice A ps.length c] 34)
  have kb := below_alloc (w.alloc (.cells #[.slice A ps.length c] 34)) (.cells #[.int .i64 0, .slice none 0 0, .slice none 0 0] 29)
  have p1 := heap_alloc_new (w.alloc (.cells #[.slice A ps.length c] 34)) (.cells #[.int .i64 0, .slice none 0 0, .slice none 0 0] 29)
  rw [show (w.alloc (.cells #[.slice A ps.length c] 34)).heap.size = w.heap.size + 1 by simp] at p1
  obtain ⟨W2, hW2⟩ : ∃ W, (w.alloc (.cells #[.slice A ps.length c] 34)).alloc (.cells #[.int .i64 0, .slice none 0 0, .slice none 0 0] 29) = W := ⟨_, rfl⟩
  have k2 := below_step ka kb
  replace p0 := blk_below kb p0
  rw [hW2] at p0 p1 k2
  have P0 := Lib.hid p0
  have P1 := Lib.hid p1
  have K2 := Lib.hid k2
  have HX2 := Lib.hid (hx.keep k2)
  have PO := Lib.hid (spec_PathOk_any A c ps W2 HX2.out (by omega) hkl)
  have b0 : W2.cell? ⟨w.heap.size, 0, none⟩ = some (.slice A ps.length c) := blk_cell (o := 0) p0 rfl
  have HKL := Lib.hid hkl
  clear p0 p1 ka kb k2 hx hkl
  by_cases hok : PaOk ps
  · rw [PP_yes hok] at PO
    have HOK := Lib.hid hok
    have HLK := Lib.hid (lkAll_ok hok)
    have hn1 := hok.1
    obtain ⟨r, hr⟩ : ∃ r, lkAll ps = r := ⟨_, rfl⟩
    have HR := Lib.hid hr
    rw [hr] at HLK
    obtain ⟨i0, hi, hz0, hz1, hz2⟩ := info_parts Try.infoInt
    obtain ⟨j0, hj, hy0, hy1, hy2⟩ := info_parts Try.infoBool
    clear hok
    go_enter Try.func5, Try.ntmps5
    go_wp2_with fail
    clear hW2
    refine PO.out.mono ?_
    rintro e w4 ⟨rfl, k4⟩
    have hb0 := blk_below k4 P0.out
    have HB4 := Lib.hid (blk_below k4 P1.out)
    have K4 := Lib.hid (below_step K2.out k4)
    have HX4 := Lib.hid (HX2.out.keep k4)
    have hw4 : w.heap.size + 2 ≤ w4.heap.size := by have h : w.heap.size + 1 < w4.heap.size := blk_lt HB4.out; omega
    clear b0
    have b04 : w4.cell? ⟨w.heap.size, 0, none⟩ = some (.slice A ps.length c) := blk_cell (o := 0) hb0 rfl
    have k5 := below_alloc w4 (.cells #[.slice A ps.length c, .slice none 0 0, .slice none 0 0, .bool false] 46)
    have p5 := heap_alloc_new w4 (.cells #[.slice A ps.length c, .slice none 0 0, .slice none 0 0, .bool false] 46)
    have h5 : w4.heap.size < (w4.alloc (.cells #[.slice A ps.length c, .slice none 0 0, .slice none 0 0, .bool false] 46)).heap.size := by simp
    have VIS := Lib.hid (look_any HOK.out HKL.out HX4.out (Nat.le_refl w4.heap.size) (cP := c) ps.length (ps.length - 1) ⟨[], []⟩ _ (by omega) (by omega) StOk.nil (by simp) k5 h5 ⟨.slice none 0 0, .slice none 0 0, p5, World.ownsRow_nil _ _ _ _, World.ownsRow_nil _ _ _ _⟩)
    have b0 := blk_cell (o := 0) (blk_below k5 hb0) rfl
    have HB5 := Lib.hid (blk_below k5 HB4.out)
    have K5 := Lib.hid (below_step K4.out k5)
    obtain ⟨q, hq⟩ : ∃ q, w4.heap.size = q := ⟨_, rfl⟩
    rw [show lk ps ps.length (ps.length - 1) ⟨[], []⟩ = r from hr] at VIS
    rw [hq] at VIS p5 h5 hw4
    clear hr
    obtain ⟨W5, hW5⟩ : ∃ W, w4.alloc (.cells #[.slice A ps.length c, .slice none 0 0, .slice none 0 0, .bool false] 46) = W := ⟨_, rfl⟩
    rw [hW5] at VIS p5 h5 b0 HB5 K5
    have hwn : IntKind.i64.wrap ((ps.length : Int) - 1) = ((ps.length - 1 : Nat) : Int) := (IntWalk.i64_in _ (by omega)).trans (by omega)
    have HQ4 := Lib.hid hq
    have HW5 := Lib.hid hW5
    clear hb0 k5 p5 hW5 hq
    go_upto_region 4 with fail
    simp only [HW5.out, HQ4.out]
    go_wp2_with fail
    clear hwn b0 b04
    refine VIS.out.mono ?_
    rintro e w6 ⟨vf, vt, rfl, of_, ol, ap, ⟨vl, va, hm⟩, kq6⟩
    have HB6 := Lib.hid (kq6.block HB5.out (by omega) (by decide))
    obtain ⟨VF, cvf, rfl⟩ := of_.slice
    obtain ⟨VT, cvt, rfl⟩ := ol.slice
    have K6 := Lib.hid (kq6.bel K5.out (show w.heap.size ≤ q by omega) (Nat.le_refl _))
    have hq6 : q < w6.heap.size := Nat.lt_of_lt_of_le h5 kq6.size
    have hm : MkI q q (.slice A ps.length c) vl va r.2.labs (arcsOf r.2.labs r.2.prs) (decide (24 ≤ r.2.labs.length)) w6 := hm
    have of_ : OwnN w6 (w.heap.size + 2) (.slice VF r.1.fi.length cvf) r.1.fi := own_mono of_ (by omega)
    have ol : OwnN w6 (w.heap.size + 2) (.slice VT r.1.la.length cvt) r.1.la := own_mono ol (by omega)
    have k7 := below_alloc w6 (.cells #[.slice VF r.1.fi.length cvf, .slice VT r.1.la.length cvt, .bool r.1.nul] 49)
    have p7 := heap_alloc_new w6 (.cells #[.slice VF r.1.fi.length cvf, .slice VT r.1.la.length cvt, .bool r.1.nul] 49)
    obtain ⟨g5, hg5⟩ : ∃ g, w6.heap.size = g := ⟨_, rfl⟩
    obtain ⟨W7, hW7⟩ : ∃ W, w6.alloc (.cells #[.slice VF r.1.fi.length cvf, .slice VT r.1.la.length cvt, .bool r.1.nul] 49) = W := ⟨_, rfl⟩
    have z7 : g5 < W7.heap.size := by rw [← hW7, ← hg5]; simp
    rw [hW7] at k7 p7
    rw [hg5] at p7 hq6
    have HM7 := Lib.hid (hm.below k7)
    have OF7 := Lib.hid (own_below of_ k7)
    have OL7 := Lib.hid (own_below ol k7)
    have HB7 := Lib.hid (blk_below k7 HB6.out)
    have K7 := Lib.hid (below_step K6.out k7)
    have P7 := Lib.hid p7
    have m3 : W7.cell? ⟨q, 3, none⟩ = some (.bool (decide (24 ≤ r.2.labs.length))) := blk_cell (o := 3) HM7.out.box rfl
    clear hm of_ ol k7 p7 kq6 ap h5
    by_cases h24 : 24 ≤ r.2.labs.length
    · have hno : Hid (¬ NfP ps) := Lib.hid (fun h => h.2 (by rw [HR.out]; exact h24))
      rw [decide_eq_true h24] at m3
      go_upto_region 6 with fail
      clear hW7 hg5 m3
      have k4 : Below w.heap.size w W7 := K7.out
      have hb4 := HB7.out
      clear K4
      have r0 : W7.cell? ⟨w.heap.size + 1, 0, none⟩ = _ := blk_cell (o := 0) hb4 rfl
      have r1 : W7.cell? ⟨w.heap.size + 1, 1, none⟩ = _ := blk_cell (o := 1) hb4 rfl
      have r2 : W7.cell? ⟨w.heap.size + 1, 2, none⟩ = _ := blk_cell (o := 2) hb4 rfl
      have f0 : W7.frozen? ⟨w.heap.size + 1, 0, none⟩ = false := frozen_of_row W7 _ 0 _ _ hb4
      have f1 : W7.frozen? ⟨w.heap.size + 1, 1, none⟩ = false := frozen_of_row W7 _ 1 _ _ hb4
      have f2 : W7.frozen? ⟨w.heap.size + 1, 2, none⟩ = false := frozen_of_row W7 _ 2 _ _ hb4
      have K4 := Lib.hid (k4)
      clear k4 hb4
      go_wp2
      refine bodyPost_ret (v := .tuple #[.agg #[.int .i64 0, .slice none 0 0, .slice none 0 0], .bool false]) (by simp [results, Try.results5, go_sem, r0, r1, r2]) rfl ?_
      refine (nf_no hno.out).2 (MadeNB.no ?_)
      exact ((K4.out.setCell (p := ⟨w.heap.size + 1, 0, none⟩) (Nat.le_add_right _ 1) _).setCell (p := ⟨w.heap.size + 1, 1, none⟩) (Nat.le_add_right _ 1) _).setCell (p := ⟨w.heap.size + 1, 2, none⟩) (Nat.le_add_right _ 1) _
    · have hyes : Hid (NfP ps) := Lib.hid ⟨HOK.out, by rw [HR.out]; exact h24⟩
      rw [decide_eq_false h24] at m3 HM7
      have k8 := below_alloc W7 (.cells #[.int .i64 0] 3)
      have o8 := own_one W7 (b := w.heap.size + 2) (x := 0) (z := 0) (by omega) rfl
      have y0 : W7.cell? ⟨g5, 0, none⟩ = some (.slice VF r.1.fi.length cvf) := blk_cell (o := 0) P7.out rfl
      have y0a : (W7.alloc (.cells #[.int .i64 0] 3)).cell? ⟨g5, 0, none⟩ = some (.slice VF r.1.fi.length cvf) := held_step k8 y0
      have HM8 := Lib.hid (HM7.out.below k8)
      have OF8 := Lib.hid (own_below OF7.out k8)
      have OL8 := Lib.hid (own_below OL7.out k8)
      have HB8 := Lib.hid (blk_below k8 HB7.out)
      have K8 := Lib.hid (below_step K7.out k8)
      have P8 := Lib.hid (blk_below k8 P7.out)
      have z8 := k8.size
      have hll : r.2.labs.length < 24 := by omega
      clear k8 HM7 OF7 OL7 HB7 K7 P7
      go_wp2_with fail
      clear hW7 hg5 m3 y0 y0a
      refine (join_any q q (w.heap.size + 2) (w.heap.size + 2) _ r.2.labs (arcsOf r.2.labs r.2.prs) _ vl va (some ⟨W7.heap.size, 0, none⟩) VF 1 cvf [0] r.1.fi _ HM8.out (by omega) o8 OF8.out HLK.out.st.len HLK.out.st.lab HLK.out.st.go
        (fun z hz => by simp at hz; omega) (fun z hz => by have := HLK.out.fi.2 z hz; omega) (by simp) (by have := HLK.out.fi.len; omega)).mono ?_
      rintro e w9 ⟨rfl, va9, hm9, hg9⟩
      rw [← arcsOf_app] at hm9
      have hm9 : MkI q q (.slice A ps.length c) vl va9 r.2.labs (nfArcs r) false w9 := hm9
      have hp9 := (hg9.block _ (blk_lt P8.out) (fun e => by injection e with e; omega)).trans P8.out
      have hb9 := (hg9.block _ (blk_lt HB8.out) (fun e => by injection e with e; omega)).trans HB8.out
      have ol9 := OL8.out.kept hg9 (.inr (row_ne OL8.out HM8.out.box (by decide)))
      have k9 : Below w.heap.size w w9 := K8.out.grown hg9 K8.out.size (fun k hk => by injection hk with hk; omega)
      obtain ⟨L, cl, rfl, _, _⟩ := own_slice hm9.lo
      obtain ⟨A9, c9, rfl, _, _⟩ := own_slice hm9.ao
      obtain ⟨m, hmm⟩ : ∃ m, r.2.labs.length + 1 = m := ⟨_, rfl⟩
      have hwr : IntKind.i64.wrap ((r.2.labs.length : Int) + 1) = (m : Int) := (IntWalk.i64_in _ (by omega)).trans (by omega)
      have hmk := fun w => run_make_rowM (P := Try.prog) 27 4 j0 (.bool false) Try.underlying27 hj hy0 .i64 .i64 m m (Nat.le_refl _) (by rw [hy2]; omega) (by omega) w
      rw [hy1] at hmk
      have m1 : w9.cell? ⟨q, 1, none⟩ = some (.slice L r.2.labs.length cl) := blk_cell (o := 1) hm9.box rfl
      have m2 : w9.cell? ⟨q, 2, none⟩ = some (.slice A9 (nfArcs r).length c9) := blk_cell (o := 2) hm9.box rfl
      have HM9 := Lib.hid hm9
      have HP9 := Lib.hid hp9
      have HB9 := Lib.hid hb9
      have OL9 := Lib.hid ol9
      have K9 := Lib.hid k9
      have hq9 : q < w9.heap.size := blk_lt hm9.box
      clear hm9 hp9 hb9 ol9 k9 hg9 o8 HM8 OF8 OL8 HB8 K8 P8
      go_wp2_with fail
      refine wp_region_held_drew (S := fun w' => w'.cell? ⟨q, 1, none⟩ = some (.slice L r.2.labs.length cl) ∧ w'.cell? ⟨q, 2, none⟩ = some (.slice A9 (nfArcs r).length c9)) (by kernel_rfl) ⟨m1, m2⟩ (fun hHeld => ?_)
      refine wpAnyH_take (i := 0) (oi := _) (v := ?_) rfl (by kernel_rfl) (by kernel_rfl) (by kernel_rfl) (fun _ _ _ h => h) (Or.inl ⟨by rfl, ?_⟩) (by assumption) ?_
      rotate_left 1
      · intro w hSw; (try dsimp only at hSw); go_simp; try with_reducible rfl
      simp only [Act.put, List.setIfInBounds_toArray]
      refine wpAnyH_take (i := 1) (oi := _) (v := ?_) rfl (by kernel_rfl) (by kernel_rfl) (by kernel_rfl) (fun _ _ _ h => h) (Or.inl ⟨by rfl, ?_⟩) (by assumption) ?_
      rotate_left 1
      · intro w hSw; (try dsimp only at hSw); go_simp; try with_reducible rfl
      simp only [Act.put]
      refine wpAnyH_take (i := 2) (oi := _) (v := ?_) rfl (by kernel_rfl) (by kernel_rfl) (by kernel_rfl) (fun _ _ _ h => h) (Or.inl ⟨by rfl, ?_⟩) (by assumption) ?_
      rotate_left 1
      · intro w hSw; (try dsimp only at hSw); go_simp; try with_reducible rfl
      simp only [Act.put]
      refine wpAnyH_take (i := 3) (oi := _) (v := ?_) rfl (by kernel_rfl) (by kernel_rfl) (by kernel_rfl) (fun _ _ _ h => h) (Or.inl ⟨by rfl, ?_⟩) (by assumption) ?_
      rotate_left 1
      · intro w hSw; (try dsimp only at hSw); go_simp; try with_reducible rfl
      simp only [Act.put]
      refine wpAnyH_take (i := 4) (oi := _) (v := ?_) rfl (by kernel_rfl) (by kernel_rfl) (by kernel_rfl) (fun _ _ _ h => h) (Or.inl ⟨by rfl, ?_⟩) (by assumption) ?_
      rotate_left 1
      · intro w hSw; (try dsimp only at hSw); go_simp; try with_reducible rfl
      simp only [Act.put]
      refine wpAnyH_take (i := 5) (oi := _) (v := ?_) rfl (by kernel_rfl) (by kernel_rfl) (by kernel_rfl) (fun _ _ _ h => h) (Or.inl ⟨by rfl, ?_⟩) (by assumption) ?_
      rotate_left 1
      · intro w hSw; (try dsimp only at hSw); go_simp; try with_reducible rfl
      simp only [Act.put]
      refine wpAnyH_take (i := 6) (oi := _) (v := ?_) rfl (by kernel_rfl) (by kernel_rfl) (by kernel_rfl) (fun _ _ _ h => h) (Or.inl ⟨by rfl, ?_⟩) (by assumption) ?_
      rotate_left 1
      · intro w hSw; (try dsimp only at hSw); go_simp; try with_reducible rfl
      simp only [Act.put]
      refine wpAnyH_take (i := 7) (oi := _) (v := ?_) rfl (by kernel_rfl) (by kernel_rfl) (by kernel_rfl) (fun _ _ _ h => h) (Or.inl ⟨by rfl, ?_⟩) (by assumption) ?_
      rotate_left 1
      · intro w hSw; (try dsimp only at hSw); go_simp; try with_reducible rfl
      simp only [Act.put]
      refine wpAnyH_take (i := 8) (oi := _) (v := ?_) rfl (by kernel_rfl) (by kernel_rfl) (by kernel_rfl) (fun _ _ _ h => h) (Or.inl ⟨by rfl, ?_⟩) (by assumption) ?_
      rotate_left 1
      · intro w hSw; (try dsimp only at hSw); go_simp; try with_reducible rfl
      simp only [Act.put]
      refine wpAnyH_take (i := 9) (oi := _) (v := ?_) rfl (by kernel_rfl) (by kernel_rfl) (by kernel_rfl) (fun _ _ _ h => h) (Or.inl ⟨by rfl, ?_⟩) (by assumption) ?_
      rotate_left 1
      · intro w hSw; (try dsimp only at hSw); go_simp; try with_reducible rfl
      simp only [Act.put]
      refine wpAnyH_take (i := 10) (oi := _) (v := ?_) rfl (by kernel_rfl) (by kernel_rfl) (by kernel_rfl) (fun _ _ _ h => h) (Or.inl ⟨by rfl, ?_⟩) (by assumption) ?_
      rotate_left 1
      · intro w hSw; (try dsimp only at hSw); go_simp; try with_reducible rfl
      simp only [Act.put]
      refine wpAnyH_take (i := 11) (oi := _) (v := ?_) rfl (by kernel_rfl) (by kernel_rfl) (by kernel_rfl) (fun _ _ _ h => h) (Or.inl ⟨by rfl, ?_⟩) (by assumption) ?_
      rotate_left 1
      · intro w hSw; (try dsimp only at hSw); go_simp; try with_reducible rfl
      simp only [Act.put]
      refine wpAnyH_take (i := 12) (oi := _) (v := ?_) rfl (by kernel_rfl) (by kernel_rfl) (by kernel_rfl) (fun _ _ _ h => h) (Or.inl ⟨by rfl, ?_⟩) (by assumption) ?_
      rotate_left 1
      · intro w hSw; (try dsimp only at hSw); go_simp; try with_reducible rfl
      simp only [Act.put]
      refine wpAnyH_take (i := 13) (oi := _) (v := ?_) rfl (by kernel_rfl) (by kernel_rfl) (by kernel_rfl) (fun _ _ _ h => h) (Or.inl ⟨by rfl, ?_⟩) (by assumption) ?_
      rotate_left 1
      · intro w hSw; (try dsimp only at hSw); go_simp; try with_reducible rfl
      simp only [Act.put]
      refine wpAnyH_take (i := 14) (oi := _) (v := ?_) rfl (by kernel_rfl) (by kernel_rfl) (by kernel_rfl) (fun _ _ _ h => h) (Or.inl ⟨by rfl, ?_⟩) (by assumption) ?_
      rotate_left 1
      · intro w hSw; (try dsimp only at hSw); go_simp; try with_reducible rfl
      simp only [Act.put]
      refine wpAnyH_take (i := 15) (oi := _) (v := ?_) rfl (by kernel_rfl) (by kernel_rfl) (by kernel_rfl) (fun _ _ _ h => h) (Or.inl ⟨by rfl, ?_⟩) (by assumption) ?_
      rotate_left 1
      · intro w hSw; (try dsimp only at hSw); go_simp; try with_reducible rfl
      simp only [Act.put]
      refine wpAnyH_ready (rs := [16, 18]) (by kernel_rfl) (by simp) ?_
      refine AllReadyH.cons (o := _) rfl (fun K hK => ?_) (AllReadyH.cons (o := _) rfl (fun K hK => ?_) AllReadyH.nil)
      · go_simp
        refine hK.out _ _ ⟨held_step (below_alloc _ _) hHeld.1, held_step (below_alloc _ _) hHeld.2⟩ (fun hHeld => ?_)
        clear hK K
        try simp only [Act.put]
        refine wpAnyH_take (i := 17) (oi := _) (v := ?_) rfl (by kernel_rfl) (by kernel_rfl) (by kernel_rfl) (fun _ _ _ h => h) (Or.inl ⟨by rfl, ?_⟩) (by assumption) ?_
        rotate_left 1
        · intro w hSw; (try dsimp only at hSw); go_simp; try with_reducible rfl
        simp only [Act.put, List.setIfInBounds_toArray]
        refine wpAnyH_ready (rs := [18]) (by kernel_rfl) (by simp) ?_
        refine AllReadyH.cons (o := _) rfl (fun K hK => ?_) AllReadyH.nil
        go_simp
        refine hK.out _ _ ⟨held_step (below_alloc _ _) hHeld.1, held_step (below_alloc _ _) hHeld.2⟩ (fun hHeld => ?_)
        clear hK K
        try simp only [Act.put]
        refine wpAnyH_ready (rs := [19]) (by kernel_rfl) (by simp) ?_
        refine AllReadyH.cons (o := _) rfl (fun K hK => ?_) AllReadyH.nil
        go_simp
        refine hK.out _ _ ⟨held_step ((below_step (below_alloc _ _) (below_alloc _ _)).drew) m1, held_step ((below_step (below_alloc _ _) (below_alloc _ _)).drew) m2⟩ (fun hHeld => ?_)
        clear hK K
        try simp only [Act.put]
        refine wpAnyH_done (by kernel_rfl) ?_ _
        clear hHeld m1 m2 hmk hwr
        have ka := below_alloc w9 (.cells (madeCells #[Value.bool false] m) 4)
        have kb := below_alloc (w9.alloc (.cells (madeCells #[Value.bool false] m) 4)) (.cells #[.int .i64 m, .slice A9 (nfArcs r).length c9, .slice (some ⟨w9.heap.size, 0, none⟩) m m] 29)
        have hz1 : (w9.alloc (.cells (madeCells #[Value.bool false] m) 4)).heap.size = w9.heap.size + 1 := by simp
        have hn2 := heap_alloc_new (w9.alloc (.cells (madeCells #[Value.bool false] m) 4)) (.cells #[.int .i64 m, .slice A9 (nfArcs r).length c9, .slice (some ⟨w9.heap.size, 0, none⟩) m m] 29)
        rw [hz1] at hn2
        have hw2 : w.heap.size + 2 ≤ w9.heap.size := by omega
        have heo := own_below (own_newM w9 (base := w.heap.size + 2) (n := m) (e := 4) (size := 1) (cur := madeCells #[Value.bool false] m) hw2 (by unfold maxLen; omega) (by simp) (made_boolM m)) kb
        have hab := hn2
        have kc := (below_step ka kb).drew
        have NI := Lib.hid (show NsI w (w9.heap.size + 1) (w9.heap.size) g5 (.slice VF r.1.fi.length cvf) VT cvt A9 c9 m r.1 (nfArcs r) (List.replicate m false) (((w9.alloc (.cells (madeCells #[Value.bool false] m) 4)).alloc (.cells #[.int .i64 m, .slice A9 (nfArcs r).length c9, .slice (some ⟨w9.heap.size, 0, none⟩) m m] 29)).drew) from
          ⟨blk_below kc HB9.out, blk_below kc HP9.out, own_below OL9.out kc, hab, own_mono (own_below HM9.out.ao kc) (by omega), heo, below_step K9.out kc⟩)
        clear ka kb hz1 hn2 hw2 heo hab kc
        obtain ⟨W10, hW10⟩ : ∃ W, ((w9.alloc (.cells (madeCells #[Value.bool false] m) 4)).alloc (.cells #[.int .i64 m, .slice A9 (nfArcs r).length c9, .slice (some ⟨w9.heap.size, 0, none⟩) m m] 29)).drew = W := ⟨_, rfl⟩
        rw [hW10]
        rw [hW10] at NI
        obtain ⟨ga, hga⟩ : ∃ g, w9.heap.size + 1 = g := ⟨_, rfl⟩
        obtain ⟨gb, hgb⟩ : ∃ g, w9.heap.size = g := ⟨_, rfl⟩
        rw [hga, hgb] at NI
        rw [hga, hgb]
        clear hW10 hga hgb HM9 HB9 HP9 OL9 K9
        obtain ⟨N1, N2, _⟩ := NI.out.ne
        have a2 : W10.cell? ⟨ga, 2, none⟩ = some (.slice (some ⟨gb, 0, none⟩) m m) := blk_cell (o := 2) NI.out.ab rfl
        have y2 : W10.cell? ⟨g5, 2, none⟩ = some (.bool r.1.nul) := blk_cell (o := 2) NI.out.sp rfl
        have e1 := NI.out.eo.cellAt 0 (by omega)
        have e0 : W10.cell? ⟨gb, 0, none⟩ = some (.bool false) := by rw [e1, ← hmm]; rfl
        clear e1
        have ef := NI.out.eo.frozenAt 0
        have hm0 : (0 : Int) < (m : Int) := by omega
        have NJ := Lib.hid (NI.out.put 0 r.1.nul)
        go_upto_region 10 with fail
        clear a2 y2 e0 ef NI
        obtain ⟨W11, hW11⟩ : ∃ W, W10.setCell ⟨gb, 0, none⟩ (.bool r.1.nul) = W := ⟨_, rfl⟩
        rw [hW11]
        have he : (List.replicate m false).set 0 r.1.nul = enTo r.1.nul r.2.labs.length (r.1.la.take 0) := by rw [← hmm, List.replicate_succ]; rfl
        rw [hW11, he] at NJ
        clear hW11 he
        go_wp2_with fail
        all_goals skip
        go_loopw [7] (fun i wr => ∃ (k : Nat), k ≤ r.1.la.length ∧ i = .int .i64 k ∧ NsI w ga gb g5 (.slice VF r.1.fi.length cvf) VT cvt A9 c9 m r.1 (nfArcs r) (enTo r.1.nul r.2.labs.length (r.1.la.take k)) wr) (fun i _ => r.1.la.length - (intOf i).toNat)
        case atStart => exact ⟨0, Nat.zero_le _, rfl, NJ.out⟩
        case round =>
          clear NJ
          obtain ⟨k, hk, rfl, hI⟩ := hrel
          have NI := Lib.hid hI
          have y1 : wr.cell? ⟨g5, 1, none⟩ = some (.slice VT r.1.la.length cvt) := blk_cell (o := 1) hI.sp rfl
          by_cases hlt : k < r.1.la.length
          · obtain ⟨ad, rfl, cL⟩ := (show RdI wr VT r.1.la.length (nI r.1.la) from Rd.of_own hI.la).at_ hlt
            rw [nI_at hlt] at cL
            have hst := enTo_next (nul := r.1.nul) (n := r.2.labs.length) hlt
            obtain ⟨x, hx⟩ : ∃ x, r.1.la.getD k 0 = x := ⟨_, rfl⟩
            have hxr := HLK.out.la.2 x (by rw [← hx]; exact getD_mem hlt)
            have hxm : x < m := by omega
            rw [hx] at cL hst
            have hel := enTo_len r.1.nul r.2.labs.length (r.1.la.take k)
            have ce := hI.eo.cellAt x (by omega)
            have ce2 : ∃ u, wr.cell? ⟨gb, x, none⟩ = some u := by
              rw [ce, List.getElem?_eq_getElem (by rw [List.length_map]; omega)]
              exact ⟨_, rfl⟩
            obtain ⟨u, cu⟩ := ce2
            have fe := hI.eo.frozenAt x
            have a2 : wr.cell? ⟨ga, 2, none⟩ = some (.slice (some ⟨gb, 0, none⟩) m m) := blk_cell (o := 2) hI.ab rfl
            have NP := Lib.hid (hI.put x true)
            rw [← hst] at NP
            have nV : ad.block ≠ gb := fun e => by
              rcases own_ne hI.la hI.eo (by decide) with h | h
              · cases h
              · exact h (by rw [← e]; rfl)
            have NV := Lib.hid nV
            have hl24 : r.1.la.length ≤ 24 := by have := HLK.out.la.len; omega
            have k0 : (0 : Int) ≤ (k : Int) := by omega
            have k1 : (k : Int) < (r.1.la.length : Int) := by omega
            have x0 : (0 : Int) ≤ (x : Int) := by omega
            have x1 : (x : Int) < (m : Int) := by omega
            clear hI hst hx ce hel nV
            go_wp2_with fail
            refine wp_region_held_drew (S := fun w' => w'.cell? ⟨ga, 2, none⟩ = some (.slice (some ⟨gb, 0, none⟩) m m) ∧ w'.cell? ⟨g5, 1, none⟩ = some (.slice (some ad) r.1.la.length cvt) ∧ w'.cell? (ad.add k) = some (.int .i64 x)) (by kernel_rfl) ⟨a2, y1, cL⟩ (fun hHeld => ?_)
            refine wpAnyH_take (i := 0) (oi := _) (v := ?_) rfl (by kernel_rfl) (by kernel_rfl) (by kernel_rfl) (fun _ _ _ h => h) (Or.inl ⟨by rfl, ?_⟩) (by assumption) ?_
            rotate_left 1
            · intro w hSw; (try dsimp only at hSw); go_simp; try with_reducible rfl
            simp only [Act.put, List.setIfInBounds_toArray]
            refine wpAnyH_take (i := 1) (oi := _) (v := ?_) rfl (by kernel_rfl) (by kernel_rfl) (by kernel_rfl) (fun _ _ _ h => h) (Or.inl ⟨by rfl, ?_⟩) (by assumption) ?_
            rotate_left 1
            · intro w hSw; (try dsimp only at hSw); go_simp; try with_reducible rfl
            simp only [Act.put]
            refine wpAnyH_take (i := 2) (oi := _) (v := ?_) rfl (by kernel_rfl) (by kernel_rfl) (by kernel_rfl) (fun _ _ _ h => h) (Or.inl ⟨by rfl, ?_⟩) (by assumption) ?_
            rotate_left 1
            · intro w hSw; (try dsimp only at hSw); go_simp; try with_reducible rfl
            simp only [Act.put]
            refine wpAnyH_take (i := 3) (oi := _) (v := ?_) rfl (by kernel_rfl) (by kernel_rfl) (by kernel_rfl) (fun _ _ _ h => h) (Or.inl ⟨by rfl, ?_⟩) (by assumption) ?_
            rotate_left 1
            · intro w hSw; (try dsimp only at hSw); go_simp; try with_reducible rfl
            simp only [Act.put]
            refine wpAnyH_take (i := 4) (oi := _) (v := ?_) rfl (by kernel_rfl) (by kernel_rfl) (by kernel_rfl) (fun _ _ _ h => h) (Or.inl ⟨by rfl, ?_⟩) (by assumption) ?_
            rotate_left 1
            · intro w hSw; (try dsimp only at hSw); go_simp; try with_reducible rfl
            simp only [Act.put]
            refine wpAnyH_take (i := 5) (oi := _) (v := ?_) rfl (by kernel_rfl) (by kernel_rfl) (by kernel_rfl) (fun _ _ _ h => h) (Or.inl ⟨by rfl, ?_⟩) (by assumption) ?_
            rotate_left 1
            · intro w hSw; (try dsimp only at hSw); go_simp; try with_reducible rfl
            simp only [Act.put]
            refine wpAnyH_take (i := 6) (oi := _) (v := ?_) rfl (by kernel_rfl) (by kernel_rfl) (by kernel_rfl) (fun _ _ _ h => h) (Or.inl ⟨by rfl, ?_⟩) (by assumption) ?_
            rotate_left 1
            · intro w hSw; (try dsimp only at hSw); go_simp; try with_reducible rfl
            simp only [Act.put]
            refine wpAnyH_take (i := 7) (oi := _) (v := ?_) rfl (by kernel_rfl) (by kernel_rfl) (by kernel_rfl) (fun _ _ _ h => h) (Or.inl ⟨by rfl, ?_⟩) (by assumption) ?_
            rotate_left 1
            · intro w hSw; (try dsimp only at hSw); go_simp; try with_reducible rfl
            simp only [Act.put]
            refine wpAnyH_ready (rs := [8]) (by kernel_rfl) (by simp) ?_
            refine AllReadyH.cons (o := _) rfl (fun K hK => ?_) AllReadyH.nil
            go_simp
            refine hK.out _ _ ⟨(World.cell?_setCell_far _ _ _ _ N1).trans hHeld.1, (World.cell?_setCell_far _ _ _ _ N2).trans hHeld.2.1, (World.cell?_of_block (Below.heap_setCell _ _ _ _ (by rw [block_of_add]; exact NV.out))).trans hHeld.2.2⟩ (fun hHeld => ?_)
            clear hK K
            try simp only [Act.put]
            refine wpAnyH_done (by kernel_rfl) ?_ _
            clear hHeld y1 a2 cL cu fe
            go_wp2
            go_roundw
            case rel => exact ⟨k + 1, by omega, by go_num, by first | exact NP.out | exact NP.out.keep ((Below.refl _ _).drew)⟩
            case measure => simp [intOf]; omega
          · obtain rfl : k = r.1.la.length := by omega
            rw [List.take_of_length_le (Nat.le_refl _), enTo_all HLK.out] at NI
            have hel := nfEnds_len r
            have hmm2 : m = (nfEnds r).length := by omega
            have hal := nfArcs_len HLK.out
            have NK := Lib.hid (fun (W : World) (h1 : RdE W A9 (nfArcs r)) => spec_NfaOk_any (m : Int) A9 (some ⟨gb, 0, none⟩) c9 m (nfArcs r) (nfEnds r) W h1 (by omega) (by omega) (fun e he => by have := (nfArcs_lab HLK.out e he).2.1; omega))
            have hpp : PP (NOk (m : Int) (nfArcs r) (nfEnds r)) = true := PP_yes (by have := ok_nf HLK.out hll; rwa [show (r.2.labs.length : Int) + 1 = (m : Int) by omega] at this)
            rw [hpp, ← hmm2] at NK
            have a0 : wr.cell? ⟨ga, 0, none⟩ = _ := blk_cell (o := 0) NI.out.ab rfl
            have a1 : wr.cell? ⟨ga, 1, none⟩ = _ := blk_cell (o := 1) NI.out.ab rfl
            have a2 : wr.cell? ⟨ga, 2, none⟩ = _ := blk_cell (o := 2) NI.out.ab rfl
            have HMM := Lib.hid hmm2
            clear hI hel hmm2 hpp hal
            go_wp2_with fail
            clear a0 a1 a2 y1
            refine (NK.out wr (Rd.of_own NI.out.ao)).mono ?_
            rintro e w13 ⟨rfl, k13⟩
            have NS := Lib.hid (NI.out.keep k13)
            have hrs := NS.out.res
            have a0 : w13.cell? ⟨ga, 0, none⟩ = _ := blk_cell (o := 0) NS.out.ab rfl
            have a1 : w13.cell? ⟨ga, 1, none⟩ = _ := blk_cell (o := 1) NS.out.ab rfl
            have a2 : w13.cell? ⟨ga, 2, none⟩ = _ := blk_cell (o := 2) NS.out.ab rfl
            have r0 : w13.cell? ⟨w.heap.size + 1, 0, none⟩ = _ := blk_cell (o := 0) hrs rfl
            have r1 : w13.cell? ⟨w.heap.size + 1, 1, none⟩ = _ := blk_cell (o := 1) hrs rfl
            have r2 : w13.cell? ⟨w.heap.size + 1, 2, none⟩ = _ := blk_cell (o := 2) hrs rfl
            have f0 : w13.frozen? ⟨w.heap.size + 1, 0, none⟩ = false := frozen_of_row w13 _ 0 _ _ hrs
            have f1 : w13.frozen? ⟨w.heap.size + 1, 1, none⟩ = false := frozen_of_row w13 _ 1 _ _ hrs
            have f2 : w13.frozen? ⟨w.heap.size + 1, 2, none⟩ = false := frozen_of_row w13 _ 2 _ _ hrs
            clear k13 hrs NI NK
            go_wp2
            refine bodyPost_ret (v := .tuple #[.agg #[.int .i64 m, .slice A9 (nfArcs r).length c9, .slice (some ⟨gb, 0, none⟩) m m], .bool true]) (by simp [results, Try.results5, go_sem, r0, r1, r2]) rfl ?_
            refine (nf_yes hyes.out).2 ?_
            rw [HR.out]
            have hm2 := HMM.out
            refine ⟨A9, c9, some ⟨gb, 0, none⟩, m, by rw [← hm2, show (r.2.labs.length : Int) + 1 = (m : Int) by omega], ⟨?_, ?_⟩, ((NS.out.bel.setCell (p := ⟨w.heap.size + 1, 0, none⟩) (Nat.le_add_right _ 1) _).setCell (p := ⟨w.heap.size + 1, 1, none⟩) (Nat.le_add_right _ 1) _).setCell (p := ⟨w.heap.size + 1, 2, none⟩) (Nat.le_add_right _ 1) _⟩
            · exact own_mono (ownsRow_setCell_below (ownsRow_setCell_below (ownsRow_setCell_below NS.out.ao (a := ⟨w.heap.size + 1, 0, none⟩) (by simp only; omega) _) (a := ⟨w.heap.size + 1, 1, none⟩) (by simp only; omega) _) (a := ⟨w.heap.size + 1, 2, none⟩) (by simp only; omega) _) (by omega)
            · rw [← hm2]
              exact own_mono (ownsRow_setCell_below (ownsRow_setCell_below (ownsRow_setCell_below NS.out.eo (a := ⟨w.heap.size + 1, 0, none⟩) (by simp only; omega) _) (a := ⟨w.heap.size + 1, 1, none⟩) (by simp only; omega) _) (a := ⟨w.heap.size + 1, 2, none⟩) (by simp only; omega) _) (by omega)
      · go_simp
        refine hK.out _ _ ⟨held_step (below_alloc _ _) hHeld.1, held_step (below_alloc _ _) hHeld.2⟩ (fun hHeld => ?_)
        clear hK K
        try simp only [Act.put]
        refine wpAnyH_ready (rs := [16]) (by kernel_rfl) (by simp) ?_
        refine AllReadyH.cons (o := _) rfl (fun K hK => ?_) AllReadyH.nil
        go_simp
        refine hK.out _ _ ⟨held_step (below_alloc _ _) hHeld.1, held_step (below_alloc _ _) hHeld.2⟩ (fun hHeld => ?_)
        clear hK K
        try simp only [Act.put]
        refine wpAnyH_take (i := 17) (oi := _) (v := ?_) rfl (by kernel_rfl) (by kernel_rfl) (by kernel_rfl) (fun _ _ _ h => h) (Or.inl ⟨by rfl, ?_⟩) (by assumption) ?_
        rotate_left 1
        · intro w hSw; (try dsimp only at hSw); go_simp; try with_reducible rfl
        simp only [Act.put, List.setIfInBounds_toArray]
        refine wpAnyH_ready (rs := [19]) (by kernel_rfl) (by simp) ?_
        refine AllReadyH.cons (o := _) rfl (fun K hK => ?_) AllReadyH.nil
        go_simp
        refine hK.out _ _ ⟨held_step ((below_step (below_alloc _ _) (below_alloc _ _)).drew) m1, held_step ((below_step (below_alloc _ _) (below_alloc _ _)).drew) m2⟩ (fun hHeld => ?_)
        clear hK K
        try simp only [Act.put]
        refine wpAnyH_done (by kernel_rfl) ?_ _
        clear hHeld m1 m2 hmk hwr
        have ka := below_alloc w9 (.cells #[.int .i64 m, .slice A9 (nfArcs r).length c9, .slice (some ⟨w9.heap.size + 1, 0, none⟩) m m] 29)
        have kb := below_alloc (w9.alloc (.cells #[.int .i64 m, .slice A9 (nfArcs r).length c9, .slice (some ⟨w9.heap.size + 1, 0, none⟩) m m] 29)) (.cells (madeCells #[Value.bool false] m) 4)
        have hz1 : (w9.alloc (.cells #[.int .i64 m, .slice A9 (nfArcs r).length c9, .slice (some ⟨w9.heap.size + 1, 0, none⟩) m m] 29)).heap.size = w9.heap.size + 1 := by simp
        have hn2 := heap_alloc_new (w9.alloc (.cells #[.int .i64 m, .slice A9 (nfArcs r).length c9, .slice (some ⟨w9.heap.size + 1, 0, none⟩) m m] 29)) (.cells (madeCells #[Value.bool false] m) 4)
        rw [hz1] at hn2
        have hw2 : w.heap.size + 2 ≤ w9.heap.size := by omega
        have heo := own_newM (w9.alloc (.cells #[.int .i64 m, .slice A9 (nfArcs r).length c9, .slice (some ⟨w9.heap.size + 1, 0, none⟩) m m] 29)) (base := w.heap.size + 2) (n := m) (e := 4) (size := 1) (cur := madeCells #[Value.bool false] m) (by omega) (by unfold maxLen; omega) (by simp) (made_boolM m)
        rw [hz1] at heo
        have hab := blk_below kb (heap_alloc_new w9 (.cells #[.int .i64 m, .slice A9 (nfArcs r).length c9, .slice (some ⟨w9.heap.size + 1, 0, none⟩) m m] 29))
        have kc := (below_step ka kb).drew
        have NI := Lib.hid (show NsI w (w9.heap.size) (w9.heap.size + 1) g5 (.slice VF r.1.fi.length cvf) VT cvt A9 c9 m r.1 (nfArcs r) (List.replicate m false) (((w9.alloc (.cells #[.int .i64 m, .slice A9 (nfArcs r).length c9, .slice (some ⟨w9.heap.size + 1, 0, none⟩) m m] 29)).alloc (.cells (madeCells #[Value.bool false] m) 4)).drew) from
          ⟨blk_below kc HB9.out, blk_below kc HP9.out, own_below OL9.out kc, hab, own_mono (own_below HM9.out.ao kc) (by omega), heo, below_step K9.out kc⟩)
        clear ka kb hz1 hn2 hw2 heo hab kc
        obtain ⟨W10, hW10⟩ : ∃ W, ((w9.alloc (.cells #[.int .i64 m, .slice A9 (nfArcs r).length c9, .slice (some ⟨w9.heap.size + 1, 0, none⟩) m m] 29)).alloc (.cells (madeCells #[Value.bool false] m) 4)).drew = W := ⟨_, rfl⟩
        rw [hW10]
        rw [hW10] at NI
        obtain ⟨ga, hga⟩ : ∃ g, w9.heap.size = g := ⟨_, rfl⟩
        obtain ⟨gb, hgb⟩ : ∃ g, w9.heap.size + 1 = g := ⟨_, rfl⟩
        rw [hgb, hga] at NI
        rw [hgb, hga]
        clear hW10 hga hgb HM9 HB9 HP9 OL9 K9
        obtain ⟨N1, N2, _⟩ := NI.out.ne
        have a2 : W10.cell? ⟨ga, 2, none⟩ = some (.slice (some ⟨gb, 0, none⟩) m m) := blk_cell (o := 2) NI.out.ab rfl
        have y2 : W10.cell? ⟨g5, 2, none⟩ = some (.bool r.1.nul) := blk_cell (o := 2) NI.out.sp rfl
        have e1 := NI.out.eo.cellAt 0 (by omega)
        have e0 : W10.cell? ⟨gb, 0, none⟩ = some (.bool false) := by rw [e1, ← hmm]; rfl
        clear e1
        have ef := NI.out.eo.frozenAt 0
        have hm0 : (0 : Int) < (m : Int) := by omega
        have NJ := Lib.hid (NI.out.put 0 r.1.nul)
        go_upto_region 10 with fail
        clear a2 y2 e0 ef NI
        obtain ⟨W11, hW11⟩ : ∃ W, W10.setCell ⟨gb, 0, none⟩ (.bool r.1.nul) = W := ⟨_, rfl⟩
        rw [hW11]
        have he : (List.replicate m false).set 0 r.1.nul = enTo r.1.nul r.2.labs.length (r.1.la.take 0) := by rw [← hmm, List.replicate_succ]; rfl
        rw [hW11, he] at NJ
        clear hW11 he
        go_wp2_with fail
        all_goals skip
        go_loopw [7] (fun i wr => ∃ (k : Nat), k ≤ r.1.la.length ∧ i = .int .i64 k ∧ NsI w ga gb g5 (.slice VF r.1.fi.length cvf) VT cvt A9 c9 m r.1 (nfArcs r) (enTo r.1.nul r.2.labs.length (r.1.la.take k)) wr) (fun i _ => r.1.la.length - (intOf i).toNat)
        case atStart => exact ⟨0, Nat.zero_le _, rfl, NJ.out⟩
        case round =>
          clear NJ
          obtain ⟨k, hk, rfl, hI⟩ := hrel
          have NI := Lib.hid hI
          have y1 : wr.cell? ⟨g5, 1, none⟩ = some (.slice VT r.1.la.length cvt) := blk_cell (o := 1) hI.sp rfl
          by_cases hlt : k < r.1.la.length
          · obtain ⟨ad, rfl, cL⟩ := (show RdI wr VT r.1.la.length (nI r.1.la) from Rd.of_own hI.la).at_ hlt
            rw [nI_at hlt] at cL
            have hst := enTo_next (nul := r.1.nul) (n := r.2.labs.length) hlt
            obtain ⟨x, hx⟩ : ∃ x, r.1.la.getD k 0 = x := ⟨_, rfl⟩
            have hxr := HLK.out.la.2 x (by rw [← hx]; exact getD_mem hlt)
            have hxm : x < m := by omega
            rw [hx] at cL hst
            have hel := enTo_len r.1.nul r.2.labs.length (r.1.la.take k)
            have ce := hI.eo.cellAt x (by omega)
            have ce2 : ∃ u, wr.cell? ⟨gb, x, none⟩ = some u := by
              rw [ce, List.getElem?_eq_getElem (by rw [List.length_map]; omega)]
              exact ⟨_, rfl⟩
            obtain ⟨u, cu⟩ := ce2
            have fe := hI.eo.frozenAt x
            have a2 : wr.cell? ⟨ga, 2, none⟩ = some (.slice (some ⟨gb, 0, none⟩) m m) := blk_cell (o := 2) hI.ab rfl
            have NP := Lib.hid (hI.put x true)
            rw [← hst] at NP
            have nV : ad.block ≠ gb := fun e => by
              rcases own_ne hI.la hI.eo (by decide) with h | h
              · cases h
              · exact h (by rw [← e]; rfl)
            have NV := Lib.hid nV
            have hl24 : r.1.la.length ≤ 24 := by have := HLK.out.la.len; omega
            have k0 : (0 : Int) ≤ (k : Int) := by omega
            have k1 : (k : Int) < (r.1.la.length : Int) := by omega
            have x0 : (0 : Int) ≤ (x : Int) := by omega
            have x1 : (x : Int) < (m : Int) := by omega
            clear hI hst hx ce hel nV
            go_wp2_with fail
            refine wp_region_held_drew (S := fun w' => w'.cell? ⟨ga, 2, none⟩ = some (.slice (some ⟨gb, 0, none⟩) m m) ∧ w'.cell? ⟨g5, 1, none⟩ = some (.slice (some ad) r.1.la.length cvt) ∧ w'.cell? (ad.add k) = some (.int .i64 x)) (by kernel_rfl) ⟨a2, y1, cL⟩ (fun hHeld => ?_)
            refine wpAnyH_take (i := 0) (oi := _) (v := ?_) rfl (by kernel_rfl) (by kernel_rfl) (by kernel_rfl) (fun _ _ _ h => h) (Or.inl ⟨by rfl, ?_⟩) (by assumption) ?_
            rotate_left 1
            · intro w hSw; (try dsimp only at hSw); go_simp; try with_reducible rfl
            simp only [Act.put, List.setIfInBounds_toArray]
            refine wpAnyH_take (i := 1) (oi := _) (v := ?_) rfl (by kernel_rfl) (by kernel_rfl) (by kernel_rfl) (fun _ _ _ h => h) (Or.inl ⟨by rfl, ?_⟩) (by assumption) ?_
            rotate_left 1
            · intro w hSw; (try dsimp only at hSw); go_simp; try with_reducible rfl
            simp only [Act.put]
            refine wpAnyH_take (i := 2) (oi := _) (v := ?_) rfl (by kernel_rfl) (by kernel_rfl) (by kernel_rfl) (fun _ _ _ h => h) (Or.inl ⟨by rfl, ?_⟩) (by assumption) ?_
            rotate_left 1
            · intro w hSw; (try dsimp only at hSw); go_simp; try with_reducible rfl
            simp only [Act.put]
            refine wpAnyH_take (i := 3) (oi := _) (v := ?_) rfl (by kernel_rfl) (by kernel_rfl) (by kernel_rfl) (fun _ _ _ h => h) (Or.inl ⟨by rfl, ?_⟩) (by assumption) ?_
            rotate_left 1
            · intro w hSw; (try dsimp only at hSw); go_simp; try with_reducible rfl
            simp only [Act.put]
            refine wpAnyH_take (i := 4) (oi := _) (v := ?_) rfl (by kernel_rfl) (by kernel_rfl) (by kernel_rfl) (fun _ _ _ h => h) (Or.inl ⟨by rfl, ?_⟩) (by assumption) ?_
            rotate_left 1
            · intro w hSw; (try dsimp only at hSw); go_simp; try with_reducible rfl
            simp only [Act.put]
            refine wpAnyH_take (i := 5) (oi := _) (v := ?_) rfl (by kernel_rfl) (by kernel_rfl) (by kernel_rfl) (fun _ _ _ h => h) (Or.inl ⟨by rfl, ?_⟩) (by assumption) ?_
            rotate_left 1
            · intro w hSw; (try dsimp only at hSw); go_simp; try with_reducible rfl
            simp only [Act.put]
            refine wpAnyH_take (i := 6) (oi := _) (v := ?_) rfl (by kernel_rfl) (by kernel_rfl) (by kernel_rfl) (fun _ _ _ h => h) (Or.inl ⟨by rfl, ?_⟩) (by assumption) ?_
            rotate_left 1
            · intro w hSw; (try dsimp only at hSw); go_simp; try with_reducible rfl
            simp only [Act.put]
            refine wpAnyH_take (i := 7) (oi := _) (v := ?_) rfl (by kernel_rfl) (by kernel_rfl) (by kernel_rfl) (fun _ _ _ h => h) (Or.inl ⟨by rfl, ?_⟩) (by assumption) ?_
            rotate_left 1
            · intro w hSw; (try dsimp only at hSw); go_simp; try with_reducible rfl
            simp only [Act.put]
            refine wpAnyH_ready (rs := [8]) (by kernel_rfl) (by simp) ?_
            refine AllReadyH.cons (o := _) rfl (fun K hK => ?_) AllReadyH.nil
            go_simp
            refine hK.out _ _ ⟨(World.cell?_setCell_far _ _ _ _ N1).trans hHeld.1, (World.cell?_setCell_far _ _ _ _ N2).trans hHeld.2.1, (World.cell?_of_block (Below.heap_setCell _ _ _ _ (by rw [block_of_add]; exact NV.out))).trans hHeld.2.2⟩ (fun hHeld => ?_)
            clear hK K
            try simp only [Act.put]
            refine wpAnyH_done (by kernel_rfl) ?_ _
            clear hHeld y1 a2 cL cu fe
            go_wp2
            go_roundw
            case rel => exact ⟨k + 1, by omega, by go_num, by first | exact NP.out | exact NP.out.keep ((Below.refl _ _).drew)⟩
            case measure => simp [intOf]; omega
          · obtain rfl : k = r.1.la.length := by omega
            rw [List.take_of_length_le (Nat.le_refl _), enTo_all HLK.out] at NI
            have hel := nfEnds_len r
            have hmm2 : m = (nfEnds r).length := by omega
            have hal := nfArcs_len HLK.out
            have NK := Lib.hid (fun (W : World) (h1 : RdE W A9 (nfArcs r)) => spec_NfaOk_any (m : Int) A9 (some ⟨gb, 0, none⟩) c9 m (nfArcs r) (nfEnds r) W h1 (by omega) (by omega) (fun e he => by have := (nfArcs_lab HLK.out e he).2.1; omega))
            have hpp : PP (NOk (m : Int) (nfArcs r) (nfEnds r)) = true := PP_yes (by have := ok_nf HLK.out hll; rwa [show (r.2.labs.length : Int) + 1 = (m : Int) by omega] at this)
            rw [hpp, ← hmm2] at NK
            have a0 : wr.cell? ⟨ga, 0, none⟩ = _ := blk_cell (o := 0) NI.out.ab rfl
            have a1 : wr.cell? ⟨ga, 1, none⟩ = _ := blk_cell (o := 1) NI.out.ab rfl
            have a2 : wr.cell? ⟨ga, 2, none⟩ = _ := blk_cell (o := 2) NI.out.ab rfl
            have HMM := Lib.hid hmm2
            clear hI hel hmm2 hpp hal
            go_wp2_with fail
            clear a0 a1 a2 y1
            refine (NK.out wr (Rd.of_own NI.out.ao)).mono ?_
            rintro e w13 ⟨rfl, k13⟩
            have NS := Lib.hid (NI.out.keep k13)
            have hrs := NS.out.res
            have a0 : w13.cell? ⟨ga, 0, none⟩ = _ := blk_cell (o := 0) NS.out.ab rfl
            have a1 : w13.cell? ⟨ga, 1, none⟩ = _ := blk_cell (o := 1) NS.out.ab rfl
            have a2 : w13.cell? ⟨ga, 2, none⟩ = _ := blk_cell (o := 2) NS.out.ab rfl
            have r0 : w13.cell? ⟨w.heap.size + 1, 0, none⟩ = _ := blk_cell (o := 0) hrs rfl
            have r1 : w13.cell? ⟨w.heap.size + 1, 1, none⟩ = _ := blk_cell (o := 1) hrs rfl
            have r2 : w13.cell? ⟨w.heap.size + 1, 2, none⟩ = _ := blk_cell (o := 2) hrs rfl
            have f0 : w13.frozen? ⟨w.heap.size + 1, 0, none⟩ = false := frozen_of_row w13 _ 0 _ _ hrs
            have f1 : w13.frozen? ⟨w.heap.size + 1, 1, none⟩ = false := frozen_of_row w13 _ 1 _ _ hrs
            have f2 : w13.frozen? ⟨w.heap.size + 1, 2, none⟩ = false := frozen_of_row w13 _ 2 _ _ hrs
            clear k13 hrs NI NK
            go_wp2
            refine bodyPost_ret (v := .tuple #[.agg #[.int .i64 m, .slice A9 (nfArcs r).length c9, .slice (some ⟨gb, 0, none⟩) m m], .bool true]) (by simp [results, Try.results5, go_sem, r0, r1, r2]) rfl ?_
            refine (nf_yes hyes.out).2 ?_
            rw [HR.out]
            have hm2 := HMM.out
            refine ⟨A9, c9, some ⟨gb, 0, none⟩, m, by rw [← hm2, show (r.2.labs.length : Int) + 1 = (m : Int) by omega], ⟨?_, ?_⟩, ((NS.out.bel.setCell (p := ⟨w.heap.size + 1, 0, none⟩) (Nat.le_add_right _ 1) _).setCell (p := ⟨w.heap.size + 1, 1, none⟩) (Nat.le_add_right _ 1) _).setCell (p := ⟨w.heap.size + 1, 2, none⟩) (Nat.le_add_right _ 1) _⟩
            · exact own_mono (ownsRow_setCell_below (ownsRow_setCell_below (ownsRow_setCell_below NS.out.ao (a := ⟨w.heap.size + 1, 0, none⟩) (by simp only; omega) _) (a := ⟨w.heap.size + 1, 1, none⟩) (by simp only; omega) _) (a := ⟨w.heap.size + 1, 2, none⟩) (by simp only; omega) _) (by omega)
            · rw [← hm2]
              exact own_mono (ownsRow_setCell_below (ownsRow_setCell_below (ownsRow_setCell_below NS.out.eo (a := ⟨w.heap.size + 1, 0, none⟩) (by simp only; omega) _) (a := ⟨w.heap.size + 1, 1, none⟩) (by simp only; omega) _) (a := ⟨w.heap.size + 1, 2, none⟩) (by simp only; omega) _) (by omega)
  · rw [PP_no hok] at PO
    have hno : Hid (¬ NfP ps) := Lib.hid (fun h => hok h.1)
    clear hok
    go_enter Try.func5, Try.ntmps5
    go_wp2_with fail
    clear hW2
    refine PO.out.mono ?_
    rintro e w4 ⟨rfl, k4⟩
    have hb4 := blk_below k4 P1.out
    have r0 : w4.cell? ⟨w.heap.size + 1, 0, none⟩ = _ := blk_cell (o := 0) hb4 rfl
    have r1 : w4.cell? ⟨w.heap.size + 1, 1, none⟩ = _ := blk_cell (o := 1) hb4 rfl
    have r2 : w4.cell? ⟨w.heap.size + 1, 2, none⟩ = _ := blk_cell (o := 2) hb4 rfl
    have f0 : w4.frozen? ⟨w.heap.size + 1, 0, none⟩ = false := frozen_of_row w4 _ 0 _ _ hb4
    have f1 : w4.frozen? ⟨w.heap.size + 1, 1, none⟩ = false := frozen_of_row w4 _ 1 _ _ hb4
    have f2 : w4.frozen? ⟨w.heap.size + 1, 2, none⟩ = false := frozen_of_row w4 _ 2 _ _ hb4
    have K4 := Lib.hid (below_step K2.out k4)
    clear k4 hb4
    go_wp2
    refine bodyPost_ret (v := .tuple #[.agg #[.int .i64 0, .slice none 0 0, .slice none 0 0], .bool false]) (by simp [results, Try.results5, go_sem, r0, r1, r2]) rfl ?_
    refine (nf_no hno.out).2 (MadeNB.no ?_)
    exact ((K4.out.setCell (p := ⟨w.heap.size + 1, 0, none⟩) (Nat.le_add_right _ 1) _).setCell (p := ⟨w.heap.size + 1, 1, none⟩) (Nat.le_add_right _ 1) _).setCell (p := ⟨w.heap.size + 1, 2, none⟩) (Nat.le_add_right _ 1) _
end Go.Proofs.Ytjlekcoikceidaa
