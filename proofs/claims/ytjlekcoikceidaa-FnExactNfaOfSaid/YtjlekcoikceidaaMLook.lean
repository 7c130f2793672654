/- l07Make.look: what the reference knows of a piece, and what it leaves in the maker. Conditions: a valid path, a right state. l07Make.look: an alternative. Conditions: a valid path, a right state. l07Make.look: one kid. Conditions: a valid path, a right state. l07Make.look: a step; all pieces. Conditions: a valid path, a right state. -/
import Derived.Test.YtjlekcoikceidaaMLkB
namespace Go.Proofs.Ytjlekcoikceidaa
open Go.RowKit

def LookP (gm q : Nat) (P : Value) (r : Lk × LkS) (w : World) (e : Ending) (w' : World) : Prop :=
  ∃ vf vt, e = .returned (.agg #[vf, vt, .bool r.1.nul]) ∧ OwnN w' w.heap.size vf r.1.fi ∧ OwnN w' w.heap.size vt r.1.la ∧ Ap vf vt ∧ (∃ vl va, MkI gm q P vl va r.2.labs (arcsOf r.2.labs r.2.prs) (decide (24 ≤ r.2.labs.length)) w') ∧ Kq [5] q gm w w'
def LookC (ps : List Pc) (gm : Nat) (P : Value) (w0 : World) (n : Nat) : Prop :=
  ∀ (i : Nat) (s : LkS) (w : World), i < n → i < ps.length → StOk s → s.labs.length < 24 → Below w0.heap.size w0 w → gm < w.heap.size → (∃ vl va, MkI gm w0.heap.size P vl va s.labs (arcsOf s.labs s.prs) false w) →
    Calls Try.prog 15 #[.pointer (some ⟨gm, 0, none⟩), .int .i64 i] w (LookP gm w0.heap.size P (lk ps n i s) w)
theorem OwnN.slice {w : World} {b : Nat} {v : Value} {xs : List Nat} (h : OwnN w b v xs) : ∃ A c, v = .slice A xs.length c := by
  obtain ⟨A, c, e, _, _⟩ := own_slice h
  exact ⟨A, c, e⟩
theorem OwnN.rd {w : World} {b : Nat} {A : Option Addr} {c : Nat} {xs : List Nat} (h : OwnN w b (.slice A xs.length c) xs) : Rd w 1 A xs.length ((nI xs).map (Value.int .i64)) := Rd.of_own h
theorem nI_one (xs : List Nat) : ∀ u ∈ (nI xs).map (Value.int .i64), u.oneCell' = true := by
  intro u hu
  obtain ⟨z, _, rfl⟩ := List.mem_map.1 hu
  rfl
theorem nI_cells (xs ys : List Nat) : (nI xs).map (Value.int .i64) ++ (nI ys).map (Value.int .i64) = (nI (xs ++ ys)).map (Value.int .i64) := by rw [nI_app, List.map_append]
/-- What is known is handed back. -/
theorem LkB.fin {C : LkC} {vf vt : Value} {o : Lk} {labs : List Int} {es : List Ed} {bad : Bool} {wr : World} (h : LkB C vf vt o labs es bad wr) (hC : C.Ok) (a b c : Value) :
    OwnN (((wr.setCell ⟨C.w.heap.size, 0, none⟩ a).setCell ⟨C.w.heap.size, 1, none⟩ b).setCell ⟨C.w.heap.size, 2, none⟩ c) C.w.heap.size vf o.fi ∧ OwnN (((wr.setCell ⟨C.w.heap.size, 0, none⟩ a).setCell ⟨C.w.heap.size, 1, none⟩ b).setCell ⟨C.w.heap.size, 2, none⟩ c) C.w.heap.size vt o.la ∧
    Ap vf vt ∧ (∃ vl va, MkI C.gm C.q C.P vl va labs es bad (((wr.setCell ⟨C.w.heap.size, 0, none⟩ a).setCell ⟨C.w.heap.size, 1, none⟩ b).setCell ⟨C.w.heap.size, 2, none⟩ c)) ∧ Kq [5] C.q C.gm C.w (((wr.setCell ⟨C.w.heap.size, 0, none⟩ a).setCell ⟨C.w.heap.size, 1, none⟩ b).setCell ⟨C.w.heap.size, 2, none⟩ c) := by
  obtain ⟨vl, va, hm⟩ := h.r.mm
  have hg := hC.h2
  have b0 : wr.heap[C.w.heap.size]? = some (.cells #[.slice none 0 0, .slice none 0 0, .bool false] 49 (0, 0)) := h.r.res
  have b1 : (wr.setCell ⟨C.w.heap.size, 0, none⟩ a).heap[C.w.heap.size]? = some (.cells #[a, .slice none 0 0, .bool false] 49 (0, 0)) := by simp [World.setCell, Array.getElem?_modify, b0]
  have b2 : ((wr.setCell ⟨C.w.heap.size, 0, none⟩ a).setCell ⟨C.w.heap.size, 1, none⟩ b).heap[C.w.heap.size]? = some (.cells #[a, b, .bool false] 49 (0, 0)) := by
    generalize hW : wr.setCell ⟨C.w.heap.size, 0, none⟩ a = W at b1 ⊢
    simp [World.setCell, Array.getElem?_modify, b1]
  have f1 : OwnN (wr.setCell ⟨C.w.heap.size, 0, none⟩ a) C.w.heap.size vf o.fi := own_setCell_other h.fi (row_ne h.fi b0 (by decide)) a
  have f2 : OwnN ((wr.setCell ⟨C.w.heap.size, 0, none⟩ a).setCell ⟨C.w.heap.size, 1, none⟩ b) C.w.heap.size vf o.fi := own_setCell_other f1 (row_ne f1 b1 (by decide)) b
  have l1 : OwnN (wr.setCell ⟨C.w.heap.size, 0, none⟩ a) C.w.heap.size vt o.la := own_setCell_other h.la (row_ne h.la b0 (by decide)) a
  have l2 : OwnN ((wr.setCell ⟨C.w.heap.size, 0, none⟩ a).setCell ⟨C.w.heap.size, 1, none⟩ b) C.w.heap.size vt o.la := own_setCell_other l1 (row_ne l1 b1 (by decide)) b
  exact ⟨own_setCell_other f2 (row_ne f2 b2 (by decide)) c, own_setCell_other l2 (row_ne l2 b2 (by decide)) c, h.ap,
    ⟨vl, va, ((hm.set (j := 0) b0 (by omega) (by decide) (by decide) a).set (j := 1) b1 (by omega) (by decide) (by decide) b).set (j := 2) b2 (by omega) (by decide) (by decide) c⟩,
    ((h.r.kq.set (Nat.le_refl _) a).set (Nat.le_refl _) b).set (Nat.le_refl _) c⟩
/-- What a state gives to a join. -/
theorem StOk.go {s : LkS} (h : StOk s) : GoA s.labs (arcsOf s.labs s.prs) :=
  GoA.from ⟨List.Pairwise.nil, by simp⟩ h.lab (fun p hp => by have := h.prs p hp; omega)

set_option maxRecDepth 100000 in
set_option maxHeartbeats 12800000 in
theorem look_row {ps : List Pc} (hp : PaOk ps) {w0 : World} {A : Option Addr} {cP : Nat} (hx : RdP w0 A ps) {gm : Nat} (hqg : w0.heap.size ≤ gm) {n : Nat} (IH : LookC ps gm (.slice A ps.length cP) w0 n)
    (i : Nat) (s : LkS) (w : World) (hin : i < n + 1) (hil : i < ps.length) (hs : StOk s) (hc : s.labs.length < 24) (hb : Below w0.heap.size w0 w) (hgm : gm < w.heap.size) (hm : ∃ vl va, MkI gm w0.heap.size (.slice A ps.length cP) vl va s.labs (arcsOf s.labs s.prs) false w) (hop : ps[i].op = 2) (hkl : ∀ p ∈ ps, p.k.length ≤ 4294967296) :
    Calls Try.prog 15 #[.pointer (some ⟨gm, 0, none⟩), .int .i64 i] w (LookP gm w0.heap.size (.slice A ps.length cP) (lkPc (lk ps n) ps[i] s) w) := by
  obtain ⟨i0, hi, hz0, hz1, hz2⟩ := info_parts Try.infoInt
  obtain ⟨vl, va, hm⟩ := hm
  obtain ⟨b, o, Kk, ck, rfl, c0, c1, c2, hrk⟩ := hx.at_ hil
  have ho := hp.2 i hil
  have hkids := ho.kids
  have HLK : ∀ k ∈ ps[i].k, ∀ s, StOk s → s.labs.length < 24 → LkOk s (lk ps n k.toNat s) := fun k hk s h1 h2 => by
    have := hkids k hk
    exact lk_ok hp n k.toNat s (by omega) (by omega) h1 h2
  obtain ⟨x, hxx⟩ : ∃ x, ps[i] = x := ⟨_, rfl⟩
  rw [hxx] at ho hkids c0 c1 c2 hrk HLK hop ⊢
  have hkn : x.k.length ≤ 4294967296 := by rw [← hxx]; exact hkl _ (List.getElem_mem hil)
  clear hxx hx hkl
  obtain ⟨op, l, ks⟩ := x
  simp only at ho hkids c0 c1 c2 hrk HLK hop hkn ⊢
  subst hop
  obtain ⟨F, hF⟩ : ∃ F : Nat → Lk × LkS, F = fun t => (ks.take t).foldl (lkStep (lk ps n) 2) (⟨[], [], true⟩, s) := ⟨_, rfl⟩
  have hF0 : F 0 = (⟨[], [], true⟩, s) := by rw [hF]; rfl
  have HFOK : Hid (∀ t, LkOk s (F t)) := Lib.hid (fun t => by rw [hF]; exact LkOk.fold _ _ (.start hs _) (fun k hk => HLK k (List.mem_of_mem_take hk)))
  have HFN : Hid (∀ t, t < ks.length → F (t + 1) = lkStep (lk ps n) 2 (F t) (ks.getD t 0)) := Lib.hid (fun t ht => by rw [hF]; exact lk_take ht)
  have HFE : Hid (F ks.length = lkPc (lk ps n) ⟨2, l, ks⟩ s) := Lib.hid (by
    rw [hF]
    simp only
    rw [List.take_of_length_le (Nat.le_refl _)]
    rfl)
  have HFS : Hid (∀ t, 24 ≤ (F t).2.labs.length → F t = lkPc (lk ps n) ⟨2, l, ks⟩ s) := Lib.hid (fun t ht => by
    rw [hF] at ht ⊢
    exact (lk_stop t ht).trans rfl)
  have HC : Hid (LkC.Ok ⟨w, gm, w0.heap.size, .slice (some ⟨b, o, none⟩) ps.length cP, ⟨2, l, ks⟩, Kk, ck⟩) := Lib.hid ⟨hqg, hgm⟩
  obtain ⟨RES, hRES⟩ : ∃ r, lkPc (lk ps n) ⟨2, l, ks⟩ s = r := ⟨_, rfl⟩
  rw [hRES] at HFE HFS ⊢
  have HKID : Hid (∀ t (z : Int), t < ks.length → ks.getD t 0 = z → ∃ k : Nat, z = k ∧ k < n ∧ k < ps.length) := Lib.hid (fun t z ht hz => by
    have e : ks.getD t 0 = ks[t] := by simp [List.getD, ht]
    have h1 := hkids ks[t] (List.getElem_mem ht)
    exact ⟨z.toNat, by omega, by omega, by omega⟩)
  have HRK := Lib.hid hrk
  have HB := Lib.hid hb
  have HIH := Lib.hid IH
  have HLKO := Lib.hid HLK
  have i1 : (0 : Int) ≤ (i : Int) := by omega
  have i2 : (i : Int) < (ps.length : Int) := by omega
  replace c0 := held_step hb c0
  replace c1 := held_step hb c1
  replace c2 := held_step hb c2
  have hbl : b < w.heap.size := World.block_lt_of_cell? w _ c0
  have m0 := blk_cell (o := 0) hm.box rfl
  have D0 : LkB ⟨w, gm, w0.heap.size, .slice (some ⟨b, o, none⟩) ps.length cP, ⟨2, l, ks⟩, Kk, ck⟩ (.slice none 0 0) (.slice none 0 0) (F 0).1 (F 0).2.labs (arcsOf (F 0).2.labs (F 0).2.prs) (decide (24 ≤ (F 0).2.labs.length))
      (((w.alloc (.cells #[.slice none 0 0, .slice none 0 0, .bool false] 49)).alloc (.cells #[.int .i64 2, .int .u8 l, .slice Kk ks.length ck] 78)).alloc (.cells #[.slice none 0 0, .slice none 0 0, .bool true] 49)) := by
    rw [hF0]
    have ka := below_alloc w (.cells #[.slice none 0 0, .slice none 0 0, .bool false] 49)
    have kb := below_alloc (w.alloc (.cells #[.slice none 0 0, .slice none 0 0, .bool false] 49)) (.cells #[.int .i64 2, .int .u8 l, .slice Kk ks.length ck] 78)
    have kc := below_alloc ((w.alloc (.cells #[.slice none 0 0, .slice none 0 0, .bool false] 49)).alloc (.cells #[.int .i64 2, .int .u8 l, .slice Kk ks.length ck] 78)) (.cells #[.slice none 0 0, .slice none 0 0, .bool true] 49)
    have hbad : decide (24 ≤ s.labs.length) = false := decide_eq_false (by omega)
    have p1 := heap_alloc_new (w.alloc (.cells #[.slice none 0 0, .slice none 0 0, .bool false] 49)) (.cells #[.int .i64 2, .int .u8 l, .slice Kk ks.length ck] 78)
    have p2 := heap_alloc_new ((w.alloc (.cells #[.slice none 0 0, .slice none 0 0, .bool false] 49)).alloc (.cells #[.int .i64 2, .int .u8 l, .slice Kk ks.length ck] 78)) (.cells #[.slice none 0 0, .slice none 0 0, .bool true] 49)
    rw [show (w.alloc (.cells #[.slice none 0 0, .slice none 0 0, .bool false] 49)).heap.size = w.heap.size + 1 by simp] at p1
    rw [show ((w.alloc (.cells #[.slice none 0 0, .slice none 0 0, .bool false] 49)).alloc (.cells #[.int .i64 2, .int .u8 l, .slice Kk ks.length ck] 78)).heap.size = w.heap.size + 2 by simp] at p2
    refine ⟨⟨blk_below (below_step kb kc) (heap_alloc_new _ _), blk_below kc p1, ⟨vl, va, by rw [hbad]; exact hm.below (below_step (below_step ka kb) kc)⟩, (Kq.refl _ _ _ _).below (below_step (below_step ka kb) kc)⟩, p2, World.ownsRow_nil _ _ _ _, World.ownsRow_nil _ _ _ _, Ap.nil _ _⟩
  have HD0 := Lib.hid D0
  clear D0 hF hF0 hRES hm hrk hb hkids HLK IH hs hc ho hp
  go_enter Try.func15, Try.ntmps15
  go_wp2
  clear c0 c1 c2 m0 hbl
  go_loopw [8] (fun i wr => ∃ (t : Nat) (vf vt : Value), t ≤ ks.length ∧ i = .int .i64 t ∧ LkB ⟨w, gm, w0.heap.size, .slice (some ⟨b, o, none⟩) ps.length cP, ⟨2, l, ks⟩, Kk, ck⟩ vf vt (F t).1 (F t).2.labs (arcsOf (F t).2.labs (F t).2.prs) (decide (24 ≤ (F t).2.labs.length)) wr) (fun i _ => ks.length - (intOf i).toNat)
  case atStart => exact ⟨0, _, _, Nat.zero_le _, rfl, HD0.out⟩
  case round =>
    clear HD0
    obtain ⟨t, vf, vt, ht, rfl, hD⟩ := hrel
    obtain ⟨VF, cvf, rfl⟩ := hD.fi.slice
    obtain ⟨VT, cvt, rfl⟩ := hD.la.slice
    have D := Lib.hid hD
    have hdead : (t < ks.length ∧ ¬ 24 ≤ (F t).2.labs.length) ∨ ((t < ks.length ∧ 24 ≤ (F t).2.labs.length) ∨ t = ks.length) := by omega
    obtain ⟨vl, va, hm⟩ := hD.r.mm
    have p0 : wr.cell? ⟨w.heap.size + 1, 0, none⟩ = some (.int .i64 2) := blk_cell (o := 0) hD.r.pc rfl
    have p2 : wr.cell? ⟨w.heap.size + 1, 2, none⟩ = some (.slice Kk ks.length ck) := blk_cell (o := 2) hD.r.pc rfl
    have m3 : wr.cell? ⟨gm, 3, none⟩ = some (.bool (decide (24 ≤ (F t).2.labs.length))) := blk_cell (o := 3) hm.box rfl
    rcases hdead with ⟨hlt, h24⟩ | hend
    · have hbf : decide (24 ≤ (F t).2.labs.length) = false := decide_eq_false h24
      rw [hbf] at m3 hm
      have hlti : decide ((t : Int) < (ks.length : Int)) = true := decide_eq_true (by omega)
      have hltn : decide (t < ks.length) = true := decide_eq_true hlt
      obtain ⟨z, hz⟩ : ∃ z, ks.getD t 0 = z := ⟨_, rfl⟩
      obtain ⟨k, rfl, hkn, hkl⟩ := HKID.out t z hlt hz
      obtain ⟨ad, rfl, cK⟩ := (HRK.out.below (hD.r.kq.low HB.out (Nat.le_refl _))).at_ hlt
      rw [hz] at cK
      have FOK := Lib.hid (HFOK.out t)
      have HSN : Hid (F (t + 1) = (lkNext 2 (F t).1 (lk ps n k (F t).2).1, ⟨(lk ps n k (F t).2).2.labs, (lk ps n k (F t).2).2.prs ++ lkPrs 2 (F t).1 (lk ps n k (F t).2).1⟩)) := Lib.hid (by
        rw [HFN.out t hlt, hz, lkStep_go _ _ _ h24]
        rfl)
      have CALL := Lib.hid (HIH.out k (F t).2 wr hkn hkl FOK.out.st (by omega) (hD.r.kq.low HB.out (Nat.le_refl _)) (Nat.lt_of_lt_of_le HC.out.h2 hD.r.kq.size) ⟨vl, va, hm⟩)
      have YOK : Hid (LkOk (F t).2 (lk ps n k (F t).2)) := Lib.hid (by
        have hmem : (k : Int) ∈ ks := by rw [← hz]; simp [List.getD, hlt]
        have := HLKO.out k hmem (F t).2 FOK.out.st (by omega)
        simpa using this)
      obtain ⟨y, hy⟩ : ∃ y, lk ps n k (F t).2 = y := ⟨_, rfl⟩
      obtain ⟨st, hst⟩ : ∃ st, F t = st := ⟨_, rfl⟩
      rw [hy] at HSN CALL YOK
      rw [hst] at HSN YOK FOK D
      have t0 : (0 : Int) ≤ (t : Int) := by omega
      have t1 : (t : Int) < (ks.length : Int) := by omega
      obtain ⟨on, hon⟩ : ∃ z, st.1.nul = z := ⟨_, rfl⟩
      have HON := Lib.hid hon
      clear hm hD hz hy hst hon h24 hbf
      go_wp2_with fail
      clear cK p0 p2 m3 hlti hltn
      refine CALL.out.mono ?_
      rintro e w5 ⟨yf, yt, rfl, o1, o2, ap, hm5, kq5⟩
      obtain ⟨YF, cyf, rfl⟩ := o1.slice
      obtain ⟨YT, cyt, rfl⟩ := o2.slice
      have hB5 := D.out.look HC.out kq5 hm5
      have a1 := Ap.old D.out.fi o1 (Nat.le_refl _)
      have a2 := Ap.old D.out.fi o2 (Nat.le_refl _)
      have a3 := Ap.old D.out.la o1 (Nat.le_refl _)
      have a4 := Ap.old D.out.la o2 (Nat.le_refl _)
      have hwb := D.out.r.kq.size
      have hg5 : w.heap.size + 2 < w5.heap.size := blk_lt hB5.out
      have ka := below_alloc w5 (.cells #[.slice YF y.1.fi.length cyf, .slice YT y.1.la.length cyt, .bool y.1.nul] 49)
      have qy := heap_alloc_new w5 (.cells #[.slice YF y.1.fi.length cyf, .slice YT y.1.la.length cyt, .bool y.1.nul] 49)
      have hB6 := hB5.below ka
      obtain ⟨yn, hyn⟩ : ∃ z, y.1.nul = z := ⟨_, rfl⟩
      have HYN := Lib.hid hyn
      have hY6 : LkY w5.heap.size wr.heap.size _ _ _ _ y.1 (w5.alloc (.cells #[.slice YF y.1.fi.length cyf, .slice YT y.1.la.length cyt, .bool y.1.nul] 49)) := ⟨qy, own_below o1 ka, own_below o2 ka, ap, a1, a2, a3, a4⟩
      obtain ⟨g6, hg6⟩ : ∃ g, w5.heap.size = g := ⟨_, rfl⟩
      rw [hyn] at hY6 hB6
      obtain ⟨W6, hW6⟩ : ∃ W, w5.alloc (.cells #[.slice YF y.1.fi.length cyf, .slice YT y.1.la.length cyt, .bool yn] 49) = W := ⟨_, rfl⟩
      rw [hW6] at hY6 hB6
      rw [hg6] at hY6 hg5
      have hyb := hY6.yb
      rw [hyn] at hyb
      have HY6 := Lib.hid hY6
      have HB6 := Lib.hid hB6
      have HG5 := Lib.hid hg5
      have HWB := Lib.hid hwb
      have hob := hB6.out
      rw [HON.out] at hob
      have p0 : W6.cell? ⟨w.heap.size + 1, 0, none⟩ = some (.int .i64 2) := blk_cell (o := 0) hB6.r.pc rfl
      have o0 : W6.cell? ⟨w.heap.size + 2, 0, none⟩ = _ := blk_cell (o := 0) hob rfl
      have o1 : W6.cell? ⟨w.heap.size + 2, 1, none⟩ = _ := blk_cell (o := 1) hob rfl
      have o2 : W6.cell? ⟨w.heap.size + 2, 2, none⟩ = _ := blk_cell (o := 2) hob rfl
      have y0 := blk_cell (o := 0) hyb rfl
      have y1 := blk_cell (o := 1) hyb rfl
      have y2 := blk_cell (o := 2) hyb rfl
      have f0 : W6.frozen? ⟨w.heap.size + 2, 0, none⟩ = false := frozen_of_row W6 _ 0 _ _ hob
      have f1 : W6.frozen? ⟨w.heap.size + 2, 1, none⟩ = false := frozen_of_row W6 _ 1 _ _ hob
      have f2 : W6.frozen? ⟨w.heap.size + 2, 2, none⟩ = false := frozen_of_row W6 _ 2 _ _ hob
      clear CALL D hm5 kq5 hB5 a1 a2 a3 a4 ka qy ap hB6 hY6 hyb hob hg5 hwb
      go_wp2_with fail
      clear hW6 hg6
      obtain ⟨vl6, va6, hm6⟩ := HB6.out.r.mm
      have HM6 := Lib.hid hm6
      have hyle := YOK.out.le
      refine (join_any gm w0.heap.size w.heap.size wr.heap.size _ y.2.labs (arcsOf y.2.labs y.2.prs) _ vl6 va6 VT YF cvt cyf st.1.la y.1.fi W6 hm6 (by have := HC.out.h1; have := HC.out.h2; have := blk_lt HB6.out.out; simp only at *; omega) HB6.out.la HY6.out.yfi YOK.out.st.len YOK.out.st.lab YOK.out.st.go
        (fun z hz => by have := FOK.out.la.2 z hz; omega) (fun z hz => by have := YOK.out.fi.2 z hz; omega) (by have := FOK.out.la.len; have := YOK.out.st.len; omega) (by have := YOK.out.fi.len; have := YOK.out.st.len; omega)).mono ?_
      rintro e w7 ⟨rfl, va7, hm7, hg7⟩
      clear hyle hm6 o0 o1 o2 y0 y1 y2 f0 f1 f2 p0
      have hB7 := HB6.out.only HC.out hg7 ⟨_, _, hm7⟩
      have hY7 := HY6.out.only hg7 HM6.out.box (by have := HG5.out; have := HC.out.h2; simp only at *; omega)
      rw [← arcsOf_app] at hB7
      have hyb := hY7.yb
      rw [HYN.out] at hyb
      have hob := hB7.out
      rw [HON.out] at hob
      have HB7 := Lib.hid hB7
      have HY7 := Lib.hid hY7
      have p0 : w7.cell? ⟨w.heap.size + 1, 0, none⟩ = some (.int .i64 2) := blk_cell (o := 0) hB7.r.pc rfl
      have o0 : w7.cell? ⟨w.heap.size + 2, 0, none⟩ = _ := blk_cell (o := 0) hob rfl
      have o1 : w7.cell? ⟨w.heap.size + 2, 1, none⟩ = _ := blk_cell (o := 1) hob rfl
      have o2 : w7.cell? ⟨w.heap.size + 2, 2, none⟩ = _ := blk_cell (o := 2) hob rfl
      have y0 := blk_cell (o := 0) hyb rfl
      have y1 := blk_cell (o := 1) hyb rfl
      have y2 := blk_cell (o := 2) hyb rfl
      have f0 : w7.frozen? ⟨w.heap.size + 2, 0, none⟩ = false := frozen_of_row w7 _ 0 _ _ hob
      have f1 : w7.frozen? ⟨w.heap.size + 2, 1, none⟩ = false := frozen_of_row w7 _ 1 _ _ hob
      have f2 : w7.frozen? ⟨w.heap.size + 2, 2, none⟩ = false := frozen_of_row w7 _ 2 _ _ hob
      have l1 : st.1.fi.length ≤ 24 := by have := FOK.out.fi.len; have := FOK.out.st.len; omega
      have l2 : st.1.la.length ≤ 24 := by have := FOK.out.la.len; have := FOK.out.st.len; omega
      have l3 : y.1.fi.length ≤ 24 := by have := YOK.out.fi.len; have := YOK.out.st.len; omega
      have l4 : y.1.la.length ≤ 24 := by have := YOK.out.la.len; have := YOK.out.st.len; omega
      have hwl7 : w.heap.size ≤ w7.heap.size := by have h : w.heap.size + 2 < w7.heap.size := blk_lt hob; omega
      clear hB7 hY7 hm7 hg7 hyb hob HM6
      have hwl := hwl7
      cases on
      · go_upto_region 24 with fail
        clear p0 o0 y0 f0
        have HB9 := HB7
        have HY9 := HY7
        clear HB7 HY7
        cases yn
        · go_upto_region 27 with fail
          clear o1 o2 y1 y2 f1 f2
          have HB10 := Lib.hid (HB9.out.set1 HC.out (own_mono HY9.out.yla HWB.out) HY9.out.a2)
          have HY10 := Lib.hid (HY9.out.set (j := 1) HB9.out.out (show g6 ≠ w.heap.size + 2 by have := HG5.out; omega) (by decide) (.slice YT y.1.la.length cyt))
          obtain ⟨W10, hW10⟩ : ∃ W, w7.setCell ⟨w.heap.size + 1 + 1, 1, none⟩ (.slice YT y.1.la.length cyt) = W := ⟨_, rfl⟩
          rw [hW10]
          have HB10 := Lib.hid (show _ from hW10 ▸ HB10.out)
          have HY10 := Lib.hid (show _ from hW10 ▸ HY10.out)
          have hob := HB10.out.out
          simp only [HON.out] at hob
          have hyb := HY10.out.yb
          rw [HYN.out] at hyb
          have o2 : W10.cell? ⟨w.heap.size + 2, 2, none⟩ = _ := blk_cell (o := 2) hob rfl
          have y2 := blk_cell (o := 2) hyb rfl
          have f2 : W10.frozen? ⟨w.heap.size + 2, 2, none⟩ = false := frozen_of_row W10 _ 2 _ _ hob
          clear hob hyb
          have HB11 := Lib.hid (HB10.out.set2 HC.out false)
          have HNX : Hid (F (t + 1) = (⟨st.1.fi, y.1.la, false⟩, ⟨y.2.labs, y.2.prs ++ prsOf st.1.la y.1.fi⟩)) := Lib.hid (by
            rw [HSN.out]
            unfold lkNext lkPrs
            rw [if_pos rfl, if_pos rfl, HON.out, HYN.out]
            rfl)
          go_wp2
          go_roundw
          case rel => exact ⟨t + 1, _, _, by omega, by go_num, by rw [HNX.out]; exact HB11.out⟩
          case measure => simp [intOf]; omega
        · have ka : Below w7.heap.size w7 (w7.alloc (.cells #[] 3)).drew := (below_alloc w7 _).drew
          have HBA := Lib.hid (HB9.out.below ka)
          have HE : Hid ((w7.alloc (.cells #[] 3)).drew.ownsRow w7.heap.size 3 1 (.slice (some ⟨w7.heap.size, 0, none⟩) 0 0) 0 []) := Lib.hid (World.ownsRow_made w7 (base := w7.heap.size) (e := 3) (size := 1) #[] 0 (by simp) (by unfold maxLen; omega) rfl)
          have hob := HBA.out.out
          simp only [HON.out] at hob
          have oa : (w7.alloc (.cells #[] 3)).drew.cell? ⟨w.heap.size + 2, 1, none⟩ = _ := blk_cell (o := 1) hob rfl
          have KA := Lib.hid ka
          have hwa : w7.heap.size ≤ (w7.alloc (.cells #[] 3)).drew.heap.size := ka.size
          have Y1 := Lib.hid y1
          clear hob ka
          go_wp2_with fail
          refine wp_region_held_drew (S := fun w' => w'.cell? ⟨g6, 1, none⟩ = some (.slice YT y.1.la.length cyt)) (by kernel_rfl) y1 (fun hHeld => ?_)
          refine wpAnyH_take (i := 1) (oi := _) (v := ?_) rfl (by kernel_rfl) (by kernel_rfl) (by kernel_rfl) (fun _ _ _ h => h) (Or.inl ⟨by rfl, ?_⟩) (by assumption) ?_
          rotate_left 1
          · intro w hSw; (try dsimp only at hSw); go_simp; try with_reducible rfl
          simp only [Act.put, List.setIfInBounds_toArray]
          refine wpAnyH_take (i := 4) (oi := _) (v := ?_) rfl (by kernel_rfl) (by kernel_rfl) (by kernel_rfl) (fun _ _ _ h => h) (Or.inl ⟨by rfl, ?_⟩) (by assumption) ?_
          rotate_left 1
          · intro w hSw; (try dsimp only at hSw); go_simp; try with_reducible rfl
          simp only [Act.put]
          refine wpAnyH_take (i := 5) (oi := _) (v := ?_) rfl (by kernel_rfl) (by kernel_rfl) (by kernel_rfl) (fun _ _ _ h => h) (Or.inl ⟨by rfl, ?_⟩) (by assumption) ?_
          rotate_left 1
          · intro w hSw; (try dsimp only at hSw); go_simp; try with_reducible rfl
          simp only [Act.put]
          refine wpAnyH_ready (rs := [0, 2]) (by kernel_rfl) (by simp) ?_
          refine AllReadyH.cons (o := _) rfl (fun K hK => ?_) (AllReadyH.cons (o := _) rfl (fun K hK => ?_) AllReadyH.nil)
          · go_simp
            refine hK.out _ _ (held_step (below_alloc _ _) hHeld) (fun hHeld => ?_)
            clear hK K
            try simp only [Act.put]
            refine wpAnyH_ready (rs := [2]) (by kernel_rfl) (by simp) ?_
            refine AllReadyH.cons (o := _) rfl (fun K hK => ?_) AllReadyH.nil
            go_simp
            refine hK.out _ _ hHeld (fun hHeld => ?_)
            clear hK K
            try simp only [Act.put]
            refine wpAnyH_ready (rs := [3]) (by kernel_rfl) (by simp) ?_
            refine AllReadyH.cons (o := _) rfl (fun K hK => ?_) AllReadyH.nil
            refine step_append_any _ rfl (.tmp 111) (.tmp 113) 47 rfl w7.heap.size 3 i0 _ 1 8 Try.underlying47 hi hz0 hz1 hz2 rfl (by decide) (.slice (some ⟨w7.heap.size, 0, none⟩) 0 0) 0 [] rfl HE.out VT st.1.la.length cvt _ rfl HBA.out.la.rd (nI_one _) (by unfold maxLen; omega) (by omega) hwa ?_
            intro v10 w10 hown10 hg10 hv10
            have HO10 : Hid (OwnN w10 w7.heap.size v10 st.1.la) := Lib.hid (by simpa [OwnN] using hown10)
            have K10 := Lib.hid (KA.out.grown hg10 KA.out.size (fun r hr => (HE.out.lt r hr).1))
            have hw10 : w7.heap.size ≤ w10.heap.size := K10.out.size
            clear hown10 hg10 hv10
            refine hK.out _ _ (held_step K10.out Y1.out) (fun hHeld => ?_)
            clear hK K
            try simp only [Act.put]
            refine wpAnyH_ready (rs := [6]) (by kernel_rfl) (by simp) ?_
            refine AllReadyH.cons (o := _) rfl (fun K hK => ?_) AllReadyH.nil
            refine step_append_any _ rfl (.tmp 114) (.tmp 116) 47 rfl w7.heap.size 3 i0 _ 1 8 Try.underlying47 hi hz0 hz1 hz2 rfl (by decide) v10 st.1.la.length _ rfl HO10.out YT y.1.la.length cyt _ rfl (HY9.out.below K10.out).yla.rd (nI_one _) (by unfold maxLen; omega) (by omega) hw10 ?_
            intro v11 w11 hown11 hg11 hv11
            obtain ⟨A11, c11, rfl, _, _⟩ := own_slice hown11
            have HO11 : Hid (OwnN w11 w7.heap.size (.slice A11 (st.1.la.length + y.1.la.length) c11) (st.1.la ++ y.1.la)) := Lib.hid (by unfold OwnN; rw [List.length_append, ← nI_cells]; exact hown11)
            have K11 := Lib.hid (K10.out.grown hg11 K10.out.size (fun r hr => (HO10.out.lt r hr).1))
            have hob := (HB9.out.below K11.out).out
            simp only [HON.out] at hob
            have ob1 : w11.cell? ⟨w.heap.size + 2, 1, none⟩ = _ := blk_cell (o := 1) hob rfl
            have of1 : w11.frozen? ⟨w.heap.size + 2, 1, none⟩ = false := frozen_of_row w11 _ 1 _ _ hob
            clear hown11 hg11 hv11 hob
            refine hK.out _ _ (held_step K11.out Y1.out) (fun hHeld => ?_)
            clear hK K
            try simp only [Act.put]
            refine wpAnyH_take (i := 7) (oi := _) (v := ?_) rfl (by kernel_rfl) (by kernel_rfl) (by kernel_rfl) (fun _ _ _ h => h) (Or.inl ⟨by rfl, ?_⟩) (by assumption) ?_
            rotate_left 1
            · intro w hSw; (try dsimp only at hSw); go_simp; try with_reducible rfl
            simp only [Act.put, List.setIfInBounds_toArray]
            refine wpAnyH_ready (rs := [8]) (by kernel_rfl) (by simp) ?_
            refine AllReadyH.cons (o := _) rfl (fun K hK => ?_) AllReadyH.nil
            go_simp
            refine hK.out _ _ ((World.cell?_setCell_far _ _ _ _ (show w.heap.size + 2 ≠ g6 by have := HG5.out; omega)).trans hHeld) (fun hHeld => ?_)
            clear hK K
            try simp only [Act.put]
            refine wpAnyH_done (by kernel_rfl) ?_ _
            clear hHeld o1 o2 y1 y2 f1 f2 ob1 of1 oa
            have HB10 := Lib.hid ((HB9.out.below K11.out).set1 HC.out (own_mono HO11.out (show w.heap.size ≤ _ by have h : w.heap.size + 2 < w7.heap.size := blk_lt HB9.out.out; omega)) (Ap.old HB9.out.fi HO11.out (Nat.le_refl _)))
            have HY10 := Lib.hid ((HY9.out.below K11.out).set (j := 1) (HB9.out.below K11.out).out (show g6 ≠ w.heap.size + 2 by have := HG5.out; omega) (by decide) (.slice A11 (st.1.la.length + y.1.la.length) c11))
            obtain ⟨W10, hW10⟩ : ∃ W, w11.setCell ⟨w.heap.size + 1 + 1, 1, none⟩ (.slice A11 (st.1.la.length + y.1.la.length) c11) = W := ⟨_, rfl⟩
            rw [hW10]
            have HB10 := Lib.hid (show _ from hW10 ▸ HB10.out)
            have HY10 := Lib.hid (show _ from hW10 ▸ HY10.out)
            have hob := HB10.out.out
            simp only [HON.out] at hob
            have hyb := HY10.out.yb
            rw [HYN.out] at hyb
            have o2 : W10.cell? ⟨w.heap.size + 2, 2, none⟩ = _ := blk_cell (o := 2) hob rfl
            have y2 := blk_cell (o := 2) hyb rfl
            have f2 : W10.frozen? ⟨w.heap.size + 2, 2, none⟩ = false := frozen_of_row W10 _ 2 _ _ hob
            clear hob hyb
            have HB11 := Lib.hid (HB10.out.set2 HC.out false)
            have HNX : Hid (F (t + 1) = (⟨st.1.fi, st.1.la ++ y.1.la, false⟩, ⟨y.2.labs, y.2.prs ++ prsOf st.1.la y.1.fi⟩)) := Lib.hid (by
              rw [HSN.out]
              unfold lkNext lkPrs
              rw [if_pos rfl, if_pos rfl, HON.out, HYN.out]
              rfl)
            go_wp2
            go_roundw
            case rel => exact ⟨t + 1, _, _, by omega, by go_num, by rw [HNX.out]; exact HB11.out⟩
            case measure => simp [intOf]; omega
          · go_simp
            refine hK.out _ _ hHeld (fun hHeld => ?_)
            clear hK K
            try simp only [Act.put]
            refine wpAnyH_ready (rs := [0]) (by kernel_rfl) (by simp) ?_
            refine AllReadyH.cons (o := _) rfl (fun K hK => ?_) AllReadyH.nil
            go_simp
            refine hK.out _ _ (held_step (below_alloc _ _) hHeld) (fun hHeld => ?_)
            clear hK K
            try simp only [Act.put]
            refine wpAnyH_ready (rs := [3]) (by kernel_rfl) (by simp) ?_
            refine AllReadyH.cons (o := _) rfl (fun K hK => ?_) AllReadyH.nil
            refine step_append_any _ rfl (.tmp 111) (.tmp 113) 47 rfl w7.heap.size 3 i0 _ 1 8 Try.underlying47 hi hz0 hz1 hz2 rfl (by decide) (.slice (some ⟨w7.heap.size, 0, none⟩) 0 0) 0 [] rfl HE.out VT st.1.la.length cvt _ rfl HBA.out.la.rd (nI_one _) (by unfold maxLen; omega) (by omega) hwa ?_
            intro v10 w10 hown10 hg10 hv10
            have HO10 : Hid (OwnN w10 w7.heap.size v10 st.1.la) := Lib.hid (by simpa [OwnN] using hown10)
            have K10 := Lib.hid (KA.out.grown hg10 KA.out.size (fun r hr => (HE.out.lt r hr).1))
            have hw10 : w7.heap.size ≤ w10.heap.size := K10.out.size
            clear hown10 hg10 hv10
            refine hK.out _ _ (held_step K10.out Y1.out) (fun hHeld => ?_)
            clear hK K
            try simp only [Act.put]
            refine wpAnyH_ready (rs := [6]) (by kernel_rfl) (by simp) ?_
            refine AllReadyH.cons (o := _) rfl (fun K hK => ?_) AllReadyH.nil
            refine step_append_any _ rfl (.tmp 114) (.tmp 116) 47 rfl w7.heap.size 3 i0 _ 1 8 Try.underlying47 hi hz0 hz1 hz2 rfl (by decide) v10 st.1.la.length _ rfl HO10.out YT y.1.la.length cyt _ rfl (HY9.out.below K10.out).yla.rd (nI_one _) (by unfold maxLen; omega) (by omega) hw10 ?_
            intro v11 w11 hown11 hg11 hv11
            obtain ⟨A11, c11, rfl, _, _⟩ := own_slice hown11
            have HO11 : Hid (OwnN w11 w7.heap.size (.slice A11 (st.1.la.length + y.1.la.length) c11) (st.1.la ++ y.1.la)) := Lib.hid (by unfold OwnN; rw [List.length_append, ← nI_cells]; exact hown11)
            have K11 := Lib.hid (K10.out.grown hg11 K10.out.size (fun r hr => (HO10.out.lt r hr).1))
            have hob := (HB9.out.below K11.out).out
            simp only [HON.out] at hob
            have ob1 : w11.cell? ⟨w.heap.size + 2, 1, none⟩ = _ := blk_cell (o := 1) hob rfl
            have of1 : w11.frozen? ⟨w.heap.size + 2, 1, none⟩ = false := frozen_of_row w11 _ 1 _ _ hob
            clear hown11 hg11 hv11 hob
            refine hK.out _ _ (held_step K11.out Y1.out) (fun hHeld => ?_)
            clear hK K
            try simp only [Act.put]
            refine wpAnyH_take (i := 7) (oi := _) (v := ?_) rfl (by kernel_rfl) (by kernel_rfl) (by kernel_rfl) (fun _ _ _ h => h) (Or.inl ⟨by rfl, ?_⟩) (by assumption) ?_
            rotate_left 1
            · intro w hSw; (try dsimp only at hSw); go_simp; try with_reducible rfl
            simp only [Act.put, List.setIfInBounds_toArray]
            refine wpAnyH_ready (rs := [8]) (by kernel_rfl) (by simp) ?_
            refine AllReadyH.cons (o := _) rfl (fun K hK => ?_) AllReadyH.nil
            go_simp
            refine hK.out _ _ ((World.cell?_setCell_far _ _ _ _ (show w.heap.size + 2 ≠ g6 by have := HG5.out; omega)).trans hHeld) (fun hHeld => ?_)
            clear hK K
            try simp only [Act.put]
            refine wpAnyH_done (by kernel_rfl) ?_ _
            clear hHeld o1 o2 y1 y2 f1 f2 ob1 of1 oa
            have HB10 := Lib.hid ((HB9.out.below K11.out).set1 HC.out (own_mono HO11.out (show w.heap.size ≤ _ by have h : w.heap.size + 2 < w7.heap.size := blk_lt HB9.out.out; omega)) (Ap.old HB9.out.fi HO11.out (Nat.le_refl _)))
            have HY10 := Lib.hid ((HY9.out.below K11.out).set (j := 1) (HB9.out.below K11.out).out (show g6 ≠ w.heap.size + 2 by have := HG5.out; omega) (by decide) (.slice A11 (st.1.la.length + y.1.la.length) c11))
            obtain ⟨W10, hW10⟩ : ∃ W, w11.setCell ⟨w.heap.size + 1 + 1, 1, none⟩ (.slice A11 (st.1.la.length + y.1.la.length) c11) = W := ⟨_, rfl⟩
            rw [hW10]
            have HB10 := Lib.hid (show _ from hW10 ▸ HB10.out)
            have HY10 := Lib.hid (show _ from hW10 ▸ HY10.out)
            have hob := HB10.out.out
            simp only [HON.out] at hob
            have hyb := HY10.out.yb
            rw [HYN.out] at hyb
            have o2 : W10.cell? ⟨w.heap.size + 2, 2, none⟩ = _ := blk_cell (o := 2) hob rfl
            have y2 := blk_cell (o := 2) hyb rfl
            have f2 : W10.frozen? ⟨w.heap.size + 2, 2, none⟩ = false := frozen_of_row W10 _ 2 _ _ hob
            clear hob hyb
            have HB11 := Lib.hid (HB10.out.set2 HC.out false)
            have HNX : Hid (F (t + 1) = (⟨st.1.fi, st.1.la ++ y.1.la, false⟩, ⟨y.2.labs, y.2.prs ++ prsOf st.1.la y.1.fi⟩)) := Lib.hid (by
              rw [HSN.out]
              unfold lkNext lkPrs
              rw [if_pos rfl, if_pos rfl, HON.out, HYN.out]
              rfl)
            go_wp2
            go_roundw
            case rel => exact ⟨t + 1, _, _, by omega, by go_num, by rw [HNX.out]; exact HB11.out⟩
            case measure => simp [intOf]; omega
      · go_upto_region 23 with fail
        clear p0 o1 o2 y1 y2 f1 f2
        go_upto_region 24 with
          (first
            | (at_builtin
               refine wpList_append_any _ rfl (.tmp 104) (.tmp 106) 47 rfl w.heap.size 3 i0 _ 1 8 Try.underlying47 hi hz0 hz1 hz2 rfl (by decide) (.slice VF st.1.fi.length cvf) st.1.fi.length _ rfl HB7.out.fi YF y.1.fi.length cyf _ rfl HY7.out.yfi.rd (nI_one _) (by unfold maxLen; omega) (by omega) hwl ?_
               intro v8 w8 hown8 hg8 hv8
               obtain ⟨A8, c8, rfl, _, _⟩ := own_slice hown8
               have hO8 : OwnN w8 w.heap.size (.slice A8 (st.1.fi.length + y.1.fi.length) c8) (st.1.fi ++ y.1.fi) := by (unfold OwnN; rw [List.length_append, ← nI_cells]; exact hown8)
               have hob8 := (hg8.block _ (blk_lt HB7.out.out) (fun e => row_ne HB7.out.fi HB7.out.out (by decide) e.symm)).trans HB7.out.out
               have HB9 := Lib.hid (HB7.out.app0 HC.out hg8 hO8 hv8)
               have HY9 := Lib.hid ((HY7.out.app0 HB7.out.fi hg8 hv8).set (j := 0) hob8 (show g6 ≠ w.heap.size + 2 by have := HG5.out; omega) (by decide) (.slice A8 (st.1.fi.length + y.1.fi.length) c8))
               have q0 : w8.cell? ⟨w.heap.size + 2, 0, none⟩ = _ := blk_cell (o := 0) hob8 rfl
               have qf : w8.frozen? ⟨w.heap.size + 2, 0, none⟩ = false := frozen_of_row w8 _ 0 _ _ hob8
               clear hown8 hg8 hv8 hob8 hO8))
        clear o0 y0 f0 q0 qf
        obtain ⟨W9, hW9⟩ : ∃ W, w8.setCell ⟨w.heap.size + 1 + 1, 0, none⟩ (.slice A8 (st.1.fi.length + y.1.fi.length) c8) = W := ⟨_, rfl⟩
        rw [hW9]
        have HB9 := Lib.hid (show _ from hW9 ▸ HB9.out)
        have HY9 := Lib.hid (show _ from hW9 ▸ HY9.out)
        have hob := HB9.out.out
        simp only [HON.out] at hob
        have hyb := HY9.out.yb
        rw [HYN.out] at hyb
        have o1 : W9.cell? ⟨w.heap.size + 2, 1, none⟩ = _ := blk_cell (o := 1) hob rfl
        have o2 : W9.cell? ⟨w.heap.size + 2, 2, none⟩ = _ := blk_cell (o := 2) hob rfl
        have y1 := blk_cell (o := 1) hyb rfl
        have y2 := blk_cell (o := 2) hyb rfl
        have f1 : W9.frozen? ⟨w.heap.size + 2, 1, none⟩ = false := frozen_of_row W9 _ 1 _ _ hob
        have f2 : W9.frozen? ⟨w.heap.size + 2, 2, none⟩ = false := frozen_of_row W9 _ 2 _ _ hob
        clear hob hyb
        cases yn
        · go_upto_region 27 with fail
          clear o1 o2 y1 y2 f1 f2
          have HB10 := Lib.hid (HB9.out.set1 HC.out (own_mono HY9.out.yla HWB.out) HY9.out.a2)
          have HY10 := Lib.hid (HY9.out.set (j := 1) HB9.out.out (show g6 ≠ w.heap.size + 2 by have := HG5.out; omega) (by decide) (.slice YT y.1.la.length cyt))
          obtain ⟨W10, hW10⟩ : ∃ W, W9.setCell ⟨w.heap.size + 1 + 1, 1, none⟩ (.slice YT y.1.la.length cyt) = W := ⟨_, rfl⟩
          rw [hW10]
          have HB10 := Lib.hid (show _ from hW10 ▸ HB10.out)
          have HY10 := Lib.hid (show _ from hW10 ▸ HY10.out)
          have hob := HB10.out.out
          simp only [HON.out] at hob
          have hyb := HY10.out.yb
          rw [HYN.out] at hyb
          have o2 : W10.cell? ⟨w.heap.size + 2, 2, none⟩ = _ := blk_cell (o := 2) hob rfl
          have y2 := blk_cell (o := 2) hyb rfl
          have f2 : W10.frozen? ⟨w.heap.size + 2, 2, none⟩ = false := frozen_of_row W10 _ 2 _ _ hob
          clear hob hyb
          have HB11 := Lib.hid (HB10.out.set2 HC.out false)
          have HNX : Hid (F (t + 1) = (⟨st.1.fi ++ y.1.fi, y.1.la, false⟩, ⟨y.2.labs, y.2.prs ++ prsOf st.1.la y.1.fi⟩)) := Lib.hid (by
            rw [HSN.out]
            unfold lkNext lkPrs
            rw [if_pos rfl, if_pos rfl, HON.out, HYN.out]
            rfl)
          go_wp2
          go_roundw
          case rel => exact ⟨t + 1, _, _, by omega, by go_num, by rw [HNX.out]; exact HB11.out⟩
          case measure => simp [intOf]; omega
        · have ka : Below W9.heap.size W9 (W9.alloc (.cells #[] 3)).drew := (below_alloc W9 _).drew
          have HBA := Lib.hid (HB9.out.below ka)
          have HE : Hid ((W9.alloc (.cells #[] 3)).drew.ownsRow W9.heap.size 3 1 (.slice (some ⟨W9.heap.size, 0, none⟩) 0 0) 0 []) := Lib.hid (World.ownsRow_made W9 (base := W9.heap.size) (e := 3) (size := 1) #[] 0 (by simp) (by unfold maxLen; omega) rfl)
          have hob := HBA.out.out
          simp only [HON.out] at hob
          have oa : (W9.alloc (.cells #[] 3)).drew.cell? ⟨w.heap.size + 2, 1, none⟩ = _ := blk_cell (o := 1) hob rfl
          have KA := Lib.hid ka
          have hwa : W9.heap.size ≤ (W9.alloc (.cells #[] 3)).drew.heap.size := ka.size
          have Y1 := Lib.hid y1
          clear hob ka
          go_wp2_with fail
          refine wp_region_held_drew (S := fun w' => w'.cell? ⟨g6, 1, none⟩ = some (.slice YT y.1.la.length cyt)) (by kernel_rfl) y1 (fun hHeld => ?_)
          refine wpAnyH_take (i := 1) (oi := _) (v := ?_) rfl (by kernel_rfl) (by kernel_rfl) (by kernel_rfl) (fun _ _ _ h => h) (Or.inl ⟨by rfl, ?_⟩) (by assumption) ?_
          rotate_left 1
          · intro w hSw; (try dsimp only at hSw); go_simp; try with_reducible rfl
          simp only [Act.put, List.setIfInBounds_toArray]
          refine wpAnyH_take (i := 4) (oi := _) (v := ?_) rfl (by kernel_rfl) (by kernel_rfl) (by kernel_rfl) (fun _ _ _ h => h) (Or.inl ⟨by rfl, ?_⟩) (by assumption) ?_
          rotate_left 1
          · intro w hSw; (try dsimp only at hSw); go_simp; try with_reducible rfl
          simp only [Act.put]
          refine wpAnyH_take (i := 5) (oi := _) (v := ?_) rfl (by kernel_rfl) (by kernel_rfl) (by kernel_rfl) (fun _ _ _ h => h) (Or.inl ⟨by rfl, ?_⟩) (by assumption) ?_
          rotate_left 1
          · intro w hSw; (try dsimp only at hSw); go_simp; try with_reducible rfl
          simp only [Act.put]
          refine wpAnyH_ready (rs := [0, 2]) (by kernel_rfl) (by simp) ?_
          refine AllReadyH.cons (o := _) rfl (fun K hK => ?_) (AllReadyH.cons (o := _) rfl (fun K hK => ?_) AllReadyH.nil)
          · go_simp
            refine hK.out _ _ (held_step (below_alloc _ _) hHeld) (fun hHeld => ?_)
            clear hK K
            try simp only [Act.put]
            refine wpAnyH_ready (rs := [2]) (by kernel_rfl) (by simp) ?_
            refine AllReadyH.cons (o := _) rfl (fun K hK => ?_) AllReadyH.nil
            go_simp
            refine hK.out _ _ hHeld (fun hHeld => ?_)
            clear hK K
            try simp only [Act.put]
            refine wpAnyH_ready (rs := [3]) (by kernel_rfl) (by simp) ?_
            refine AllReadyH.cons (o := _) rfl (fun K hK => ?_) AllReadyH.nil
            refine step_append_any _ rfl (.tmp 111) (.tmp 113) 47 rfl W9.heap.size 3 i0 _ 1 8 Try.underlying47 hi hz0 hz1 hz2 rfl (by decide) (.slice (some ⟨W9.heap.size, 0, none⟩) 0 0) 0 [] rfl HE.out VT st.1.la.length cvt _ rfl HBA.out.la.rd (nI_one _) (by unfold maxLen; omega) (by omega) hwa ?_
            intro v10 w10 hown10 hg10 hv10
            have HO10 : Hid (OwnN w10 W9.heap.size v10 st.1.la) := Lib.hid (by simpa [OwnN] using hown10)
            have K10 := Lib.hid (KA.out.grown hg10 KA.out.size (fun r hr => (HE.out.lt r hr).1))
            have hw10 : W9.heap.size ≤ w10.heap.size := K10.out.size
            clear hown10 hg10 hv10
            refine hK.out _ _ (held_step K10.out Y1.out) (fun hHeld => ?_)
            clear hK K
            try simp only [Act.put]
            refine wpAnyH_ready (rs := [6]) (by kernel_rfl) (by simp) ?_
            refine AllReadyH.cons (o := _) rfl (fun K hK => ?_) AllReadyH.nil
            refine step_append_any _ rfl (.tmp 114) (.tmp 116) 47 rfl W9.heap.size 3 i0 _ 1 8 Try.underlying47 hi hz0 hz1 hz2 rfl (by decide) v10 st.1.la.length _ rfl HO10.out YT y.1.la.length cyt _ rfl (HY9.out.below K10.out).yla.rd (nI_one _) (by unfold maxLen; omega) (by omega) hw10 ?_
            intro v11 w11 hown11 hg11 hv11
            obtain ⟨A11, c11, rfl, _, _⟩ := own_slice hown11
            have HO11 : Hid (OwnN w11 W9.heap.size (.slice A11 (st.1.la.length + y.1.la.length) c11) (st.1.la ++ y.1.la)) := Lib.hid (by unfold OwnN; rw [List.length_append, ← nI_cells]; exact hown11)
            have K11 := Lib.hid (K10.out.grown hg11 K10.out.size (fun r hr => (HO10.out.lt r hr).1))
            have hob := (HB9.out.below K11.out).out
            simp only [HON.out] at hob
            have ob1 : w11.cell? ⟨w.heap.size + 2, 1, none⟩ = _ := blk_cell (o := 1) hob rfl
            have of1 : w11.frozen? ⟨w.heap.size + 2, 1, none⟩ = false := frozen_of_row w11 _ 1 _ _ hob
            clear hown11 hg11 hv11 hob
            refine hK.out _ _ (held_step K11.out Y1.out) (fun hHeld => ?_)
            clear hK K
            try simp only [Act.put]
            refine wpAnyH_take (i := 7) (oi := _) (v := ?_) rfl (by kernel_rfl) (by kernel_rfl) (by kernel_rfl) (fun _ _ _ h => h) (Or.inl ⟨by rfl, ?_⟩) (by assumption) ?_
            rotate_left 1
            · intro w hSw; (try dsimp only at hSw); go_simp; try with_reducible rfl
            simp only [Act.put, List.setIfInBounds_toArray]
            refine wpAnyH_ready (rs := [8]) (by kernel_rfl) (by simp) ?_
            refine AllReadyH.cons (o := _) rfl (fun K hK => ?_) AllReadyH.nil
            go_simp
            refine hK.out _ _ ((World.cell?_setCell_far _ _ _ _ (show w.heap.size + 2 ≠ g6 by have := HG5.out; omega)).trans hHeld) (fun hHeld => ?_)
            clear hK K
            try simp only [Act.put]
            refine wpAnyH_done (by kernel_rfl) ?_ _
            clear hHeld o1 o2 y1 y2 f1 f2 ob1 of1 oa
            have HB10 := Lib.hid ((HB9.out.below K11.out).set1 HC.out (own_mono HO11.out (show w.heap.size ≤ _ by have h : w.heap.size + 2 < W9.heap.size := blk_lt HB9.out.out; omega)) (Ap.old HB9.out.fi HO11.out (Nat.le_refl _)))
            have HY10 := Lib.hid ((HY9.out.below K11.out).set (j := 1) (HB9.out.below K11.out).out (show g6 ≠ w.heap.size + 2 by have := HG5.out; omega) (by decide) (.slice A11 (st.1.la.length + y.1.la.length) c11))
            obtain ⟨W10, hW10⟩ : ∃ W, w11.setCell ⟨w.heap.size + 1 + 1, 1, none⟩ (.slice A11 (st.1.la.length + y.1.la.length) c11) = W := ⟨_, rfl⟩
            rw [hW10]
            have HB10 := Lib.hid (show _ from hW10 ▸ HB10.out)
            have HY10 := Lib.hid (show _ from hW10 ▸ HY10.out)
            have hob := HB10.out.out
            simp only [HON.out] at hob
            have hyb := HY10.out.yb
            rw [HYN.out] at hyb
            have o2 : W10.cell? ⟨w.heap.size + 2, 2, none⟩ = _ := blk_cell (o := 2) hob rfl
            have y2 := blk_cell (o := 2) hyb rfl
            have f2 : W10.frozen? ⟨w.heap.size + 2, 2, none⟩ = false := frozen_of_row W10 _ 2 _ _ hob
            clear hob hyb
            have HB11 := Lib.hid (HB10.out.set2 HC.out true)
            have HNX : Hid (F (t + 1) = (⟨st.1.fi ++ y.1.fi, st.1.la ++ y.1.la, true⟩, ⟨y.2.labs, y.2.prs ++ prsOf st.1.la y.1.fi⟩)) := Lib.hid (by
              rw [HSN.out]
              unfold lkNext lkPrs
              rw [if_pos rfl, if_pos rfl, HON.out, HYN.out]
              rfl)
            go_wp2
            go_roundw
            case rel => exact ⟨t + 1, _, _, by omega, by go_num, by rw [HNX.out]; exact HB11.out⟩
            case measure => simp [intOf]; omega
          · go_simp
            refine hK.out _ _ hHeld (fun hHeld => ?_)
            clear hK K
            try simp only [Act.put]
            refine wpAnyH_ready (rs := [0]) (by kernel_rfl) (by simp) ?_
            refine AllReadyH.cons (o := _) rfl (fun K hK => ?_) AllReadyH.nil
            go_simp
            refine hK.out _ _ (held_step (below_alloc _ _) hHeld) (fun hHeld => ?_)
            clear hK K
            try simp only [Act.put]
            refine wpAnyH_ready (rs := [3]) (by kernel_rfl) (by simp) ?_
            refine AllReadyH.cons (o := _) rfl (fun K hK => ?_) AllReadyH.nil
            refine step_append_any _ rfl (.tmp 111) (.tmp 113) 47 rfl W9.heap.size 3 i0 _ 1 8 Try.underlying47 hi hz0 hz1 hz2 rfl (by decide) (.slice (some ⟨W9.heap.size, 0, none⟩) 0 0) 0 [] rfl HE.out VT st.1.la.length cvt _ rfl HBA.out.la.rd (nI_one _) (by unfold maxLen; omega) (by omega) hwa ?_
            intro v10 w10 hown10 hg10 hv10
            have HO10 : Hid (OwnN w10 W9.heap.size v10 st.1.la) := Lib.hid (by simpa [OwnN] using hown10)
            have K10 := Lib.hid (KA.out.grown hg10 KA.out.size (fun r hr => (HE.out.lt r hr).1))
            have hw10 : W9.heap.size ≤ w10.heap.size := K10.out.size
            clear hown10 hg10 hv10
            refine hK.out _ _ (held_step K10.out Y1.out) (fun hHeld => ?_)
            clear hK K
            try simp only [Act.put]
            refine wpAnyH_ready (rs := [6]) (by kernel_rfl) (by simp) ?_
            refine AllReadyH.cons (o := _) rfl (fun K hK => ?_) AllReadyH.nil
            refine step_append_any _ rfl (.tmp 114) (.tmp 116) 47 rfl W9.heap.size 3 i0 _ 1 8 Try.underlying47 hi hz0 hz1 hz2 rfl (by decide) v10 st.1.la.length _ rfl HO10.out YT y.1.la.length cyt _ rfl (HY9.out.below K10.out).yla.rd (nI_one _) (by unfold maxLen; omega) (by omega) hw10 ?_
            intro v11 w11 hown11 hg11 hv11
            obtain ⟨A11, c11, rfl, _, _⟩ := own_slice hown11
            have HO11 : Hid (OwnN w11 W9.heap.size (.slice A11 (st.1.la.length + y.1.la.length) c11) (st.1.la ++ y.1.la)) := Lib.hid (by unfold OwnN; rw [List.length_append, ← nI_cells]; exact hown11)
            have K11 := Lib.hid (K10.out.grown hg11 K10.out.size (fun r hr => (HO10.out.lt r hr).1))
            have hob := (HB9.out.below K11.out).out
            simp only [HON.out] at hob
            have ob1 : w11.cell? ⟨w.heap.size + 2, 1, none⟩ = _ := blk_cell (o := 1) hob rfl
            have of1 : w11.frozen? ⟨w.heap.size + 2, 1, none⟩ = false := frozen_of_row w11 _ 1 _ _ hob
            clear hown11 hg11 hv11 hob
            refine hK.out _ _ (held_step K11.out Y1.out) (fun hHeld => ?_)
            clear hK K
            try simp only [Act.put]
            refine wpAnyH_take (i := 7) (oi := _) (v := ?_) rfl (by kernel_rfl) (by kernel_rfl) (by kernel_rfl) (fun _ _ _ h => h) (Or.inl ⟨by rfl, ?_⟩) (by assumption) ?_
            rotate_left 1
            · intro w hSw; (try dsimp only at hSw); go_simp; try with_reducible rfl
            simp only [Act.put, List.setIfInBounds_toArray]
            refine wpAnyH_ready (rs := [8]) (by kernel_rfl) (by simp) ?_
            refine AllReadyH.cons (o := _) rfl (fun K hK => ?_) AllReadyH.nil
            go_simp
            refine hK.out _ _ ((World.cell?_setCell_far _ _ _ _ (show w.heap.size + 2 ≠ g6 by have := HG5.out; omega)).trans hHeld) (fun hHeld => ?_)
            clear hK K
            try simp only [Act.put]
            refine wpAnyH_done (by kernel_rfl) ?_ _
            clear hHeld o1 o2 y1 y2 f1 f2 ob1 of1 oa
            have HB10 := Lib.hid ((HB9.out.below K11.out).set1 HC.out (own_mono HO11.out (show w.heap.size ≤ _ by have h : w.heap.size + 2 < W9.heap.size := blk_lt HB9.out.out; omega)) (Ap.old HB9.out.fi HO11.out (Nat.le_refl _)))
            have HY10 := Lib.hid ((HY9.out.below K11.out).set (j := 1) (HB9.out.below K11.out).out (show g6 ≠ w.heap.size + 2 by have := HG5.out; omega) (by decide) (.slice A11 (st.1.la.length + y.1.la.length) c11))
            obtain ⟨W10, hW10⟩ : ∃ W, w11.setCell ⟨w.heap.size + 1 + 1, 1, none⟩ (.slice A11 (st.1.la.length + y.1.la.length) c11) = W := ⟨_, rfl⟩
            rw [hW10]
            have HB10 := Lib.hid (show _ from hW10 ▸ HB10.out)
            have HY10 := Lib.hid (show _ from hW10 ▸ HY10.out)
            have hob := HB10.out.out
            simp only [HON.out] at hob
            have hyb := HY10.out.yb
            rw [HYN.out] at hyb
            have o2 : W10.cell? ⟨w.heap.size + 2, 2, none⟩ = _ := blk_cell (o := 2) hob rfl
            have y2 := blk_cell (o := 2) hyb rfl
            have f2 : W10.frozen? ⟨w.heap.size + 2, 2, none⟩ = false := frozen_of_row W10 _ 2 _ _ hob
            clear hob hyb
            have HB11 := Lib.hid (HB10.out.set2 HC.out true)
            have HNX : Hid (F (t + 1) = (⟨st.1.fi ++ y.1.fi, st.1.la ++ y.1.la, true⟩, ⟨y.2.labs, y.2.prs ++ prsOf st.1.la y.1.fi⟩)) := Lib.hid (by
              rw [HSN.out]
              unfold lkNext lkPrs
              rw [if_pos rfl, if_pos rfl, HON.out, HYN.out]
              rfl)
            go_wp2
            go_roundw
            case rel => exact ⟨t + 1, _, _, by omega, by go_num, by rw [HNX.out]; exact HB11.out⟩
            case measure => simp [intOf]; omega
    · have HE : Hid (F t = RES) := Lib.hid (by
        rcases hend with ⟨_, h⟩ | h
        · exact HFS.out t h
        · rw [h]; exact HFE.out)
      obtain ⟨st, hst⟩ : ∃ st, F t = st := ⟨_, rfl⟩
      rw [hst] at D hD HE hend m3
      have hob := hD.out
      obtain ⟨on, hon⟩ : ∃ z, st.1.nul = z := ⟨_, rfl⟩
      rw [hon] at hob
      have HON := Lib.hid hon
      have o0 : wr.cell? ⟨w.heap.size + 2, 0, none⟩ = _ := blk_cell (o := 0) hob rfl
      have o1 : wr.cell? ⟨w.heap.size + 2, 1, none⟩ = _ := blk_cell (o := 1) hob rfl
      have o2 : wr.cell? ⟨w.heap.size + 2, 2, none⟩ = _ := blk_cell (o := 2) hob rfl
      have hrs := hD.r.res
      have r0 : wr.cell? ⟨w.heap.size, 0, none⟩ = _ := blk_cell (o := 0) hrs rfl
      have r1 : wr.cell? ⟨w.heap.size, 1, none⟩ = _ := blk_cell (o := 1) hrs rfl
      have r2 : wr.cell? ⟨w.heap.size, 2, none⟩ = _ := blk_cell (o := 2) hrs rfl
      have f0 : wr.frozen? ⟨w.heap.size, 0, none⟩ = false := frozen_of_row wr _ 0 _ _ hrs
      have f1 : wr.frozen? ⟨w.heap.size, 1, none⟩ = false := frozen_of_row wr _ 1 _ _ hrs
      have f2 : wr.frozen? ⟨w.heap.size, 2, none⟩ = false := frozen_of_row wr _ 2 _ _ hrs
      have HEND := Lib.hid hend
      clear hm hD hob hrs hst hon hend HKID HIH HLKO HFS HFE HFN HFOK
      rcases HEND.out with ⟨hlt, h24⟩ | hte
      · have hlti : decide ((t : Int) < (ks.length : Int)) = true := decide_eq_true (by omega)
        have hltn : decide (t < ks.length) = true := decide_eq_true hlt
        rw [decide_eq_true h24] at m3
        clear h24
        go_wp2
        refine bodyPost_ret (v := .agg #[.slice VF st.1.fi.length cvf, .slice VT st.1.la.length cvt, .bool on]) (by simp [results, Try.results15, go_sem, r0, r1, r2]) rfl ?_
        show LookP gm w0.heap.size _ RES w _ _
        rw [← HE.out]
        exact ⟨_, _, by rw [HON.out], D.out.fin HC.out _ _ _⟩
      · have hlti : decide ((t : Int) < (ks.length : Int)) = false := decide_eq_false (by omega)
        have hltn : decide (t < ks.length) = false := decide_eq_false (by omega)
        clear hte m3
        go_wp2
        refine bodyPost_ret (v := .agg #[.slice VF st.1.fi.length cvf, .slice VT st.1.la.length cvt, .bool on]) (by simp [results, Try.results15, go_sem, r0, r1, r2]) rfl ?_
        show LookP gm w0.heap.size _ RES w _ _
        rw [← HE.out]
        exact ⟨_, _, by rw [HON.out], D.out.fin HC.out _ _ _⟩
end Go.Proofs.Ytjlekcoikceidaa
namespace Go.Proofs.Ytjlekcoikceidaa
open Go.RowKit
set_option maxRecDepth 100000 in

set_option maxHeartbeats 12800000 in
theorem look_alt {ps : List Pc} (hp : PaOk ps) {w0 : World} {A : Option Addr} {cP : Nat} (hx : RdP w0 A ps) {gm : Nat} (hqg : w0.heap.size ≤ gm) {n : Nat} (IH : LookC ps gm (.slice A ps.length cP) w0 n)
    (i : Nat) (s : LkS) (w : World) (hin : i < n + 1) (hil : i < ps.length) (hs : StOk s) (hc : s.labs.length < 24) (hb : Below w0.heap.size w0 w) (hgm : gm < w.heap.size) (hm : ∃ vl va, MkI gm w0.heap.size (.slice A ps.length cP) vl va s.labs (arcsOf s.labs s.prs) false w) (hop : ps[i].op = 3) (hkl : ∀ p ∈ ps, p.k.length ≤ 4294967296) :
    Calls Try.prog 15 #[.pointer (some ⟨gm, 0, none⟩), .int .i64 i] w (LookP gm w0.heap.size (.slice A ps.length cP) (lkPc (lk ps n) ps[i] s) w) := by
  obtain ⟨i0, hi, hz0, hz1, hz2⟩ := info_parts Try.infoInt
  obtain ⟨vl, va, hm⟩ := hm
  obtain ⟨b, o, Kk, ck, rfl, c0, c1, c2, hrk⟩ := hx.at_ hil
  have ho := hp.2 i hil
  have hkids := ho.kids
  have HLK : ∀ k ∈ ps[i].k, ∀ s, StOk s → s.labs.length < 24 → LkOk s (lk ps n k.toNat s) := fun k hk s h1 h2 => by
    have := hkids k hk
    exact lk_ok hp n k.toNat s (by omega) (by omega) h1 h2
  obtain ⟨x, hxx⟩ : ∃ x, ps[i] = x := ⟨_, rfl⟩
  rw [hxx] at ho hkids c0 c1 c2 hrk HLK hop ⊢
  have hkn : x.k.length ≤ 4294967296 := by rw [← hxx]; exact hkl _ (List.getElem_mem hil)
  clear hxx hx hkl
  obtain ⟨op, l, ks⟩ := x
  simp only at ho hkids c0 c1 c2 hrk HLK hop hkn ⊢
  subst hop
  obtain ⟨F, hF⟩ : ∃ F : Nat → Lk × LkS, F = fun t => (ks.take t).foldl (lkStep (lk ps n) 3) (⟨[], [], false⟩, s) := ⟨_, rfl⟩
  have hF0 : F 0 = (⟨[], [], false⟩, s) := by rw [hF]; rfl
  have HFOK : Hid (∀ t, LkOk s (F t)) := Lib.hid (fun t => by rw [hF]; exact LkOk.fold _ _ (.start hs _) (fun k hk => HLK k (List.mem_of_mem_take hk)))
  have HFN : Hid (∀ t, t < ks.length → F (t + 1) = lkStep (lk ps n) 3 (F t) (ks.getD t 0)) := Lib.hid (fun t ht => by rw [hF]; exact lk_take ht)
  have HFE : Hid (F ks.length = lkPc (lk ps n) ⟨3, l, ks⟩ s) := Lib.hid (by
    rw [hF]
    simp only
    rw [List.take_of_length_le (Nat.le_refl _)]
    rfl)
  have HFS : Hid (∀ t, 24 ≤ (F t).2.labs.length → F t = lkPc (lk ps n) ⟨3, l, ks⟩ s) := Lib.hid (fun t ht => by
    rw [hF] at ht ⊢
    exact (lk_stop t ht).trans rfl)
  have HC : Hid (LkC.Ok ⟨w, gm, w0.heap.size, .slice (some ⟨b, o, none⟩) ps.length cP, ⟨3, l, ks⟩, Kk, ck⟩) := Lib.hid ⟨hqg, hgm⟩
  obtain ⟨RES, hRES⟩ : ∃ r, lkPc (lk ps n) ⟨3, l, ks⟩ s = r := ⟨_, rfl⟩
  rw [hRES] at HFE HFS ⊢
  have HKID : Hid (∀ t (z : Int), t < ks.length → ks.getD t 0 = z → ∃ k : Nat, z = k ∧ k < n ∧ k < ps.length) := Lib.hid (fun t z ht hz => by
    have e : ks.getD t 0 = ks[t] := by simp [List.getD, ht]
    have h1 := hkids ks[t] (List.getElem_mem ht)
    exact ⟨z.toNat, by omega, by omega, by omega⟩)
  have HRK := Lib.hid hrk
  have HB := Lib.hid hb
  have HIH := Lib.hid IH
  have HLKO := Lib.hid HLK
  have i1 : (0 : Int) ≤ (i : Int) := by omega
  have i2 : (i : Int) < (ps.length : Int) := by omega
  replace c0 := held_step hb c0
  replace c1 := held_step hb c1
  replace c2 := held_step hb c2
  have hbl : b < w.heap.size := World.block_lt_of_cell? w _ c0
  have m0 := blk_cell (o := 0) hm.box rfl
  have D0 : LkB ⟨w, gm, w0.heap.size, .slice (some ⟨b, o, none⟩) ps.length cP, ⟨3, l, ks⟩, Kk, ck⟩ (.slice none 0 0) (.slice none 0 0) (F 0).1 (F 0).2.labs (arcsOf (F 0).2.labs (F 0).2.prs) (decide (24 ≤ (F 0).2.labs.length))
      (((w.alloc (.cells #[.slice none 0 0, .slice none 0 0, .bool false] 49)).alloc (.cells #[.int .i64 3, .int .u8 l, .slice Kk ks.length ck] 78)).alloc (.cells #[.slice none 0 0, .slice none 0 0, .bool false] 49)) := by
    rw [hF0]
    have ka := below_alloc w (.cells #[.slice none 0 0, .slice none 0 0, .bool false] 49)
    have kb := below_alloc (w.alloc (.cells #[.slice none 0 0, .slice none 0 0, .bool false] 49)) (.cells #[.int .i64 3, .int .u8 l, .slice Kk ks.length ck] 78)
    have kc := below_alloc ((w.alloc (.cells #[.slice none 0 0, .slice none 0 0, .bool false] 49)).alloc (.cells #[.int .i64 3, .int .u8 l, .slice Kk ks.length ck] 78)) (.cells #[.slice none 0 0, .slice none 0 0, .bool false] 49)
    have hbad : decide (24 ≤ s.labs.length) = false := decide_eq_false (by omega)
    have p1 := heap_alloc_new (w.alloc (.cells #[.slice none 0 0, .slice none 0 0, .bool false] 49)) (.cells #[.int .i64 3, .int .u8 l, .slice Kk ks.length ck] 78)
    have p2 := heap_alloc_new ((w.alloc (.cells #[.slice none 0 0, .slice none 0 0, .bool false] 49)).alloc (.cells #[.int .i64 3, .int .u8 l, .slice Kk ks.length ck] 78)) (.cells #[.slice none 0 0, .slice none 0 0, .bool false] 49)
    rw [show (w.alloc (.cells #[.slice none 0 0, .slice none 0 0, .bool false] 49)).heap.size = w.heap.size + 1 by simp] at p1
    rw [show ((w.alloc (.cells #[.slice none 0 0, .slice none 0 0, .bool false] 49)).alloc (.cells #[.int .i64 3, .int .u8 l, .slice Kk ks.length ck] 78)).heap.size = w.heap.size + 2 by simp] at p2
    refine ⟨⟨blk_below (below_step kb kc) (heap_alloc_new _ _), blk_below kc p1, ⟨vl, va, by rw [hbad]; exact hm.below (below_step (below_step ka kb) kc)⟩, (Kq.refl _ _ _ _).below (below_step (below_step ka kb) kc)⟩, p2, World.ownsRow_nil _ _ _ _, World.ownsRow_nil _ _ _ _, Ap.nil _ _⟩
  have HD0 := Lib.hid D0
  clear D0 hF hF0 hRES hm hrk hb hkids HLK IH hs hc ho hp
  go_enter Try.func15, Try.ntmps15
  go_wp2
  clear c0 c1 c2 m0 hbl
  go_loopw [8] (fun i wr => ∃ (t : Nat) (vf vt : Value), t ≤ ks.length ∧ i = .int .i64 t ∧ LkB ⟨w, gm, w0.heap.size, .slice (some ⟨b, o, none⟩) ps.length cP, ⟨3, l, ks⟩, Kk, ck⟩ vf vt (F t).1 (F t).2.labs (arcsOf (F t).2.labs (F t).2.prs) (decide (24 ≤ (F t).2.labs.length)) wr) (fun i _ => ks.length - (intOf i).toNat)
  case atStart => exact ⟨0, _, _, Nat.zero_le _, rfl, HD0.out⟩
  case round =>
    clear HD0
    obtain ⟨t, vf, vt, ht, rfl, hD⟩ := hrel
    obtain ⟨VF, cvf, rfl⟩ := hD.fi.slice
    obtain ⟨VT, cvt, rfl⟩ := hD.la.slice
    have D := Lib.hid hD
    have hdead : (t < ks.length ∧ ¬ 24 ≤ (F t).2.labs.length) ∨ ((t < ks.length ∧ 24 ≤ (F t).2.labs.length) ∨ t = ks.length) := by omega
    obtain ⟨vl, va, hm⟩ := hD.r.mm
    have p0 : wr.cell? ⟨w.heap.size + 1, 0, none⟩ = some (.int .i64 3) := blk_cell (o := 0) hD.r.pc rfl
    have p2 : wr.cell? ⟨w.heap.size + 1, 2, none⟩ = some (.slice Kk ks.length ck) := blk_cell (o := 2) hD.r.pc rfl
    have m3 : wr.cell? ⟨gm, 3, none⟩ = some (.bool (decide (24 ≤ (F t).2.labs.length))) := blk_cell (o := 3) hm.box rfl
    rcases hdead with ⟨hlt, h24⟩ | hend
    · have hbf : decide (24 ≤ (F t).2.labs.length) = false := decide_eq_false h24
      rw [hbf] at m3 hm
      have hlti : decide ((t : Int) < (ks.length : Int)) = true := decide_eq_true (by omega)
      have hltn : decide (t < ks.length) = true := decide_eq_true hlt
      obtain ⟨z, hz⟩ : ∃ z, ks.getD t 0 = z := ⟨_, rfl⟩
      obtain ⟨k, rfl, hkn, hkl⟩ := HKID.out t z hlt hz
      obtain ⟨ad, rfl, cK⟩ := (HRK.out.below (hD.r.kq.low HB.out (Nat.le_refl _))).at_ hlt
      rw [hz] at cK
      have FOK := Lib.hid (HFOK.out t)
      have HSN : Hid (F (t + 1) = (lkNext 3 (F t).1 (lk ps n k (F t).2).1, ⟨(lk ps n k (F t).2).2.labs, (lk ps n k (F t).2).2.prs ++ lkPrs 3 (F t).1 (lk ps n k (F t).2).1⟩)) := Lib.hid (by
        rw [HFN.out t hlt, hz, lkStep_go _ _ _ h24]
        rfl)
      have CALL := Lib.hid (HIH.out k (F t).2 wr hkn hkl FOK.out.st (by omega) (hD.r.kq.low HB.out (Nat.le_refl _)) (Nat.lt_of_lt_of_le HC.out.h2 hD.r.kq.size) ⟨vl, va, hm⟩)
      have YOK : Hid (LkOk (F t).2 (lk ps n k (F t).2)) := Lib.hid (by
        have hmem : (k : Int) ∈ ks := by rw [← hz]; simp [List.getD, hlt]
        have := HLKO.out k hmem (F t).2 FOK.out.st (by omega)
        simpa using this)
      obtain ⟨y, hy⟩ : ∃ y, lk ps n k (F t).2 = y := ⟨_, rfl⟩
      obtain ⟨st, hst⟩ : ∃ st, F t = st := ⟨_, rfl⟩
      rw [hy] at HSN CALL YOK
      rw [hst] at HSN YOK FOK D
      have t0 : (0 : Int) ≤ (t : Int) := by omega
      have t1 : (t : Int) < (ks.length : Int) := by omega
      obtain ⟨on, hon⟩ : ∃ z, st.1.nul = z := ⟨_, rfl⟩
      have HON := Lib.hid hon
      clear hm hD hz hy hst hon h24 hbf
      go_wp2_with fail
      clear cK p0 p2 m3 hlti hltn
      refine CALL.out.mono ?_
      rintro e w5 ⟨yf, yt, rfl, o1, o2, ap, hm5, kq5⟩
      obtain ⟨YF, cyf, rfl⟩ := o1.slice
      obtain ⟨YT, cyt, rfl⟩ := o2.slice
      have hB5 := D.out.look HC.out kq5 hm5
      have a1 := Ap.old D.out.fi o1 (Nat.le_refl _)
      have a2 := Ap.old D.out.fi o2 (Nat.le_refl _)
      have a3 := Ap.old D.out.la o1 (Nat.le_refl _)
      have a4 := Ap.old D.out.la o2 (Nat.le_refl _)
      have hwb := D.out.r.kq.size
      have hg5 : w.heap.size + 2 < w5.heap.size := blk_lt hB5.out
      have ka := below_alloc w5 (.cells #[.slice YF y.1.fi.length cyf, .slice YT y.1.la.length cyt, .bool y.1.nul] 49)
      have qy := heap_alloc_new w5 (.cells #[.slice YF y.1.fi.length cyf, .slice YT y.1.la.length cyt, .bool y.1.nul] 49)
      have hB6 := hB5.below ka
      obtain ⟨yn, hyn⟩ : ∃ z, y.1.nul = z := ⟨_, rfl⟩
      have HYN := Lib.hid hyn
      have hY6 : LkY w5.heap.size wr.heap.size _ _ _ _ y.1 (w5.alloc (.cells #[.slice YF y.1.fi.length cyf, .slice YT y.1.la.length cyt, .bool y.1.nul] 49)) := ⟨qy, own_below o1 ka, own_below o2 ka, ap, a1, a2, a3, a4⟩
      obtain ⟨g6, hg6⟩ : ∃ g, w5.heap.size = g := ⟨_, rfl⟩
      rw [hyn] at hY6 hB6
      obtain ⟨W6, hW6⟩ : ∃ W, w5.alloc (.cells #[.slice YF y.1.fi.length cyf, .slice YT y.1.la.length cyt, .bool yn] 49) = W := ⟨_, rfl⟩
      rw [hW6] at hY6 hB6
      rw [hg6] at hY6 hg5
      have hyb := hY6.yb
      rw [hyn] at hyb
      have HY6 := Lib.hid hY6
      have HB6 := Lib.hid hB6
      have HG5 := Lib.hid hg5
      have HWB := Lib.hid hwb
      have hob := hB6.out
      rw [HON.out] at hob
      have p0 : W6.cell? ⟨w.heap.size + 1, 0, none⟩ = some (.int .i64 3) := blk_cell (o := 0) hB6.r.pc rfl
      have o0 : W6.cell? ⟨w.heap.size + 2, 0, none⟩ = _ := blk_cell (o := 0) hob rfl
      have o1 : W6.cell? ⟨w.heap.size + 2, 1, none⟩ = _ := blk_cell (o := 1) hob rfl
      have o2 : W6.cell? ⟨w.heap.size + 2, 2, none⟩ = _ := blk_cell (o := 2) hob rfl
      have y0 := blk_cell (o := 0) hyb rfl
      have y1 := blk_cell (o := 1) hyb rfl
      have y2 := blk_cell (o := 2) hyb rfl
      have f0 : W6.frozen? ⟨w.heap.size + 2, 0, none⟩ = false := frozen_of_row W6 _ 0 _ _ hob
      have f1 : W6.frozen? ⟨w.heap.size + 2, 1, none⟩ = false := frozen_of_row W6 _ 1 _ _ hob
      have f2 : W6.frozen? ⟨w.heap.size + 2, 2, none⟩ = false := frozen_of_row W6 _ 2 _ _ hob
      clear CALL D hm5 kq5 hB5 a1 a2 a3 a4 ka qy ap hB6 hY6 hyb hob hg5 hwb
      go_upto_region 29 with fail
      clear hW6 hg6 p0 o1 o2 y1 y2 f1 f2
      have l1 : st.1.fi.length ≤ 24 := by have := FOK.out.fi.len; have := FOK.out.st.len; omega
      have l2 : st.1.la.length ≤ 24 := by have := FOK.out.la.len; have := FOK.out.st.len; omega
      have l3 : y.1.fi.length ≤ 24 := by have := YOK.out.fi.len; have := YOK.out.st.len; omega
      have l4 : y.1.la.length ≤ 24 := by have := YOK.out.la.len; have := YOK.out.st.len; omega
      have hwl : w.heap.size ≤ W6.heap.size := by have h : w.heap.size + 2 < W6.heap.size := blk_lt HB6.out.out; omega
      go_upto_region 30 with
        (first
          | (at_builtin
             refine wpList_append_any _ rfl (.tmp 132) (.tmp 134) 47 rfl w.heap.size 3 i0 _ 1 8 Try.underlying47 hi hz0 hz1 hz2 rfl (by decide) (.slice VF st.1.fi.length cvf) st.1.fi.length _ rfl HB6.out.fi YF y.1.fi.length cyf _ rfl HY6.out.yfi.rd (nI_one _) (by unfold maxLen; omega) (by omega) hwl ?_
             intro v8 w8 hown8 hg8 hv8
             obtain ⟨A8, c8, rfl, _, _⟩ := own_slice hown8
             have hO8 : OwnN w8 w.heap.size (.slice A8 (st.1.fi.length + y.1.fi.length) c8) (st.1.fi ++ y.1.fi) := by (unfold OwnN; rw [List.length_append, ← nI_cells]; exact hown8)
             have hob8 := (hg8.block _ (blk_lt HB6.out.out) (fun e => row_ne HB6.out.fi HB6.out.out (by decide) e.symm)).trans HB6.out.out
             have HB9 := Lib.hid (HB6.out.app0 HC.out hg8 hO8 hv8)
             have HY9 := Lib.hid ((HY6.out.app0 HB6.out.fi hg8 hv8).set (j := 0) hob8 (show g6 ≠ w.heap.size + 2 by have := HG5.out; omega) (by decide) (.slice A8 (st.1.fi.length + y.1.fi.length) c8))
             have q0 : w8.cell? ⟨w.heap.size + 2, 0, none⟩ = _ := blk_cell (o := 0) hob8 rfl
             have qf : w8.frozen? ⟨w.heap.size + 2, 0, none⟩ = false := frozen_of_row w8 _ 0 _ _ hob8
             clear hown8 hg8 hv8 hob8 hO8))
      clear o0 y0 f0 q0 qf hwl
      obtain ⟨W9, hW9⟩ : ∃ W, w8.setCell ⟨w.heap.size + 1 + 1, 0, none⟩ (.slice A8 (st.1.fi.length + y.1.fi.length) c8) = W := ⟨_, rfl⟩
      rw [hW9]
      have HB9 := Lib.hid (show _ from hW9 ▸ HB9.out)
      have HY9 := Lib.hid (show _ from hW9 ▸ HY9.out)
      have hob := HB9.out.out
      simp only [HON.out] at hob
      have hyb := HY9.out.yb
      rw [HYN.out] at hyb
      have o1 : W9.cell? ⟨w.heap.size + 2, 1, none⟩ = _ := blk_cell (o := 1) hob rfl
      have y1 := blk_cell (o := 1) hyb rfl
      have f1 : W9.frozen? ⟨w.heap.size + 2, 1, none⟩ = false := frozen_of_row W9 _ 1 _ _ hob
      clear hob hyb
      have hwl : w.heap.size ≤ W9.heap.size := by have h : w.heap.size + 2 < W9.heap.size := blk_lt HB9.out.out; omega
      go_upto_region 31 with
        (first
          | (at_builtin
             refine wpList_append_any _ rfl (.tmp 138) (.tmp 140) 47 rfl w.heap.size 3 i0 _ 1 8 Try.underlying47 hi hz0 hz1 hz2 rfl (by decide) (.slice VT st.1.la.length cvt) st.1.la.length _ rfl HB9.out.la YT y.1.la.length cyt _ rfl HY9.out.yla.rd (nI_one _) (by unfold maxLen; omega) (by omega) hwl ?_
             intro v8 w9 hown8 hg8 hv8
             obtain ⟨A9, c9, rfl, _, _⟩ := own_slice hown8
             have hO8 : OwnN w9 w.heap.size (.slice A9 (st.1.la.length + y.1.la.length) c9) (st.1.la ++ y.1.la) := by (unfold OwnN; rw [List.length_append, ← nI_cells]; exact hown8)
             have hob8 := (hg8.block _ (blk_lt HB9.out.out) (fun e => row_ne HB9.out.la HB9.out.out (by decide) e.symm)).trans HB9.out.out
             have hyb8 := (hg8.block _ (blk_lt HY9.out.yb) (fun e => row_ne HB9.out.la HY9.out.yb (by decide) e.symm)).trans HY9.out.yb
             have HB10 := Lib.hid (HB9.out.app1 HC.out hg8 hO8 hv8)
             have HYB := Lib.hid (show (w9.setCell ⟨w.heap.size + 1 + 1, 1, none⟩ (.slice A9 (st.1.la.length + y.1.la.length) c9)).heap[g6]? = _ from blk_set_ne hyb8 (show g6 ≠ w.heap.size + 2 by have := HG5.out; omega))
             have q0 : w9.cell? ⟨w.heap.size + 2, 1, none⟩ = _ := blk_cell (o := 1) hob8 rfl
             have qf : w9.frozen? ⟨w.heap.size + 2, 1, none⟩ = false := frozen_of_row w9 _ 1 _ _ hob8
             clear hown8 hg8 hv8 hob8 hO8 hyb8))
      clear o1 y1 f1 q0 qf hwl
      obtain ⟨W10, hW10⟩ : ∃ W, w9.setCell ⟨w.heap.size + 1 + 1, 1, none⟩ (.slice A9 (st.1.la.length + y.1.la.length) c9) = W := ⟨_, rfl⟩
      rw [hW10]
      have HB10 := Lib.hid (show _ from hW10 ▸ HB10.out)
      have HYB := Lib.hid (show _ from hW10 ▸ HYB.out)
      have hob := HB10.out.out
      simp only [HON.out] at hob
      have hyb := HYB.out
      rw [HYN.out] at hyb
      have o2 : W10.cell? ⟨w.heap.size + 2, 2, none⟩ = _ := blk_cell (o := 2) hob rfl
      have y2 : W10.cell? ⟨g6, 2, none⟩ = _ := blk_cell (o := 2) hyb rfl
      have f2 : W10.frozen? ⟨w.heap.size + 2, 2, none⟩ = false := frozen_of_row W10 _ 2 _ _ hob
      clear hob hyb
      have HB11 := Lib.hid (HB10.out.set2 HC.out (on || yn))
      have HNX : Hid (F (t + 1) = (⟨st.1.fi ++ y.1.fi, st.1.la ++ y.1.la, on || yn⟩, ⟨y.2.labs, y.2.prs⟩)) := Lib.hid (by
        rw [HSN.out]
        unfold lkNext lkPrs
        rw [if_neg (by decide), if_pos rfl, if_neg (by decide), if_pos rfl, HON.out, HYN.out, List.append_nil])
      cases on <;> cases yn
      all_goals
        go_wp2
        go_roundw
        case rel => exact ⟨t + 1, _, _, by omega, by go_num, by rw [HNX.out]; exact HB11.out⟩
        case measure => simp [intOf]; omega
    · have HE : Hid (F t = RES) := Lib.hid (by
        rcases hend with ⟨_, h⟩ | h
        · exact HFS.out t h
        · rw [h]; exact HFE.out)
      obtain ⟨st, hst⟩ : ∃ st, F t = st := ⟨_, rfl⟩
      rw [hst] at D hD HE hend m3
      have hob := hD.out
      obtain ⟨on, hon⟩ : ∃ z, st.1.nul = z := ⟨_, rfl⟩
      rw [hon] at hob
      have HON := Lib.hid hon
      have o0 : wr.cell? ⟨w.heap.size + 2, 0, none⟩ = _ := blk_cell (o := 0) hob rfl
      have o1 : wr.cell? ⟨w.heap.size + 2, 1, none⟩ = _ := blk_cell (o := 1) hob rfl
      have o2 : wr.cell? ⟨w.heap.size + 2, 2, none⟩ = _ := blk_cell (o := 2) hob rfl
      have hrs := hD.r.res
      have r0 : wr.cell? ⟨w.heap.size, 0, none⟩ = _ := blk_cell (o := 0) hrs rfl
      have r1 : wr.cell? ⟨w.heap.size, 1, none⟩ = _ := blk_cell (o := 1) hrs rfl
      have r2 : wr.cell? ⟨w.heap.size, 2, none⟩ = _ := blk_cell (o := 2) hrs rfl
      have f0 : wr.frozen? ⟨w.heap.size, 0, none⟩ = false := frozen_of_row wr _ 0 _ _ hrs
      have f1 : wr.frozen? ⟨w.heap.size, 1, none⟩ = false := frozen_of_row wr _ 1 _ _ hrs
      have f2 : wr.frozen? ⟨w.heap.size, 2, none⟩ = false := frozen_of_row wr _ 2 _ _ hrs
      have HEND := Lib.hid hend
      clear hm hD hob hrs hst hon hend HKID HIH HLKO HFS HFE HFN HFOK
      rcases HEND.out with ⟨hlt, h24⟩ | hte
      · have hlti : decide ((t : Int) < (ks.length : Int)) = true := decide_eq_true (by omega)
        have hltn : decide (t < ks.length) = true := decide_eq_true hlt
        rw [decide_eq_true h24] at m3
        clear h24
        go_wp2
        refine bodyPost_ret (v := .agg #[.slice VF st.1.fi.length cvf, .slice VT st.1.la.length cvt, .bool on]) (by simp [results, Try.results15, go_sem, r0, r1, r2]) rfl ?_
        show LookP gm w0.heap.size _ RES w _ _
        rw [← HE.out]
        exact ⟨_, _, by rw [HON.out], D.out.fin HC.out _ _ _⟩
      · have hlti : decide ((t : Int) < (ks.length : Int)) = false := decide_eq_false (by omega)
        have hltn : decide (t < ks.length) = false := decide_eq_false (by omega)
        clear hte m3
        go_wp2
        refine bodyPost_ret (v := .agg #[.slice VF st.1.fi.length cvf, .slice VT st.1.la.length cvt, .bool on]) (by simp [results, Try.results15, go_sem, r0, r1, r2]) rfl ?_
        show LookP gm w0.heap.size _ RES w _ _
        rw [← HE.out]
        exact ⟨_, _, by rw [HON.out], D.out.fin HC.out _ _ _⟩
end Go.Proofs.Ytjlekcoikceidaa
namespace Go.Proofs.Ytjlekcoikceidaa
open Go.RowKit
set_option maxRecDepth 100000 in

set_option maxHeartbeats 12800000 in
theorem look_one4 {ps : List Pc} (hp : PaOk ps) {w0 : World} {A : Option Addr} {cP : Nat} (hx : RdP w0 A ps) {gm : Nat} (hqg : w0.heap.size ≤ gm) {n : Nat} (IH : LookC ps gm (.slice A ps.length cP) w0 n)
    (i : Nat) (s : LkS) (w : World) (hin : i < n + 1) (hil : i < ps.length) (hs : StOk s) (hc : s.labs.length < 24) (hb : Below w0.heap.size w0 w) (hgm : gm < w.heap.size) (hm : ∃ vl va, MkI gm w0.heap.size (.slice A ps.length cP) vl va s.labs (arcsOf s.labs s.prs) false w) (hop : ps[i].op = 4) (hkl : ∀ p ∈ ps, p.k.length ≤ 4294967296) :
    Calls Try.prog 15 #[.pointer (some ⟨gm, 0, none⟩), .int .i64 i] w (LookP gm w0.heap.size (.slice A ps.length cP) (lkPc (lk ps n) ps[i] s) w) := by
  obtain ⟨i0, hi, hz0, hz1, hz2⟩ := info_parts Try.infoInt
  obtain ⟨vl, va, hm⟩ := hm
  obtain ⟨b, o, Kk, ck, rfl, c0, c1, c2, hrk⟩ := hx.at_ hil
  have ho := hp.2 i hil
  have hkids := ho.kids
  have HLK : ∀ k ∈ ps[i].k, ∀ s, StOk s → s.labs.length < 24 → LkOk s (lk ps n k.toNat s) := fun k hk s h1 h2 => by
    have := hkids k hk
    exact lk_ok hp n k.toNat s (by omega) (by omega) h1 h2
  obtain ⟨x, hxx⟩ : ∃ x, ps[i] = x := ⟨_, rfl⟩
  rw [hxx] at ho hkids c0 c1 c2 hrk HLK hop ⊢
  have hkn : x.k.length ≤ 4294967296 := by rw [← hxx]; exact hkl _ (List.getElem_mem hil)
  clear hxx hx hkl
  obtain ⟨op, l, ks⟩ := x
  simp only at ho hkids c0 c1 c2 hrk HLK hop hkn ⊢
  subst hop
  obtain ⟨F, hF⟩ : ∃ F : Nat → Lk × LkS, F = fun t => (ks.take t).foldl (lkStep (lk ps n) 4) (⟨[], [], false⟩, s) := ⟨_, rfl⟩
  have hF0 : F 0 = (⟨[], [], false⟩, s) := by rw [hF]; rfl
  have HFOK : Hid (∀ t, LkOk s (F t)) := Lib.hid (fun t => by rw [hF]; exact LkOk.fold _ _ (.start hs _) (fun k hk => HLK k (List.mem_of_mem_take hk)))
  have HFN : Hid (∀ t, t < ks.length → F (t + 1) = lkStep (lk ps n) 4 (F t) (ks.getD t 0)) := Lib.hid (fun t ht => by rw [hF]; exact lk_take ht)
  have HFE : Hid (F ks.length = lkPc (lk ps n) ⟨4, l, ks⟩ s) := Lib.hid (by
    rw [hF]
    simp only
    rw [List.take_of_length_le (Nat.le_refl _)]
    rfl)
  have HFS : Hid (∀ t, 24 ≤ (F t).2.labs.length → F t = lkPc (lk ps n) ⟨4, l, ks⟩ s) := Lib.hid (fun t ht => by
    rw [hF] at ht ⊢
    exact (lk_stop t ht).trans rfl)
  have HC : Hid (LkC.Ok ⟨w, gm, w0.heap.size, .slice (some ⟨b, o, none⟩) ps.length cP, ⟨4, l, ks⟩, Kk, ck⟩) := Lib.hid ⟨hqg, hgm⟩
  obtain ⟨RES, hRES⟩ : ∃ r, lkPc (lk ps n) ⟨4, l, ks⟩ s = r := ⟨_, rfl⟩
  rw [hRES] at HFE HFS ⊢
  have HKID : Hid (∀ t (z : Int), t < ks.length → ks.getD t 0 = z → ∃ k : Nat, z = k ∧ k < n ∧ k < ps.length) := Lib.hid (fun t z ht hz => by
    have e : ks.getD t 0 = ks[t] := by simp [List.getD, ht]
    have h1 := hkids ks[t] (List.getElem_mem ht)
    exact ⟨z.toNat, by omega, by omega, by omega⟩)
  have HRK := Lib.hid hrk
  have HB := Lib.hid hb
  have HIH := Lib.hid IH
  have HLKO := Lib.hid HLK
  have i1 : (0 : Int) ≤ (i : Int) := by omega
  have i2 : (i : Int) < (ps.length : Int) := by omega
  replace c0 := held_step hb c0
  replace c1 := held_step hb c1
  replace c2 := held_step hb c2
  have hbl : b < w.heap.size := World.block_lt_of_cell? w _ c0
  have m0 := blk_cell (o := 0) hm.box rfl
  have D0 : LkB ⟨w, gm, w0.heap.size, .slice (some ⟨b, o, none⟩) ps.length cP, ⟨4, l, ks⟩, Kk, ck⟩ (.slice none 0 0) (.slice none 0 0) (F 0).1 (F 0).2.labs (arcsOf (F 0).2.labs (F 0).2.prs) (decide (24 ≤ (F 0).2.labs.length))
      (((w.alloc (.cells #[.slice none 0 0, .slice none 0 0, .bool false] 49)).alloc (.cells #[.int .i64 4, .int .u8 l, .slice Kk ks.length ck] 78)).alloc (.cells #[.slice none 0 0, .slice none 0 0, .bool false] 49)) := by
    rw [hF0]
    have ka := below_alloc w (.cells #[.slice none 0 0, .slice none 0 0, .bool false] 49)
    have kb := below_alloc (w.alloc (.cells #[.slice none 0 0, .slice none 0 0, .bool false] 49)) (.cells #[.int .i64 4, .int .u8 l, .slice Kk ks.length ck] 78)
    have kc := below_alloc ((w.alloc (.cells #[.slice none 0 0, .slice none 0 0, .bool false] 49)).alloc (.cells #[.int .i64 4, .int .u8 l, .slice Kk ks.length ck] 78)) (.cells #[.slice none 0 0, .slice none 0 0, .bool false] 49)
    have hbad : decide (24 ≤ s.labs.length) = false := decide_eq_false (by omega)
    have p1 := heap_alloc_new (w.alloc (.cells #[.slice none 0 0, .slice none 0 0, .bool false] 49)) (.cells #[.int .i64 4, .int .u8 l, .slice Kk ks.length ck] 78)
    have p2 := heap_alloc_new ((w.alloc (.cells #[.slice none 0 0, .slice none 0 0, .bool false] 49)).alloc (.cells #[.int .i64 4, .int .u8 l, .slice Kk ks.length ck] 78)) (.cells #[.slice none 0 0, .slice none 0 0, .bool false] 49)
    rw [show (w.alloc (.cells #[.slice none 0 0, .slice none 0 0, .bool false] 49)).heap.size = w.heap.size + 1 by simp] at p1
    rw [show ((w.alloc (.cells #[.slice none 0 0, .slice none 0 0, .bool false] 49)).alloc (.cells #[.int .i64 4, .int .u8 l, .slice Kk ks.length ck] 78)).heap.size = w.heap.size + 2 by simp] at p2
    refine ⟨⟨blk_below (below_step kb kc) (heap_alloc_new _ _), blk_below kc p1, ⟨vl, va, by rw [hbad]; exact hm.below (below_step (below_step ka kb) kc)⟩, (Kq.refl _ _ _ _).below (below_step (below_step ka kb) kc)⟩, p2, World.ownsRow_nil _ _ _ _, World.ownsRow_nil _ _ _ _, Ap.nil _ _⟩
  have HD0 := Lib.hid D0
  clear D0 hF hF0 hRES hm hrk hb hkids HLK IH hs hc ho hp
  go_enter Try.func15, Try.ntmps15
  go_wp2
  clear c0 c1 c2 m0 hbl
  go_loopw [8] (fun i wr => ∃ (t : Nat) (vf vt : Value), t ≤ ks.length ∧ i = .int .i64 t ∧ LkB ⟨w, gm, w0.heap.size, .slice (some ⟨b, o, none⟩) ps.length cP, ⟨4, l, ks⟩, Kk, ck⟩ vf vt (F t).1 (F t).2.labs (arcsOf (F t).2.labs (F t).2.prs) (decide (24 ≤ (F t).2.labs.length)) wr) (fun i _ => ks.length - (intOf i).toNat)
  case atStart => exact ⟨0, _, _, Nat.zero_le _, rfl, HD0.out⟩
  case round =>
    clear HD0
    obtain ⟨t, vf, vt, ht, rfl, hD⟩ := hrel
    obtain ⟨VF, cvf, rfl⟩ := hD.fi.slice
    obtain ⟨VT, cvt, rfl⟩ := hD.la.slice
    have D := Lib.hid hD
    have hdead : (t < ks.length ∧ ¬ 24 ≤ (F t).2.labs.length) ∨ ((t < ks.length ∧ 24 ≤ (F t).2.labs.length) ∨ t = ks.length) := by omega
    obtain ⟨vl, va, hm⟩ := hD.r.mm
    have p0 : wr.cell? ⟨w.heap.size + 1, 0, none⟩ = some (.int .i64 4) := blk_cell (o := 0) hD.r.pc rfl
    have p2 : wr.cell? ⟨w.heap.size + 1, 2, none⟩ = some (.slice Kk ks.length ck) := blk_cell (o := 2) hD.r.pc rfl
    have m3 : wr.cell? ⟨gm, 3, none⟩ = some (.bool (decide (24 ≤ (F t).2.labs.length))) := blk_cell (o := 3) hm.box rfl
    rcases hdead with ⟨hlt, h24⟩ | hend
    · have hbf : decide (24 ≤ (F t).2.labs.length) = false := decide_eq_false h24
      rw [hbf] at m3 hm
      have hlti : decide ((t : Int) < (ks.length : Int)) = true := decide_eq_true (by omega)
      have hltn : decide (t < ks.length) = true := decide_eq_true hlt
      obtain ⟨z, hz⟩ : ∃ z, ks.getD t 0 = z := ⟨_, rfl⟩
      obtain ⟨k, rfl, hkn, hkl⟩ := HKID.out t z hlt hz
      obtain ⟨ad, rfl, cK⟩ := (HRK.out.below (hD.r.kq.low HB.out (Nat.le_refl _))).at_ hlt
      rw [hz] at cK
      have FOK := Lib.hid (HFOK.out t)
      have HSN : Hid (F (t + 1) = (lkNext 4 (F t).1 (lk ps n k (F t).2).1, ⟨(lk ps n k (F t).2).2.labs, (lk ps n k (F t).2).2.prs ++ lkPrs 4 (F t).1 (lk ps n k (F t).2).1⟩)) := Lib.hid (by
        rw [HFN.out t hlt, hz, lkStep_go _ _ _ h24]
        rfl)
      have CALL := Lib.hid (HIH.out k (F t).2 wr hkn hkl FOK.out.st (by omega) (hD.r.kq.low HB.out (Nat.le_refl _)) (Nat.lt_of_lt_of_le HC.out.h2 hD.r.kq.size) ⟨vl, va, hm⟩)
      have YOK : Hid (LkOk (F t).2 (lk ps n k (F t).2)) := Lib.hid (by
        have hmem : (k : Int) ∈ ks := by rw [← hz]; simp [List.getD, hlt]
        have := HLKO.out k hmem (F t).2 FOK.out.st (by omega)
        simpa using this)
      obtain ⟨y, hy⟩ : ∃ y, lk ps n k (F t).2 = y := ⟨_, rfl⟩
      obtain ⟨st, hst⟩ : ∃ st, F t = st := ⟨_, rfl⟩
      rw [hy] at HSN CALL YOK
      rw [hst] at HSN YOK FOK D
      have t0 : (0 : Int) ≤ (t : Int) := by omega
      have t1 : (t : Int) < (ks.length : Int) := by omega
      obtain ⟨on, hon⟩ : ∃ z, st.1.nul = z := ⟨_, rfl⟩
      have HON := Lib.hid hon
      clear hm hD hz hy hst hon h24 hbf
      go_wp2_with fail
      clear cK p0 p2 m3 hlti hltn
      refine CALL.out.mono ?_
      rintro e w5 ⟨yf, yt, rfl, o1, o2, ap, hm5, kq5⟩
      obtain ⟨YF, cyf, rfl⟩ := o1.slice
      obtain ⟨YT, cyt, rfl⟩ := o2.slice
      have hB5 := D.out.look HC.out kq5 hm5
      have a1 := Ap.old D.out.fi o1 (Nat.le_refl _)
      have a2 := Ap.old D.out.fi o2 (Nat.le_refl _)
      have a3 := Ap.old D.out.la o1 (Nat.le_refl _)
      have a4 := Ap.old D.out.la o2 (Nat.le_refl _)
      have hwb := D.out.r.kq.size
      have hg5 : w.heap.size + 2 < w5.heap.size := blk_lt hB5.out
      have ka := below_alloc w5 (.cells #[.slice YF y.1.fi.length cyf, .slice YT y.1.la.length cyt, .bool y.1.nul] 49)
      have qy := heap_alloc_new w5 (.cells #[.slice YF y.1.fi.length cyf, .slice YT y.1.la.length cyt, .bool y.1.nul] 49)
      have hB6 := hB5.below ka
      obtain ⟨yn, hyn⟩ : ∃ z, y.1.nul = z := ⟨_, rfl⟩
      have HYN := Lib.hid hyn
      have hY6 : LkY w5.heap.size wr.heap.size _ _ _ _ y.1 (w5.alloc (.cells #[.slice YF y.1.fi.length cyf, .slice YT y.1.la.length cyt, .bool y.1.nul] 49)) := ⟨qy, own_below o1 ka, own_below o2 ka, ap, a1, a2, a3, a4⟩
      obtain ⟨g6, hg6⟩ : ∃ g, w5.heap.size = g := ⟨_, rfl⟩
      rw [hyn] at hY6 hB6
      obtain ⟨W6, hW6⟩ : ∃ W, w5.alloc (.cells #[.slice YF y.1.fi.length cyf, .slice YT y.1.la.length cyt, .bool yn] 49) = W := ⟨_, rfl⟩
      rw [hW6] at hY6 hB6
      rw [hg6] at hY6 hg5
      have hyb := hY6.yb
      rw [hyn] at hyb
      have HY6 := Lib.hid hY6
      have HB6 := Lib.hid hB6
      have HG5 := Lib.hid hg5
      have HWB := Lib.hid hwb
      have hob := hB6.out
      rw [HON.out] at hob
      have p0 : W6.cell? ⟨w.heap.size + 1, 0, none⟩ = some (.int .i64 4) := blk_cell (o := 0) hB6.r.pc rfl
      have o0 : W6.cell? ⟨w.heap.size + 2, 0, none⟩ = _ := blk_cell (o := 0) hob rfl
      have o1 : W6.cell? ⟨w.heap.size + 2, 1, none⟩ = _ := blk_cell (o := 1) hob rfl
      have o2 : W6.cell? ⟨w.heap.size + 2, 2, none⟩ = _ := blk_cell (o := 2) hob rfl
      have y0 := blk_cell (o := 0) hyb rfl
      have y1 := blk_cell (o := 1) hyb rfl
      have y2 := blk_cell (o := 2) hyb rfl
      have f0 : W6.frozen? ⟨w.heap.size + 2, 0, none⟩ = false := frozen_of_row W6 _ 0 _ _ hob
      have f1 : W6.frozen? ⟨w.heap.size + 2, 1, none⟩ = false := frozen_of_row W6 _ 1 _ _ hob
      have f2 : W6.frozen? ⟨w.heap.size + 2, 2, none⟩ = false := frozen_of_row W6 _ 2 _ _ hob
      clear CALL D hm5 kq5 hB5 a1 a2 a3 a4 ka qy ap hB6 hY6 hyb hob hg5 hwb
      go_upto_region 17 with fail
      clear hW6 hg6 p0 o0 o1 o2 y0 y1 y2 f0 f1 f2
      have hne6 : g6 ≠ w.heap.size + 2 := by have := HG5.out; omega
      have HBA := Lib.hid (HB6.out.set0 HC.out (own_mono HY6.out.yfi HWB.out) HY6.out.a3.symm)
      have HYA := Lib.hid (HY6.out.set (j := 0) HB6.out.out hne6 (by decide) (.slice YF y.1.fi.length cyf))
      have HBB := Lib.hid (HBA.out.set1 HC.out (own_mono HYA.out.yla HWB.out) HYA.out.ap)
      have HYB := Lib.hid (HYA.out.set (j := 1) HBA.out.out hne6 (by decide) (.slice YT y.1.la.length cyt))
      have HBC := Lib.hid (HBB.out.set2 HC.out yn)
      have HYC := Lib.hid (HYB.out.set (j := 2) HBB.out.out hne6 (by decide) (.bool yn))
      clear hne6
      obtain ⟨W7, hW7⟩ : ∃ W, ((W6.setCell ⟨w.heap.size + 1 + 1, 0, none⟩ (.slice YF y.1.fi.length cyf)).setCell ⟨w.heap.size + 1 + 1, 1, none⟩ (.slice YT y.1.la.length cyt)).setCell ⟨w.heap.size + 1 + 1, 2, none⟩ (.bool yn) = W := ⟨_, rfl⟩
      rw [hW7]
      have HBC := Lib.hid (show _ from hW7 ▸ HBC.out)
      have HYC := Lib.hid (show _ from hW7 ▸ HYC.out)
      clear HBA HYA HBB HYB HB6 HY6
      have hob := HBC.out.out
      have hyb := HYC.out.yb
      rw [HYN.out] at hyb
      have p0 : W7.cell? ⟨w.heap.size + 1, 0, none⟩ = some (.int .i64 4) := blk_cell (o := 0) HBC.out.r.pc rfl
      have o0 : W7.cell? ⟨w.heap.size + 2, 0, none⟩ = _ := blk_cell (o := 0) hob rfl
      have o1 : W7.cell? ⟨w.heap.size + 2, 1, none⟩ = _ := blk_cell (o := 1) hob rfl
      have o2 : W7.cell? ⟨w.heap.size + 2, 2, none⟩ = _ := blk_cell (o := 2) hob rfl
      have y0 := blk_cell (o := 0) hyb rfl
      have y1 := blk_cell (o := 1) hyb rfl
      have y2 := blk_cell (o := 2) hyb rfl
      have f2 : W7.frozen? ⟨w.heap.size + 2, 2, none⟩ = false := frozen_of_row W7 _ 2 _ _ hob
      clear hob hyb
      go_wp2_with fail
      obtain ⟨vl6, va6, hm6⟩ := HBC.out.r.mm
      have HM6 := Lib.hid hm6
      have hyle := YOK.out.le
      refine (join_any gm w0.heap.size wr.heap.size wr.heap.size _ y.2.labs (arcsOf y.2.labs y.2.prs) _ vl6 va6 YT YF cyt cyf y.1.la y.1.fi W7 hm6 (by have := HC.out.h1; have := HC.out.h2; have := blk_lt HBC.out.out; simp only at *; omega) HYC.out.yla HYC.out.yfi YOK.out.st.len YOK.out.st.lab YOK.out.st.go
        (fun z hz => by have := YOK.out.la.2 z hz; omega) (fun z hz => by have := YOK.out.fi.2 z hz; omega) (by have := YOK.out.la.len; have := YOK.out.st.len; omega) (by have := YOK.out.fi.len; have := YOK.out.st.len; omega)).mono ?_
      rintro e w8 ⟨rfl, va8, hm8, hg8⟩
      clear hyle hm6 p0 o0 o1 o2 y0 y1 y2 f2
      have hB8 := HBC.out.only HC.out hg8 ⟨_, _, hm8⟩
      have HY8 := Lib.hid (HYC.out.only hg8 HM6.out.box (by have := HG5.out; have := HC.out.h2; simp only at *; omega))
      rw [← arcsOf_app] at hB8
      have HB8 := Lib.hid hB8
      clear hB8 hm8 hg8 HM6
      have hob := HB8.out.out
      have hyb := HY8.out.yb
      rw [HYN.out] at hyb
      have p0 : w8.cell? ⟨w.heap.size + 1, 0, none⟩ = some (.int .i64 4) := blk_cell (o := 0) HB8.out.r.pc rfl
      have o2 : w8.cell? ⟨w.heap.size + 2, 2, none⟩ = _ := blk_cell (o := 2) hob rfl
      have y2 := blk_cell (o := 2) hyb rfl
      have f2 : w8.frozen? ⟨w.heap.size + 2, 2, none⟩ = false := frozen_of_row w8 _ 2 _ _ hob
      clear hob hyb
      have HB11 := Lib.hid (HB8.out.set2 HC.out (yn || true))
      have HNX : Hid (F (t + 1) = (⟨y.1.fi, y.1.la, (yn || true)⟩, ⟨y.2.labs, y.2.prs ++ prsOf y.1.la y.1.fi⟩)) := Lib.hid (by
        rw [HSN.out]
        unfold lkNext lkPrs
        rw [if_neg (by decide), if_neg (by decide), if_neg (by decide), if_neg (by decide), if_neg (by decide), HYN.out]
        rfl)
      cases yn
      all_goals
        go_wp2
        go_roundw
        case rel => exact ⟨t + 1, _, _, by omega, by go_num, by rw [HNX.out]; exact HB11.out⟩
        case measure => simp [intOf]; omega
    · have HE : Hid (F t = RES) := Lib.hid (by
        rcases hend with ⟨_, h⟩ | h
        · exact HFS.out t h
        · rw [h]; exact HFE.out)
      obtain ⟨st, hst⟩ : ∃ st, F t = st := ⟨_, rfl⟩
      rw [hst] at D hD HE hend m3
      have hob := hD.out
      obtain ⟨on, hon⟩ : ∃ z, st.1.nul = z := ⟨_, rfl⟩
      rw [hon] at hob
      have HON := Lib.hid hon
      have o0 : wr.cell? ⟨w.heap.size + 2, 0, none⟩ = _ := blk_cell (o := 0) hob rfl
      have o1 : wr.cell? ⟨w.heap.size + 2, 1, none⟩ = _ := blk_cell (o := 1) hob rfl
      have o2 : wr.cell? ⟨w.heap.size + 2, 2, none⟩ = _ := blk_cell (o := 2) hob rfl
      have hrs := hD.r.res
      have r0 : wr.cell? ⟨w.heap.size, 0, none⟩ = _ := blk_cell (o := 0) hrs rfl
      have r1 : wr.cell? ⟨w.heap.size, 1, none⟩ = _ := blk_cell (o := 1) hrs rfl
      have r2 : wr.cell? ⟨w.heap.size, 2, none⟩ = _ := blk_cell (o := 2) hrs rfl
      have f0 : wr.frozen? ⟨w.heap.size, 0, none⟩ = false := frozen_of_row wr _ 0 _ _ hrs
      have f1 : wr.frozen? ⟨w.heap.size, 1, none⟩ = false := frozen_of_row wr _ 1 _ _ hrs
      have f2 : wr.frozen? ⟨w.heap.size, 2, none⟩ = false := frozen_of_row wr _ 2 _ _ hrs
      have HEND := Lib.hid hend
      clear hm hD hob hrs hst hon hend HKID HIH HLKO HFS HFE HFN HFOK
      rcases HEND.out with ⟨hlt, h24⟩ | hte
      · have hlti : decide ((t : Int) < (ks.length : Int)) = true := decide_eq_true (by omega)
        have hltn : decide (t < ks.length) = true := decide_eq_true hlt
        rw [decide_eq_true h24] at m3
        clear h24
        go_wp2
        refine bodyPost_ret (v := .agg #[.slice VF st.1.fi.length cvf, .slice VT st.1.la.length cvt, .bool on]) (by simp [results, Try.results15, go_sem, r0, r1, r2]) rfl ?_
        show LookP gm w0.heap.size _ RES w _ _
        rw [← HE.out]
        exact ⟨_, _, by rw [HON.out], D.out.fin HC.out _ _ _⟩
      · have hlti : decide ((t : Int) < (ks.length : Int)) = false := decide_eq_false (by omega)
        have hltn : decide (t < ks.length) = false := decide_eq_false (by omega)
        clear hte m3
        go_wp2
        refine bodyPost_ret (v := .agg #[.slice VF st.1.fi.length cvf, .slice VT st.1.la.length cvt, .bool on]) (by simp [results, Try.results15, go_sem, r0, r1, r2]) rfl ?_
        show LookP gm w0.heap.size _ RES w _ _
        rw [← HE.out]
        exact ⟨_, _, by rw [HON.out], D.out.fin HC.out _ _ _⟩

set_option maxRecDepth 100000 in
set_option maxHeartbeats 12800000 in
theorem look_one5 {ps : List Pc} (hp : PaOk ps) {w0 : World} {A : Option Addr} {cP : Nat} (hx : RdP w0 A ps) {gm : Nat} (hqg : w0.heap.size ≤ gm) {n : Nat} (IH : LookC ps gm (.slice A ps.length cP) w0 n)
    (i : Nat) (s : LkS) (w : World) (hin : i < n + 1) (hil : i < ps.length) (hs : StOk s) (hc : s.labs.length < 24) (hb : Below w0.heap.size w0 w) (hgm : gm < w.heap.size) (hm : ∃ vl va, MkI gm w0.heap.size (.slice A ps.length cP) vl va s.labs (arcsOf s.labs s.prs) false w) (hop : ps[i].op = 5) (hkl : ∀ p ∈ ps, p.k.length ≤ 4294967296) :
    Calls Try.prog 15 #[.pointer (some ⟨gm, 0, none⟩), .int .i64 i] w (LookP gm w0.heap.size (.slice A ps.length cP) (lkPc (lk ps n) ps[i] s) w) := by
  obtain ⟨i0, hi, hz0, hz1, hz2⟩ := info_parts Try.infoInt
  obtain ⟨vl, va, hm⟩ := hm
  obtain ⟨b, o, Kk, ck, rfl, c0, c1, c2, hrk⟩ := hx.at_ hil
  have ho := hp.2 i hil
  have hkids := ho.kids
  have HLK : ∀ k ∈ ps[i].k, ∀ s, StOk s → s.labs.length < 24 → LkOk s (lk ps n k.toNat s) := fun k hk s h1 h2 => by
    have := hkids k hk
    exact lk_ok hp n k.toNat s (by omega) (by omega) h1 h2
  obtain ⟨x, hxx⟩ : ∃ x, ps[i] = x := ⟨_, rfl⟩
  rw [hxx] at ho hkids c0 c1 c2 hrk HLK hop ⊢
  have hkn : x.k.length ≤ 4294967296 := by rw [← hxx]; exact hkl _ (List.getElem_mem hil)
  clear hxx hx hkl
  obtain ⟨op, l, ks⟩ := x
  simp only at ho hkids c0 c1 c2 hrk HLK hop hkn ⊢
  subst hop
  obtain ⟨F, hF⟩ : ∃ F : Nat → Lk × LkS, F = fun t => (ks.take t).foldl (lkStep (lk ps n) 5) (⟨[], [], false⟩, s) := ⟨_, rfl⟩
  have hF0 : F 0 = (⟨[], [], false⟩, s) := by rw [hF]; rfl
  have HFOK : Hid (∀ t, LkOk s (F t)) := Lib.hid (fun t => by rw [hF]; exact LkOk.fold _ _ (.start hs _) (fun k hk => HLK k (List.mem_of_mem_take hk)))
  have HFN : Hid (∀ t, t < ks.length → F (t + 1) = lkStep (lk ps n) 5 (F t) (ks.getD t 0)) := Lib.hid (fun t ht => by rw [hF]; exact lk_take ht)
  have HFE : Hid (F ks.length = lkPc (lk ps n) ⟨5, l, ks⟩ s) := Lib.hid (by
    rw [hF]
    simp only
    rw [List.take_of_length_le (Nat.le_refl _)]
    rfl)
  have HFS : Hid (∀ t, 24 ≤ (F t).2.labs.length → F t = lkPc (lk ps n) ⟨5, l, ks⟩ s) := Lib.hid (fun t ht => by
    rw [hF] at ht ⊢
    exact (lk_stop t ht).trans rfl)
  have HC : Hid (LkC.Ok ⟨w, gm, w0.heap.size, .slice (some ⟨b, o, none⟩) ps.length cP, ⟨5, l, ks⟩, Kk, ck⟩) := Lib.hid ⟨hqg, hgm⟩
  obtain ⟨RES, hRES⟩ : ∃ r, lkPc (lk ps n) ⟨5, l, ks⟩ s = r := ⟨_, rfl⟩
  rw [hRES] at HFE HFS ⊢
  have HKID : Hid (∀ t (z : Int), t < ks.length → ks.getD t 0 = z → ∃ k : Nat, z = k ∧ k < n ∧ k < ps.length) := Lib.hid (fun t z ht hz => by
    have e : ks.getD t 0 = ks[t] := by simp [List.getD, ht]
    have h1 := hkids ks[t] (List.getElem_mem ht)
    exact ⟨z.toNat, by omega, by omega, by omega⟩)
  have HRK := Lib.hid hrk
  have HB := Lib.hid hb
  have HIH := Lib.hid IH
  have HLKO := Lib.hid HLK
  have i1 : (0 : Int) ≤ (i : Int) := by omega
  have i2 : (i : Int) < (ps.length : Int) := by omega
  replace c0 := held_step hb c0
  replace c1 := held_step hb c1
  replace c2 := held_step hb c2
  have hbl : b < w.heap.size := World.block_lt_of_cell? w _ c0
  have m0 := blk_cell (o := 0) hm.box rfl
  have D0 : LkB ⟨w, gm, w0.heap.size, .slice (some ⟨b, o, none⟩) ps.length cP, ⟨5, l, ks⟩, Kk, ck⟩ (.slice none 0 0) (.slice none 0 0) (F 0).1 (F 0).2.labs (arcsOf (F 0).2.labs (F 0).2.prs) (decide (24 ≤ (F 0).2.labs.length))
      (((w.alloc (.cells #[.slice none 0 0, .slice none 0 0, .bool false] 49)).alloc (.cells #[.int .i64 5, .int .u8 l, .slice Kk ks.length ck] 78)).alloc (.cells #[.slice none 0 0, .slice none 0 0, .bool false] 49)) := by
    rw [hF0]
    have ka := below_alloc w (.cells #[.slice none 0 0, .slice none 0 0, .bool false] 49)
    have kb := below_alloc (w.alloc (.cells #[.slice none 0 0, .slice none 0 0, .bool false] 49)) (.cells #[.int .i64 5, .int .u8 l, .slice Kk ks.length ck] 78)
    have kc := below_alloc ((w.alloc (.cells #[.slice none 0 0, .slice none 0 0, .bool false] 49)).alloc (.cells #[.int .i64 5, .int .u8 l, .slice Kk ks.length ck] 78)) (.cells #[.slice none 0 0, .slice none 0 0, .bool false] 49)
    have hbad : decide (24 ≤ s.labs.length) = false := decide_eq_false (by omega)
    have p1 := heap_alloc_new (w.alloc (.cells #[.slice none 0 0, .slice none 0 0, .bool false] 49)) (.cells #[.int .i64 5, .int .u8 l, .slice Kk ks.length ck] 78)
    have p2 := heap_alloc_new ((w.alloc (.cells #[.slice none 0 0, .slice none 0 0, .bool false] 49)).alloc (.cells #[.int .i64 5, .int .u8 l, .slice Kk ks.length ck] 78)) (.cells #[.slice none 0 0, .slice none 0 0, .bool false] 49)
    rw [show (w.alloc (.cells #[.slice none 0 0, .slice none 0 0, .bool false] 49)).heap.size = w.heap.size + 1 by simp] at p1
    rw [show ((w.alloc (.cells #[.slice none 0 0, .slice none 0 0, .bool false] 49)).alloc (.cells #[.int .i64 5, .int .u8 l, .slice Kk ks.length ck] 78)).heap.size = w.heap.size + 2 by simp] at p2
    refine ⟨⟨blk_below (below_step kb kc) (heap_alloc_new _ _), blk_below kc p1, ⟨vl, va, by rw [hbad]; exact hm.below (below_step (below_step ka kb) kc)⟩, (Kq.refl _ _ _ _).below (below_step (below_step ka kb) kc)⟩, p2, World.ownsRow_nil _ _ _ _, World.ownsRow_nil _ _ _ _, Ap.nil _ _⟩
  have HD0 := Lib.hid D0
  clear D0 hF hF0 hRES hm hrk hb hkids HLK IH hs hc ho hp
  go_enter Try.func15, Try.ntmps15
  go_wp2
  clear c0 c1 c2 m0 hbl
  go_loopw [8] (fun i wr => ∃ (t : Nat) (vf vt : Value), t ≤ ks.length ∧ i = .int .i64 t ∧ LkB ⟨w, gm, w0.heap.size, .slice (some ⟨b, o, none⟩) ps.length cP, ⟨5, l, ks⟩, Kk, ck⟩ vf vt (F t).1 (F t).2.labs (arcsOf (F t).2.labs (F t).2.prs) (decide (24 ≤ (F t).2.labs.length)) wr) (fun i _ => ks.length - (intOf i).toNat)
  case atStart => exact ⟨0, _, _, Nat.zero_le _, rfl, HD0.out⟩
  case round =>
    clear HD0
    obtain ⟨t, vf, vt, ht, rfl, hD⟩ := hrel
    obtain ⟨VF, cvf, rfl⟩ := hD.fi.slice
    obtain ⟨VT, cvt, rfl⟩ := hD.la.slice
    have D := Lib.hid hD
    have hdead : (t < ks.length ∧ ¬ 24 ≤ (F t).2.labs.length) ∨ ((t < ks.length ∧ 24 ≤ (F t).2.labs.length) ∨ t = ks.length) := by omega
    obtain ⟨vl, va, hm⟩ := hD.r.mm
    have p0 : wr.cell? ⟨w.heap.size + 1, 0, none⟩ = some (.int .i64 5) := blk_cell (o := 0) hD.r.pc rfl
    have p2 : wr.cell? ⟨w.heap.size + 1, 2, none⟩ = some (.slice Kk ks.length ck) := blk_cell (o := 2) hD.r.pc rfl
    have m3 : wr.cell? ⟨gm, 3, none⟩ = some (.bool (decide (24 ≤ (F t).2.labs.length))) := blk_cell (o := 3) hm.box rfl
    rcases hdead with ⟨hlt, h24⟩ | hend
    · have hbf : decide (24 ≤ (F t).2.labs.length) = false := decide_eq_false h24
      rw [hbf] at m3 hm
      have hlti : decide ((t : Int) < (ks.length : Int)) = true := decide_eq_true (by omega)
      have hltn : decide (t < ks.length) = true := decide_eq_true hlt
      obtain ⟨z, hz⟩ : ∃ z, ks.getD t 0 = z := ⟨_, rfl⟩
      obtain ⟨k, rfl, hkn, hkl⟩ := HKID.out t z hlt hz
      obtain ⟨ad, rfl, cK⟩ := (HRK.out.below (hD.r.kq.low HB.out (Nat.le_refl _))).at_ hlt
      rw [hz] at cK
      have FOK := Lib.hid (HFOK.out t)
      have HSN : Hid (F (t + 1) = (lkNext 5 (F t).1 (lk ps n k (F t).2).1, ⟨(lk ps n k (F t).2).2.labs, (lk ps n k (F t).2).2.prs ++ lkPrs 5 (F t).1 (lk ps n k (F t).2).1⟩)) := Lib.hid (by
        rw [HFN.out t hlt, hz, lkStep_go _ _ _ h24]
        rfl)
      have CALL := Lib.hid (HIH.out k (F t).2 wr hkn hkl FOK.out.st (by omega) (hD.r.kq.low HB.out (Nat.le_refl _)) (Nat.lt_of_lt_of_le HC.out.h2 hD.r.kq.size) ⟨vl, va, hm⟩)
      have YOK : Hid (LkOk (F t).2 (lk ps n k (F t).2)) := Lib.hid (by
        have hmem : (k : Int) ∈ ks := by rw [← hz]; simp [List.getD, hlt]
        have := HLKO.out k hmem (F t).2 FOK.out.st (by omega)
        simpa using this)
      obtain ⟨y, hy⟩ : ∃ y, lk ps n k (F t).2 = y := ⟨_, rfl⟩
      obtain ⟨st, hst⟩ : ∃ st, F t = st := ⟨_, rfl⟩
      rw [hy] at HSN CALL YOK
      rw [hst] at HSN YOK FOK D
      have t0 : (0 : Int) ≤ (t : Int) := by omega
      have t1 : (t : Int) < (ks.length : Int) := by omega
      obtain ⟨on, hon⟩ : ∃ z, st.1.nul = z := ⟨_, rfl⟩
      have HON := Lib.hid hon
      clear hm hD hz hy hst hon h24 hbf
      go_wp2_with fail
      clear cK p0 p2 m3 hlti hltn
      refine CALL.out.mono ?_
      rintro e w5 ⟨yf, yt, rfl, o1, o2, ap, hm5, kq5⟩
      obtain ⟨YF, cyf, rfl⟩ := o1.slice
      obtain ⟨YT, cyt, rfl⟩ := o2.slice
      have hB5 := D.out.look HC.out kq5 hm5
      have a1 := Ap.old D.out.fi o1 (Nat.le_refl _)
      have a2 := Ap.old D.out.fi o2 (Nat.le_refl _)
      have a3 := Ap.old D.out.la o1 (Nat.le_refl _)
      have a4 := Ap.old D.out.la o2 (Nat.le_refl _)
      have hwb := D.out.r.kq.size
      have hg5 : w.heap.size + 2 < w5.heap.size := blk_lt hB5.out
      have ka := below_alloc w5 (.cells #[.slice YF y.1.fi.length cyf, .slice YT y.1.la.length cyt, .bool y.1.nul] 49)
      have qy := heap_alloc_new w5 (.cells #[.slice YF y.1.fi.length cyf, .slice YT y.1.la.length cyt, .bool y.1.nul] 49)
      have hB6 := hB5.below ka
      obtain ⟨yn, hyn⟩ : ∃ z, y.1.nul = z := ⟨_, rfl⟩
      have HYN := Lib.hid hyn
      have hY6 : LkY w5.heap.size wr.heap.size _ _ _ _ y.1 (w5.alloc (.cells #[.slice YF y.1.fi.length cyf, .slice YT y.1.la.length cyt, .bool y.1.nul] 49)) := ⟨qy, own_below o1 ka, own_below o2 ka, ap, a1, a2, a3, a4⟩
      obtain ⟨g6, hg6⟩ : ∃ g, w5.heap.size = g := ⟨_, rfl⟩
      rw [hyn] at hY6 hB6
      obtain ⟨W6, hW6⟩ : ∃ W, w5.alloc (.cells #[.slice YF y.1.fi.length cyf, .slice YT y.1.la.length cyt, .bool yn] 49) = W := ⟨_, rfl⟩
      rw [hW6] at hY6 hB6
      rw [hg6] at hY6 hg5
      have hyb := hY6.yb
      rw [hyn] at hyb
      have HY6 := Lib.hid hY6
      have HB6 := Lib.hid hB6
      have HG5 := Lib.hid hg5
      have HWB := Lib.hid hwb
      have hob := hB6.out
      rw [HON.out] at hob
      have p0 : W6.cell? ⟨w.heap.size + 1, 0, none⟩ = some (.int .i64 5) := blk_cell (o := 0) hB6.r.pc rfl
      have o0 : W6.cell? ⟨w.heap.size + 2, 0, none⟩ = _ := blk_cell (o := 0) hob rfl
      have o1 : W6.cell? ⟨w.heap.size + 2, 1, none⟩ = _ := blk_cell (o := 1) hob rfl
      have o2 : W6.cell? ⟨w.heap.size + 2, 2, none⟩ = _ := blk_cell (o := 2) hob rfl
      have y0 := blk_cell (o := 0) hyb rfl
      have y1 := blk_cell (o := 1) hyb rfl
      have y2 := blk_cell (o := 2) hyb rfl
      have f0 : W6.frozen? ⟨w.heap.size + 2, 0, none⟩ = false := frozen_of_row W6 _ 0 _ _ hob
      have f1 : W6.frozen? ⟨w.heap.size + 2, 1, none⟩ = false := frozen_of_row W6 _ 1 _ _ hob
      have f2 : W6.frozen? ⟨w.heap.size + 2, 2, none⟩ = false := frozen_of_row W6 _ 2 _ _ hob
      clear CALL D hm5 kq5 hB5 a1 a2 a3 a4 ka qy ap hB6 hY6 hyb hob hg5 hwb
      go_upto_region 17 with fail
      clear hW6 hg6 p0 o0 o1 o2 y0 y1 y2 f0 f1 f2
      have hne6 : g6 ≠ w.heap.size + 2 := by have := HG5.out; omega
      have HBA := Lib.hid (HB6.out.set0 HC.out (own_mono HY6.out.yfi HWB.out) HY6.out.a3.symm)
      have HYA := Lib.hid (HY6.out.set (j := 0) HB6.out.out hne6 (by decide) (.slice YF y.1.fi.length cyf))
      have HBB := Lib.hid (HBA.out.set1 HC.out (own_mono HYA.out.yla HWB.out) HYA.out.ap)
      have HYB := Lib.hid (HYA.out.set (j := 1) HBA.out.out hne6 (by decide) (.slice YT y.1.la.length cyt))
      have HBC := Lib.hid (HBB.out.set2 HC.out yn)
      have HYC := Lib.hid (HYB.out.set (j := 2) HBB.out.out hne6 (by decide) (.bool yn))
      clear hne6
      obtain ⟨W7, hW7⟩ : ∃ W, ((W6.setCell ⟨w.heap.size + 1 + 1, 0, none⟩ (.slice YF y.1.fi.length cyf)).setCell ⟨w.heap.size + 1 + 1, 1, none⟩ (.slice YT y.1.la.length cyt)).setCell ⟨w.heap.size + 1 + 1, 2, none⟩ (.bool yn) = W := ⟨_, rfl⟩
      rw [hW7]
      have HBC := Lib.hid (show _ from hW7 ▸ HBC.out)
      have HYC := Lib.hid (show _ from hW7 ▸ HYC.out)
      clear HBA HYA HBB HYB HB6 HY6
      have hob := HBC.out.out
      have hyb := HYC.out.yb
      rw [HYN.out] at hyb
      have p0 : W7.cell? ⟨w.heap.size + 1, 0, none⟩ = some (.int .i64 5) := blk_cell (o := 0) HBC.out.r.pc rfl
      have o0 : W7.cell? ⟨w.heap.size + 2, 0, none⟩ = _ := blk_cell (o := 0) hob rfl
      have o1 : W7.cell? ⟨w.heap.size + 2, 1, none⟩ = _ := blk_cell (o := 1) hob rfl
      have o2 : W7.cell? ⟨w.heap.size + 2, 2, none⟩ = _ := blk_cell (o := 2) hob rfl
      have y0 := blk_cell (o := 0) hyb rfl
      have y1 := blk_cell (o := 1) hyb rfl
      have y2 := blk_cell (o := 2) hyb rfl
      have f2 : W7.frozen? ⟨w.heap.size + 2, 2, none⟩ = false := frozen_of_row W7 _ 2 _ _ hob
      clear hob hyb
      go_wp2_with fail
      obtain ⟨vl6, va6, hm6⟩ := HBC.out.r.mm
      have HM6 := Lib.hid hm6
      have hyle := YOK.out.le
      refine (join_any gm w0.heap.size wr.heap.size wr.heap.size _ y.2.labs (arcsOf y.2.labs y.2.prs) _ vl6 va6 YT YF cyt cyf y.1.la y.1.fi W7 hm6 (by have := HC.out.h1; have := HC.out.h2; have := blk_lt HBC.out.out; simp only at *; omega) HYC.out.yla HYC.out.yfi YOK.out.st.len YOK.out.st.lab YOK.out.st.go
        (fun z hz => by have := YOK.out.la.2 z hz; omega) (fun z hz => by have := YOK.out.fi.2 z hz; omega) (by have := YOK.out.la.len; have := YOK.out.st.len; omega) (by have := YOK.out.fi.len; have := YOK.out.st.len; omega)).mono ?_
      rintro e w8 ⟨rfl, va8, hm8, hg8⟩
      clear hyle hm6 p0 o0 o1 o2 y0 y1 y2 f2
      have hB8 := HBC.out.only HC.out hg8 ⟨_, _, hm8⟩
      have HY8 := Lib.hid (HYC.out.only hg8 HM6.out.box (by have := HG5.out; have := HC.out.h2; simp only at *; omega))
      rw [← arcsOf_app] at hB8
      have HB8 := Lib.hid hB8
      clear hB8 hm8 hg8 HM6
      have hob := HB8.out.out
      have hyb := HY8.out.yb
      rw [HYN.out] at hyb
      have p0 : w8.cell? ⟨w.heap.size + 1, 0, none⟩ = some (.int .i64 5) := blk_cell (o := 0) HB8.out.r.pc rfl
      have o2 : w8.cell? ⟨w.heap.size + 2, 2, none⟩ = _ := blk_cell (o := 2) hob rfl
      have y2 := blk_cell (o := 2) hyb rfl
      have f2 : w8.frozen? ⟨w.heap.size + 2, 2, none⟩ = false := frozen_of_row w8 _ 2 _ _ hob
      clear hob hyb
      have HB11 := Lib.hid (HB8.out.set2 HC.out (yn || false))
      have HNX : Hid (F (t + 1) = (⟨y.1.fi, y.1.la, (yn || false)⟩, ⟨y.2.labs, y.2.prs ++ prsOf y.1.la y.1.fi⟩)) := Lib.hid (by
        rw [HSN.out]
        unfold lkNext lkPrs
        rw [if_neg (by decide), if_neg (by decide), if_neg (by decide), if_neg (by decide), if_neg (by decide), HYN.out]
        rfl)
      cases yn
      all_goals
        go_wp2
        go_roundw
        case rel => exact ⟨t + 1, _, _, by omega, by go_num, by rw [HNX.out]; exact HB11.out⟩
        case measure => simp [intOf]; omega
    · have HE : Hid (F t = RES) := Lib.hid (by
        rcases hend with ⟨_, h⟩ | h
        · exact HFS.out t h
        · rw [h]; exact HFE.out)
      obtain ⟨st, hst⟩ : ∃ st, F t = st := ⟨_, rfl⟩
      rw [hst] at D hD HE hend m3
      have hob := hD.out
      obtain ⟨on, hon⟩ : ∃ z, st.1.nul = z := ⟨_, rfl⟩
      rw [hon] at hob
      have HON := Lib.hid hon
      have o0 : wr.cell? ⟨w.heap.size + 2, 0, none⟩ = _ := blk_cell (o := 0) hob rfl
      have o1 : wr.cell? ⟨w.heap.size + 2, 1, none⟩ = _ := blk_cell (o := 1) hob rfl
      have o2 : wr.cell? ⟨w.heap.size + 2, 2, none⟩ = _ := blk_cell (o := 2) hob rfl
      have hrs := hD.r.res
      have r0 : wr.cell? ⟨w.heap.size, 0, none⟩ = _ := blk_cell (o := 0) hrs rfl
      have r1 : wr.cell? ⟨w.heap.size, 1, none⟩ = _ := blk_cell (o := 1) hrs rfl
      have r2 : wr.cell? ⟨w.heap.size, 2, none⟩ = _ := blk_cell (o := 2) hrs rfl
      have f0 : wr.frozen? ⟨w.heap.size, 0, none⟩ = false := frozen_of_row wr _ 0 _ _ hrs
      have f1 : wr.frozen? ⟨w.heap.size, 1, none⟩ = false := frozen_of_row wr _ 1 _ _ hrs
      have f2 : wr.frozen? ⟨w.heap.size, 2, none⟩ = false := frozen_of_row wr _ 2 _ _ hrs
      have HEND := Lib.hid hend
      clear hm hD hob hrs hst hon hend HKID HIH HLKO HFS HFE HFN HFOK
      rcases HEND.out with ⟨hlt, h24⟩ | hte
      · have hlti : decide ((t : Int) < (ks.length : Int)) = true := decide_eq_true (by omega)
        have hltn : decide (t < ks.length) = true := decide_eq_true hlt
        rw [decide_eq_true h24] at m3
        clear h24
        go_wp2
        refine bodyPost_ret (v := .agg #[.slice VF st.1.fi.length cvf, .slice VT st.1.la.length cvt, .bool on]) (by simp [results, Try.results15, go_sem, r0, r1, r2]) rfl ?_
        show LookP gm w0.heap.size _ RES w _ _
        rw [← HE.out]
        exact ⟨_, _, by rw [HON.out], D.out.fin HC.out _ _ _⟩
      · have hlti : decide ((t : Int) < (ks.length : Int)) = false := decide_eq_false (by omega)
        have hltn : decide (t < ks.length) = false := decide_eq_false (by omega)
        clear hte m3
        go_wp2
        refine bodyPost_ret (v := .agg #[.slice VF st.1.fi.length cvf, .slice VT st.1.la.length cvt, .bool on]) (by simp [results, Try.results15, go_sem, r0, r1, r2]) rfl ?_
        show LookP gm w0.heap.size _ RES w _ _
        rw [← HE.out]
        exact ⟨_, _, by rw [HON.out], D.out.fin HC.out _ _ _⟩

set_option maxRecDepth 100000 in
set_option maxHeartbeats 12800000 in
theorem look_one6 {ps : List Pc} (hp : PaOk ps) {w0 : World} {A : Option Addr} {cP : Nat} (hx : RdP w0 A ps) {gm : Nat} (hqg : w0.heap.size ≤ gm) {n : Nat} (IH : LookC ps gm (.slice A ps.length cP) w0 n)
    (i : Nat) (s : LkS) (w : World) (hin : i < n + 1) (hil : i < ps.length) (hs : StOk s) (hc : s.labs.length < 24) (hb : Below w0.heap.size w0 w) (hgm : gm < w.heap.size) (hm : ∃ vl va, MkI gm w0.heap.size (.slice A ps.length cP) vl va s.labs (arcsOf s.labs s.prs) false w) (hop : ps[i].op = 6) (hkl : ∀ p ∈ ps, p.k.length ≤ 4294967296) :
    Calls Try.prog 15 #[.pointer (some ⟨gm, 0, none⟩), .int .i64 i] w (LookP gm w0.heap.size (.slice A ps.length cP) (lkPc (lk ps n) ps[i] s) w) := by
  obtain ⟨i0, hi, hz0, hz1, hz2⟩ := info_parts Try.infoInt
  obtain ⟨vl, va, hm⟩ := hm
  obtain ⟨b, o, Kk, ck, rfl, c0, c1, c2, hrk⟩ := hx.at_ hil
  have ho := hp.2 i hil
  have hkids := ho.kids
  have HLK : ∀ k ∈ ps[i].k, ∀ s, StOk s → s.labs.length < 24 → LkOk s (lk ps n k.toNat s) := fun k hk s h1 h2 => by
    have := hkids k hk
    exact lk_ok hp n k.toNat s (by omega) (by omega) h1 h2
  obtain ⟨x, hxx⟩ : ∃ x, ps[i] = x := ⟨_, rfl⟩
  rw [hxx] at ho hkids c0 c1 c2 hrk HLK hop ⊢
  have hkn : x.k.length ≤ 4294967296 := by rw [← hxx]; exact hkl _ (List.getElem_mem hil)
  clear hxx hx hkl
  obtain ⟨op, l, ks⟩ := x
  simp only at ho hkids c0 c1 c2 hrk HLK hop hkn ⊢
  subst hop
  obtain ⟨F, hF⟩ : ∃ F : Nat → Lk × LkS, F = fun t => (ks.take t).foldl (lkStep (lk ps n) 6) (⟨[], [], false⟩, s) := ⟨_, rfl⟩
  have hF0 : F 0 = (⟨[], [], false⟩, s) := by rw [hF]; rfl
  have HFOK : Hid (∀ t, LkOk s (F t)) := Lib.hid (fun t => by rw [hF]; exact LkOk.fold _ _ (.start hs _) (fun k hk => HLK k (List.mem_of_mem_take hk)))
  have HFN : Hid (∀ t, t < ks.length → F (t + 1) = lkStep (lk ps n) 6 (F t) (ks.getD t 0)) := Lib.hid (fun t ht => by rw [hF]; exact lk_take ht)
  have HFE : Hid (F ks.length = lkPc (lk ps n) ⟨6, l, ks⟩ s) := Lib.hid (by
    rw [hF]
    simp only
    rw [List.take_of_length_le (Nat.le_refl _)]
    rfl)
  have HFS : Hid (∀ t, 24 ≤ (F t).2.labs.length → F t = lkPc (lk ps n) ⟨6, l, ks⟩ s) := Lib.hid (fun t ht => by
    rw [hF] at ht ⊢
    exact (lk_stop t ht).trans rfl)
  have HC : Hid (LkC.Ok ⟨w, gm, w0.heap.size, .slice (some ⟨b, o, none⟩) ps.length cP, ⟨6, l, ks⟩, Kk, ck⟩) := Lib.hid ⟨hqg, hgm⟩
  obtain ⟨RES, hRES⟩ : ∃ r, lkPc (lk ps n) ⟨6, l, ks⟩ s = r := ⟨_, rfl⟩
  rw [hRES] at HFE HFS ⊢
  have HKID : Hid (∀ t (z : Int), t < ks.length → ks.getD t 0 = z → ∃ k : Nat, z = k ∧ k < n ∧ k < ps.length) := Lib.hid (fun t z ht hz => by
    have e : ks.getD t 0 = ks[t] := by simp [List.getD, ht]
    have h1 := hkids ks[t] (List.getElem_mem ht)
    exact ⟨z.toNat, by omega, by omega, by omega⟩)
  have HRK := Lib.hid hrk
  have HB := Lib.hid hb
  have HIH := Lib.hid IH
  have HLKO := Lib.hid HLK
  have i1 : (0 : Int) ≤ (i : Int) := by omega
  have i2 : (i : Int) < (ps.length : Int) := by omega
  replace c0 := held_step hb c0
  replace c1 := held_step hb c1
  replace c2 := held_step hb c2
  have hbl : b < w.heap.size := World.block_lt_of_cell? w _ c0
  have m0 := blk_cell (o := 0) hm.box rfl
  have D0 : LkB ⟨w, gm, w0.heap.size, .slice (some ⟨b, o, none⟩) ps.length cP, ⟨6, l, ks⟩, Kk, ck⟩ (.slice none 0 0) (.slice none 0 0) (F 0).1 (F 0).2.labs (arcsOf (F 0).2.labs (F 0).2.prs) (decide (24 ≤ (F 0).2.labs.length))
      (((w.alloc (.cells #[.slice none 0 0, .slice none 0 0, .bool false] 49)).alloc (.cells #[.int .i64 6, .int .u8 l, .slice Kk ks.length ck] 78)).alloc (.cells #[.slice none 0 0, .slice none 0 0, .bool false] 49)) := by
    rw [hF0]
    have ka := below_alloc w (.cells #[.slice none 0 0, .slice none 0 0, .bool false] 49)
    have kb := below_alloc (w.alloc (.cells #[.slice none 0 0, .slice none 0 0, .bool false] 49)) (.cells #[.int .i64 6, .int .u8 l, .slice Kk ks.length ck] 78)
    have kc := below_alloc ((w.alloc (.cells #[.slice none 0 0, .slice none 0 0, .bool false] 49)).alloc (.cells #[.int .i64 6, .int .u8 l, .slice Kk ks.length ck] 78)) (.cells #[.slice none 0 0, .slice none 0 0, .bool false] 49)
    have hbad : decide (24 ≤ s.labs.length) = false := decide_eq_false (by omega)
    have p1 := heap_alloc_new (w.alloc (.cells #[.slice none 0 0, .slice none 0 0, .bool false] 49)) (.cells #[.int .i64 6, .int .u8 l, .slice Kk ks.length ck] 78)
    have p2 := heap_alloc_new ((w.alloc (.cells #[.slice none 0 0, .slice none 0 0, .bool false] 49)).alloc (.cells #[.int .i64 6, .int .u8 l, .slice Kk ks.length ck] 78)) (.cells #[.slice none 0 0, .slice none 0 0, .bool false] 49)
    rw [show (w.alloc (.cells #[.slice none 0 0, .slice none 0 0, .bool false] 49)).heap.size = w.heap.size + 1 by simp] at p1
    rw [show ((w.alloc (.cells #[.slice none 0 0, .slice none 0 0, .bool false] 49)).alloc (.cells #[.int .i64 6, .int .u8 l, .slice Kk ks.length ck] 78)).heap.size = w.heap.size + 2 by simp] at p2
    refine ⟨⟨blk_below (below_step kb kc) (heap_alloc_new _ _), blk_below kc p1, ⟨vl, va, by rw [hbad]; exact hm.below (below_step (below_step ka kb) kc)⟩, (Kq.refl _ _ _ _).below (below_step (below_step ka kb) kc)⟩, p2, World.ownsRow_nil _ _ _ _, World.ownsRow_nil _ _ _ _, Ap.nil _ _⟩
  have HD0 := Lib.hid D0
  clear D0 hF hF0 hRES hm hrk hb hkids HLK IH hs hc ho hp
  go_enter Try.func15, Try.ntmps15
  go_wp2
  clear c0 c1 c2 m0 hbl
  go_loopw [8] (fun i wr => ∃ (t : Nat) (vf vt : Value), t ≤ ks.length ∧ i = .int .i64 t ∧ LkB ⟨w, gm, w0.heap.size, .slice (some ⟨b, o, none⟩) ps.length cP, ⟨6, l, ks⟩, Kk, ck⟩ vf vt (F t).1 (F t).2.labs (arcsOf (F t).2.labs (F t).2.prs) (decide (24 ≤ (F t).2.labs.length)) wr) (fun i _ => ks.length - (intOf i).toNat)
  case atStart => exact ⟨0, _, _, Nat.zero_le _, rfl, HD0.out⟩
  case round =>
    clear HD0
    obtain ⟨t, vf, vt, ht, rfl, hD⟩ := hrel
    obtain ⟨VF, cvf, rfl⟩ := hD.fi.slice
    obtain ⟨VT, cvt, rfl⟩ := hD.la.slice
    have D := Lib.hid hD
    have hdead : (t < ks.length ∧ ¬ 24 ≤ (F t).2.labs.length) ∨ ((t < ks.length ∧ 24 ≤ (F t).2.labs.length) ∨ t = ks.length) := by omega
    obtain ⟨vl, va, hm⟩ := hD.r.mm
    have p0 : wr.cell? ⟨w.heap.size + 1, 0, none⟩ = some (.int .i64 6) := blk_cell (o := 0) hD.r.pc rfl
    have p2 : wr.cell? ⟨w.heap.size + 1, 2, none⟩ = some (.slice Kk ks.length ck) := blk_cell (o := 2) hD.r.pc rfl
    have m3 : wr.cell? ⟨gm, 3, none⟩ = some (.bool (decide (24 ≤ (F t).2.labs.length))) := blk_cell (o := 3) hm.box rfl
    rcases hdead with ⟨hlt, h24⟩ | hend
    · have hbf : decide (24 ≤ (F t).2.labs.length) = false := decide_eq_false h24
      rw [hbf] at m3 hm
      have hlti : decide ((t : Int) < (ks.length : Int)) = true := decide_eq_true (by omega)
      have hltn : decide (t < ks.length) = true := decide_eq_true hlt
      obtain ⟨z, hz⟩ : ∃ z, ks.getD t 0 = z := ⟨_, rfl⟩
      obtain ⟨k, rfl, hkn, hkl⟩ := HKID.out t z hlt hz
      obtain ⟨ad, rfl, cK⟩ := (HRK.out.below (hD.r.kq.low HB.out (Nat.le_refl _))).at_ hlt
      rw [hz] at cK
      have FOK := Lib.hid (HFOK.out t)
      have HSN : Hid (F (t + 1) = (lkNext 6 (F t).1 (lk ps n k (F t).2).1, ⟨(lk ps n k (F t).2).2.labs, (lk ps n k (F t).2).2.prs ++ lkPrs 6 (F t).1 (lk ps n k (F t).2).1⟩)) := Lib.hid (by
        rw [HFN.out t hlt, hz, lkStep_go _ _ _ h24]
        rfl)
      have CALL := Lib.hid (HIH.out k (F t).2 wr hkn hkl FOK.out.st (by omega) (hD.r.kq.low HB.out (Nat.le_refl _)) (Nat.lt_of_lt_of_le HC.out.h2 hD.r.kq.size) ⟨vl, va, hm⟩)
      have YOK : Hid (LkOk (F t).2 (lk ps n k (F t).2)) := Lib.hid (by
        have hmem : (k : Int) ∈ ks := by rw [← hz]; simp [List.getD, hlt]
        have := HLKO.out k hmem (F t).2 FOK.out.st (by omega)
        simpa using this)
      obtain ⟨y, hy⟩ : ∃ y, lk ps n k (F t).2 = y := ⟨_, rfl⟩
      obtain ⟨st, hst⟩ : ∃ st, F t = st := ⟨_, rfl⟩
      rw [hy] at HSN CALL YOK
      rw [hst] at HSN YOK FOK D
      have t0 : (0 : Int) ≤ (t : Int) := by omega
      have t1 : (t : Int) < (ks.length : Int) := by omega
      obtain ⟨on, hon⟩ : ∃ z, st.1.nul = z := ⟨_, rfl⟩
      have HON := Lib.hid hon
      clear hm hD hz hy hst hon h24 hbf
      go_wp2_with fail
      clear cK p0 p2 m3 hlti hltn
      refine CALL.out.mono ?_
      rintro e w5 ⟨yf, yt, rfl, o1, o2, ap, hm5, kq5⟩
      obtain ⟨YF, cyf, rfl⟩ := o1.slice
      obtain ⟨YT, cyt, rfl⟩ := o2.slice
      have hB5 := D.out.look HC.out kq5 hm5
      have a1 := Ap.old D.out.fi o1 (Nat.le_refl _)
      have a2 := Ap.old D.out.fi o2 (Nat.le_refl _)
      have a3 := Ap.old D.out.la o1 (Nat.le_refl _)
      have a4 := Ap.old D.out.la o2 (Nat.le_refl _)
      have hwb := D.out.r.kq.size
      have hg5 : w.heap.size + 2 < w5.heap.size := blk_lt hB5.out
      have ka := below_alloc w5 (.cells #[.slice YF y.1.fi.length cyf, .slice YT y.1.la.length cyt, .bool y.1.nul] 49)
      have qy := heap_alloc_new w5 (.cells #[.slice YF y.1.fi.length cyf, .slice YT y.1.la.length cyt, .bool y.1.nul] 49)
      have hB6 := hB5.below ka
      obtain ⟨yn, hyn⟩ : ∃ z, y.1.nul = z := ⟨_, rfl⟩
      have HYN := Lib.hid hyn
      have hY6 : LkY w5.heap.size wr.heap.size _ _ _ _ y.1 (w5.alloc (.cells #[.slice YF y.1.fi.length cyf, .slice YT y.1.la.length cyt, .bool y.1.nul] 49)) := ⟨qy, own_below o1 ka, own_below o2 ka, ap, a1, a2, a3, a4⟩
      obtain ⟨g6, hg6⟩ : ∃ g, w5.heap.size = g := ⟨_, rfl⟩
      rw [hyn] at hY6 hB6
      obtain ⟨W6, hW6⟩ : ∃ W, w5.alloc (.cells #[.slice YF y.1.fi.length cyf, .slice YT y.1.la.length cyt, .bool yn] 49) = W := ⟨_, rfl⟩
      rw [hW6] at hY6 hB6
      rw [hg6] at hY6 hg5
      have hyb := hY6.yb
      rw [hyn] at hyb
      have HY6 := Lib.hid hY6
      have HB6 := Lib.hid hB6
      have HG5 := Lib.hid hg5
      have HWB := Lib.hid hwb
      have hob := hB6.out
      rw [HON.out] at hob
      have p0 : W6.cell? ⟨w.heap.size + 1, 0, none⟩ = some (.int .i64 6) := blk_cell (o := 0) hB6.r.pc rfl
      have o0 : W6.cell? ⟨w.heap.size + 2, 0, none⟩ = _ := blk_cell (o := 0) hob rfl
      have o1 : W6.cell? ⟨w.heap.size + 2, 1, none⟩ = _ := blk_cell (o := 1) hob rfl
      have o2 : W6.cell? ⟨w.heap.size + 2, 2, none⟩ = _ := blk_cell (o := 2) hob rfl
      have y0 := blk_cell (o := 0) hyb rfl
      have y1 := blk_cell (o := 1) hyb rfl
      have y2 := blk_cell (o := 2) hyb rfl
      have f0 : W6.frozen? ⟨w.heap.size + 2, 0, none⟩ = false := frozen_of_row W6 _ 0 _ _ hob
      have f1 : W6.frozen? ⟨w.heap.size + 2, 1, none⟩ = false := frozen_of_row W6 _ 1 _ _ hob
      have f2 : W6.frozen? ⟨w.heap.size + 2, 2, none⟩ = false := frozen_of_row W6 _ 2 _ _ hob
      clear CALL D hm5 kq5 hB5 a1 a2 a3 a4 ka qy ap hB6 hY6 hyb hob hg5 hwb
      go_upto_region 17 with fail
      clear hW6 hg6 p0 o0 o1 o2 y0 y1 y2 f0 f1 f2
      have hne6 : g6 ≠ w.heap.size + 2 := by have := HG5.out; omega
      have HBA := Lib.hid (HB6.out.set0 HC.out (own_mono HY6.out.yfi HWB.out) HY6.out.a3.symm)
      have HYA := Lib.hid (HY6.out.set (j := 0) HB6.out.out hne6 (by decide) (.slice YF y.1.fi.length cyf))
      have HBB := Lib.hid (HBA.out.set1 HC.out (own_mono HYA.out.yla HWB.out) HYA.out.ap)
      have HYB := Lib.hid (HYA.out.set (j := 1) HBA.out.out hne6 (by decide) (.slice YT y.1.la.length cyt))
      have HBC := Lib.hid (HBB.out.set2 HC.out yn)
      have HYC := Lib.hid (HYB.out.set (j := 2) HBB.out.out hne6 (by decide) (.bool yn))
      clear hne6
      obtain ⟨W7, hW7⟩ : ∃ W, ((W6.setCell ⟨w.heap.size + 1 + 1, 0, none⟩ (.slice YF y.1.fi.length cyf)).setCell ⟨w.heap.size + 1 + 1, 1, none⟩ (.slice YT y.1.la.length cyt)).setCell ⟨w.heap.size + 1 + 1, 2, none⟩ (.bool yn) = W := ⟨_, rfl⟩
      rw [hW7]
      have HBC := Lib.hid (show _ from hW7 ▸ HBC.out)
      have HYC := Lib.hid (show _ from hW7 ▸ HYC.out)
      clear HBA HYA HBB HYB HB6 HY6
      have hob := HBC.out.out
      have hyb := HYC.out.yb
      rw [HYN.out] at hyb
      have p0 : W7.cell? ⟨w.heap.size + 1, 0, none⟩ = some (.int .i64 6) := blk_cell (o := 0) HBC.out.r.pc rfl
      have o0 : W7.cell? ⟨w.heap.size + 2, 0, none⟩ = _ := blk_cell (o := 0) hob rfl
      have o1 : W7.cell? ⟨w.heap.size + 2, 1, none⟩ = _ := blk_cell (o := 1) hob rfl
      have o2 : W7.cell? ⟨w.heap.size + 2, 2, none⟩ = _ := blk_cell (o := 2) hob rfl
      have y0 := blk_cell (o := 0) hyb rfl
      have y1 := blk_cell (o := 1) hyb rfl
      have y2 := blk_cell (o := 2) hyb rfl
      have f2 : W7.frozen? ⟨w.heap.size + 2, 2, none⟩ = false := frozen_of_row W7 _ 2 _ _ hob
      clear hob hyb
      have HB11 := Lib.hid (HBC.out.set2 HC.out (yn || true))
      have HNX : Hid (F (t + 1) = (⟨y.1.fi, y.1.la, (yn || true)⟩, ⟨y.2.labs, y.2.prs⟩)) := Lib.hid (by
        rw [HSN.out]
        unfold lkNext lkPrs
        rw [if_neg (by decide), if_neg (by decide), if_neg (by decide), if_neg (by decide), if_pos rfl, HYN.out, List.append_nil]
        rfl)
      cases yn
      all_goals
        go_wp2
        go_roundw
        case rel => exact ⟨t + 1, _, _, by omega, by go_num, by rw [HNX.out]; exact HB11.out⟩
        case measure => simp [intOf]; omega
    · have HE : Hid (F t = RES) := Lib.hid (by
        rcases hend with ⟨_, h⟩ | h
        · exact HFS.out t h
        · rw [h]; exact HFE.out)
      obtain ⟨st, hst⟩ : ∃ st, F t = st := ⟨_, rfl⟩
      rw [hst] at D hD HE hend m3
      have hob := hD.out
      obtain ⟨on, hon⟩ : ∃ z, st.1.nul = z := ⟨_, rfl⟩
      rw [hon] at hob
      have HON := Lib.hid hon
      have o0 : wr.cell? ⟨w.heap.size + 2, 0, none⟩ = _ := blk_cell (o := 0) hob rfl
      have o1 : wr.cell? ⟨w.heap.size + 2, 1, none⟩ = _ := blk_cell (o := 1) hob rfl
      have o2 : wr.cell? ⟨w.heap.size + 2, 2, none⟩ = _ := blk_cell (o := 2) hob rfl
      have hrs := hD.r.res
      have r0 : wr.cell? ⟨w.heap.size, 0, none⟩ = _ := blk_cell (o := 0) hrs rfl
      have r1 : wr.cell? ⟨w.heap.size, 1, none⟩ = _ := blk_cell (o := 1) hrs rfl
      have r2 : wr.cell? ⟨w.heap.size, 2, none⟩ = _ := blk_cell (o := 2) hrs rfl
      have f0 : wr.frozen? ⟨w.heap.size, 0, none⟩ = false := frozen_of_row wr _ 0 _ _ hrs
      have f1 : wr.frozen? ⟨w.heap.size, 1, none⟩ = false := frozen_of_row wr _ 1 _ _ hrs
      have f2 : wr.frozen? ⟨w.heap.size, 2, none⟩ = false := frozen_of_row wr _ 2 _ _ hrs
      have HEND := Lib.hid hend
      clear hm hD hob hrs hst hon hend HKID HIH HLKO HFS HFE HFN HFOK
      rcases HEND.out with ⟨hlt, h24⟩ | hte
      · have hlti : decide ((t : Int) < (ks.length : Int)) = true := decide_eq_true (by omega)
        have hltn : decide (t < ks.length) = true := decide_eq_true hlt
        rw [decide_eq_true h24] at m3
        clear h24
        go_wp2
        refine bodyPost_ret (v := .agg #[.slice VF st.1.fi.length cvf, .slice VT st.1.la.length cvt, .bool on]) (by simp [results, Try.results15, go_sem, r0, r1, r2]) rfl ?_
        show LookP gm w0.heap.size _ RES w _ _
        rw [← HE.out]
        exact ⟨_, _, by rw [HON.out], D.out.fin HC.out _ _ _⟩
      · have hlti : decide ((t : Int) < (ks.length : Int)) = false := decide_eq_false (by omega)
        have hltn : decide (t < ks.length) = false := decide_eq_false (by omega)
        clear hte m3
        go_wp2
        refine bodyPost_ret (v := .agg #[.slice VF st.1.fi.length cvf, .slice VT st.1.la.length cvt, .bool on]) (by simp [results, Try.results15, go_sem, r0, r1, r2]) rfl ?_
        show LookP gm w0.heap.size _ RES w _ _
        rw [← HE.out]
        exact ⟨_, _, by rw [HON.out], D.out.fin HC.out _ _ _⟩
end Go.Proofs.Ytjlekcoikceidaa
namespace Go.Proofs.Ytjlekcoikceidaa
open Go.RowKit

theorem own_one (w : World) {b x : Nat} {z : Int} (hb : b ≤ w.heap.size) (hz : z = x) : OwnN (w.alloc (.cells #[.int .i64 z] 3)) b (.slice (some ⟨w.heap.size, 0, none⟩) 1 1) [x] := by
  subst hz
  exact ⟨rfl, .inr ⟨w.heap.size, 1, #[.int .i64 x], rfl, hb, heap_alloc_new w _, Nat.le_refl _, by unfold maxLen; omega, rfl, rfl⟩⟩
theorem Rd.one1 (w : World) (a : Value) (e : TypeId) : Rd (w.alloc (.cells #[a] e)).drew 1 (some ⟨w.heap.size, 0, none⟩) 1 [a] := by
  refine ⟨rfl, fun _ => ⟨_, rfl, fun j u hu => ?_⟩⟩
  have hadd : (⟨w.heap.size, 0, none⟩ : Addr).add j = ⟨w.heap.size, j, none⟩ := by unfold Addr.add; split <;> simp_all
  show (w.alloc (.cells #[a] e)).cell? _ = _
  rw [hadd, cell_of_row _ w.heap.size j #[a] e (0, 0) (heap_alloc_new w _)]
  simpa using hu
section
variable {C : LkC} {labs : List Int} {es : List Ed} {bad : Bool} {wr w8 : World}
theorem LkR.fin {vf vt : Value} {xs ys : List Nat} (h : LkR C labs es bad wr) (hC : C.Ok) (hf : OwnN wr C.w.heap.size vf xs) (hl : OwnN wr C.w.heap.size vt ys) (a b c : Value) :
    OwnN (((wr.setCell ⟨C.w.heap.size, 0, none⟩ a).setCell ⟨C.w.heap.size, 1, none⟩ b).setCell ⟨C.w.heap.size, 2, none⟩ c) C.w.heap.size vf xs ∧ OwnN (((wr.setCell ⟨C.w.heap.size, 0, none⟩ a).setCell ⟨C.w.heap.size, 1, none⟩ b).setCell ⟨C.w.heap.size, 2, none⟩ c) C.w.heap.size vt ys ∧
    (∃ vl va, MkI C.gm C.q C.P vl va labs es bad (((wr.setCell ⟨C.w.heap.size, 0, none⟩ a).setCell ⟨C.w.heap.size, 1, none⟩ b).setCell ⟨C.w.heap.size, 2, none⟩ c)) ∧ Kq [5] C.q C.gm C.w (((wr.setCell ⟨C.w.heap.size, 0, none⟩ a).setCell ⟨C.w.heap.size, 1, none⟩ b).setCell ⟨C.w.heap.size, 2, none⟩ c) := by
  obtain ⟨vl, va, hm⟩ := h.mm
  have hg := hC.h2
  have b0 : wr.heap[C.w.heap.size]? = some (.cells #[.slice none 0 0, .slice none 0 0, .bool false] 49 (0, 0)) := h.res
  have b1 : (wr.setCell ⟨C.w.heap.size, 0, none⟩ a).heap[C.w.heap.size]? = some (.cells #[a, .slice none 0 0, .bool false] 49 (0, 0)) := by simp [World.setCell, Array.getElem?_modify, b0]
  have b2 : ((wr.setCell ⟨C.w.heap.size, 0, none⟩ a).setCell ⟨C.w.heap.size, 1, none⟩ b).heap[C.w.heap.size]? = some (.cells #[a, b, .bool false] 49 (0, 0)) := by
    generalize hW : wr.setCell ⟨C.w.heap.size, 0, none⟩ a = W at b1 ⊢
    simp [World.setCell, Array.getElem?_modify, b1]
  have f1 : OwnN (wr.setCell ⟨C.w.heap.size, 0, none⟩ a) C.w.heap.size vf xs := own_setCell_other hf (row_ne hf b0 (by decide)) a
  have f2 : OwnN ((wr.setCell ⟨C.w.heap.size, 0, none⟩ a).setCell ⟨C.w.heap.size, 1, none⟩ b) C.w.heap.size vf xs := own_setCell_other f1 (row_ne f1 b1 (by decide)) b
  have l1 : OwnN (wr.setCell ⟨C.w.heap.size, 0, none⟩ a) C.w.heap.size vt ys := own_setCell_other hl (row_ne hl b0 (by decide)) a
  have l2 : OwnN ((wr.setCell ⟨C.w.heap.size, 0, none⟩ a).setCell ⟨C.w.heap.size, 1, none⟩ b) C.w.heap.size vt ys := own_setCell_other l1 (row_ne l1 b1 (by decide)) b
  exact ⟨own_setCell_other f2 (row_ne f2 b2 (by decide)) c, own_setCell_other l2 (row_ne l2 b2 (by decide)) c,
    ⟨vl, va, ((hm.set (j := 0) b0 (by omega) (by decide) (by decide) a).set (j := 1) b1 (by omega) (by decide) (by decide) b).set (j := 2) b2 (by omega) (by decide) (by decide) c⟩,
    ((h.kq.set (Nat.le_refl _) a).set (Nat.le_refl _) b).set (Nat.le_refl _) c⟩
theorem LkR.spoil (h : LkR C labs es bad wr) (hC : C.Ok) : LkR C labs es true (wr.setCell ⟨C.gm, 3, none⟩ (.bool true)) := by
  obtain ⟨vl, va, hm⟩ := h.mm
  have hg := hC.h2
  exact ⟨blk_set_ne h.res (by omega), blk_set_ne h.pc (by omega), ⟨vl, va, by simp [World.setCell, Array.getElem?_modify, hm.box], own_setCell_other hm.lo (row_ne hm.lo hm.box (by decide)) _, own_setCell_other hm.ao (row_ne hm.ao hm.box (by decide)) _⟩,
    h.kq.only hC.h1 (only_setCell (World.grownBy.refl _ _) _ _)⟩
/-- A label has been put behind the others. -/
theorem LkR.label {vl va v8 : Value} {l : Int} (h : LkR C labs es bad wr) (hC : C.Ok) (hm : MkI C.gm C.q C.P vl va labs es bad wr) (hg : wr.grownBy w8 vl.ownBlock) (ho : w8.ownsRow C.q 5 1 v8 (labs ++ [l]).length ((labs ++ [l]).map (Value.int .u8))) : LkR C (labs ++ [l]) es bad (w8.setCell ⟨C.gm, 1, none⟩ v8) := by
  have h2 := hC.h2
  have hb8 := (hg.block _ (blk_lt hm.box) (fun e => row_ne hm.lo hm.box (by decide) e.symm)).trans hm.box
  have ha8 := hm.ao.kept hg (own_ne hm.ao hm.lo (by decide))
  refine ⟨blk_set_ne ((hg.block _ (blk_lt h.res) (fun e => row_ne hm.lo h.res (by decide) e.symm)).trans h.res) (by omega), blk_set_ne ((hg.block _ (blk_lt h.pc) (fun e => row_ne hm.lo h.pc (by decide) e.symm)).trans h.pc) (by omega), ⟨v8, va, ?_, own_setCell_other ho (row_ne ho hb8 (by decide)) _, own_setCell_other ha8 (row_ne ha8 hb8 (by decide)) _⟩, (h.kq.row (by simp) hm.lo hg).only hC.h1 (only_setCell (World.grownBy.refl _ _) _ _)⟩
  simp [World.setCell, Array.getElem?_modify, hb8]
end
set_option maxRecDepth 100000 in

set_option maxHeartbeats 12800000 in
theorem look_step {ps : List Pc} (hp : PaOk ps) {w0 : World} {A : Option Addr} {cP : Nat} (hx : RdP w0 A ps) {gm : Nat} (hqg : w0.heap.size ≤ gm) {n : Nat} (IH : LookC ps gm (.slice A ps.length cP) w0 n)
    (i : Nat) (s : LkS) (w : World) (hin : i < n + 1) (hil : i < ps.length) (hs : StOk s) (hc : s.labs.length < 24) (hb : Below w0.heap.size w0 w) (hgm : gm < w.heap.size) (hm : ∃ vl va, MkI gm w0.heap.size (.slice A ps.length cP) vl va s.labs (arcsOf s.labs s.prs) false w) (hop : ps[i].op = 1) (hkl : ∀ p ∈ ps, p.k.length ≤ 4294967296) :
    Calls Try.prog 15 #[.pointer (some ⟨gm, 0, none⟩), .int .i64 i] w (LookP gm w0.heap.size (.slice A ps.length cP) (lkPc (lk ps n) ps[i] s) w) := by
  obtain ⟨i0, hi, hz0, hz1, hz2⟩ := info_parts Try.infoInt
  obtain ⟨vl, va, hm⟩ := hm
  obtain ⟨b, o, Kk, ck, rfl, c0, c1, c2, hrk⟩ := hx.at_ hil
  have ho := hp.2 i hil
  have hkids := ho.kids
  have HLK : ∀ k ∈ ps[i].k, ∀ s, StOk s → s.labs.length < 24 → LkOk s (lk ps n k.toNat s) := fun k hk s h1 h2 => by
    have := hkids k hk
    exact lk_ok hp n k.toNat s (by omega) (by omega) h1 h2
  obtain ⟨x, hxx⟩ : ∃ x, ps[i] = x := ⟨_, rfl⟩
  rw [hxx] at ho hkids c0 c1 c2 hrk HLK hop ⊢
  have hkn : x.k.length ≤ 4294967296 := by rw [← hxx]; exact hkl _ (List.getElem_mem hil)
  clear hxx hx hkl
  obtain ⟨op, l, ks⟩ := x
  simp only at ho hkids c0 c1 c2 hrk HLK hop hkn ⊢
  subst hop
  obtain ⟨j0, hj, hy0, hy1, hy2⟩ := info_parts Try.infoU8
  have hk0 : ks = [] := List.eq_nil_of_length_eq_zero (ho.step rfl).2
  have hlb := ho.lbl
  have HC : Hid (LkC.Ok ⟨w, gm, w0.heap.size, .slice (some ⟨b, o, none⟩) ps.length cP, ⟨1, l, ks⟩, Kk, ck⟩) := Lib.hid ⟨hqg, hgm⟩
  have i1 : (0 : Int) ≤ (i : Int) := by omega
  have i2 : (i : Int) < (ps.length : Int) := by omega
  replace c0 := held_step hb c0
  replace c1 := held_step hb c1
  replace c2 := held_step hb c2
  have hbl : b < w.heap.size := World.block_lt_of_cell? w _ c0
  have m0 := blk_cell (o := 0) hm.box rfl
  have D0 : LkB ⟨w, gm, w0.heap.size, .slice (some ⟨b, o, none⟩) ps.length cP, ⟨1, l, ks⟩, Kk, ck⟩ (.slice none 0 0) (.slice none 0 0) (⟨[], [], false⟩ : Lk) s.labs (arcsOf s.labs s.prs) (decide (24 ≤ s.labs.length))
      (((w.alloc (.cells #[.slice none 0 0, .slice none 0 0, .bool false] 49)).alloc (.cells #[.int .i64 1, .int .u8 l, .slice Kk ks.length ck] 78)).alloc (.cells #[.slice none 0 0, .slice none 0 0, .bool false] 49)) := by
    have ka := below_alloc w (.cells #[.slice none 0 0, .slice none 0 0, .bool false] 49)
    have kb := below_alloc (w.alloc (.cells #[.slice none 0 0, .slice none 0 0, .bool false] 49)) (.cells #[.int .i64 1, .int .u8 l, .slice Kk ks.length ck] 78)
    have kc := below_alloc ((w.alloc (.cells #[.slice none 0 0, .slice none 0 0, .bool false] 49)).alloc (.cells #[.int .i64 1, .int .u8 l, .slice Kk ks.length ck] 78)) (.cells #[.slice none 0 0, .slice none 0 0, .bool false] 49)
    have hbad : decide (24 ≤ s.labs.length) = false := decide_eq_false (by omega)
    have p1 := heap_alloc_new (w.alloc (.cells #[.slice none 0 0, .slice none 0 0, .bool false] 49)) (.cells #[.int .i64 1, .int .u8 l, .slice Kk ks.length ck] 78)
    have p2 := heap_alloc_new ((w.alloc (.cells #[.slice none 0 0, .slice none 0 0, .bool false] 49)).alloc (.cells #[.int .i64 1, .int .u8 l, .slice Kk ks.length ck] 78)) (.cells #[.slice none 0 0, .slice none 0 0, .bool false] 49)
    rw [show (w.alloc (.cells #[.slice none 0 0, .slice none 0 0, .bool false] 49)).heap.size = w.heap.size + 1 by simp] at p1
    rw [show ((w.alloc (.cells #[.slice none 0 0, .slice none 0 0, .bool false] 49)).alloc (.cells #[.int .i64 1, .int .u8 l, .slice Kk ks.length ck] 78)).heap.size = w.heap.size + 2 by simp] at p2
    refine ⟨⟨blk_below (below_step kb kc) (heap_alloc_new _ _), blk_below kc p1, ⟨vl, va, by rw [hbad]; exact hm.below (below_step (below_step ka kb) kc)⟩, (Kq.refl _ _ _ _).below (below_step (below_step ka kb) kc)⟩, p2, World.ownsRow_nil _ _ _ _, World.ownsRow_nil _ _ _ _, Ap.nil _ _⟩
  have hbad : decide (24 ≤ s.labs.length) = false := decide_eq_false (by omega)
  rw [hbad] at D0
  have HRES : Hid (lkPc (lk ps n) ⟨1, l, ks⟩ s = (⟨[s.labs.length + 1], [s.labs.length + 1], false⟩, ⟨s.labs ++ [l], s.prs⟩)) := Lib.hid (if_pos rfl)
  rw [HRES.out]
  have HARC := Lib.hid (arcsOf_more hs [l])
  have HLEN : (s.labs ++ [l]).length = s.labs.length + 1 := by simp
  have HLN := Lib.hid HLEN
  have HD0 := Lib.hid D0
  clear D0 hm HLK IH hkids ho hk0 hrk hb hp hbad HLEN hs hlb
  go_enter Try.func15, Try.ntmps15
  go_upto_region 4 with fail
  clear c0 c1 c2 m0 hbl
  obtain ⟨W3, hW3⟩ : ∃ W, ((w.alloc (.cells #[.slice none 0 0, .slice none 0 0, .bool false] 49)).alloc (.cells #[.int .i64 1, .int .u8 l, .slice Kk ks.length ck] 78)).alloc (.cells #[.slice none 0 0, .slice none 0 0, .bool false] 49) = W := ⟨_, rfl⟩
  rw [hW3]
  have HD0 := Lib.hid (show _ from hW3 ▸ HD0.out)
  obtain ⟨vl3, va3, hm3⟩ := HD0.out.r.mm
  have ka : Below W3.heap.size W3 (W3.alloc (.cells #[.int .u8 l] 5)).drew := (below_alloc W3 _).drew
  have HMA := Lib.hid (hm3.below ka)
  have HRA := Lib.hid (HD0.out.r.below ka)
  have p1 : W3.cell? ⟨w.heap.size + 1, 1, none⟩ = some (.int .u8 l) := blk_cell (o := 1) HD0.out.r.pc rfl
  have P1 := Lib.hid p1
  have m1 : W3.cell? ⟨gm, 1, none⟩ = some vl3 := blk_cell (o := 1) hm3.box rfl
  have m1a : (W3.alloc (.cells #[.int .u8 l] 5)).drew.cell? ⟨gm, 1, none⟩ = some vl3 := blk_cell (o := 1) (HMA.out).box rfl
  have hba : w0.heap.size ≤ (W3.alloc (.cells #[.int .u8 l] 5)).drew.heap.size := by have h1 : w.heap.size + 2 < W3.heap.size := blk_lt HD0.out.out; have h2 := ka.size; omega
  have hl24 : s.labs.length ≤ 24 := by omega
  clear hm3 hW3 ka
  refine wp_region_held_drew (S := fun w' => w'.cell? ⟨w.heap.size + 1, 1, none⟩ = some (.int .u8 l)) (by kernel_rfl) p1 (fun hHeld => ?_)
  refine wpAnyH_take (i := 0) (oi := _) (v := ?_) rfl (by kernel_rfl) (by kernel_rfl) (by kernel_rfl) (fun _ _ _ h => h) (Or.inl ⟨by rfl, ?_⟩) (by assumption) ?_
  rotate_left 1
  · intro w hSw; (try dsimp only at hSw); go_simp; try with_reducible rfl
  simp only [Act.put, List.setIfInBounds_toArray]
  refine wpAnyH_take (i := 1) (oi := _) (v := ?_) rfl (by kernel_rfl) (by kernel_rfl) (by kernel_rfl) (fun _ _ _ h => h) (Or.inl ⟨by rfl, ?_⟩) (by assumption) ?_
  rotate_left 1
  · intro w hSw; (try dsimp only at hSw); go_simp; try with_reducible rfl
  simp only [Act.put]
  refine wpAnyH_take (i := 2) (oi := _) (v := ?_) rfl (by kernel_rfl) (by kernel_rfl) (by kernel_rfl) (fun _ _ _ h => h) (Or.inl ⟨by rfl, ?_⟩) (by assumption) ?_
  rotate_left 1
  · intro w hSw; (try dsimp only at hSw); go_simp; try with_reducible rfl
  simp only [Act.put]
  refine wpAnyH_take (i := 3) (oi := _) (v := ?_) rfl (by kernel_rfl) (by kernel_rfl) (by kernel_rfl) (fun _ _ _ h => h) (Or.inl ⟨by rfl, ?_⟩) (by assumption) ?_
  rotate_left 1
  · intro w hSw; (try dsimp only at hSw); go_simp; try with_reducible rfl
  simp only [Act.put]
  refine wpAnyH_take (i := 5) (oi := _) (v := ?_) rfl (by kernel_rfl) (by kernel_rfl) (by kernel_rfl) (fun _ _ _ h => h) (Or.inl ⟨by rfl, ?_⟩) (by assumption) ?_
  rotate_left 1
  · intro w hSw; (try dsimp only at hSw); go_simp; try with_reducible rfl
  simp only [Act.put]
  refine wpAnyH_take (i := 6) (oi := _) (v := ?_) rfl (by kernel_rfl) (by kernel_rfl) (by kernel_rfl) (fun _ _ _ h => h) (Or.inl ⟨by rfl, ?_⟩) (by assumption) ?_
  rotate_left 1
  · intro w hSw; (try dsimp only at hSw); go_simp; try with_reducible rfl
  simp only [Act.put]
  refine wpAnyH_ready (rs := [4, 7]) (by kernel_rfl) (by simp) ?_
  refine AllReadyH.cons (o := _) rfl (fun K hK => ?_) (AllReadyH.cons (o := _) rfl (fun K hK => ?_) AllReadyH.nil)
  · go_simp
    refine hK.out _ _ hHeld (fun hHeld => ?_)
    clear hK K
    try simp only [Act.put]
    refine wpAnyH_ready (rs := [7]) (by kernel_rfl) (by simp) ?_
    refine AllReadyH.cons (o := _) rfl (fun K hK => ?_) AllReadyH.nil
    go_simp
    refine hK.out _ _ (held_step (below_alloc _ _) hHeld) (fun hHeld => ?_)
    clear hK K
    try simp only [Act.put]
    refine wpAnyH_ready (rs := [8]) (by kernel_rfl) (by simp) ?_
    refine AllReadyH.cons (o := _) rfl (fun K hK => ?_) AllReadyH.nil
    refine step_append_any _ rfl (.tmp 26) (.tmp 29) 44 rfl w0.heap.size 5 j0 _ 1 1 Try.underlying44 hj hy0 hy1 hy2 rfl (by decide) vl3 s.labs.length _ rfl HMA.out.lo (some ⟨W3.heap.size, 0, none⟩) 1 1 [.int .u8 l] rfl (Rd.one1 _ _ _) (by intro u hu; simp at hu; subst hu; rfl) (by unfold maxLen; omega) (by omega) hba ?_
    intro v8 w8 hown8 hg8 hv8
    obtain ⟨A8, c8, rfl, _, _⟩ := own_slice hown8
    have HR9 := Lib.hid (HRA.out.label (l := l) HC.out HMA.out hg8 (by rw [List.length_append, List.map_append]; exact hown8))
    have hb8 := (hg8.block _ (blk_lt HMA.out.box) (fun e => row_ne HMA.out.lo HMA.out.box (by decide) e.symm)).trans HMA.out.box
    have p18 : w8.cell? ⟨w.heap.size + 1, 1, none⟩ = some (.int .u8 l) := blk_cell (o := 1) ((hg8.block _ (blk_lt HRA.out.pc) (fun e => row_ne HMA.out.lo HRA.out.pc (by decide) e.symm)).trans HRA.out.pc) rfl
    have g1 : w8.cell? ⟨gm, 1, none⟩ = some vl3 := blk_cell (o := 1) hb8 rfl
    have gf : w8.frozen? ⟨gm, 1, none⟩ = false := frozen_of_row w8 _ 1 _ _ hb8
    clear hown8 hg8 hv8 hb8
    refine hK.out _ _ p18 (fun hHeld => ?_)
    clear hK K
    try simp only [Act.put]
    refine wpAnyH_take (i := 9) (oi := _) (v := ?_) rfl (by kernel_rfl) (by kernel_rfl) (by kernel_rfl) (fun _ _ _ h => h) (Or.inl ⟨by rfl, ?_⟩) (by assumption) ?_
    rotate_left 1
    · intro w hSw; (try dsimp only at hSw); go_simp; try with_reducible rfl
    simp only [Act.put, List.setIfInBounds_toArray]
    refine wpAnyH_take (i := 10) (oi := _) (v := ?_) rfl (by kernel_rfl) (by kernel_rfl) (by kernel_rfl) (fun _ _ _ h => h) (Or.inl ⟨by rfl, ?_⟩) (by assumption) ?_
    rotate_left 1
    · intro w hSw; (try dsimp only at hSw); go_simp; try with_reducible rfl
    simp only [Act.put]
    refine wpAnyH_ready (rs := [11]) (by kernel_rfl) (by simp) ?_
    refine AllReadyH.cons (o := _) rfl (fun K hK => ?_) AllReadyH.nil
    go_simp
    refine hK.out _ _ ((World.cell?_setCell_far _ _ _ _ (show gm ≠ w.heap.size + 1 by omega)).trans hHeld) (fun hHeld => ?_)
    clear hK K
    try simp only [Act.put]
    refine wpAnyH_done (by kernel_rfl) ?_ _
    clear hHeld p1 m1 m1a p18 g1 gf hba
    obtain ⟨W9, hW9⟩ : ∃ W, w8.setCell ⟨gm, 1, none⟩ (.slice A8 (s.labs.length + 1) c8) = W := ⟨_, rfl⟩
    rw [hW9]
    have HR9 := Lib.hid (show _ from hW9 ▸ HR9.out)
    obtain ⟨vl9, va9, hm9⟩ := HR9.out.mm
    obtain ⟨L9, cL9, rfl, _, _⟩ := own_slice hm9.lo
    have hb9 := hm9.box
    rw [HLN.out] at hb9
    have hrs := HR9.out.res
    have n1 : W9.cell? ⟨gm, 1, none⟩ = _ := blk_cell (o := 1) hb9 rfl
    have n3 : W9.cell? ⟨gm, 3, none⟩ = _ := blk_cell (o := 3) hb9 rfl
    have nf : W9.frozen? ⟨gm, 3, none⟩ = false := frozen_of_row W9 _ 3 _ _ hb9
    have hw9 : w.heap.size + 1 < W9.heap.size := blk_lt HR9.out.pc
    by_cases h24 : 24 ≤ s.labs.length + 1
    · have HRX := Lib.hid (HR9.out.spoil HC.out)
      have HCG : Hid (24 ≤ s.labs.length + 1) := Lib.hid h24
      have hd : decide ((24 : Int) ≤ (s.labs.length : Int) + 1) = true := decide_eq_true (by omega)
      have hdn : decide (24 ≤ s.labs.length + 1) = true := decide_eq_true h24
      go_upto_region 8 with fail
      clear n1 n3 nf hb9 hm9 hrs
      obtain ⟨W10, hW10⟩ : ∃ W, W9.setCell ⟨gm, 3, none⟩ (.bool true) = W := ⟨_, rfl⟩
      rw [hW10]
      have HRX := Lib.hid (show _ from hW10 ▸ HRX.out)
      have kb : Below W10.heap.size W10 (W10.alloc (.cells #[.int .i64 (s.labs.length + 1)] 3)) := below_alloc _ _
      have kc : Below (W10.alloc (.cells #[.int .i64 (s.labs.length + 1)] 3)).heap.size (W10.alloc (.cells #[.int .i64 (s.labs.length + 1)] 3)) ((W10.alloc (.cells #[.int .i64 (s.labs.length + 1)] 3)).alloc (.cells #[.int .i64 (s.labs.length + 1)] 3)) := below_alloc _ _
      have HRY := Lib.hid (HRX.out.below (below_step kb kc))
      have hw10 : w.heap.size ≤ W10.heap.size := by have h : w.heap.size < W10.heap.size := blk_lt HRX.out.res; omega
      have hwb : w.heap.size ≤ (W10.alloc (.cells #[.int .i64 (s.labs.length + 1)] 3)).heap.size := Nat.le_trans hw10 kb.size
      have O1 := Lib.hid (own_below (own_one W10 hw10 (x := s.labs.length + 1) (z := (s.labs.length : Int) + 1) (by omega)) kc)
      have O2 := Lib.hid (own_one (W10.alloc (.cells #[.int .i64 (s.labs.length + 1)] 3)) hwb (x := s.labs.length + 1) (z := (s.labs.length : Int) + 1) (by omega))
      have hsz : (W10.alloc (.cells #[.int .i64 (s.labs.length + 1)] 3)).heap.size = W10.heap.size + 1 := by simp
      rw [hsz] at O2
      have hrs := HRY.out.res
      have r0 : ((W10.alloc (.cells #[.int .i64 (s.labs.length + 1)] 3)).alloc (.cells #[.int .i64 (s.labs.length + 1)] 3)).cell? ⟨w.heap.size, 0, none⟩ = _ := blk_cell (o := 0) hrs rfl
      have r1 : ((W10.alloc (.cells #[.int .i64 (s.labs.length + 1)] 3)).alloc (.cells #[.int .i64 (s.labs.length + 1)] 3)).cell? ⟨w.heap.size, 1, none⟩ = _ := blk_cell (o := 1) hrs rfl
      have r2 : ((W10.alloc (.cells #[.int .i64 (s.labs.length + 1)] 3)).alloc (.cells #[.int .i64 (s.labs.length + 1)] 3)).cell? ⟨w.heap.size, 2, none⟩ = _ := blk_cell (o := 2) hrs rfl
      have f0 : ((W10.alloc (.cells #[.int .i64 (s.labs.length + 1)] 3)).alloc (.cells #[.int .i64 (s.labs.length + 1)] 3)).frozen? ⟨w.heap.size, 0, none⟩ = false := frozen_of_row _ _ 0 _ _ hrs
      have f1 : ((W10.alloc (.cells #[.int .i64 (s.labs.length + 1)] 3)).alloc (.cells #[.int .i64 (s.labs.length + 1)] 3)).frozen? ⟨w.heap.size, 1, none⟩ = false := frozen_of_row _ _ 1 _ _ hrs
      have f2 : ((W10.alloc (.cells #[.int .i64 (s.labs.length + 1)] 3)).alloc (.cells #[.int .i64 (s.labs.length + 1)] 3)).frozen? ⟨w.heap.size, 2, none⟩ = false := frozen_of_row _ _ 2 _ _ hrs
      have HD := Lib.hid hdn
      clear kb kc hsz hrs hwb hd hdn
      go_wp2
      refine bodyPost_ret (v := .agg #[.slice (some ⟨W10.heap.size, 0, none⟩) 1 1, .slice (some ⟨W10.heap.size + 1, 0, none⟩) 1 1, .bool false]) (by simp [results, Try.results15, go_sem, r0, r1, r2]) rfl ?_
      have hfin := HRY.out.fin HC.out O1.out O2.out (.slice (some ⟨W10.heap.size, 0, none⟩) 1 1) (.slice (some ⟨W10.heap.size + 1, 0, none⟩) 1 1) (.bool false)
      rw [← HARC.out] at hfin
      refine ⟨_, _, rfl, hfin.1, hfin.2.1, ?_, ?_, hfin.2.2.2⟩
      · intro r h1 h2
        simp only [Value.ownBlock, Option.some.injEq] at h1 h2
        omega
      · simp only [HLN.out, HD.out]
        exact hfin.2.2.1
    · have HRX := HR9
      have hd : decide ((24 : Int) ≤ (s.labs.length : Int) + 1) = false := decide_eq_false (by omega)
      have hdn : decide (24 ≤ s.labs.length + 1) = false := decide_eq_false h24
      go_upto_region 8 with fail
      clear n1 n3 nf hb9 hm9 hrs
      obtain ⟨W10, hW10⟩ : ∃ W, W9 = W := ⟨_, rfl⟩
      rw [hW10]
      rw [hW10] at HRX
      have kb : Below W10.heap.size W10 (W10.alloc (.cells #[.int .i64 (s.labs.length + 1)] 3)) := below_alloc _ _
      have kc : Below (W10.alloc (.cells #[.int .i64 (s.labs.length + 1)] 3)).heap.size (W10.alloc (.cells #[.int .i64 (s.labs.length + 1)] 3)) ((W10.alloc (.cells #[.int .i64 (s.labs.length + 1)] 3)).alloc (.cells #[.int .i64 (s.labs.length + 1)] 3)) := below_alloc _ _
      have HRY := Lib.hid (HRX.out.below (below_step kb kc))
      have hw10 : w.heap.size ≤ W10.heap.size := by have h : w.heap.size < W10.heap.size := blk_lt HRX.out.res; omega
      have hwb : w.heap.size ≤ (W10.alloc (.cells #[.int .i64 (s.labs.length + 1)] 3)).heap.size := Nat.le_trans hw10 kb.size
      have O1 := Lib.hid (own_below (own_one W10 hw10 (x := s.labs.length + 1) (z := (s.labs.length : Int) + 1) (by omega)) kc)
      have O2 := Lib.hid (own_one (W10.alloc (.cells #[.int .i64 (s.labs.length + 1)] 3)) hwb (x := s.labs.length + 1) (z := (s.labs.length : Int) + 1) (by omega))
      have hsz : (W10.alloc (.cells #[.int .i64 (s.labs.length + 1)] 3)).heap.size = W10.heap.size + 1 := by simp
      rw [hsz] at O2
      have hrs := HRY.out.res
      have r0 : ((W10.alloc (.cells #[.int .i64 (s.labs.length + 1)] 3)).alloc (.cells #[.int .i64 (s.labs.length + 1)] 3)).cell? ⟨w.heap.size, 0, none⟩ = _ := blk_cell (o := 0) hrs rfl
      have r1 : ((W10.alloc (.cells #[.int .i64 (s.labs.length + 1)] 3)).alloc (.cells #[.int .i64 (s.labs.length + 1)] 3)).cell? ⟨w.heap.size, 1, none⟩ = _ := blk_cell (o := 1) hrs rfl
      have r2 : ((W10.alloc (.cells #[.int .i64 (s.labs.length + 1)] 3)).alloc (.cells #[.int .i64 (s.labs.length + 1)] 3)).cell? ⟨w.heap.size, 2, none⟩ = _ := blk_cell (o := 2) hrs rfl
      have f0 : ((W10.alloc (.cells #[.int .i64 (s.labs.length + 1)] 3)).alloc (.cells #[.int .i64 (s.labs.length + 1)] 3)).frozen? ⟨w.heap.size, 0, none⟩ = false := frozen_of_row _ _ 0 _ _ hrs
      have f1 : ((W10.alloc (.cells #[.int .i64 (s.labs.length + 1)] 3)).alloc (.cells #[.int .i64 (s.labs.length + 1)] 3)).frozen? ⟨w.heap.size, 1, none⟩ = false := frozen_of_row _ _ 1 _ _ hrs
      have f2 : ((W10.alloc (.cells #[.int .i64 (s.labs.length + 1)] 3)).alloc (.cells #[.int .i64 (s.labs.length + 1)] 3)).frozen? ⟨w.heap.size, 2, none⟩ = false := frozen_of_row _ _ 2 _ _ hrs
      have HD := Lib.hid hdn
      clear kb kc hsz hrs hwb hd hdn
      go_wp2
      refine bodyPost_ret (v := .agg #[.slice (some ⟨W10.heap.size, 0, none⟩) 1 1, .slice (some ⟨W10.heap.size + 1, 0, none⟩) 1 1, .bool false]) (by simp [results, Try.results15, go_sem, r0, r1, r2]) rfl ?_
      have hfin := HRY.out.fin HC.out O1.out O2.out (.slice (some ⟨W10.heap.size, 0, none⟩) 1 1) (.slice (some ⟨W10.heap.size + 1, 0, none⟩) 1 1) (.bool false)
      rw [← HARC.out] at hfin
      refine ⟨_, _, rfl, hfin.1, hfin.2.1, ?_, ?_, hfin.2.2.2⟩
      · intro r h1 h2
        simp only [Value.ownBlock, Option.some.injEq] at h1 h2
        omega
      · simp only [HLN.out, HD.out]
        exact hfin.2.2.1
  · go_simp
    refine hK.out _ _ (held_step (below_alloc _ _) hHeld) (fun hHeld => ?_)
    clear hK K
    try simp only [Act.put]
    refine wpAnyH_ready (rs := [4]) (by kernel_rfl) (by simp) ?_
    refine AllReadyH.cons (o := _) rfl (fun K hK => ?_) AllReadyH.nil
    go_simp
    refine hK.out _ _ hHeld (fun hHeld => ?_)
    clear hK K
    try simp only [Act.put]
    refine wpAnyH_ready (rs := [8]) (by kernel_rfl) (by simp) ?_
    refine AllReadyH.cons (o := _) rfl (fun K hK => ?_) AllReadyH.nil
    refine step_append_any _ rfl (.tmp 26) (.tmp 29) 44 rfl w0.heap.size 5 j0 _ 1 1 Try.underlying44 hj hy0 hy1 hy2 rfl (by decide) vl3 s.labs.length _ rfl HMA.out.lo (some ⟨W3.heap.size, 0, none⟩) 1 1 [.int .u8 l] rfl (Rd.one1 _ _ _) (by intro u hu; simp at hu; subst hu; rfl) (by unfold maxLen; omega) (by omega) hba ?_
    intro v8 w8 hown8 hg8 hv8
    obtain ⟨A8, c8, rfl, _, _⟩ := own_slice hown8
    have HR9 := Lib.hid (HRA.out.label (l := l) HC.out HMA.out hg8 (by rw [List.length_append, List.map_append]; exact hown8))
    have hb8 := (hg8.block _ (blk_lt HMA.out.box) (fun e => row_ne HMA.out.lo HMA.out.box (by decide) e.symm)).trans HMA.out.box
    have p18 : w8.cell? ⟨w.heap.size + 1, 1, none⟩ = some (.int .u8 l) := blk_cell (o := 1) ((hg8.block _ (blk_lt HRA.out.pc) (fun e => row_ne HMA.out.lo HRA.out.pc (by decide) e.symm)).trans HRA.out.pc) rfl
    have g1 : w8.cell? ⟨gm, 1, none⟩ = some vl3 := blk_cell (o := 1) hb8 rfl
    have gf : w8.frozen? ⟨gm, 1, none⟩ = false := frozen_of_row w8 _ 1 _ _ hb8
    clear hown8 hg8 hv8 hb8
    refine hK.out _ _ p18 (fun hHeld => ?_)
    clear hK K
    try simp only [Act.put]
    refine wpAnyH_take (i := 9) (oi := _) (v := ?_) rfl (by kernel_rfl) (by kernel_rfl) (by kernel_rfl) (fun _ _ _ h => h) (Or.inl ⟨by rfl, ?_⟩) (by assumption) ?_
    rotate_left 1
    · intro w hSw; (try dsimp only at hSw); go_simp; try with_reducible rfl
    simp only [Act.put, List.setIfInBounds_toArray]
    refine wpAnyH_take (i := 10) (oi := _) (v := ?_) rfl (by kernel_rfl) (by kernel_rfl) (by kernel_rfl) (fun _ _ _ h => h) (Or.inl ⟨by rfl, ?_⟩) (by assumption) ?_
    rotate_left 1
    · intro w hSw; (try dsimp only at hSw); go_simp; try with_reducible rfl
    simp only [Act.put]
    refine wpAnyH_ready (rs := [11]) (by kernel_rfl) (by simp) ?_
    refine AllReadyH.cons (o := _) rfl (fun K hK => ?_) AllReadyH.nil
    go_simp
    refine hK.out _ _ ((World.cell?_setCell_far _ _ _ _ (show gm ≠ w.heap.size + 1 by omega)).trans hHeld) (fun hHeld => ?_)
    clear hK K
    try simp only [Act.put]
    refine wpAnyH_done (by kernel_rfl) ?_ _
    clear hHeld p1 m1 m1a p18 g1 gf hba
    obtain ⟨W9, hW9⟩ : ∃ W, w8.setCell ⟨gm, 1, none⟩ (.slice A8 (s.labs.length + 1) c8) = W := ⟨_, rfl⟩
    rw [hW9]
    have HR9 := Lib.hid (show _ from hW9 ▸ HR9.out)
    obtain ⟨vl9, va9, hm9⟩ := HR9.out.mm
    obtain ⟨L9, cL9, rfl, _, _⟩ := own_slice hm9.lo
    have hb9 := hm9.box
    rw [HLN.out] at hb9
    have hrs := HR9.out.res
    have n1 : W9.cell? ⟨gm, 1, none⟩ = _ := blk_cell (o := 1) hb9 rfl
    have n3 : W9.cell? ⟨gm, 3, none⟩ = _ := blk_cell (o := 3) hb9 rfl
    have nf : W9.frozen? ⟨gm, 3, none⟩ = false := frozen_of_row W9 _ 3 _ _ hb9
    have hw9 : w.heap.size + 1 < W9.heap.size := blk_lt HR9.out.pc
    by_cases h24 : 24 ≤ s.labs.length + 1
    · have HRX := Lib.hid (HR9.out.spoil HC.out)
      have HCG : Hid (24 ≤ s.labs.length + 1) := Lib.hid h24
      have hd : decide ((24 : Int) ≤ (s.labs.length : Int) + 1) = true := decide_eq_true (by omega)
      have hdn : decide (24 ≤ s.labs.length + 1) = true := decide_eq_true h24
      go_upto_region 8 with fail
      clear n1 n3 nf hb9 hm9 hrs
      obtain ⟨W10, hW10⟩ : ∃ W, W9.setCell ⟨gm, 3, none⟩ (.bool true) = W := ⟨_, rfl⟩
      rw [hW10]
      have HRX := Lib.hid (show _ from hW10 ▸ HRX.out)
      have kb : Below W10.heap.size W10 (W10.alloc (.cells #[.int .i64 (s.labs.length + 1)] 3)) := below_alloc _ _
      have kc : Below (W10.alloc (.cells #[.int .i64 (s.labs.length + 1)] 3)).heap.size (W10.alloc (.cells #[.int .i64 (s.labs.length + 1)] 3)) ((W10.alloc (.cells #[.int .i64 (s.labs.length + 1)] 3)).alloc (.cells #[.int .i64 (s.labs.length + 1)] 3)) := below_alloc _ _
      have HRY := Lib.hid (HRX.out.below (below_step kb kc))
      have hw10 : w.heap.size ≤ W10.heap.size := by have h : w.heap.size < W10.heap.size := blk_lt HRX.out.res; omega
      have hwb : w.heap.size ≤ (W10.alloc (.cells #[.int .i64 (s.labs.length + 1)] 3)).heap.size := Nat.le_trans hw10 kb.size
      have O1 := Lib.hid (own_below (own_one W10 hw10 (x := s.labs.length + 1) (z := (s.labs.length : Int) + 1) (by omega)) kc)
      have O2 := Lib.hid (own_one (W10.alloc (.cells #[.int .i64 (s.labs.length + 1)] 3)) hwb (x := s.labs.length + 1) (z := (s.labs.length : Int) + 1) (by omega))
      have hsz : (W10.alloc (.cells #[.int .i64 (s.labs.length + 1)] 3)).heap.size = W10.heap.size + 1 := by simp
      rw [hsz] at O2
      have hrs := HRY.out.res
      have r0 : ((W10.alloc (.cells #[.int .i64 (s.labs.length + 1)] 3)).alloc (.cells #[.int .i64 (s.labs.length + 1)] 3)).cell? ⟨w.heap.size, 0, none⟩ = _ := blk_cell (o := 0) hrs rfl
      have r1 : ((W10.alloc (.cells #[.int .i64 (s.labs.length + 1)] 3)).alloc (.cells #[.int .i64 (s.labs.length + 1)] 3)).cell? ⟨w.heap.size, 1, none⟩ = _ := blk_cell (o := 1) hrs rfl
      have r2 : ((W10.alloc (.cells #[.int .i64 (s.labs.length + 1)] 3)).alloc (.cells #[.int .i64 (s.labs.length + 1)] 3)).cell? ⟨w.heap.size, 2, none⟩ = _ := blk_cell (o := 2) hrs rfl
      have f0 : ((W10.alloc (.cells #[.int .i64 (s.labs.length + 1)] 3)).alloc (.cells #[.int .i64 (s.labs.length + 1)] 3)).frozen? ⟨w.heap.size, 0, none⟩ = false := frozen_of_row _ _ 0 _ _ hrs
      have f1 : ((W10.alloc (.cells #[.int .i64 (s.labs.length + 1)] 3)).alloc (.cells #[.int .i64 (s.labs.length + 1)] 3)).frozen? ⟨w.heap.size, 1, none⟩ = false := frozen_of_row _ _ 1 _ _ hrs
      have f2 : ((W10.alloc (.cells #[.int .i64 (s.labs.length + 1)] 3)).alloc (.cells #[.int .i64 (s.labs.length + 1)] 3)).frozen? ⟨w.heap.size, 2, none⟩ = false := frozen_of_row _ _ 2 _ _ hrs
      have HD := Lib.hid hdn
      clear kb kc hsz hrs hwb hd hdn
      go_wp2
      refine bodyPost_ret (v := .agg #[.slice (some ⟨W10.heap.size, 0, none⟩) 1 1, .slice (some ⟨W10.heap.size + 1, 0, none⟩) 1 1, .bool false]) (by simp [results, Try.results15, go_sem, r0, r1, r2]) rfl ?_
      have hfin := HRY.out.fin HC.out O1.out O2.out (.slice (some ⟨W10.heap.size, 0, none⟩) 1 1) (.slice (some ⟨W10.heap.size + 1, 0, none⟩) 1 1) (.bool false)
      rw [← HARC.out] at hfin
      refine ⟨_, _, rfl, hfin.1, hfin.2.1, ?_, ?_, hfin.2.2.2⟩
      · intro r h1 h2
        simp only [Value.ownBlock, Option.some.injEq] at h1 h2
        omega
      · simp only [HLN.out, HD.out]
        exact hfin.2.2.1
    · have HRX := HR9
      have hd : decide ((24 : Int) ≤ (s.labs.length : Int) + 1) = false := decide_eq_false (by omega)
      have hdn : decide (24 ≤ s.labs.length + 1) = false := decide_eq_false h24
      go_upto_region 8 with fail
      clear n1 n3 nf hb9 hm9 hrs
      obtain ⟨W10, hW10⟩ : ∃ W, W9 = W := ⟨_, rfl⟩
      rw [hW10]
      rw [hW10] at HRX
      have kb : Below W10.heap.size W10 (W10.alloc (.cells #[.int .i64 (s.labs.length + 1)] 3)) := below_alloc _ _
      have kc : Below (W10.alloc (.cells #[.int .i64 (s.labs.length + 1)] 3)).heap.size (W10.alloc (.cells #[.int .i64 (s.labs.length + 1)] 3)) ((W10.alloc (.cells #[.int .i64 (s.labs.length + 1)] 3)).alloc (.cells #[.int .i64 (s.labs.length + 1)] 3)) := below_alloc _ _
      have HRY := Lib.hid (HRX.out.below (below_step kb kc))
      have hw10 : w.heap.size ≤ W10.heap.size := by have h : w.heap.size < W10.heap.size := blk_lt HRX.out.res; omega
      have hwb : w.heap.size ≤ (W10.alloc (.cells #[.int .i64 (s.labs.length + 1)] 3)).heap.size := Nat.le_trans hw10 kb.size
      have O1 := Lib.hid (own_below (own_one W10 hw10 (x := s.labs.length + 1) (z := (s.labs.length : Int) + 1) (by omega)) kc)
      have O2 := Lib.hid (own_one (W10.alloc (.cells #[.int .i64 (s.labs.length + 1)] 3)) hwb (x := s.labs.length + 1) (z := (s.labs.length : Int) + 1) (by omega))
      have hsz : (W10.alloc (.cells #[.int .i64 (s.labs.length + 1)] 3)).heap.size = W10.heap.size + 1 := by simp
      rw [hsz] at O2
      have hrs := HRY.out.res
      have r0 : ((W10.alloc (.cells #[.int .i64 (s.labs.length + 1)] 3)).alloc (.cells #[.int .i64 (s.labs.length + 1)] 3)).cell? ⟨w.heap.size, 0, none⟩ = _ := blk_cell (o := 0) hrs rfl
      have r1 : ((W10.alloc (.cells #[.int .i64 (s.labs.length + 1)] 3)).alloc (.cells #[.int .i64 (s.labs.length + 1)] 3)).cell? ⟨w.heap.size, 1, none⟩ = _ := blk_cell (o := 1) hrs rfl
      have r2 : ((W10.alloc (.cells #[.int .i64 (s.labs.length + 1)] 3)).alloc (.cells #[.int .i64 (s.labs.length + 1)] 3)).cell? ⟨w.heap.size, 2, none⟩ = _ := blk_cell (o := 2) hrs rfl
      have f0 : ((W10.alloc (.cells #[.int .i64 (s.labs.length + 1)] 3)).alloc (.cells #[.int .i64 (s.labs.length + 1)] 3)).frozen? ⟨w.heap.size, 0, none⟩ = false := frozen_of_row _ _ 0 _ _ hrs
      have f1 : ((W10.alloc (.cells #[.int .i64 (s.labs.length + 1)] 3)).alloc (.cells #[.int .i64 (s.labs.length + 1)] 3)).frozen? ⟨w.heap.size, 1, none⟩ = false := frozen_of_row _ _ 1 _ _ hrs
      have f2 : ((W10.alloc (.cells #[.int .i64 (s.labs.length + 1)] 3)).alloc (.cells #[.int .i64 (s.labs.length + 1)] 3)).frozen? ⟨w.heap.size, 2, none⟩ = false := frozen_of_row _ _ 2 _ _ hrs
      have HD := Lib.hid hdn
      clear kb kc hsz hrs hwb hd hdn
      go_wp2
      refine bodyPost_ret (v := .agg #[.slice (some ⟨W10.heap.size, 0, none⟩) 1 1, .slice (some ⟨W10.heap.size + 1, 0, none⟩) 1 1, .bool false]) (by simp [results, Try.results15, go_sem, r0, r1, r2]) rfl ?_
      have hfin := HRY.out.fin HC.out O1.out O2.out (.slice (some ⟨W10.heap.size, 0, none⟩) 1 1) (.slice (some ⟨W10.heap.size + 1, 0, none⟩) 1 1) (.bool false)
      rw [← HARC.out] at hfin
      refine ⟨_, _, rfl, hfin.1, hfin.2.1, ?_, ?_, hfin.2.2.2⟩
      · intro r h1 h2
        simp only [Value.ownBlock, Option.some.injEq] at h1 h2
        omega
      · simp only [HLN.out, HD.out]
        exact hfin.2.2.1

theorem look_any {ps : List Pc} (hp : PaOk ps) (hkl : ∀ p ∈ ps, p.k.length ≤ 4294967296) {w0 : World} {A : Option Addr} {cP : Nat} (hx : RdP w0 A ps) {gm : Nat} (hqg : w0.heap.size ≤ gm) : ∀ n, LookC ps gm (.slice A ps.length cP) w0 n
  | 0 => fun i _ _ h => absurd h (by omega)
  | n + 1 => fun i s w hin hil hs hc hb hgm hm => by
    show Calls _ _ _ _ (LookP gm w0.heap.size _ (lkPc (lk ps n) (ps.getD i pc0) s) w)
    rw [pc_at hil]
    have IH := look_any hp hkl hx hqg n (cP := cP)
    have ho := (hp.2 i hil).ops
    rcases (by omega : ps[i].op = 1 ∨ ps[i].op = 2 ∨ ps[i].op = 3 ∨ ps[i].op = 4 ∨ ps[i].op = 5 ∨ ps[i].op = 6) with h | h | h | h | h | h
    · exact look_step hp hx hqg IH i s w hin hil hs hc hb hgm hm h hkl
    · exact look_row hp hx hqg IH i s w hin hil hs hc hb hgm hm h hkl
    · exact look_alt hp hx hqg IH i s w hin hil hs hc hb hgm hm h hkl
    · exact look_one4 hp hx hqg IH i s w hin hil hs hc hb hgm hm h hkl
    · exact look_one5 hp hx hqg IH i s w hin hil hs hc hb hgm hm h hkl
    · exact look_one6 hp hx hqg IH i s w hin hil hs hc hb hgm hm h hkl
end Go.Proofs.Ytjlekcoikceidaa
