/- positions.visit: what it holds. Conditions: a valid path, a right state, less than 24 steps. positions.visit: a row. Conditions: a valid path, a right state, less than 24 steps. positions.visit: an alternative. Conditions: a valid path, a right state, less than 24 steps. positions.visit: one kid. Conditions: a valid path, a right state, less than 24 steps. positions.visit: a step; all pieces. Conditions: a valid path, a right state, less than 24 steps. -/
import Derived.Test.YtjlekcoikceidaaConn
import Derived.Test.YtjlekcoikceidaaMLkB
namespace Go.Proofs.Ytjlekcoikceidaa
open Go.RowKit

def VisP (gm q : Nat) (P : Value) (r : Lk × LkS) (w : World) (e : Ending) (w' : World) : Prop :=
  e = .returned (.agg #[.int .u32 (bitsOf r.1.fi : Nat), .int .u32 (bitsOf r.1.la : Nat), .bool r.1.nul]) ∧ (∃ vl vf, PosI gm q P vl vf r.2.labs (fwOf r.2.labs.length r.2.prs) w') ∧ Kq [5, 58] q gm w w'
def VisC (ps : List Pc) (gm : Nat) (P : Value) (w0 : World) (n : Nat) : Prop :=
  ∀ (i : Nat) (s : LkS) (w : World), i < n → i < ps.length → StOk s → s.labs.length < 24 → (lk ps n i s).2.labs.length < 24 → Below w0.heap.size w0 w → gm < w.heap.size → (∃ vl vf, PosI gm w0.heap.size P vl vf s.labs (fwOf s.labs.length s.prs) w) →
    Calls Try.prog 21 #[.pointer (some ⟨gm, 0, none⟩), .int .i64 i] w (VisP gm w0.heap.size P (lk ps n i s) w)
theorem PosI.kept {gm q : Nat} {P vl vf : Value} {labs : List Int} {fw : List Nat} {wr w' : World} (h : PosI gm q P vl vf labs fw wr) (hb : Below wr.heap.size wr w') : PosI gm q P vl vf labs fw w' := ⟨blk_below hb h.box, own_below h.lo hb, own_below h.fo hb⟩
theorem PosI.set {gm q g j : Nat} {P vl vf : Value} {labs : List Int} {fw : List Nat} {wr : World} {cs : Array Value} {t : TypeId} {fz : Nat × Nat} (h : PosI gm q P vl vf labs fw wr) (hb : wr.heap[g]? = some (.cells cs t fz)) (hg : g ≠ gm) (h2 : t ≠ 5) (h3 : t ≠ 58) (u : Value) : PosI gm q P vl vf labs fw (wr.setCell ⟨g, j, none⟩ u) :=
  ⟨blk_set_ne h.box (Ne.symm hg), own_setCell_other h.lo (row_ne h.lo hb h2) _, own_setCell_other h.fo (row_ne h.fo hb h3) _⟩
/-- All but what is handed back. -/
structure VsR (C : LkC) (labs : List Int) (fw : List Nat) (wr : World) : Prop where
  res : wr.heap[C.w.heap.size]? = some (.cells #[.int .u32 0, .int .u32 0, .bool false] 60 (0, 0))
  pc : wr.heap[C.w.heap.size + 1]? = some (.cells #[.int .i64 C.x.op, .int .u8 C.x.l, .slice C.K C.x.k.length C.c] 78 (0, 0))
  mm : ∃ vl vf, PosI C.gm C.q C.P vl vf labs fw wr
  kq : Kq [5, 58] C.q C.gm C.w wr
structure VsB (C : LkC) (o : Lk) (labs : List Int) (fw : List Nat) (wr : World) : Prop where
  r : VsR C labs fw wr
  out : wr.heap[C.w.heap.size + 2]? = some (.cells #[.int .u32 (bitsOf o.fi : Nat), .int .u32 (bitsOf o.la : Nat), .bool o.nul] 60 (0, 0))
section
variable {C : LkC} {o : Lk} {labs : List Int} {fw : List Nat} {wr w' : World}
theorem VsR.below (h : VsR C labs fw wr) (hb : Below wr.heap.size wr w') : VsR C labs fw w' := by
  obtain ⟨vl, vf, hm⟩ := h.mm
  exact ⟨blk_below hb h.res, blk_below hb h.pc, ⟨vl, vf, hm.kept hb⟩, h.kq.below hb⟩
theorem VsB.below (h : VsB C o labs fw wr) (hb : Below wr.heap.size wr w') : VsB C o labs fw w' := ⟨h.r.below hb, blk_below hb h.out⟩
/-- The row of who follows has turned in place. -/
theorem VsR.con {fw' : List Nat} {vl vf : Value} (h : VsR C labs fw wr) (hm : PosI C.gm C.q C.P vl vf labs fw wr) (hg : wr.grownBy w' vf.ownBlock) (hm' : PosI C.gm C.q C.P vl vf labs fw' w') : VsR C labs fw' w' :=
  ⟨(hg.block _ (blk_lt h.res) (fun e => row_ne hm.fo h.res (by decide) e.symm)).trans h.res, (hg.block _ (blk_lt h.pc) (fun e => row_ne hm.fo h.pc (by decide) e.symm)).trans h.pc, ⟨vl, vf, hm'⟩, h.kq.row (by simp) hm.fo hg⟩
theorem VsB.con {fw' : List Nat} {vl vf : Value} (h : VsB C o labs fw wr) (hm : PosI C.gm C.q C.P vl vf labs fw wr) (hg : wr.grownBy w' vf.ownBlock) (hm' : PosI C.gm C.q C.P vl vf labs fw' w') : VsB C o labs fw' w' :=
  ⟨h.r.con hm hg hm', (hg.block _ (blk_lt h.out) (fun e => row_ne hm.fo h.out (by decide) e.symm)).trans h.out⟩
theorem VsR.visit {labs' : List Int} {fw' : List Nat} (h : VsR C labs fw wr) (hC : C.Ok) (hk : Kq [5, 58] C.q C.gm wr w') (hm : ∃ vl vf, PosI C.gm C.q C.P vl vf labs' fw' w') : VsR C labs' fw' w' := by
  have := hC.h2
  exact ⟨hk.block h.res (by omega) (by decide), hk.block h.pc (by omega) (by decide), hm, h.kq.trans hk⟩
theorem VsB.visit {labs' : List Int} {fw' : List Nat} (h : VsB C o labs fw wr) (hC : C.Ok) (hk : Kq [5, 58] C.q C.gm wr w') (hm : ∃ vl vf, PosI C.gm C.q C.P vl vf labs' fw' w') : VsB C o labs' fw' w' := by
  have := hC.h2
  exact ⟨h.r.visit hC hk hm, hk.block h.out (by omega) (by decide)⟩
theorem VsR.set {cs : Array Value} {g j : Nat} (h : VsR C labs fw wr) (hC : C.Ok) (hg : C.w.heap.size + 1 < g) (hb : wr.heap[g]? = some (.cells cs 60 (0, 0))) (u : Value) : VsR C labs fw (wr.setCell ⟨g, j, none⟩ u) := by
  obtain ⟨vl, vf, hm⟩ := h.mm
  have := hC.h2
  exact ⟨blk_set_ne h.res (by omega), blk_set_ne h.pc (by omega), ⟨vl, vf, hm.set hb (by omega) (by decide) (by decide) _⟩, h.kq.set (by simp only; omega) _⟩
theorem VsB.set0 (h : VsB C o labs fw wr) (hC : C.Ok) (xs : List Nat) : VsB C ⟨xs, o.la, o.nul⟩ labs fw (wr.setCell ⟨C.w.heap.size + 2, 0, none⟩ (.int .u32 (bitsOf xs : Nat))) :=
  ⟨h.r.set hC (by omega) h.out _, by simp [World.setCell, Array.getElem?_modify, h.out]⟩
theorem VsB.set1 (h : VsB C o labs fw wr) (hC : C.Ok) (xs : List Nat) : VsB C ⟨o.fi, xs, o.nul⟩ labs fw (wr.setCell ⟨C.w.heap.size + 2, 1, none⟩ (.int .u32 (bitsOf xs : Nat))) :=
  ⟨h.r.set hC (by omega) h.out _, by simp [World.setCell, Array.getElem?_modify, h.out]⟩
theorem VsB.set2 (h : VsB C o labs fw wr) (hC : C.Ok) (b : Bool) : VsB C ⟨o.fi, o.la, b⟩ labs fw (wr.setCell ⟨C.w.heap.size + 2, 2, none⟩ (.bool b)) :=
  ⟨h.r.set hC (by omega) h.out _, by simp [World.setCell, Array.getElem?_modify, h.out]⟩
theorem VsR.fin (h : VsR C labs fw wr) (hC : C.Ok) (a b c : Value) :
    (∃ vl vf, PosI C.gm C.q C.P vl vf labs fw (((wr.setCell ⟨C.w.heap.size, 0, none⟩ a).setCell ⟨C.w.heap.size, 1, none⟩ b).setCell ⟨C.w.heap.size, 2, none⟩ c)) ∧ Kq [5, 58] C.q C.gm C.w (((wr.setCell ⟨C.w.heap.size, 0, none⟩ a).setCell ⟨C.w.heap.size, 1, none⟩ b).setCell ⟨C.w.heap.size, 2, none⟩ c) := by
  obtain ⟨vl, vf, hm⟩ := h.mm
  have hg := hC.h2
  have b0 : wr.heap[C.w.heap.size]? = some (.cells #[.int .u32 0, .int .u32 0, .bool false] 60 (0, 0)) := h.res
  have b1 : (wr.setCell ⟨C.w.heap.size, 0, none⟩ a).heap[C.w.heap.size]? = some (.cells #[a, .int .u32 0, .bool false] 60 (0, 0)) := by simp [World.setCell, Array.getElem?_modify, b0]
  have b2 : ((wr.setCell ⟨C.w.heap.size, 0, none⟩ a).setCell ⟨C.w.heap.size, 1, none⟩ b).heap[C.w.heap.size]? = some (.cells #[a, b, .bool false] 60 (0, 0)) := by
    generalize hW : wr.setCell ⟨C.w.heap.size, 0, none⟩ a = W at b1 ⊢
    simp [World.setCell, Array.getElem?_modify, b1]
  exact ⟨⟨vl, vf, ((hm.set (j := 0) b0 (by omega) (by decide) (by decide) a).set (j := 1) b1 (by omega) (by decide) (by decide) b).set (j := 2) b2 (by omega) (by decide) (by decide) c⟩,
    ((h.kq.set (Nat.le_refl _) a).set (Nat.le_refl _) b).set (Nat.le_refl _) c⟩
end
/-- A kid's span lies beside. -/
def VsY (g : Nat) (y : Lk) (wr : World) : Prop := wr.heap[g]? = some (.cells #[.int .u32 (bitsOf y.fi : Nat), .int .u32 (bitsOf y.la : Nat), .bool y.nul] 60 (0, 0))
theorem or_app {xs ys : List Nat} (hx : bitsOf xs < 16777216) (hy : bitsOf ys < 16777216) : bits .or .u32 (bitsOf xs : Nat) (bitsOf ys : Nat) = ((bitsOf (xs ++ ys) : Nat) : Int) := by
  rw [u32_or_nat _ _ (by omega) (by omega), bitsOf_app]
theorem or_zero {ys : List Nat} (hy : bitsOf ys < 16777216) : bits .or .u32 0 (bitsOf ys : Nat) = ((bitsOf ys : Nat) : Int) := by
  have := u32_or_nat 0 (bitsOf ys) (by omega) (by omega)
  simpa using this
theorem Rg.small {c d : Nat} {xs : List Nat} (h : Rg c d xs) (hd : d ≤ 24) : bitsOf xs < 16777216 := bitsOf_lt24 (fun x hx => by have := h.2 x hx; omega : ∀ x ∈ xs, 1 ≤ x ∧ x ≤ d) hd
theorem fwOf_in {s : LkS} (h : StOk s) : In32 (fwOf s.labs.length s.prs) := by
  intro i
  by_cases hi : i < s.labs.length
  · rw [fwOf_at hi]
    exact pow_24 h.len (fwAt_lt (fun p hp => (h.prs p hp).2))
  · have e : (fwOf s.labs.length s.prs).getD i 0 = 0 := by
      have := fwOf_len s.labs.length s.prs
      simp [List.getD, show (fwOf s.labs.length s.prs)[i]? = none from List.getElem?_eq_none (by omega)]
    rw [e]
    omega
end Go.Proofs.Ytjlekcoikceidaa
namespace Go.Proofs.Ytjlekcoikceidaa
open Go.RowKit
set_option maxRecDepth 100000 in

set_option maxHeartbeats 12800000 in
theorem vis_row {ps : List Pc} (hp : PaOk ps) {w0 : World} {A : Option Addr} {cP : Nat} (hx : RdP w0 A ps) {gm : Nat} (hqg : w0.heap.size ≤ gm) {n : Nat} (IH : VisC ps gm (.slice A ps.length cP) w0 n)
    (i : Nat) (s : LkS) (w : World) (hin : i < n + 1) (hil : i < ps.length) (hs : StOk s) (_hc : s.labs.length < 24) (h24 : (lkPc (lk ps n) ps[i] s).2.labs.length < 24) (hb : Below w0.heap.size w0 w) (hgm : gm < w.heap.size) (hm : ∃ vl vf, PosI gm w0.heap.size (.slice A ps.length cP) vl vf s.labs (fwOf s.labs.length s.prs) w) (hop : ps[i].op = 2) (hkl : ∀ p ∈ ps, p.k.length ≤ 4294967296) :
    Calls Try.prog 21 #[.pointer (some ⟨gm, 0, none⟩), .int .i64 i] w (VisP gm w0.heap.size (.slice A ps.length cP) (lkPc (lk ps n) ps[i] s) w) := by
  obtain ⟨vl, vf, hm⟩ := hm
  obtain ⟨b, o, Kk, ck, rfl, c0, c1, c2, hrk⟩ := hx.at_ hil
  have ho := hp.2 i hil
  have hkids := ho.kids
  have HLK : ∀ k ∈ ps[i].k, ∀ s, StOk s → s.labs.length < 24 → LkOk s (lk ps n k.toNat s) := fun k hk s h1 h2 => by
    have := hkids k hk
    exact lk_ok hp n k.toNat s (by omega) (by omega) h1 h2
  have hkn : ps[i].k.length ≤ 4294967296 := hkl _ (List.getElem_mem hil)
  obtain ⟨x, hxx⟩ : ∃ x, ps[i] = x := ⟨_, rfl⟩
  rw [hxx] at ho hkids c0 c1 c2 hrk HLK hop hkn h24 ⊢
  clear hxx hx hkl
  obtain ⟨op, l, ks⟩ := x
  simp only at ho hkids c0 c1 c2 hrk HLK hop hkn h24 ⊢
  subst hop
  obtain ⟨F, hF⟩ : ∃ F : Nat → Lk × LkS, F = fun t => (ks.take t).foldl (lkStep (lk ps n) 2) (⟨[], [], true⟩, s) := ⟨_, rfl⟩
  have hF0 : F 0 = (⟨[], [], true⟩, s) := by rw [hF]; rfl
  have HFOK : Hid (∀ t, LkOk s (F t)) := Lib.hid (fun t => by rw [hF]; exact LkOk.fold _ _ (.start hs _) (fun k hk => HLK k (List.mem_of_mem_take hk)))
  have HFN : Hid (∀ t, t < ks.length → F (t + 1) = lkStep (lk ps n) 2 (F t) (ks.getD t 0)) := Lib.hid (fun t ht => by rw [hF]; exact lk_take ht)
  have HFE : Hid (F ks.length = lkPc (lk ps n) ⟨2, l, ks⟩ s) := Lib.hid (by
    rw [hF]
    simp only
    rw [List.take_of_length_le (Nat.le_refl _)]
    rfl)
  have HF24 : Hid (∀ t, (F t).2.labs.length < 24) := Lib.hid (fun t => by
    have h1 : (F t).2.labs.length ≤ (lkPc (lk ps n) ⟨2, l, ks⟩ s).2.labs.length := by
      rw [hF]
      exact lk_grow t (.start hs _) HLK
    omega)
  have HC : Hid (LkC.Ok ⟨w, gm, w0.heap.size, .slice (some ⟨b, o, none⟩) ps.length cP, ⟨2, l, ks⟩, Kk, ck⟩) := Lib.hid ⟨hqg, hgm⟩
  obtain ⟨RES, hRES⟩ : ∃ r, lkPc (lk ps n) ⟨2, l, ks⟩ s = r := ⟨_, rfl⟩
  rw [hRES] at HFE ⊢
  have HKID : Hid (∀ t (z : Int), t < ks.length → ks.getD t 0 = z → ∃ k : Nat, z = k ∧ k < n ∧ k < ps.length) := Lib.hid (fun t z ht hz => by
    have e : ks.getD t 0 = ks[t] := by simp [List.getD, ht]
    have h1 := hkids ks[t] (List.getElem_mem ht)
    exact ⟨z.toNat, by omega, by omega, by omega⟩)
  have HRK := Lib.hid hrk
  have HB := Lib.hid hb
  have HIH := Lib.hid IH
  have HLKO := Lib.hid HLK
  have i1 : (0 : Int) ≤ (i : Int) := by omega
  have i2 : (i : Int) < (ps.length : Int) := by omega
  replace c0 := held_step hb c0
  replace c1 := held_step hb c1
  replace c2 := held_step hb c2
  have hbl : b < w.heap.size := World.block_lt_of_cell? w _ c0
  have m0 := blk_cell (o := 0) hm.box rfl
  have D0 : VsB ⟨w, gm, w0.heap.size, .slice (some ⟨b, o, none⟩) ps.length cP, ⟨2, l, ks⟩, Kk, ck⟩ (F 0).1 (F 0).2.labs (fwOf (F 0).2.labs.length (F 0).2.prs) (((w.alloc (.cells #[.int .u32 0, .int .u32 0, .bool false] 60)).alloc (.cells #[.int .i64 2, .int .u8 l, .slice Kk ks.length ck] 78)).alloc (.cells #[.int .u32 0, .int .u32 0, .bool true] 60)) := by
    rw [hF0]
    have ka := below_alloc w (.cells #[.int .u32 0, .int .u32 0, .bool false] 60)
    have kb := below_alloc (w.alloc (.cells #[.int .u32 0, .int .u32 0, .bool false] 60)) (.cells #[.int .i64 2, .int .u8 l, .slice Kk ks.length ck] 78)
    have kc := below_alloc ((w.alloc (.cells #[.int .u32 0, .int .u32 0, .bool false] 60)).alloc (.cells #[.int .i64 2, .int .u8 l, .slice Kk ks.length ck] 78)) (.cells #[.int .u32 0, .int .u32 0, .bool true] 60)
    have p1 := heap_alloc_new (w.alloc (.cells #[.int .u32 0, .int .u32 0, .bool false] 60)) (.cells #[.int .i64 2, .int .u8 l, .slice Kk ks.length ck] 78)
    have p2 := heap_alloc_new ((w.alloc (.cells #[.int .u32 0, .int .u32 0, .bool false] 60)).alloc (.cells #[.int .i64 2, .int .u8 l, .slice Kk ks.length ck] 78)) (.cells #[.int .u32 0, .int .u32 0, .bool true] 60)
    rw [show (w.alloc (.cells #[.int .u32 0, .int .u32 0, .bool false] 60)).heap.size = w.heap.size + 1 by simp] at p1
    rw [show ((w.alloc (.cells #[.int .u32 0, .int .u32 0, .bool false] 60)).alloc (.cells #[.int .i64 2, .int .u8 l, .slice Kk ks.length ck] 78)).heap.size = w.heap.size + 2 by simp] at p2
    exact ⟨⟨blk_below (below_step kb kc) (heap_alloc_new _ _), blk_below kc p1, ⟨vl, vf, hm.kept (below_step (below_step ka kb) kc)⟩, (Kq.refl _ _ _ _).below (below_step (below_step ka kb) kc)⟩, p2⟩
  have HD0 := Lib.hid D0
  clear D0 hF hF0 hRES hm hrk hb hkids HLK IH hs _hc ho hp h24
  go_enter Try.func21, Try.ntmps21
  go_wp2
  clear c0 c1 c2 m0 hbl
  go_loopw [65] (fun i wr => ∃ (t : Nat), t ≤ ks.length ∧ i = .int .i64 t ∧ VsB ⟨w, gm, w0.heap.size, .slice (some ⟨b, o, none⟩) ps.length cP, ⟨2, l, ks⟩, Kk, ck⟩ (F t).1 (F t).2.labs (fwOf (F t).2.labs.length (F t).2.prs) wr) (fun i _ => ks.length - (intOf i).toNat)
  case atStart => exact ⟨0, Nat.zero_le _, rfl, HD0.out⟩
  case round =>
    clear HD0
    obtain ⟨t, ht, rfl, hD⟩ := hrel
    have D := Lib.hid hD
    by_cases hlt : t < ks.length
    · obtain ⟨vl, vf, hm⟩ := hD.r.mm
      obtain ⟨z, hz⟩ : ∃ z, ks.getD t 0 = z := ⟨_, rfl⟩
      obtain ⟨k, rfl, hkn, hkl⟩ := HKID.out t z hlt hz
      obtain ⟨ad, rfl, cK⟩ := (HRK.out.below (hD.r.kq.low HB.out (Nat.le_refl _))).at_ hlt
      rw [hz] at cK
      have FOK := Lib.hid (HFOK.out t)
      have h24 := HF24.out t
      have HSN : Hid (F (t + 1) = (lkNext 2 (F t).1 (lk ps n k (F t).2).1, ⟨(lk ps n k (F t).2).2.labs, (lk ps n k (F t).2).2.prs ++ lkPrs 2 (F t).1 (lk ps n k (F t).2).1⟩)) := Lib.hid (by
        rw [HFN.out t hlt, hz, lkStep_go _ _ _ (by omega)]
        rfl)
      have hy24 : (lk ps n k (F t).2).2.labs.length < 24 := by
        have h := HF24.out (t + 1)
        rw [HSN.out] at h
        exact h
      have CALL := Lib.hid (HIH.out k (F t).2 wr hkn hkl FOK.out.st h24 hy24 (hD.r.kq.low HB.out (Nat.le_refl _)) (Nat.lt_of_lt_of_le HC.out.h2 hD.r.kq.size) ⟨vl, vf, hm⟩)
      have YOK : Hid (LkOk (F t).2 (lk ps n k (F t).2)) := Lib.hid (by
        have hmem : (k : Int) ∈ ks := by rw [← hz]; simp [List.getD, hlt]
        have := HLKO.out k hmem (F t).2 FOK.out.st h24
        simpa using this)
      obtain ⟨y, hy⟩ : ∃ y, lk ps n k (F t).2 = y := ⟨_, rfl⟩
      obtain ⟨st, hst⟩ : ∃ st, F t = st := ⟨_, rfl⟩
      rw [hy] at HSN CALL YOK hy24
      rw [hst] at HSN YOK FOK D
      have t0 : (0 : Int) ≤ (t : Int) := by omega
      have t1 : (t : Int) < (ks.length : Int) := by omega
      obtain ⟨on, hon⟩ : ∃ z, st.1.nul = z := ⟨_, rfl⟩
      have HON := Lib.hid hon
      have HS1 := Lib.hid (FOK.out.fi.small FOK.out.st.len)
      have HS2 := Lib.hid (FOK.out.la.small FOK.out.st.len)
      have HS3 := Lib.hid (YOK.out.fi.small YOK.out.st.len)
      have HS4 := Lib.hid (YOK.out.la.small YOK.out.st.len)
      clear hm hD hz hy hst hon h24
      go_wp2_with fail
      clear cK
      refine CALL.out.mono ?_
      rintro e w5 ⟨rfl, hm5, kq5⟩
      have hB5 := D.out.visit HC.out kq5 hm5
      have hg5 : w.heap.size + 2 < w5.heap.size := blk_lt hB5.out
      have ka := below_alloc w5 (.cells #[.int .u32 (bitsOf y.1.fi : Nat), .int .u32 (bitsOf y.1.la : Nat), .bool y.1.nul] 60)
      have hB6 := hB5.below ka
      have hY6 : VsY w5.heap.size y.1 (w5.alloc (.cells #[.int .u32 (bitsOf y.1.fi : Nat), .int .u32 (bitsOf y.1.la : Nat), .bool y.1.nul] 60)) := heap_alloc_new w5 (.cells #[.int .u32 (bitsOf y.1.fi : Nat), .int .u32 (bitsOf y.1.la : Nat), .bool y.1.nul] 60)
      obtain ⟨yn, hyn⟩ : ∃ z, y.1.nul = z := ⟨_, rfl⟩
      have HYN := Lib.hid hyn
      obtain ⟨g6, hg6⟩ : ∃ g, w5.heap.size = g := ⟨_, rfl⟩
      rw [hyn] at hB6
      simp only [hyn] at hY6
      obtain ⟨W6, hW6⟩ : ∃ W, w5.alloc (.cells #[.int .u32 (bitsOf y.1.fi : Nat), .int .u32 (bitsOf y.1.la : Nat), .bool yn] 60) = W := ⟨_, rfl⟩
      rw [hW6] at hY6 hB6
      rw [hg6] at hY6 hg5
      have HG5 := Lib.hid hg5
      have HB6 := Lib.hid hB6
      have HY6 := Lib.hid hY6
      clear CALL D hm5 kq5 hB5 ka hB6 hY6 hg5
      have hob := HB6.out.out
      simp only [HON.out] at hob
      have hyb := HY6.out
      unfold VsY at hyb
      rw [HYN.out] at hyb
      have o1 : W6.cell? ⟨w.heap.size + 2, 1, none⟩ = _ := blk_cell (o := 1) hob rfl
      have y0 := blk_cell (o := 0) hyb rfl
      clear hob hyb
      go_wp2_with fail
      clear hW6 hg6 hyn o1 y0
      obtain ⟨vl6, vf6, hm6⟩ := HB6.out.r.mm
      have HM6 := Lib.hid hm6
      have hyle := YOK.out.le
      have hyl := YOK.out.st.len
      have hx1 : ∀ x ∈ st.1.la, 1 ≤ x ∧ x ≤ y.2.labs.length := fun x hx => by have := FOK.out.la.2 x hx; omega
      have hx2 : ∀ x ∈ y.1.fi, 1 ≤ x := fun x hx => by have := YOK.out.fi.2 x hx; omega
      have hx3 : ∀ p ∈ y.2.prs, 1 ≤ p.2 := fun p hp => ((YOK.out.st.prs p hp).2).1
      have CJ := Lib.hid (conN_join hyl hx1 hx2 hx3)
      refine (connect_any gm w0.heap.size _ vl6 vf6 y.2.labs (fwOf y.2.labs.length y.2.prs) (bitsOf st.1.la) (bitsOf y.1.fi) W6 hm6 HS2.out (fun j hj => by rw [fwOf_len]; have h := (bitsOf_iff (fun x hx => (hx1 x hx).1)).1 hj; have := hx1 _ h; omega) HS3.out (fwOf_in YOK.out.st) (by have h1 := HC.out.h1; have h2 := HC.out.h2; have h3 : w.heap.size + 2 < W6.heap.size := blk_lt HB6.out.out; simp only at h1 h2; omega) (by rw [fwOf_len]; exact hyl)).mono ?_
      rintro e w7 ⟨rfl, hm7, hg7⟩
      rw [CJ.out] at hm7
      have HB7 := Lib.hid (HB6.out.con hm6 hg7 hm7)
      have HY7 : Hid (VsY g6 y.1 w7) := Lib.hid ((hg7.block _ (blk_lt HY6.out) (fun e => row_ne HM6.out.fo HY6.out (by decide) e.symm)).trans HY6.out)
      clear hm6 hyle hyl hx1 hx2 hx3 CJ hm7 hg7 HM6
      have hob := HB7.out.out
      simp only [HON.out] at hob
      have hyb := HY7.out
      unfold VsY at hyb
      rw [HYN.out] at hyb
      have o0 : w7.cell? ⟨w.heap.size + 2, 0, none⟩ = _ := blk_cell (o := 0) hob rfl
      have o1 : w7.cell? ⟨w.heap.size + 2, 1, none⟩ = _ := blk_cell (o := 1) hob rfl
      have o2 : w7.cell? ⟨w.heap.size + 2, 2, none⟩ = _ := blk_cell (o := 2) hob rfl
      have y0 := blk_cell (o := 0) hyb rfl
      have y1 := blk_cell (o := 1) hyb rfl
      have y2 := blk_cell (o := 2) hyb rfl
      have f0 : w7.frozen? ⟨w.heap.size + 2, 0, none⟩ = false := frozen_of_row w7 _ 0 _ _ hob
      have f1 : w7.frozen? ⟨w.heap.size + 2, 1, none⟩ = false := frozen_of_row w7 _ 1 _ _ hob
      have f2 : w7.frozen? ⟨w.heap.size + 2, 2, none⟩ = false := frozen_of_row w7 _ 2 _ _ hob
      clear hob hyb
      have hor0 := or_app HS1.out HS3.out
      have hor1 := or_app HS2.out HS4.out
      have hor2 := or_zero HS4.out
      cases on
      · go_upto_region 17 with fail
        clear hor0 o0 y0 f0 o1 o2 y1 y2 f1 f2
        have HB9 := HB7
        have HY9 := HY7
        clear HB7 HY7
        have hob := HB9.out.out
        simp only [HON.out] at hob
        have hyb := HY9.out
        unfold VsY at hyb
        rw [HYN.out] at hyb
        have o1 : w7.cell? ⟨w.heap.size + 2, 1, none⟩ = _ := blk_cell (o := 1) hob rfl
        have y1 := blk_cell (o := 1) hyb rfl
        have y2 := blk_cell (o := 2) hyb rfl
        have f1 : w7.frozen? ⟨w.heap.size + 2, 1, none⟩ = false := frozen_of_row w7 _ 1 _ _ hob
        clear hob hyb
        cases yn
        · go_upto_region 19 with fail
          clear o1 y1 y2 f1 hor1
          have HB10 := Lib.hid (HB9.out.set1 HC.out [])
          have HY10 : Hid (VsY g6 y.1 (w7.setCell ⟨w.heap.size + 1 + 1, 1, none⟩ (.int .u32 0))) := Lib.hid (blk_set_ne HY9.out (show g6 ≠ w.heap.size + 2 by have := HG5.out; omega))
          obtain ⟨W10, hW10⟩ : ∃ W, w7.setCell ⟨w.heap.size + 1 + 1, 1, none⟩ (.int .u32 0) = W := ⟨_, rfl⟩
          rw [hW10]
          have HB10 := Lib.hid (show _ from hW10 ▸ HB10.out)
          have HY10 := Lib.hid (show _ from hW10 ▸ HY10.out)
          have hob := HB10.out.out
          simp only [HON.out] at hob
          have hyb := HY10.out
          unfold VsY at hyb
          rw [HYN.out] at hyb
          have o1 : W10.cell? ⟨w.heap.size + 2, 1, none⟩ = _ := blk_cell (o := 1) hob rfl
          have y1 := blk_cell (o := 1) hyb rfl
          have y2 := blk_cell (o := 2) hyb rfl
          have f1 : W10.frozen? ⟨w.heap.size + 2, 1, none⟩ = false := frozen_of_row W10 _ 1 _ _ hob
          clear hob hyb
          have o1z : W10.cell? ⟨w.heap.size + 2, 1, none⟩ = some (.int .u32 0) := o1
          clear o1
          go_upto_region 20 with fail
          clear y1 y2 f1 hor2 o1z
          have HB11 := Lib.hid (HB10.out.set1 HC.out (y.1.la))
          have HY11 : Hid (VsY g6 y.1 (W10.setCell ⟨w.heap.size + 1 + 1, 1, none⟩ (.int .u32 (bitsOf (y.1.la) : Nat)))) := Lib.hid (blk_set_ne HY10.out (show g6 ≠ w.heap.size + 2 by have := HG5.out; omega))
          obtain ⟨W11, hW11⟩ : ∃ W, W10.setCell ⟨w.heap.size + 1 + 1, 1, none⟩ (.int .u32 (bitsOf (y.1.la) : Nat)) = W := ⟨_, rfl⟩
          rw [hW11]
          have HB11 := Lib.hid (show _ from hW11 ▸ HB11.out)
          have HY11 := Lib.hid (show _ from hW11 ▸ HY11.out)
          have hob := HB11.out.out
          simp only [HON.out] at hob
          have hyb := HY11.out
          unfold VsY at hyb
          rw [HYN.out] at hyb
          have o2 : W11.cell? ⟨w.heap.size + 2, 2, none⟩ = _ := blk_cell (o := 2) hob rfl
          have y2 := blk_cell (o := 2) hyb rfl
          have f2 : W11.frozen? ⟨w.heap.size + 2, 2, none⟩ = false := frozen_of_row W11 _ 2 _ _ hob
          clear hob hyb
          have HB12 := Lib.hid (HB11.out.set2 HC.out false)
          have HNX : Hid (F (t + 1) = (⟨st.1.fi, y.1.la, false⟩, ⟨y.2.labs, y.2.prs ++ prsOf st.1.la y.1.fi⟩)) := Lib.hid (by
            rw [HSN.out]
            unfold lkNext lkPrs
            rw [if_pos rfl, if_pos rfl, HON.out, HYN.out]
            rfl)
          go_wp2
          go_roundw
          case rel => exact ⟨t + 1, by omega, by go_num, by rw [HNX.out]; exact HB12.out⟩
          case measure => simp [intOf]; omega
        · clear hor2
          go_upto_region 20 with fail
          clear y1 y2 f1 hor1 o1
          have HB11 := Lib.hid (HB9.out.set1 HC.out (st.1.la ++ y.1.la))
          have HY11 : Hid (VsY g6 y.1 (w7.setCell ⟨w.heap.size + 1 + 1, 1, none⟩ (.int .u32 (bitsOf (st.1.la ++ y.1.la) : Nat)))) := Lib.hid (blk_set_ne HY9.out (show g6 ≠ w.heap.size + 2 by have := HG5.out; omega))
          obtain ⟨W11, hW11⟩ : ∃ W, w7.setCell ⟨w.heap.size + 1 + 1, 1, none⟩ (.int .u32 (bitsOf (st.1.la ++ y.1.la) : Nat)) = W := ⟨_, rfl⟩
          rw [hW11]
          have HB11 := Lib.hid (show _ from hW11 ▸ HB11.out)
          have HY11 := Lib.hid (show _ from hW11 ▸ HY11.out)
          have hob := HB11.out.out
          simp only [HON.out] at hob
          have hyb := HY11.out
          unfold VsY at hyb
          rw [HYN.out] at hyb
          have o2 : W11.cell? ⟨w.heap.size + 2, 2, none⟩ = _ := blk_cell (o := 2) hob rfl
          have y2 := blk_cell (o := 2) hyb rfl
          have f2 : W11.frozen? ⟨w.heap.size + 2, 2, none⟩ = false := frozen_of_row W11 _ 2 _ _ hob
          clear hob hyb
          have HB12 := Lib.hid (HB11.out.set2 HC.out false)
          have HNX : Hid (F (t + 1) = (⟨st.1.fi, st.1.la ++ y.1.la, false⟩, ⟨y.2.labs, y.2.prs ++ prsOf st.1.la y.1.fi⟩)) := Lib.hid (by
            rw [HSN.out]
            unfold lkNext lkPrs
            rw [if_pos rfl, if_pos rfl, HON.out, HYN.out]
            rfl)
          go_wp2
          go_roundw
          case rel => exact ⟨t + 1, by omega, by go_num, by rw [HNX.out]; exact HB12.out⟩
          case measure => simp [intOf]; omega
      · go_upto_region 17 with fail
        clear hor0 o0 y0 f0 o1 o2 y1 y2 f1 f2
        have HB9 := Lib.hid (HB7.out.set0 HC.out (st.1.fi ++ y.1.fi))
        have HY9 : Hid (VsY g6 y.1 (w7.setCell ⟨w.heap.size + 1 + 1, 0, none⟩ (.int .u32 (bitsOf (st.1.fi ++ y.1.fi) : Nat)))) := Lib.hid (blk_set_ne HY7.out (show g6 ≠ w.heap.size + 2 by have := HG5.out; omega))
        obtain ⟨W9, hW9⟩ : ∃ W, w7.setCell ⟨w.heap.size + 1 + 1, 0, none⟩ (.int .u32 (bitsOf (st.1.fi ++ y.1.fi) : Nat)) = W := ⟨_, rfl⟩
        rw [hW9]
        have HB9 := Lib.hid (show _ from hW9 ▸ HB9.out)
        have HY9 := Lib.hid (show _ from hW9 ▸ HY9.out)
        clear HB7 HY7
        have hob := HB9.out.out
        simp only [HON.out] at hob
        have hyb := HY9.out
        unfold VsY at hyb
        rw [HYN.out] at hyb
        have o1 : W9.cell? ⟨w.heap.size + 2, 1, none⟩ = _ := blk_cell (o := 1) hob rfl
        have y1 := blk_cell (o := 1) hyb rfl
        have y2 := blk_cell (o := 2) hyb rfl
        have f1 : W9.frozen? ⟨w.heap.size + 2, 1, none⟩ = false := frozen_of_row W9 _ 1 _ _ hob
        clear hob hyb
        cases yn
        · go_upto_region 19 with fail
          clear o1 y1 y2 f1 hor1
          have HB10 := Lib.hid (HB9.out.set1 HC.out [])
          have HY10 : Hid (VsY g6 y.1 (W9.setCell ⟨w.heap.size + 1 + 1, 1, none⟩ (.int .u32 0))) := Lib.hid (blk_set_ne HY9.out (show g6 ≠ w.heap.size + 2 by have := HG5.out; omega))
          obtain ⟨W10, hW10⟩ : ∃ W, W9.setCell ⟨w.heap.size + 1 + 1, 1, none⟩ (.int .u32 0) = W := ⟨_, rfl⟩
          rw [hW10]
          have HB10 := Lib.hid (show _ from hW10 ▸ HB10.out)
          have HY10 := Lib.hid (show _ from hW10 ▸ HY10.out)
          have hob := HB10.out.out
          simp only [HON.out] at hob
          have hyb := HY10.out
          unfold VsY at hyb
          rw [HYN.out] at hyb
          have o1 : W10.cell? ⟨w.heap.size + 2, 1, none⟩ = _ := blk_cell (o := 1) hob rfl
          have y1 := blk_cell (o := 1) hyb rfl
          have y2 := blk_cell (o := 2) hyb rfl
          have f1 : W10.frozen? ⟨w.heap.size + 2, 1, none⟩ = false := frozen_of_row W10 _ 1 _ _ hob
          clear hob hyb
          have o1z : W10.cell? ⟨w.heap.size + 2, 1, none⟩ = some (.int .u32 0) := o1
          clear o1
          go_upto_region 20 with fail
          clear y1 y2 f1 hor2 o1z
          have HB11 := Lib.hid (HB10.out.set1 HC.out (y.1.la))
          have HY11 : Hid (VsY g6 y.1 (W10.setCell ⟨w.heap.size + 1 + 1, 1, none⟩ (.int .u32 (bitsOf (y.1.la) : Nat)))) := Lib.hid (blk_set_ne HY10.out (show g6 ≠ w.heap.size + 2 by have := HG5.out; omega))
          obtain ⟨W11, hW11⟩ : ∃ W, W10.setCell ⟨w.heap.size + 1 + 1, 1, none⟩ (.int .u32 (bitsOf (y.1.la) : Nat)) = W := ⟨_, rfl⟩
          rw [hW11]
          have HB11 := Lib.hid (show _ from hW11 ▸ HB11.out)
          have HY11 := Lib.hid (show _ from hW11 ▸ HY11.out)
          have hob := HB11.out.out
          simp only [HON.out] at hob
          have hyb := HY11.out
          unfold VsY at hyb
          rw [HYN.out] at hyb
          have o2 : W11.cell? ⟨w.heap.size + 2, 2, none⟩ = _ := blk_cell (o := 2) hob rfl
          have y2 := blk_cell (o := 2) hyb rfl
          have f2 : W11.frozen? ⟨w.heap.size + 2, 2, none⟩ = false := frozen_of_row W11 _ 2 _ _ hob
          clear hob hyb
          have HB12 := Lib.hid (HB11.out.set2 HC.out false)
          have HNX : Hid (F (t + 1) = (⟨st.1.fi ++ y.1.fi, y.1.la, false⟩, ⟨y.2.labs, y.2.prs ++ prsOf st.1.la y.1.fi⟩)) := Lib.hid (by
            rw [HSN.out]
            unfold lkNext lkPrs
            rw [if_pos rfl, if_pos rfl, HON.out, HYN.out]
            rfl)
          go_wp2
          go_roundw
          case rel => exact ⟨t + 1, by omega, by go_num, by rw [HNX.out]; exact HB12.out⟩
          case measure => simp [intOf]; omega
        · clear hor2
          go_upto_region 20 with fail
          clear y1 y2 f1 hor1 o1
          have HB11 := Lib.hid (HB9.out.set1 HC.out (st.1.la ++ y.1.la))
          have HY11 : Hid (VsY g6 y.1 (W9.setCell ⟨w.heap.size + 1 + 1, 1, none⟩ (.int .u32 (bitsOf (st.1.la ++ y.1.la) : Nat)))) := Lib.hid (blk_set_ne HY9.out (show g6 ≠ w.heap.size + 2 by have := HG5.out; omega))
          obtain ⟨W11, hW11⟩ : ∃ W, W9.setCell ⟨w.heap.size + 1 + 1, 1, none⟩ (.int .u32 (bitsOf (st.1.la ++ y.1.la) : Nat)) = W := ⟨_, rfl⟩
          rw [hW11]
          have HB11 := Lib.hid (show _ from hW11 ▸ HB11.out)
          have HY11 := Lib.hid (show _ from hW11 ▸ HY11.out)
          have hob := HB11.out.out
          simp only [HON.out] at hob
          have hyb := HY11.out
          unfold VsY at hyb
          rw [HYN.out] at hyb
          have o2 : W11.cell? ⟨w.heap.size + 2, 2, none⟩ = _ := blk_cell (o := 2) hob rfl
          have y2 := blk_cell (o := 2) hyb rfl
          have f2 : W11.frozen? ⟨w.heap.size + 2, 2, none⟩ = false := frozen_of_row W11 _ 2 _ _ hob
          clear hob hyb
          have HB12 := Lib.hid (HB11.out.set2 HC.out true)
          have HNX : Hid (F (t + 1) = (⟨st.1.fi ++ y.1.fi, st.1.la ++ y.1.la, true⟩, ⟨y.2.labs, y.2.prs ++ prsOf st.1.la y.1.fi⟩)) := Lib.hid (by
            rw [HSN.out]
            unfold lkNext lkPrs
            rw [if_pos rfl, if_pos rfl, HON.out, HYN.out]
            rfl)
          go_wp2
          go_roundw
          case rel => exact ⟨t + 1, by omega, by go_num, by rw [HNX.out]; exact HB12.out⟩
          case measure => simp [intOf]; omega
    · obtain rfl : t = ks.length := by omega
      have hob := hD.out
      obtain ⟨st, hst⟩ : ∃ st, F ks.length = st := ⟨_, rfl⟩
      have HE : Hid (st = RES) := Lib.hid (by rw [← hst]; exact HFE.out)
      rw [hst] at D hD hob
      obtain ⟨on, hon⟩ : ∃ z, st.1.nul = z := ⟨_, rfl⟩
      rw [hon] at hob
      have HON := Lib.hid hon
      have o0 : wr.cell? ⟨w.heap.size + 2, 0, none⟩ = _ := blk_cell (o := 0) hob rfl
      have o1 : wr.cell? ⟨w.heap.size + 2, 1, none⟩ = _ := blk_cell (o := 1) hob rfl
      have o2 : wr.cell? ⟨w.heap.size + 2, 2, none⟩ = _ := blk_cell (o := 2) hob rfl
      have hrs := hD.r.res
      have r0 : wr.cell? ⟨w.heap.size, 0, none⟩ = _ := blk_cell (o := 0) hrs rfl
      have r1 : wr.cell? ⟨w.heap.size, 1, none⟩ = _ := blk_cell (o := 1) hrs rfl
      have r2 : wr.cell? ⟨w.heap.size, 2, none⟩ = _ := blk_cell (o := 2) hrs rfl
      have f0 : wr.frozen? ⟨w.heap.size, 0, none⟩ = false := frozen_of_row wr _ 0 _ _ hrs
      have f1 : wr.frozen? ⟨w.heap.size, 1, none⟩ = false := frozen_of_row wr _ 1 _ _ hrs
      have f2 : wr.frozen? ⟨w.heap.size, 2, none⟩ = false := frozen_of_row wr _ 2 _ _ hrs
      clear hD hob hrs hst hon HKID HIH HLKO HFE HFN HFOK HF24
      go_wp2
      refine bodyPost_ret (v := .agg #[.int .u32 (bitsOf st.1.fi : Nat), .int .u32 (bitsOf st.1.la : Nat), .bool on]) (by simp [results, Try.results21, go_sem, r0, r1, r2]) rfl ?_
      show VisP gm w0.heap.size _ RES w _ _
      rw [← HE.out]
      exact ⟨by rw [HON.out], D.out.r.fin HC.out _ _ _⟩
end Go.Proofs.Ytjlekcoikceidaa
namespace Go.Proofs.Ytjlekcoikceidaa
open Go.RowKit
set_option maxRecDepth 100000 in

set_option maxHeartbeats 12800000 in
theorem vis_alt {ps : List Pc} (hp : PaOk ps) {w0 : World} {A : Option Addr} {cP : Nat} (hx : RdP w0 A ps) {gm : Nat} (hqg : w0.heap.size ≤ gm) {n : Nat} (IH : VisC ps gm (.slice A ps.length cP) w0 n)
    (i : Nat) (s : LkS) (w : World) (hin : i < n + 1) (hil : i < ps.length) (hs : StOk s) (_hc : s.labs.length < 24) (h24 : (lkPc (lk ps n) ps[i] s).2.labs.length < 24) (hb : Below w0.heap.size w0 w) (hgm : gm < w.heap.size) (hm : ∃ vl vf, PosI gm w0.heap.size (.slice A ps.length cP) vl vf s.labs (fwOf s.labs.length s.prs) w) (hop : ps[i].op = 3) (hkl : ∀ p ∈ ps, p.k.length ≤ 4294967296) :
    Calls Try.prog 21 #[.pointer (some ⟨gm, 0, none⟩), .int .i64 i] w (VisP gm w0.heap.size (.slice A ps.length cP) (lkPc (lk ps n) ps[i] s) w) := by
  obtain ⟨vl, vf, hm⟩ := hm
  obtain ⟨b, o, Kk, ck, rfl, c0, c1, c2, hrk⟩ := hx.at_ hil
  have ho := hp.2 i hil
  have hkids := ho.kids
  have HLK : ∀ k ∈ ps[i].k, ∀ s, StOk s → s.labs.length < 24 → LkOk s (lk ps n k.toNat s) := fun k hk s h1 h2 => by
    have := hkids k hk
    exact lk_ok hp n k.toNat s (by omega) (by omega) h1 h2
  have hkn : ps[i].k.length ≤ 4294967296 := hkl _ (List.getElem_mem hil)
  obtain ⟨x, hxx⟩ : ∃ x, ps[i] = x := ⟨_, rfl⟩
  rw [hxx] at ho hkids c0 c1 c2 hrk HLK hop hkn h24 ⊢
  clear hxx hx hkl
  obtain ⟨op, l, ks⟩ := x
  simp only at ho hkids c0 c1 c2 hrk HLK hop hkn h24 ⊢
  subst hop
  obtain ⟨F, hF⟩ : ∃ F : Nat → Lk × LkS, F = fun t => (ks.take t).foldl (lkStep (lk ps n) 3) (⟨[], [], false⟩, s) := ⟨_, rfl⟩
  have hF0 : F 0 = (⟨[], [], false⟩, s) := by rw [hF]; rfl
  have HFOK : Hid (∀ t, LkOk s (F t)) := Lib.hid (fun t => by rw [hF]; exact LkOk.fold _ _ (.start hs _) (fun k hk => HLK k (List.mem_of_mem_take hk)))
  have HFN : Hid (∀ t, t < ks.length → F (t + 1) = lkStep (lk ps n) 3 (F t) (ks.getD t 0)) := Lib.hid (fun t ht => by rw [hF]; exact lk_take ht)
  have HFE : Hid (F ks.length = lkPc (lk ps n) ⟨3, l, ks⟩ s) := Lib.hid (by
    rw [hF]
    simp only
    rw [List.take_of_length_le (Nat.le_refl _)]
    rfl)
  have HF24 : Hid (∀ t, (F t).2.labs.length < 24) := Lib.hid (fun t => by
    have h1 : (F t).2.labs.length ≤ (lkPc (lk ps n) ⟨3, l, ks⟩ s).2.labs.length := by
      rw [hF]
      exact lk_grow t (.start hs _) HLK
    omega)
  have HC : Hid (LkC.Ok ⟨w, gm, w0.heap.size, .slice (some ⟨b, o, none⟩) ps.length cP, ⟨3, l, ks⟩, Kk, ck⟩) := Lib.hid ⟨hqg, hgm⟩
  obtain ⟨RES, hRES⟩ : ∃ r, lkPc (lk ps n) ⟨3, l, ks⟩ s = r := ⟨_, rfl⟩
  rw [hRES] at HFE ⊢
  have HKID : Hid (∀ t (z : Int), t < ks.length → ks.getD t 0 = z → ∃ k : Nat, z = k ∧ k < n ∧ k < ps.length) := Lib.hid (fun t z ht hz => by
    have e : ks.getD t 0 = ks[t] := by simp [List.getD, ht]
    have h1 := hkids ks[t] (List.getElem_mem ht)
    exact ⟨z.toNat, by omega, by omega, by omega⟩)
  have HRK := Lib.hid hrk
  have HB := Lib.hid hb
  have HIH := Lib.hid IH
  have HLKO := Lib.hid HLK
  have i1 : (0 : Int) ≤ (i : Int) := by omega
  have i2 : (i : Int) < (ps.length : Int) := by omega
  replace c0 := held_step hb c0
  replace c1 := held_step hb c1
  replace c2 := held_step hb c2
  have hbl : b < w.heap.size := World.block_lt_of_cell? w _ c0
  have m0 := blk_cell (o := 0) hm.box rfl
  have D0 : VsB ⟨w, gm, w0.heap.size, .slice (some ⟨b, o, none⟩) ps.length cP, ⟨3, l, ks⟩, Kk, ck⟩ (F 0).1 (F 0).2.labs (fwOf (F 0).2.labs.length (F 0).2.prs) (((w.alloc (.cells #[.int .u32 0, .int .u32 0, .bool false] 60)).alloc (.cells #[.int .i64 3, .int .u8 l, .slice Kk ks.length ck] 78)).alloc (.cells #[.int .u32 0, .int .u32 0, .bool false] 60)) := by
    rw [hF0]
    have ka := below_alloc w (.cells #[.int .u32 0, .int .u32 0, .bool false] 60)
    have kb := below_alloc (w.alloc (.cells #[.int .u32 0, .int .u32 0, .bool false] 60)) (.cells #[.int .i64 3, .int .u8 l, .slice Kk ks.length ck] 78)
    have kc := below_alloc ((w.alloc (.cells #[.int .u32 0, .int .u32 0, .bool false] 60)).alloc (.cells #[.int .i64 3, .int .u8 l, .slice Kk ks.length ck] 78)) (.cells #[.int .u32 0, .int .u32 0, .bool false] 60)
    have p1 := heap_alloc_new (w.alloc (.cells #[.int .u32 0, .int .u32 0, .bool false] 60)) (.cells #[.int .i64 3, .int .u8 l, .slice Kk ks.length ck] 78)
    have p2 := heap_alloc_new ((w.alloc (.cells #[.int .u32 0, .int .u32 0, .bool false] 60)).alloc (.cells #[.int .i64 3, .int .u8 l, .slice Kk ks.length ck] 78)) (.cells #[.int .u32 0, .int .u32 0, .bool false] 60)
    rw [show (w.alloc (.cells #[.int .u32 0, .int .u32 0, .bool false] 60)).heap.size = w.heap.size + 1 by simp] at p1
    rw [show ((w.alloc (.cells #[.int .u32 0, .int .u32 0, .bool false] 60)).alloc (.cells #[.int .i64 3, .int .u8 l, .slice Kk ks.length ck] 78)).heap.size = w.heap.size + 2 by simp] at p2
    exact ⟨⟨blk_below (below_step kb kc) (heap_alloc_new _ _), blk_below kc p1, ⟨vl, vf, hm.kept (below_step (below_step ka kb) kc)⟩, (Kq.refl _ _ _ _).below (below_step (below_step ka kb) kc)⟩, p2⟩
  have HD0 := Lib.hid D0
  clear D0 hF hF0 hRES hm hrk hb hkids HLK IH hs _hc ho hp h24
  go_enter Try.func21, Try.ntmps21
  go_wp2
  clear c0 c1 c2 m0 hbl
  go_loopw [110] (fun i wr => ∃ (t : Nat), t ≤ ks.length ∧ i = .int .i64 t ∧ VsB ⟨w, gm, w0.heap.size, .slice (some ⟨b, o, none⟩) ps.length cP, ⟨3, l, ks⟩, Kk, ck⟩ (F t).1 (F t).2.labs (fwOf (F t).2.labs.length (F t).2.prs) wr) (fun i _ => ks.length - (intOf i).toNat)
  case atStart => exact ⟨0, Nat.zero_le _, rfl, HD0.out⟩
  case round =>
    clear HD0
    obtain ⟨t, ht, rfl, hD⟩ := hrel
    have D := Lib.hid hD
    by_cases hlt : t < ks.length
    · obtain ⟨vl, vf, hm⟩ := hD.r.mm
      obtain ⟨z, hz⟩ : ∃ z, ks.getD t 0 = z := ⟨_, rfl⟩
      obtain ⟨k, rfl, hkn, hkl⟩ := HKID.out t z hlt hz
      obtain ⟨ad, rfl, cK⟩ := (HRK.out.below (hD.r.kq.low HB.out (Nat.le_refl _))).at_ hlt
      rw [hz] at cK
      have FOK := Lib.hid (HFOK.out t)
      have h24 := HF24.out t
      have HSN : Hid (F (t + 1) = (lkNext 3 (F t).1 (lk ps n k (F t).2).1, ⟨(lk ps n k (F t).2).2.labs, (lk ps n k (F t).2).2.prs ++ lkPrs 3 (F t).1 (lk ps n k (F t).2).1⟩)) := Lib.hid (by
        rw [HFN.out t hlt, hz, lkStep_go _ _ _ (by omega)]
        rfl)
      have hy24 : (lk ps n k (F t).2).2.labs.length < 24 := by
        have h := HF24.out (t + 1)
        rw [HSN.out] at h
        exact h
      have CALL := Lib.hid (HIH.out k (F t).2 wr hkn hkl FOK.out.st h24 hy24 (hD.r.kq.low HB.out (Nat.le_refl _)) (Nat.lt_of_lt_of_le HC.out.h2 hD.r.kq.size) ⟨vl, vf, hm⟩)
      have YOK : Hid (LkOk (F t).2 (lk ps n k (F t).2)) := Lib.hid (by
        have hmem : (k : Int) ∈ ks := by rw [← hz]; simp [List.getD, hlt]
        have := HLKO.out k hmem (F t).2 FOK.out.st h24
        simpa using this)
      obtain ⟨y, hy⟩ : ∃ y, lk ps n k (F t).2 = y := ⟨_, rfl⟩
      obtain ⟨st, hst⟩ : ∃ st, F t = st := ⟨_, rfl⟩
      rw [hy] at HSN CALL YOK hy24
      rw [hst] at HSN YOK FOK D
      have t0 : (0 : Int) ≤ (t : Int) := by omega
      have t1 : (t : Int) < (ks.length : Int) := by omega
      obtain ⟨on, hon⟩ : ∃ z, st.1.nul = z := ⟨_, rfl⟩
      have HON := Lib.hid hon
      have HS1 := Lib.hid (FOK.out.fi.small FOK.out.st.len)
      have HS2 := Lib.hid (FOK.out.la.small FOK.out.st.len)
      have HS3 := Lib.hid (YOK.out.fi.small YOK.out.st.len)
      have HS4 := Lib.hid (YOK.out.la.small YOK.out.st.len)
      clear hm hD hz hy hst hon h24
      go_wp2_with fail
      clear cK
      refine CALL.out.mono ?_
      rintro e w5 ⟨rfl, hm5, kq5⟩
      have hB5 := D.out.visit HC.out kq5 hm5
      have hg5 : w.heap.size + 2 < w5.heap.size := blk_lt hB5.out
      have ka := below_alloc w5 (.cells #[.int .u32 (bitsOf y.1.fi : Nat), .int .u32 (bitsOf y.1.la : Nat), .bool y.1.nul] 60)
      have hB6 := hB5.below ka
      have hY6 : VsY w5.heap.size y.1 (w5.alloc (.cells #[.int .u32 (bitsOf y.1.fi : Nat), .int .u32 (bitsOf y.1.la : Nat), .bool y.1.nul] 60)) := heap_alloc_new w5 (.cells #[.int .u32 (bitsOf y.1.fi : Nat), .int .u32 (bitsOf y.1.la : Nat), .bool y.1.nul] 60)
      obtain ⟨yn, hyn⟩ : ∃ z, y.1.nul = z := ⟨_, rfl⟩
      have HYN := Lib.hid hyn
      obtain ⟨g6, hg6⟩ : ∃ g, w5.heap.size = g := ⟨_, rfl⟩
      rw [hyn] at hB6
      simp only [hyn] at hY6
      obtain ⟨W6, hW6⟩ : ∃ W, w5.alloc (.cells #[.int .u32 (bitsOf y.1.fi : Nat), .int .u32 (bitsOf y.1.la : Nat), .bool yn] 60) = W := ⟨_, rfl⟩
      rw [hW6] at hY6 hB6
      rw [hg6] at hY6 hg5
      have HG5 := Lib.hid hg5
      have HB6 := Lib.hid hB6
      have HY6 := Lib.hid hY6
      clear CALL D hm5 kq5 hB5 ka hB6 hY6 hg5
      have hob := HB6.out.out
      simp only [HON.out] at hob
      have hyb := HY6.out
      unfold VsY at hyb
      rw [HYN.out] at hyb
      have o0 : W6.cell? ⟨w.heap.size + 2, 0, none⟩ = _ := blk_cell (o := 0) hob rfl
      have o1 : W6.cell? ⟨w.heap.size + 2, 1, none⟩ = _ := blk_cell (o := 1) hob rfl
      have o2 : W6.cell? ⟨w.heap.size + 2, 2, none⟩ = _ := blk_cell (o := 2) hob rfl
      have y0 := blk_cell (o := 0) hyb rfl
      have y1 := blk_cell (o := 1) hyb rfl
      have y2 := blk_cell (o := 2) hyb rfl
      have f0 : W6.frozen? ⟨w.heap.size + 2, 0, none⟩ = false := frozen_of_row W6 _ 0 _ _ hob
      have f1 : W6.frozen? ⟨w.heap.size + 2, 1, none⟩ = false := frozen_of_row W6 _ 1 _ _ hob
      have f2 : W6.frozen? ⟨w.heap.size + 2, 2, none⟩ = false := frozen_of_row W6 _ 2 _ _ hob
      clear hob hyb
      have hor0 := or_app HS1.out HS3.out
      have hor1 := or_app HS2.out HS4.out
      have HB11 := Lib.hid (((HB6.out.set0 HC.out (st.1.fi ++ y.1.fi)).set1 HC.out (st.1.la ++ y.1.la)).set2 HC.out (on || yn))
      have HNX : Hid (F (t + 1) = (⟨st.1.fi ++ y.1.fi, st.1.la ++ y.1.la, on || yn⟩, ⟨y.2.labs, y.2.prs⟩)) := Lib.hid (by
        rw [HSN.out]
        unfold lkNext lkPrs
        rw [if_neg (by decide), if_pos rfl, if_neg (by decide), if_pos rfl, HON.out, HYN.out, List.append_nil])
      go_upto_region 29 with fail
      clear hW6 hg6 hyn
      cases on <;> cases yn
      all_goals
        go_wp2
        go_roundw
        case rel => exact ⟨t + 1, by omega, by go_num, by rw [HNX.out]; exact HB11.out⟩
        case measure => simp [intOf]; omega
    · obtain rfl : t = ks.length := by omega
      have hob := hD.out
      obtain ⟨st, hst⟩ : ∃ st, F ks.length = st := ⟨_, rfl⟩
      have HE : Hid (st = RES) := Lib.hid (by rw [← hst]; exact HFE.out)
      rw [hst] at D hD hob
      obtain ⟨on, hon⟩ : ∃ z, st.1.nul = z := ⟨_, rfl⟩
      rw [hon] at hob
      have HON := Lib.hid hon
      have o0 : wr.cell? ⟨w.heap.size + 2, 0, none⟩ = _ := blk_cell (o := 0) hob rfl
      have o1 : wr.cell? ⟨w.heap.size + 2, 1, none⟩ = _ := blk_cell (o := 1) hob rfl
      have o2 : wr.cell? ⟨w.heap.size + 2, 2, none⟩ = _ := blk_cell (o := 2) hob rfl
      have hrs := hD.r.res
      have r0 : wr.cell? ⟨w.heap.size, 0, none⟩ = _ := blk_cell (o := 0) hrs rfl
      have r1 : wr.cell? ⟨w.heap.size, 1, none⟩ = _ := blk_cell (o := 1) hrs rfl
      have r2 : wr.cell? ⟨w.heap.size, 2, none⟩ = _ := blk_cell (o := 2) hrs rfl
      have f0 : wr.frozen? ⟨w.heap.size, 0, none⟩ = false := frozen_of_row wr _ 0 _ _ hrs
      have f1 : wr.frozen? ⟨w.heap.size, 1, none⟩ = false := frozen_of_row wr _ 1 _ _ hrs
      have f2 : wr.frozen? ⟨w.heap.size, 2, none⟩ = false := frozen_of_row wr _ 2 _ _ hrs
      clear hD hob hrs hst hon HKID HIH HLKO HFE HFN HFOK HF24
      go_wp2
      refine bodyPost_ret (v := .agg #[.int .u32 (bitsOf st.1.fi : Nat), .int .u32 (bitsOf st.1.la : Nat), .bool on]) (by simp [results, Try.results21, go_sem, r0, r1, r2]) rfl ?_
      show VisP gm w0.heap.size _ RES w _ _
      rw [← HE.out]
      exact ⟨by rw [HON.out], D.out.r.fin HC.out _ _ _⟩
end Go.Proofs.Ytjlekcoikceidaa
namespace Go.Proofs.Ytjlekcoikceidaa
open Go.RowKit
set_option maxRecDepth 100000 in

set_option maxHeartbeats 12800000 in
theorem vis_one4 {ps : List Pc} (hp : PaOk ps) {w0 : World} {A : Option Addr} {cP : Nat} (hx : RdP w0 A ps) {gm : Nat} (hqg : w0.heap.size ≤ gm) {n : Nat} (IH : VisC ps gm (.slice A ps.length cP) w0 n)
    (i : Nat) (s : LkS) (w : World) (hin : i < n + 1) (hil : i < ps.length) (hs : StOk s) (hc : s.labs.length < 24) (h24 : (lkPc (lk ps n) ps[i] s).2.labs.length < 24) (hb : Below w0.heap.size w0 w) (hgm : gm < w.heap.size) (hm : ∃ vl vf, PosI gm w0.heap.size (.slice A ps.length cP) vl vf s.labs (fwOf s.labs.length s.prs) w) (hop : ps[i].op = 4) (hkl : ∀ p ∈ ps, p.k.length ≤ 4294967296) :
    Calls Try.prog 21 #[.pointer (some ⟨gm, 0, none⟩), .int .i64 i] w (VisP gm w0.heap.size (.slice A ps.length cP) (lkPc (lk ps n) ps[i] s) w) := by
  obtain ⟨vl, vf, hm⟩ := hm
  obtain ⟨b, o, Kk, ck, rfl, c0, c1, c2, hrk⟩ := hx.at_ hil
  have ho := hp.2 i hil
  have hkids := ho.kids
  have HLK : ∀ k ∈ ps[i].k, ∀ s, StOk s → s.labs.length < 24 → LkOk s (lk ps n k.toNat s) := fun k hk s h1 h2 => by
    have := hkids k hk
    exact lk_ok hp n k.toNat s (by omega) (by omega) h1 h2
  have hkn : ps[i].k.length ≤ 4294967296 := hkl _ (List.getElem_mem hil)
  obtain ⟨x, hxx⟩ : ∃ x, ps[i] = x := ⟨_, rfl⟩
  rw [hxx] at ho hkids c0 c1 c2 hrk HLK hop hkn h24 ⊢
  clear hxx hx hkl
  obtain ⟨op, l, ks⟩ := x
  simp only at ho hkids c0 c1 c2 hrk HLK hop hkn h24 ⊢
  subst hop
  obtain ⟨F, hF⟩ : ∃ F : Nat → Lk × LkS, F = fun t => (ks.take t).foldl (lkStep (lk ps n) 4) (⟨[], [], false⟩, s) := ⟨_, rfl⟩
  have hF0 : F 0 = (⟨[], [], false⟩, s) := by rw [hF]; rfl
  have HFOK : Hid (∀ t, LkOk s (F t)) := Lib.hid (fun t => by rw [hF]; exact LkOk.fold _ _ (.start hs _) (fun k hk => HLK k (List.mem_of_mem_take hk)))
  have HFN : Hid (∀ t, t < ks.length → F (t + 1) = lkStep (lk ps n) 4 (F t) (ks.getD t 0)) := Lib.hid (fun t ht => by rw [hF]; exact lk_take ht)
  have HFE : Hid (F ks.length = lkPc (lk ps n) ⟨4, l, ks⟩ s) := Lib.hid (by
    rw [hF]
    simp only
    rw [List.take_of_length_le (Nat.le_refl _)]
    rfl)
  have HF24 : Hid (∀ t, (F t).2.labs.length < 24) := Lib.hid (fun t => by
    have h1 : (F t).2.labs.length ≤ (lkPc (lk ps n) ⟨4, l, ks⟩ s).2.labs.length := by
      rw [hF]
      exact lk_grow t (.start hs _) HLK
    omega)
  have HC : Hid (LkC.Ok ⟨w, gm, w0.heap.size, .slice (some ⟨b, o, none⟩) ps.length cP, ⟨4, l, ks⟩, Kk, ck⟩) := Lib.hid ⟨hqg, hgm⟩
  obtain ⟨RES, hRES⟩ : ∃ r, lkPc (lk ps n) ⟨4, l, ks⟩ s = r := ⟨_, rfl⟩
  rw [hRES] at HFE ⊢
  have HKID : Hid (∀ t (z : Int), t < ks.length → ks.getD t 0 = z → ∃ k : Nat, z = k ∧ k < n ∧ k < ps.length) := Lib.hid (fun t z ht hz => by
    have e : ks.getD t 0 = ks[t] := by simp [List.getD, ht]
    have h1 := hkids ks[t] (List.getElem_mem ht)
    exact ⟨z.toNat, by omega, by omega, by omega⟩)
  have HRK := Lib.hid hrk
  have HB := Lib.hid hb
  have HIH := Lib.hid IH
  have HLKO := Lib.hid HLK
  have i1 : (0 : Int) ≤ (i : Int) := by omega
  have i2 : (i : Int) < (ps.length : Int) := by omega
  replace c0 := held_step hb c0
  replace c1 := held_step hb c1
  replace c2 := held_step hb c2
  have hbl : b < w.heap.size := World.block_lt_of_cell? w _ c0
  have m0 := blk_cell (o := 0) hm.box rfl
  have hone : ks.length = 1 := (ho.one (by simp)).1
  have hlt : 0 < ks.length := by omega
  obtain ⟨z, hz⟩ : ∃ z, ks.getD 0 0 = z := ⟨_, rfl⟩
  obtain ⟨k, rfl, hkn, hkl⟩ := HKID.out 0 z hlt hz
  have ka := below_alloc w (.cells #[.int .u32 0, .int .u32 0, .bool false] 60)
  have kb := below_alloc (w.alloc (.cells #[.int .u32 0, .int .u32 0, .bool false] 60)) (.cells #[.int .i64 4, .int .u8 l, .slice Kk ks.length ck] 78)
  have p1 := heap_alloc_new (w.alloc (.cells #[.int .u32 0, .int .u32 0, .bool false] 60)) (.cells #[.int .i64 4, .int .u8 l, .slice Kk ks.length ck] 78)
  rw [show (w.alloc (.cells #[.int .u32 0, .int .u32 0, .bool false] 60)).heap.size = w.heap.size + 1 by simp] at p1
  have D0 : VsR ⟨w, gm, w0.heap.size, .slice (some ⟨b, o, none⟩) ps.length cP, ⟨4, l, ks⟩, Kk, ck⟩ s.labs (fwOf s.labs.length s.prs) ((w.alloc (.cells #[.int .u32 0, .int .u32 0, .bool false] 60)).alloc (.cells #[.int .i64 4, .int .u8 l, .slice Kk ks.length ck] 78)) := ⟨blk_below kb (heap_alloc_new _ _), p1, ⟨vl, vf, hm.kept (below_step ka kb)⟩, (Kq.refl _ _ _ _).below (below_step ka kb)⟩
  have HD0 := Lib.hid D0
  have h24' := HF24.out 1
  have hf1 := HFN.out 0 hlt
  rw [hz, hF0, lkStep_go _ _ _ (by show ¬ 24 ≤ s.labs.length; omega)] at hf1
  rw [hf1] at h24'
  obtain ⟨vl, vf, hm2⟩ := D0.mm
  obtain ⟨W2, hW2⟩ : ∃ W, (w.alloc (.cells #[.int .u32 0, .int .u32 0, .bool false] 60)).alloc (.cells #[.int .i64 4, .int .u8 l, .slice Kk ks.length ck] 78) = W := ⟨_, rfl⟩
  rw [hW2] at HD0 hm2
  have CALL := Lib.hid (HIH.out k s W2 hkn hkl hs hc h24' (HD0.out.kq.low HB.out (Nat.le_refl _)) (Nat.lt_of_lt_of_le HC.out.h2 HD0.out.kq.size) ⟨vl, vf, hm2⟩)
  have YOK : Hid (LkOk s (lk ps n k s)) := Lib.hid (by
    have hmem : (k : Int) ∈ ks := by rw [← hz]; simp [List.getD, hlt]
    have := HLKO.out k hmem s hs hc
    simpa using this)
  have HRE : Hid (RES = (lkNext 4 ⟨[], [], false⟩ (lk ps n k s).1, ⟨(lk ps n k s).2.labs, (lk ps n k s).2.prs ++ lkPrs 4 ⟨[], [], false⟩ (lk ps n k s).1⟩)) := Lib.hid (by
    rw [← HFE.out, hone]
    exact hf1)
  obtain ⟨y, hy⟩ : ∃ y, lk ps n k s = y := ⟨_, rfl⟩
  rw [hy] at CALL YOK HRE
  obtain ⟨ad, rfl, cK⟩ := (HRK.out.below (HD0.out.kq.low HB.out (Nat.le_refl _))).at_ hlt
  rw [hz] at cK
  have cK0 : W2.cell? ad = some (.int .i64 k) := by simpa [Addr.add] using cK
  have HS3 := Lib.hid (YOK.out.fi.small YOK.out.st.len)
  have HS4 := Lib.hid (YOK.out.la.small YOK.out.st.len)
  have hk0 : (0 : Int) < (ks.length : Int) := by omega
  have p0 : W2.cell? ⟨w.heap.size + 1, 0, none⟩ = some (.int .i64 4) := blk_cell (o := 0) HD0.out.pc rfl
  have p2 : W2.cell? ⟨w.heap.size + 1, 2, none⟩ = some (.slice (some ad) ks.length ck) := blk_cell (o := 2) HD0.out.pc rfl
  clear hone hm2 hz hy ka kb p1 D0 h24' hf1 hF hF0 hRES hm hrk hb hkids HLK IH ho hp h24 HFN HFE HF24 HFOK HKID cK
  go_enter Try.func21, Try.ntmps21
  go_wp2_with fail
  clear c0 c1 c2 m0 hbl cK0 p0 p2 hW2
  refine CALL.out.mono ?_
  rintro e w5 ⟨rfl, hm5, kq5⟩
  have hB5 := HD0.out.visit HC.out kq5 hm5
  have hg5 : w.heap.size + 1 < w5.heap.size := blk_lt hB5.pc
  have ka := below_alloc w5 (.cells #[.int .u32 (bitsOf y.1.fi : Nat), .int .u32 (bitsOf y.1.la : Nat), .bool y.1.nul] 60)
  have hB6 : VsR ⟨w, gm, w0.heap.size, .slice (some ⟨b, o, none⟩) ps.length cP, ⟨4, l, ks⟩, (some ad), ck⟩ y.2.labs (fwOf y.2.labs.length y.2.prs) _ := hB5.below ka
  have hY6 : VsY w5.heap.size y.1 (w5.alloc (.cells #[.int .u32 (bitsOf y.1.fi : Nat), .int .u32 (bitsOf y.1.la : Nat), .bool y.1.nul] 60)) := heap_alloc_new w5 (.cells #[.int .u32 (bitsOf y.1.fi : Nat), .int .u32 (bitsOf y.1.la : Nat), .bool y.1.nul] 60)
  obtain ⟨yn, hyn⟩ : ∃ z, y.1.nul = z := ⟨_, rfl⟩
  have HYN := Lib.hid hyn
  obtain ⟨g6, hg6⟩ : ∃ g, w5.heap.size = g := ⟨_, rfl⟩
  rw [hyn] at hB6
  simp only [hyn] at hY6
  obtain ⟨W6, hW6⟩ : ∃ W, w5.alloc (.cells #[.int .u32 (bitsOf y.1.fi : Nat), .int .u32 (bitsOf y.1.la : Nat), .bool yn] 60) = W := ⟨_, rfl⟩
  rw [hW6] at hY6 hB6
  rw [hg6] at hY6 hg5
  have HG5 := Lib.hid hg5
  have HB6 := Lib.hid hB6
  have HY6 := Lib.hid hY6
  clear CALL hm5 kq5 hB5 ka hB6 hY6 hg5 HD0
  have hyb := HY6.out
  unfold VsY at hyb
  rw [HYN.out] at hyb
  have p0 : W6.cell? ⟨w.heap.size + 1, 0, none⟩ = some (.int .i64 4) := blk_cell (o := 0) HB6.out.pc rfl
  have y0 := blk_cell (o := 0) hyb rfl
  have y1 := blk_cell (o := 1) hyb rfl
  have y2 := blk_cell (o := 2) hyb rfl
  have f2 : W6.frozen? ⟨g6, 2, none⟩ = false := frozen_of_row W6 _ 2 _ _ hyb
  clear hyb
  go_wp2_with fail
  clear hW6 hg6 hyn y0 y1 y2 f2 p0
  obtain ⟨vl6, vf6, hm6⟩ := HB6.out.mm
  have HM6 := Lib.hid hm6
  have hyle := YOK.out.le
  have hyl := YOK.out.st.len
  have hx1 : ∀ x ∈ y.1.la, 1 ≤ x ∧ x ≤ y.2.labs.length := fun x hx => by have := YOK.out.la.2 x hx; omega
  have hx2 : ∀ x ∈ y.1.fi, 1 ≤ x := fun x hx => by have := YOK.out.fi.2 x hx; omega
  have hx3 : ∀ p ∈ y.2.prs, 1 ≤ p.2 := fun p hp => ((YOK.out.st.prs p hp).2).1
  have CJ := Lib.hid (conN_join hyl hx1 hx2 hx3)
  refine (connect_any gm w0.heap.size _ vl6 vf6 y.2.labs (fwOf y.2.labs.length y.2.prs) (bitsOf y.1.la) (bitsOf y.1.fi) W6 hm6 HS4.out (fun j hj => by rw [fwOf_len]; have h := (bitsOf_iff (fun x hx => (hx1 x hx).1)).1 hj; have := hx1 _ h; omega) HS3.out (fwOf_in YOK.out.st) (by have h1 := HC.out.h1; have h2 := HC.out.h2; have h3 : w.heap.size + 1 < W6.heap.size := blk_lt HB6.out.pc; simp only at h1 h2; omega) (by rw [fwOf_len]; exact hyl)).mono ?_
  rintro e w7 ⟨rfl, hm7, hg7⟩
  rw [CJ.out] at hm7
  have HB7 := Lib.hid (HB6.out.con hm6 hg7 hm7)
  have HY7 : Hid (VsY g6 y.1 w7) := Lib.hid ((hg7.block _ (blk_lt HY6.out) (fun e => row_ne HM6.out.fo HY6.out (by decide) e.symm)).trans HY6.out)
  clear hm6 hyle hyl hx1 hx2 hx3 CJ hm7 hg7 HM6
  have hyb := HY7.out
  unfold VsY at hyb
  rw [HYN.out] at hyb
  have p0 : w7.cell? ⟨w.heap.size + 1, 0, none⟩ = some (.int .i64 4) := blk_cell (o := 0) HB7.out.pc rfl
  have y0 := blk_cell (o := 0) hyb rfl
  have y1 := blk_cell (o := 1) hyb rfl
  have y2 := blk_cell (o := 2) hyb rfl
  have f2 : w7.frozen? ⟨g6, 2, none⟩ = false := frozen_of_row w7 _ 2 _ _ hyb
  clear hyb
  have HNX : Hid (RES = (⟨y.1.fi, y.1.la, (yn || true)⟩, ⟨y.2.labs, y.2.prs ++ prsOf y.1.la y.1.fi⟩)) := Lib.hid (by
    rw [HRE.out]
    unfold lkNext lkPrs
    rw [if_neg (by decide), if_neg (by decide), if_neg (by decide), if_neg (by decide), if_neg (by decide), HYN.out]
    rfl)
  have HR9 := Lib.hid (HB7.out.set (j := 2) HC.out (show w.heap.size + 1 < g6 from HG5.out) HY7.out (.bool (yn || true)))
  have hy9 : (w7.setCell ⟨g6, 2, none⟩ (.bool (yn || true))).heap[g6]? = some (.cells #[.int .u32 (bitsOf y.1.fi : Nat), .int .u32 (bitsOf y.1.la : Nat), .bool (yn || true)] 60 (0, 0)) := by
    have h := HY7.out
    unfold VsY at h
    simp [World.setCell, Array.getElem?_modify, h]
  have HY9 := Lib.hid hy9
  clear hy9
  cases yn
  all_goals
    simp only [Bool.or_true] at HR9 HY9 HNX
    go_upto_region 36 with fail
    clear y0 y1 y2 f2 p0
  · obtain ⟨W9, hW9⟩ : ∃ W, w7.setCell ⟨g6, 2, none⟩ (.bool true) = W := ⟨_, rfl⟩
    rw [hW9]
    have HR9 := Lib.hid (show _ from hW9 ▸ HR9.out)
    have HY9 := Lib.hid (show _ from hW9 ▸ HY9.out)
    have y0 := blk_cell (o := 0) HY9.out rfl
    have y1 := blk_cell (o := 1) HY9.out rfl
    have y2 := blk_cell (o := 2) HY9.out rfl
    have hrs := HR9.out.res
    have r0 : W9.cell? ⟨w.heap.size, 0, none⟩ = _ := blk_cell (o := 0) hrs rfl
    have r1 : W9.cell? ⟨w.heap.size, 1, none⟩ = _ := blk_cell (o := 1) hrs rfl
    have r2 : W9.cell? ⟨w.heap.size, 2, none⟩ = _ := blk_cell (o := 2) hrs rfl
    have f0 : W9.frozen? ⟨w.heap.size, 0, none⟩ = false := frozen_of_row W9 _ 0 _ _ hrs
    have f1 : W9.frozen? ⟨w.heap.size, 1, none⟩ = false := frozen_of_row W9 _ 1 _ _ hrs
    have f2 : W9.frozen? ⟨w.heap.size, 2, none⟩ = false := frozen_of_row W9 _ 2 _ _ hrs
    clear hrs
    go_wp2
    refine bodyPost_ret (v := .agg #[.int .u32 (bitsOf y.1.fi : Nat), .int .u32 (bitsOf y.1.la : Nat), .bool true]) (by simp [results, Try.results21, go_sem, r0, r1, r2]) rfl ?_
    show VisP gm w0.heap.size _ RES w _ _
    rw [HNX.out]
    exact ⟨rfl, HR9.out.fin HC.out _ _ _⟩
  · obtain ⟨W9, hW9⟩ : ∃ W, w7.setCell ⟨g6, 2, none⟩ (.bool true) = W := ⟨_, rfl⟩
    rw [hW9]
    have HR9 := Lib.hid (show _ from hW9 ▸ HR9.out)
    have HY9 := Lib.hid (show _ from hW9 ▸ HY9.out)
    have y0 := blk_cell (o := 0) HY9.out rfl
    have y1 := blk_cell (o := 1) HY9.out rfl
    have y2 := blk_cell (o := 2) HY9.out rfl
    have hrs := HR9.out.res
    have r0 : W9.cell? ⟨w.heap.size, 0, none⟩ = _ := blk_cell (o := 0) hrs rfl
    have r1 : W9.cell? ⟨w.heap.size, 1, none⟩ = _ := blk_cell (o := 1) hrs rfl
    have r2 : W9.cell? ⟨w.heap.size, 2, none⟩ = _ := blk_cell (o := 2) hrs rfl
    have f0 : W9.frozen? ⟨w.heap.size, 0, none⟩ = false := frozen_of_row W9 _ 0 _ _ hrs
    have f1 : W9.frozen? ⟨w.heap.size, 1, none⟩ = false := frozen_of_row W9 _ 1 _ _ hrs
    have f2 : W9.frozen? ⟨w.heap.size, 2, none⟩ = false := frozen_of_row W9 _ 2 _ _ hrs
    clear hrs
    go_wp2
    refine bodyPost_ret (v := .agg #[.int .u32 (bitsOf y.1.fi : Nat), .int .u32 (bitsOf y.1.la : Nat), .bool true]) (by simp [results, Try.results21, go_sem, r0, r1, r2]) rfl ?_
    show VisP gm w0.heap.size _ RES w _ _
    rw [HNX.out]
    exact ⟨rfl, HR9.out.fin HC.out _ _ _⟩

set_option maxRecDepth 100000 in
set_option maxHeartbeats 12800000 in
theorem vis_one5 {ps : List Pc} (hp : PaOk ps) {w0 : World} {A : Option Addr} {cP : Nat} (hx : RdP w0 A ps) {gm : Nat} (hqg : w0.heap.size ≤ gm) {n : Nat} (IH : VisC ps gm (.slice A ps.length cP) w0 n)
    (i : Nat) (s : LkS) (w : World) (hin : i < n + 1) (hil : i < ps.length) (hs : StOk s) (hc : s.labs.length < 24) (h24 : (lkPc (lk ps n) ps[i] s).2.labs.length < 24) (hb : Below w0.heap.size w0 w) (hgm : gm < w.heap.size) (hm : ∃ vl vf, PosI gm w0.heap.size (.slice A ps.length cP) vl vf s.labs (fwOf s.labs.length s.prs) w) (hop : ps[i].op = 5) (hkl : ∀ p ∈ ps, p.k.length ≤ 4294967296) :
    Calls Try.prog 21 #[.pointer (some ⟨gm, 0, none⟩), .int .i64 i] w (VisP gm w0.heap.size (.slice A ps.length cP) (lkPc (lk ps n) ps[i] s) w) := by
  obtain ⟨vl, vf, hm⟩ := hm
  obtain ⟨b, o, Kk, ck, rfl, c0, c1, c2, hrk⟩ := hx.at_ hil
  have ho := hp.2 i hil
  have hkids := ho.kids
  have HLK : ∀ k ∈ ps[i].k, ∀ s, StOk s → s.labs.length < 24 → LkOk s (lk ps n k.toNat s) := fun k hk s h1 h2 => by
    have := hkids k hk
    exact lk_ok hp n k.toNat s (by omega) (by omega) h1 h2
  have hkn : ps[i].k.length ≤ 4294967296 := hkl _ (List.getElem_mem hil)
  obtain ⟨x, hxx⟩ : ∃ x, ps[i] = x := ⟨_, rfl⟩
  rw [hxx] at ho hkids c0 c1 c2 hrk HLK hop hkn h24 ⊢
  clear hxx hx hkl
  obtain ⟨op, l, ks⟩ := x
  simp only at ho hkids c0 c1 c2 hrk HLK hop hkn h24 ⊢
  subst hop
  obtain ⟨F, hF⟩ : ∃ F : Nat → Lk × LkS, F = fun t => (ks.take t).foldl (lkStep (lk ps n) 5) (⟨[], [], false⟩, s) := ⟨_, rfl⟩
  have hF0 : F 0 = (⟨[], [], false⟩, s) := by rw [hF]; rfl
  have HFOK : Hid (∀ t, LkOk s (F t)) := Lib.hid (fun t => by rw [hF]; exact LkOk.fold _ _ (.start hs _) (fun k hk => HLK k (List.mem_of_mem_take hk)))
  have HFN : Hid (∀ t, t < ks.length → F (t + 1) = lkStep (lk ps n) 5 (F t) (ks.getD t 0)) := Lib.hid (fun t ht => by rw [hF]; exact lk_take ht)
  have HFE : Hid (F ks.length = lkPc (lk ps n) ⟨5, l, ks⟩ s) := Lib.hid (by
    rw [hF]
    simp only
    rw [List.take_of_length_le (Nat.le_refl _)]
    rfl)
  have HF24 : Hid (∀ t, (F t).2.labs.length < 24) := Lib.hid (fun t => by
    have h1 : (F t).2.labs.length ≤ (lkPc (lk ps n) ⟨5, l, ks⟩ s).2.labs.length := by
      rw [hF]
      exact lk_grow t (.start hs _) HLK
    omega)
  have HC : Hid (LkC.Ok ⟨w, gm, w0.heap.size, .slice (some ⟨b, o, none⟩) ps.length cP, ⟨5, l, ks⟩, Kk, ck⟩) := Lib.hid ⟨hqg, hgm⟩
  obtain ⟨RES, hRES⟩ : ∃ r, lkPc (lk ps n) ⟨5, l, ks⟩ s = r := ⟨_, rfl⟩
  rw [hRES] at HFE ⊢
  have HKID : Hid (∀ t (z : Int), t < ks.length → ks.getD t 0 = z → ∃ k : Nat, z = k ∧ k < n ∧ k < ps.length) := Lib.hid (fun t z ht hz => by
    have e : ks.getD t 0 = ks[t] := by simp [List.getD, ht]
    have h1 := hkids ks[t] (List.getElem_mem ht)
    exact ⟨z.toNat, by omega, by omega, by omega⟩)
  have HRK := Lib.hid hrk
  have HB := Lib.hid hb
  have HIH := Lib.hid IH
  have HLKO := Lib.hid HLK
  have i1 : (0 : Int) ≤ (i : Int) := by omega
  have i2 : (i : Int) < (ps.length : Int) := by omega
  replace c0 := held_step hb c0
  replace c1 := held_step hb c1
  replace c2 := held_step hb c2
  have hbl : b < w.heap.size := World.block_lt_of_cell? w _ c0
  have m0 := blk_cell (o := 0) hm.box rfl
  have hone : ks.length = 1 := (ho.one (by simp)).1
  have hlt : 0 < ks.length := by omega
  obtain ⟨z, hz⟩ : ∃ z, ks.getD 0 0 = z := ⟨_, rfl⟩
  obtain ⟨k, rfl, hkn, hkl⟩ := HKID.out 0 z hlt hz
  have ka := below_alloc w (.cells #[.int .u32 0, .int .u32 0, .bool false] 60)
  have kb := below_alloc (w.alloc (.cells #[.int .u32 0, .int .u32 0, .bool false] 60)) (.cells #[.int .i64 5, .int .u8 l, .slice Kk ks.length ck] 78)
  have p1 := heap_alloc_new (w.alloc (.cells #[.int .u32 0, .int .u32 0, .bool false] 60)) (.cells #[.int .i64 5, .int .u8 l, .slice Kk ks.length ck] 78)
  rw [show (w.alloc (.cells #[.int .u32 0, .int .u32 0, .bool false] 60)).heap.size = w.heap.size + 1 by simp] at p1
  have D0 : VsR ⟨w, gm, w0.heap.size, .slice (some ⟨b, o, none⟩) ps.length cP, ⟨5, l, ks⟩, Kk, ck⟩ s.labs (fwOf s.labs.length s.prs) ((w.alloc (.cells #[.int .u32 0, .int .u32 0, .bool false] 60)).alloc (.cells #[.int .i64 5, .int .u8 l, .slice Kk ks.length ck] 78)) := ⟨blk_below kb (heap_alloc_new _ _), p1, ⟨vl, vf, hm.kept (below_step ka kb)⟩, (Kq.refl _ _ _ _).below (below_step ka kb)⟩
  have HD0 := Lib.hid D0
  have h24' := HF24.out 1
  have hf1 := HFN.out 0 hlt
  rw [hz, hF0, lkStep_go _ _ _ (by show ¬ 24 ≤ s.labs.length; omega)] at hf1
  rw [hf1] at h24'
  obtain ⟨vl, vf, hm2⟩ := D0.mm
  obtain ⟨W2, hW2⟩ : ∃ W, (w.alloc (.cells #[.int .u32 0, .int .u32 0, .bool false] 60)).alloc (.cells #[.int .i64 5, .int .u8 l, .slice Kk ks.length ck] 78) = W := ⟨_, rfl⟩
  rw [hW2] at HD0 hm2
  have CALL := Lib.hid (HIH.out k s W2 hkn hkl hs hc h24' (HD0.out.kq.low HB.out (Nat.le_refl _)) (Nat.lt_of_lt_of_le HC.out.h2 HD0.out.kq.size) ⟨vl, vf, hm2⟩)
  have YOK : Hid (LkOk s (lk ps n k s)) := Lib.hid (by
    have hmem : (k : Int) ∈ ks := by rw [← hz]; simp [List.getD, hlt]
    have := HLKO.out k hmem s hs hc
    simpa using this)
  have HRE : Hid (RES = (lkNext 5 ⟨[], [], false⟩ (lk ps n k s).1, ⟨(lk ps n k s).2.labs, (lk ps n k s).2.prs ++ lkPrs 5 ⟨[], [], false⟩ (lk ps n k s).1⟩)) := Lib.hid (by
    rw [← HFE.out, hone]
    exact hf1)
  obtain ⟨y, hy⟩ : ∃ y, lk ps n k s = y := ⟨_, rfl⟩
  rw [hy] at CALL YOK HRE
  obtain ⟨ad, rfl, cK⟩ := (HRK.out.below (HD0.out.kq.low HB.out (Nat.le_refl _))).at_ hlt
  rw [hz] at cK
  have cK0 : W2.cell? ad = some (.int .i64 k) := by simpa [Addr.add] using cK
  have HS3 := Lib.hid (YOK.out.fi.small YOK.out.st.len)
  have HS4 := Lib.hid (YOK.out.la.small YOK.out.st.len)
  have hk0 : (0 : Int) < (ks.length : Int) := by omega
  have p0 : W2.cell? ⟨w.heap.size + 1, 0, none⟩ = some (.int .i64 5) := blk_cell (o := 0) HD0.out.pc rfl
  have p2 : W2.cell? ⟨w.heap.size + 1, 2, none⟩ = some (.slice (some ad) ks.length ck) := blk_cell (o := 2) HD0.out.pc rfl
  clear hone hm2 hz hy ka kb p1 D0 h24' hf1 hF hF0 hRES hm hrk hb hkids HLK IH ho hp h24 HFN HFE HF24 HFOK HKID cK
  go_enter Try.func21, Try.ntmps21
  go_wp2_with fail
  clear c0 c1 c2 m0 hbl cK0 p0 p2 hW2
  refine CALL.out.mono ?_
  rintro e w5 ⟨rfl, hm5, kq5⟩
  have hB5 := HD0.out.visit HC.out kq5 hm5
  have hg5 : w.heap.size + 1 < w5.heap.size := blk_lt hB5.pc
  have ka := below_alloc w5 (.cells #[.int .u32 (bitsOf y.1.fi : Nat), .int .u32 (bitsOf y.1.la : Nat), .bool y.1.nul] 60)
  have hB6 : VsR ⟨w, gm, w0.heap.size, .slice (some ⟨b, o, none⟩) ps.length cP, ⟨5, l, ks⟩, (some ad), ck⟩ y.2.labs (fwOf y.2.labs.length y.2.prs) _ := hB5.below ka
  have hY6 : VsY w5.heap.size y.1 (w5.alloc (.cells #[.int .u32 (bitsOf y.1.fi : Nat), .int .u32 (bitsOf y.1.la : Nat), .bool y.1.nul] 60)) := heap_alloc_new w5 (.cells #[.int .u32 (bitsOf y.1.fi : Nat), .int .u32 (bitsOf y.1.la : Nat), .bool y.1.nul] 60)
  obtain ⟨yn, hyn⟩ : ∃ z, y.1.nul = z := ⟨_, rfl⟩
  have HYN := Lib.hid hyn
  obtain ⟨g6, hg6⟩ : ∃ g, w5.heap.size = g := ⟨_, rfl⟩
  rw [hyn] at hB6
  simp only [hyn] at hY6
  obtain ⟨W6, hW6⟩ : ∃ W, w5.alloc (.cells #[.int .u32 (bitsOf y.1.fi : Nat), .int .u32 (bitsOf y.1.la : Nat), .bool yn] 60) = W := ⟨_, rfl⟩
  rw [hW6] at hY6 hB6
  rw [hg6] at hY6 hg5
  have HG5 := Lib.hid hg5
  have HB6 := Lib.hid hB6
  have HY6 := Lib.hid hY6
  clear CALL hm5 kq5 hB5 ka hB6 hY6 hg5 HD0
  have hyb := HY6.out
  unfold VsY at hyb
  rw [HYN.out] at hyb
  have p0 : W6.cell? ⟨w.heap.size + 1, 0, none⟩ = some (.int .i64 5) := blk_cell (o := 0) HB6.out.pc rfl
  have y0 := blk_cell (o := 0) hyb rfl
  have y1 := blk_cell (o := 1) hyb rfl
  have y2 := blk_cell (o := 2) hyb rfl
  have f2 : W6.frozen? ⟨g6, 2, none⟩ = false := frozen_of_row W6 _ 2 _ _ hyb
  clear hyb
  go_wp2_with fail
  clear hW6 hg6 hyn y0 y1 y2 f2 p0
  obtain ⟨vl6, vf6, hm6⟩ := HB6.out.mm
  have HM6 := Lib.hid hm6
  have hyle := YOK.out.le
  have hyl := YOK.out.st.len
  have hx1 : ∀ x ∈ y.1.la, 1 ≤ x ∧ x ≤ y.2.labs.length := fun x hx => by have := YOK.out.la.2 x hx; omega
  have hx2 : ∀ x ∈ y.1.fi, 1 ≤ x := fun x hx => by have := YOK.out.fi.2 x hx; omega
  have hx3 : ∀ p ∈ y.2.prs, 1 ≤ p.2 := fun p hp => ((YOK.out.st.prs p hp).2).1
  have CJ := Lib.hid (conN_join hyl hx1 hx2 hx3)
  refine (connect_any gm w0.heap.size _ vl6 vf6 y.2.labs (fwOf y.2.labs.length y.2.prs) (bitsOf y.1.la) (bitsOf y.1.fi) W6 hm6 HS4.out (fun j hj => by rw [fwOf_len]; have h := (bitsOf_iff (fun x hx => (hx1 x hx).1)).1 hj; have := hx1 _ h; omega) HS3.out (fwOf_in YOK.out.st) (by have h1 := HC.out.h1; have h2 := HC.out.h2; have h3 : w.heap.size + 1 < W6.heap.size := blk_lt HB6.out.pc; simp only at h1 h2; omega) (by rw [fwOf_len]; exact hyl)).mono ?_
  rintro e w7 ⟨rfl, hm7, hg7⟩
  rw [CJ.out] at hm7
  have HB7 := Lib.hid (HB6.out.con hm6 hg7 hm7)
  have HY7 : Hid (VsY g6 y.1 w7) := Lib.hid ((hg7.block _ (blk_lt HY6.out) (fun e => row_ne HM6.out.fo HY6.out (by decide) e.symm)).trans HY6.out)
  clear hm6 hyle hyl hx1 hx2 hx3 CJ hm7 hg7 HM6
  have hyb := HY7.out
  unfold VsY at hyb
  rw [HYN.out] at hyb
  have p0 : w7.cell? ⟨w.heap.size + 1, 0, none⟩ = some (.int .i64 5) := blk_cell (o := 0) HB7.out.pc rfl
  have y0 := blk_cell (o := 0) hyb rfl
  have y1 := blk_cell (o := 1) hyb rfl
  have y2 := blk_cell (o := 2) hyb rfl
  have f2 : w7.frozen? ⟨g6, 2, none⟩ = false := frozen_of_row w7 _ 2 _ _ hyb
  clear hyb
  have HNX : Hid (RES = (⟨y.1.fi, y.1.la, (yn || false)⟩, ⟨y.2.labs, y.2.prs ++ prsOf y.1.la y.1.fi⟩)) := Lib.hid (by
    rw [HRE.out]
    unfold lkNext lkPrs
    rw [if_neg (by decide), if_neg (by decide), if_neg (by decide), if_neg (by decide), if_neg (by decide), HYN.out]
    rfl)
  have HR9 := Lib.hid (HB7.out.set (j := 2) HC.out (show w.heap.size + 1 < g6 from HG5.out) HY7.out (.bool (yn || false)))
  have hy9 : (w7.setCell ⟨g6, 2, none⟩ (.bool (yn || false))).heap[g6]? = some (.cells #[.int .u32 (bitsOf y.1.fi : Nat), .int .u32 (bitsOf y.1.la : Nat), .bool (yn || false)] 60 (0, 0)) := by
    have h := HY7.out
    unfold VsY at h
    simp [World.setCell, Array.getElem?_modify, h]
  have HY9 := Lib.hid hy9
  clear hy9
  cases yn
  all_goals
    simp only [Bool.or_false] at HR9 HY9 HNX
    go_upto_region 36 with fail
    clear y0 y1 y2 f2 p0
  · obtain ⟨W9, hW9⟩ : ∃ W, w7.setCell ⟨g6, 2, none⟩ (.bool false) = W := ⟨_, rfl⟩
    rw [hW9]
    have HR9 := Lib.hid (show _ from hW9 ▸ HR9.out)
    have HY9 := Lib.hid (show _ from hW9 ▸ HY9.out)
    have y0 := blk_cell (o := 0) HY9.out rfl
    have y1 := blk_cell (o := 1) HY9.out rfl
    have y2 := blk_cell (o := 2) HY9.out rfl
    have hrs := HR9.out.res
    have r0 : W9.cell? ⟨w.heap.size, 0, none⟩ = _ := blk_cell (o := 0) hrs rfl
    have r1 : W9.cell? ⟨w.heap.size, 1, none⟩ = _ := blk_cell (o := 1) hrs rfl
    have r2 : W9.cell? ⟨w.heap.size, 2, none⟩ = _ := blk_cell (o := 2) hrs rfl
    have f0 : W9.frozen? ⟨w.heap.size, 0, none⟩ = false := frozen_of_row W9 _ 0 _ _ hrs
    have f1 : W9.frozen? ⟨w.heap.size, 1, none⟩ = false := frozen_of_row W9 _ 1 _ _ hrs
    have f2 : W9.frozen? ⟨w.heap.size, 2, none⟩ = false := frozen_of_row W9 _ 2 _ _ hrs
    clear hrs
    go_wp2
    refine bodyPost_ret (v := .agg #[.int .u32 (bitsOf y.1.fi : Nat), .int .u32 (bitsOf y.1.la : Nat), .bool false]) (by simp [results, Try.results21, go_sem, r0, r1, r2]) rfl ?_
    show VisP gm w0.heap.size _ RES w _ _
    rw [HNX.out]
    exact ⟨rfl, HR9.out.fin HC.out _ _ _⟩
  · obtain ⟨W9, hW9⟩ : ∃ W, w7.setCell ⟨g6, 2, none⟩ (.bool true) = W := ⟨_, rfl⟩
    rw [hW9]
    have HR9 := Lib.hid (show _ from hW9 ▸ HR9.out)
    have HY9 := Lib.hid (show _ from hW9 ▸ HY9.out)
    have y0 := blk_cell (o := 0) HY9.out rfl
    have y1 := blk_cell (o := 1) HY9.out rfl
    have y2 := blk_cell (o := 2) HY9.out rfl
    have hrs := HR9.out.res
    have r0 : W9.cell? ⟨w.heap.size, 0, none⟩ = _ := blk_cell (o := 0) hrs rfl
    have r1 : W9.cell? ⟨w.heap.size, 1, none⟩ = _ := blk_cell (o := 1) hrs rfl
    have r2 : W9.cell? ⟨w.heap.size, 2, none⟩ = _ := blk_cell (o := 2) hrs rfl
    have f0 : W9.frozen? ⟨w.heap.size, 0, none⟩ = false := frozen_of_row W9 _ 0 _ _ hrs
    have f1 : W9.frozen? ⟨w.heap.size, 1, none⟩ = false := frozen_of_row W9 _ 1 _ _ hrs
    have f2 : W9.frozen? ⟨w.heap.size, 2, none⟩ = false := frozen_of_row W9 _ 2 _ _ hrs
    clear hrs
    go_wp2
    refine bodyPost_ret (v := .agg #[.int .u32 (bitsOf y.1.fi : Nat), .int .u32 (bitsOf y.1.la : Nat), .bool true]) (by simp [results, Try.results21, go_sem, r0, r1, r2]) rfl ?_
    show VisP gm w0.heap.size _ RES w _ _
    rw [HNX.out]
    exact ⟨rfl, HR9.out.fin HC.out _ _ _⟩

set_option maxRecDepth 100000 in
set_option maxHeartbeats 12800000 in
theorem vis_one6 {ps : List Pc} (hp : PaOk ps) {w0 : World} {A : Option Addr} {cP : Nat} (hx : RdP w0 A ps) {gm : Nat} (hqg : w0.heap.size ≤ gm) {n : Nat} (IH : VisC ps gm (.slice A ps.length cP) w0 n)
    (i : Nat) (s : LkS) (w : World) (hin : i < n + 1) (hil : i < ps.length) (hs : StOk s) (hc : s.labs.length < 24) (h24 : (lkPc (lk ps n) ps[i] s).2.labs.length < 24) (hb : Below w0.heap.size w0 w) (hgm : gm < w.heap.size) (hm : ∃ vl vf, PosI gm w0.heap.size (.slice A ps.length cP) vl vf s.labs (fwOf s.labs.length s.prs) w) (hop : ps[i].op = 6) (hkl : ∀ p ∈ ps, p.k.length ≤ 4294967296) :
    Calls Try.prog 21 #[.pointer (some ⟨gm, 0, none⟩), .int .i64 i] w (VisP gm w0.heap.size (.slice A ps.length cP) (lkPc (lk ps n) ps[i] s) w) := by
  obtain ⟨vl, vf, hm⟩ := hm
  obtain ⟨b, o, Kk, ck, rfl, c0, c1, c2, hrk⟩ := hx.at_ hil
  have ho := hp.2 i hil
  have hkids := ho.kids
  have HLK : ∀ k ∈ ps[i].k, ∀ s, StOk s → s.labs.length < 24 → LkOk s (lk ps n k.toNat s) := fun k hk s h1 h2 => by
    have := hkids k hk
    exact lk_ok hp n k.toNat s (by omega) (by omega) h1 h2
  have hkn : ps[i].k.length ≤ 4294967296 := hkl _ (List.getElem_mem hil)
  obtain ⟨x, hxx⟩ : ∃ x, ps[i] = x := ⟨_, rfl⟩
  rw [hxx] at ho hkids c0 c1 c2 hrk HLK hop hkn h24 ⊢
  clear hxx hx hkl
  obtain ⟨op, l, ks⟩ := x
  simp only at ho hkids c0 c1 c2 hrk HLK hop hkn h24 ⊢
  subst hop
  obtain ⟨F, hF⟩ : ∃ F : Nat → Lk × LkS, F = fun t => (ks.take t).foldl (lkStep (lk ps n) 6) (⟨[], [], false⟩, s) := ⟨_, rfl⟩
  have hF0 : F 0 = (⟨[], [], false⟩, s) := by rw [hF]; rfl
  have HFOK : Hid (∀ t, LkOk s (F t)) := Lib.hid (fun t => by rw [hF]; exact LkOk.fold _ _ (.start hs _) (fun k hk => HLK k (List.mem_of_mem_take hk)))
  have HFN : Hid (∀ t, t < ks.length → F (t + 1) = lkStep (lk ps n) 6 (F t) (ks.getD t 0)) := Lib.hid (fun t ht => by rw [hF]; exact lk_take ht)
  have HFE : Hid (F ks.length = lkPc (lk ps n) ⟨6, l, ks⟩ s) := Lib.hid (by
    rw [hF]
    simp only
    rw [List.take_of_length_le (Nat.le_refl _)]
    rfl)
  have HF24 : Hid (∀ t, (F t).2.labs.length < 24) := Lib.hid (fun t => by
    have h1 : (F t).2.labs.length ≤ (lkPc (lk ps n) ⟨6, l, ks⟩ s).2.labs.length := by
      rw [hF]
      exact lk_grow t (.start hs _) HLK
    omega)
  have HC : Hid (LkC.Ok ⟨w, gm, w0.heap.size, .slice (some ⟨b, o, none⟩) ps.length cP, ⟨6, l, ks⟩, Kk, ck⟩) := Lib.hid ⟨hqg, hgm⟩
  obtain ⟨RES, hRES⟩ : ∃ r, lkPc (lk ps n) ⟨6, l, ks⟩ s = r := ⟨_, rfl⟩
  rw [hRES] at HFE ⊢
  have HKID : Hid (∀ t (z : Int), t < ks.length → ks.getD t 0 = z → ∃ k : Nat, z = k ∧ k < n ∧ k < ps.length) := Lib.hid (fun t z ht hz => by
    have e : ks.getD t 0 = ks[t] := by simp [List.getD, ht]
    have h1 := hkids ks[t] (List.getElem_mem ht)
    exact ⟨z.toNat, by omega, by omega, by omega⟩)
  have HRK := Lib.hid hrk
  have HB := Lib.hid hb
  have HIH := Lib.hid IH
  have HLKO := Lib.hid HLK
  have i1 : (0 : Int) ≤ (i : Int) := by omega
  have i2 : (i : Int) < (ps.length : Int) := by omega
  replace c0 := held_step hb c0
  replace c1 := held_step hb c1
  replace c2 := held_step hb c2
  have hbl : b < w.heap.size := World.block_lt_of_cell? w _ c0
  have m0 := blk_cell (o := 0) hm.box rfl
  have hone : ks.length = 1 := (ho.one (by simp)).1
  have hlt : 0 < ks.length := by omega
  obtain ⟨z, hz⟩ : ∃ z, ks.getD 0 0 = z := ⟨_, rfl⟩
  obtain ⟨k, rfl, hkn, hkl⟩ := HKID.out 0 z hlt hz
  have ka := below_alloc w (.cells #[.int .u32 0, .int .u32 0, .bool false] 60)
  have kb := below_alloc (w.alloc (.cells #[.int .u32 0, .int .u32 0, .bool false] 60)) (.cells #[.int .i64 6, .int .u8 l, .slice Kk ks.length ck] 78)
  have p1 := heap_alloc_new (w.alloc (.cells #[.int .u32 0, .int .u32 0, .bool false] 60)) (.cells #[.int .i64 6, .int .u8 l, .slice Kk ks.length ck] 78)
  rw [show (w.alloc (.cells #[.int .u32 0, .int .u32 0, .bool false] 60)).heap.size = w.heap.size + 1 by simp] at p1
  have D0 : VsR ⟨w, gm, w0.heap.size, .slice (some ⟨b, o, none⟩) ps.length cP, ⟨6, l, ks⟩, Kk, ck⟩ s.labs (fwOf s.labs.length s.prs) ((w.alloc (.cells #[.int .u32 0, .int .u32 0, .bool false] 60)).alloc (.cells #[.int .i64 6, .int .u8 l, .slice Kk ks.length ck] 78)) := ⟨blk_below kb (heap_alloc_new _ _), p1, ⟨vl, vf, hm.kept (below_step ka kb)⟩, (Kq.refl _ _ _ _).below (below_step ka kb)⟩
  have HD0 := Lib.hid D0
  have h24' := HF24.out 1
  have hf1 := HFN.out 0 hlt
  rw [hz, hF0, lkStep_go _ _ _ (by show ¬ 24 ≤ s.labs.length; omega)] at hf1
  rw [hf1] at h24'
  obtain ⟨vl, vf, hm2⟩ := D0.mm
  obtain ⟨W2, hW2⟩ : ∃ W, (w.alloc (.cells #[.int .u32 0, .int .u32 0, .bool false] 60)).alloc (.cells #[.int .i64 6, .int .u8 l, .slice Kk ks.length ck] 78) = W := ⟨_, rfl⟩
  rw [hW2] at HD0 hm2
  have CALL := Lib.hid (HIH.out k s W2 hkn hkl hs hc h24' (HD0.out.kq.low HB.out (Nat.le_refl _)) (Nat.lt_of_lt_of_le HC.out.h2 HD0.out.kq.size) ⟨vl, vf, hm2⟩)
  have YOK : Hid (LkOk s (lk ps n k s)) := Lib.hid (by
    have hmem : (k : Int) ∈ ks := by rw [← hz]; simp [List.getD, hlt]
    have := HLKO.out k hmem s hs hc
    simpa using this)
  have HRE : Hid (RES = (lkNext 6 ⟨[], [], false⟩ (lk ps n k s).1, ⟨(lk ps n k s).2.labs, (lk ps n k s).2.prs ++ lkPrs 6 ⟨[], [], false⟩ (lk ps n k s).1⟩)) := Lib.hid (by
    rw [← HFE.out, hone]
    exact hf1)
  obtain ⟨y, hy⟩ : ∃ y, lk ps n k s = y := ⟨_, rfl⟩
  rw [hy] at CALL YOK HRE
  obtain ⟨ad, rfl, cK⟩ := (HRK.out.below (HD0.out.kq.low HB.out (Nat.le_refl _))).at_ hlt
  rw [hz] at cK
  have cK0 : W2.cell? ad = some (.int .i64 k) := by simpa [Addr.add] using cK
  have HS3 := Lib.hid (YOK.out.fi.small YOK.out.st.len)
  have HS4 := Lib.hid (YOK.out.la.small YOK.out.st.len)
  have hk0 : (0 : Int) < (ks.length : Int) := by omega
  have p0 : W2.cell? ⟨w.heap.size + 1, 0, none⟩ = some (.int .i64 6) := blk_cell (o := 0) HD0.out.pc rfl
  have p2 : W2.cell? ⟨w.heap.size + 1, 2, none⟩ = some (.slice (some ad) ks.length ck) := blk_cell (o := 2) HD0.out.pc rfl
  clear hone hm2 hz hy ka kb p1 D0 h24' hf1 hF hF0 hRES hm hrk hb hkids HLK IH ho hp h24 HFN HFE HF24 HFOK HKID cK
  go_enter Try.func21, Try.ntmps21
  go_wp2_with fail
  clear c0 c1 c2 m0 hbl cK0 p0 p2 hW2
  refine CALL.out.mono ?_
  rintro e w5 ⟨rfl, hm5, kq5⟩
  have hB5 := HD0.out.visit HC.out kq5 hm5
  have hg5 : w.heap.size + 1 < w5.heap.size := blk_lt hB5.pc
  have ka := below_alloc w5 (.cells #[.int .u32 (bitsOf y.1.fi : Nat), .int .u32 (bitsOf y.1.la : Nat), .bool y.1.nul] 60)
  have hB6 : VsR ⟨w, gm, w0.heap.size, .slice (some ⟨b, o, none⟩) ps.length cP, ⟨6, l, ks⟩, (some ad), ck⟩ y.2.labs (fwOf y.2.labs.length y.2.prs) _ := hB5.below ka
  have hY6 : VsY w5.heap.size y.1 (w5.alloc (.cells #[.int .u32 (bitsOf y.1.fi : Nat), .int .u32 (bitsOf y.1.la : Nat), .bool y.1.nul] 60)) := heap_alloc_new w5 (.cells #[.int .u32 (bitsOf y.1.fi : Nat), .int .u32 (bitsOf y.1.la : Nat), .bool y.1.nul] 60)
  obtain ⟨yn, hyn⟩ : ∃ z, y.1.nul = z := ⟨_, rfl⟩
  have HYN := Lib.hid hyn
  obtain ⟨g6, hg6⟩ : ∃ g, w5.heap.size = g := ⟨_, rfl⟩
  rw [hyn] at hB6
  simp only [hyn] at hY6
  obtain ⟨W6, hW6⟩ : ∃ W, w5.alloc (.cells #[.int .u32 (bitsOf y.1.fi : Nat), .int .u32 (bitsOf y.1.la : Nat), .bool yn] 60) = W := ⟨_, rfl⟩
  rw [hW6] at hY6 hB6
  rw [hg6] at hY6 hg5
  have HG5 := Lib.hid hg5
  have HB6 := Lib.hid hB6
  have HY6 := Lib.hid hY6
  clear CALL hm5 kq5 hB5 ka hB6 hY6 hg5 HD0
  have hyb := HY6.out
  unfold VsY at hyb
  rw [HYN.out] at hyb
  have p0 : W6.cell? ⟨w.heap.size + 1, 0, none⟩ = some (.int .i64 6) := blk_cell (o := 0) HB6.out.pc rfl
  have y0 := blk_cell (o := 0) hyb rfl
  have y1 := blk_cell (o := 1) hyb rfl
  have y2 := blk_cell (o := 2) hyb rfl
  have f2 : W6.frozen? ⟨g6, 2, none⟩ = false := frozen_of_row W6 _ 2 _ _ hyb
  clear hyb
  go_upto_region 35 with fail
  clear hW6 hg6 hyn
  have HNX : Hid (RES = (⟨y.1.fi, y.1.la, (yn || true)⟩, ⟨y.2.labs, y.2.prs⟩)) := Lib.hid (by
    rw [HRE.out]
    unfold lkNext lkPrs
    rw [if_neg (by decide), if_neg (by decide), if_neg (by decide), if_neg (by decide), if_pos rfl, HYN.out, List.append_nil]
    rfl)
  have HR9 := Lib.hid (HB6.out.set (j := 2) HC.out (show w.heap.size + 1 < g6 from HG5.out) HY6.out (.bool (yn || true)))
  have hy9 : (W6.setCell ⟨g6, 2, none⟩ (.bool (yn || true))).heap[g6]? = some (.cells #[.int .u32 (bitsOf y.1.fi : Nat), .int .u32 (bitsOf y.1.la : Nat), .bool (yn || true)] 60 (0, 0)) := by
    have h := HY6.out
    unfold VsY at h
    simp [World.setCell, Array.getElem?_modify, h]
  have HY9 := Lib.hid hy9
  clear hy9
  cases yn
  all_goals
    simp only [Bool.or_true] at HR9 HY9 HNX
    go_upto_region 36 with fail
    clear y0 y1 y2 f2 p0
  · obtain ⟨W9, hW9⟩ : ∃ W, W6.setCell ⟨g6, 2, none⟩ (.bool true) = W := ⟨_, rfl⟩
    rw [hW9]
    have HR9 := Lib.hid (show _ from hW9 ▸ HR9.out)
    have HY9 := Lib.hid (show _ from hW9 ▸ HY9.out)
    have y0 := blk_cell (o := 0) HY9.out rfl
    have y1 := blk_cell (o := 1) HY9.out rfl
    have y2 := blk_cell (o := 2) HY9.out rfl
    have hrs := HR9.out.res
    have r0 : W9.cell? ⟨w.heap.size, 0, none⟩ = _ := blk_cell (o := 0) hrs rfl
    have r1 : W9.cell? ⟨w.heap.size, 1, none⟩ = _ := blk_cell (o := 1) hrs rfl
    have r2 : W9.cell? ⟨w.heap.size, 2, none⟩ = _ := blk_cell (o := 2) hrs rfl
    have f0 : W9.frozen? ⟨w.heap.size, 0, none⟩ = false := frozen_of_row W9 _ 0 _ _ hrs
    have f1 : W9.frozen? ⟨w.heap.size, 1, none⟩ = false := frozen_of_row W9 _ 1 _ _ hrs
    have f2 : W9.frozen? ⟨w.heap.size, 2, none⟩ = false := frozen_of_row W9 _ 2 _ _ hrs
    clear hrs
    go_wp2
    refine bodyPost_ret (v := .agg #[.int .u32 (bitsOf y.1.fi : Nat), .int .u32 (bitsOf y.1.la : Nat), .bool true]) (by simp [results, Try.results21, go_sem, r0, r1, r2]) rfl ?_
    show VisP gm w0.heap.size _ RES w _ _
    rw [HNX.out]
    exact ⟨rfl, HR9.out.fin HC.out _ _ _⟩
  · obtain ⟨W9, hW9⟩ : ∃ W, W6.setCell ⟨g6, 2, none⟩ (.bool true) = W := ⟨_, rfl⟩
    rw [hW9]
    have HR9 := Lib.hid (show _ from hW9 ▸ HR9.out)
    have HY9 := Lib.hid (show _ from hW9 ▸ HY9.out)
    have y0 := blk_cell (o := 0) HY9.out rfl
    have y1 := blk_cell (o := 1) HY9.out rfl
    have y2 := blk_cell (o := 2) HY9.out rfl
    have hrs := HR9.out.res
    have r0 : W9.cell? ⟨w.heap.size, 0, none⟩ = _ := blk_cell (o := 0) hrs rfl
    have r1 : W9.cell? ⟨w.heap.size, 1, none⟩ = _ := blk_cell (o := 1) hrs rfl
    have r2 : W9.cell? ⟨w.heap.size, 2, none⟩ = _ := blk_cell (o := 2) hrs rfl
    have f0 : W9.frozen? ⟨w.heap.size, 0, none⟩ = false := frozen_of_row W9 _ 0 _ _ hrs
    have f1 : W9.frozen? ⟨w.heap.size, 1, none⟩ = false := frozen_of_row W9 _ 1 _ _ hrs
    have f2 : W9.frozen? ⟨w.heap.size, 2, none⟩ = false := frozen_of_row W9 _ 2 _ _ hrs
    clear hrs
    go_wp2
    refine bodyPost_ret (v := .agg #[.int .u32 (bitsOf y.1.fi : Nat), .int .u32 (bitsOf y.1.la : Nat), .bool true]) (by simp [results, Try.results21, go_sem, r0, r1, r2]) rfl ?_
    show VisP gm w0.heap.size _ RES w _ _
    rw [HNX.out]
    exact ⟨rfl, HR9.out.fin HC.out _ _ _⟩
end Go.Proofs.Ytjlekcoikceidaa
namespace Go.Proofs.Ytjlekcoikceidaa
open Go.RowKit

theorem Rd.one2 (w : World) (a : Value) (e : TypeId) : Rd (w.alloc (.cells #[a] e)) 1 (some ⟨w.heap.size, 0, none⟩) 1 [a] := by
  refine ⟨rfl, fun _ => ⟨_, rfl, fun j u hu => ?_⟩⟩
  have hadd : (⟨w.heap.size, 0, none⟩ : Addr).add j = ⟨w.heap.size, j, none⟩ := by unfold Addr.add; split <;> simp_all
  rw [hadd, cell_of_row _ w.heap.size j #[a] e (0, 0) (heap_alloc_new w _)]
  simpa using hu
section
variable {C : LkC} {labs : List Int} {fw : List Nat} {wr w8 : World}
/-- A label has been put behind the others. -/
theorem VsR.label {vl vf v8 : Value} {l : Int} (h : VsR C labs fw wr) (hC : C.Ok) (hm : PosI C.gm C.q C.P vl vf labs fw wr) (hg : wr.grownBy w8 vl.ownBlock) (ho : w8.ownsRow C.q 5 1 v8 (labs ++ [l]).length ((labs ++ [l]).map (Value.int .u8))) : VsR C (labs ++ [l]) fw (w8.setCell ⟨C.gm, 1, none⟩ v8) := by
  have h2 := hC.h2
  have hb8 := (hg.block _ (blk_lt hm.box) (fun e => row_ne hm.lo hm.box (by decide) e.symm)).trans hm.box
  have ha8 := hm.fo.kept hg (own_ne hm.fo hm.lo (by decide))
  refine ⟨blk_set_ne ((hg.block _ (blk_lt h.res) (fun e => row_ne hm.lo h.res (by decide) e.symm)).trans h.res) (by omega), blk_set_ne ((hg.block _ (blk_lt h.pc) (fun e => row_ne hm.lo h.pc (by decide) e.symm)).trans h.pc) (by omega), ⟨v8, vf, ?_, own_setCell_other ho (row_ne ho hb8 (by decide)) _, own_setCell_other ha8 (row_ne ha8 hb8 (by decide)) _⟩, (h.kq.row (by simp) hm.lo hg).only hC.h1 (only_setCell (World.grownBy.refl _ _) _ _)⟩
  simp [World.setCell, Array.getElem?_modify, hb8]
/-- A set has been put behind the others. -/
theorem VsR.more {vl vf v8 : Value} {x : Nat} (h : VsR C labs fw wr) (hC : C.Ok) (hm : PosI C.gm C.q C.P vl vf labs fw wr) (hg : wr.grownBy w8 vf.ownBlock) (ho : w8.ownsRow C.q 58 1 v8 (fw ++ [x]).length (u32s (fw ++ [x]))) : VsR C labs (fw ++ [x]) (w8.setCell ⟨C.gm, 2, none⟩ v8) := by
  have h2 := hC.h2
  have hb8 := (hg.block _ (blk_lt hm.box) (fun e => row_ne hm.fo hm.box (by decide) e.symm)).trans hm.box
  have ha8 := hm.lo.kept hg (own_ne hm.lo hm.fo (by decide))
  refine ⟨blk_set_ne ((hg.block _ (blk_lt h.res) (fun e => row_ne hm.fo h.res (by decide) e.symm)).trans h.res) (by omega), blk_set_ne ((hg.block _ (blk_lt h.pc) (fun e => row_ne hm.fo h.pc (by decide) e.symm)).trans h.pc) (by omega), ⟨vl, v8, ?_, own_setCell_other ha8 (row_ne ha8 hb8 (by decide)) _, own_setCell_other ho (row_ne ho hb8 (by decide)) _⟩, (h.kq.row (by simp) hm.fo hg).only hC.h1 (only_setCell (World.grownBy.refl _ _) _ _)⟩
  simp [World.setCell, Array.getElem?_modify, hb8]
end
theorem bit_of (n : Nat) (hn : n < 24) : (2 : Int) ^ n % 4294967296 = ((bitsOf [n + 1] : Nat) : Int) := by
  rw [bitsOf_one]
  have h3 : (2 : Int) ^ n = ((2 ^ n : Nat) : Int) := (Int.natCast_pow 2 n).symm
  have h1 : 2 ^ n < 4294967296 := by rw [show 4294967296 = 2 ^ 32 by rfl]; exact Nat.pow_lt_pow_right (by omega) (by omega)
  rw [h3]
  obtain ⟨p, hp⟩ : ∃ p : Nat, 2 ^ n = p := ⟨_, rfl⟩
  rw [hp] at h1 ⊢
  omega

set_option maxRecDepth 100000 in
set_option maxHeartbeats 12800000 in
theorem vis_step {ps : List Pc} (hp : PaOk ps) {w0 : World} {A : Option Addr} {cP : Nat} (hx : RdP w0 A ps) {gm : Nat} (hqg : w0.heap.size ≤ gm) {n : Nat} (IH : VisC ps gm (.slice A ps.length cP) w0 n)
    (i : Nat) (s : LkS) (w : World) (hin : i < n + 1) (hil : i < ps.length) (hs : StOk s) (hc : s.labs.length < 24) (h24 : (lkPc (lk ps n) ps[i] s).2.labs.length < 24) (hb : Below w0.heap.size w0 w) (hgm : gm < w.heap.size) (hm : ∃ vl vf, PosI gm w0.heap.size (.slice A ps.length cP) vl vf s.labs (fwOf s.labs.length s.prs) w) (hop : ps[i].op = 1) (hkl : ∀ p ∈ ps, p.k.length ≤ 4294967296) :
    Calls Try.prog 21 #[.pointer (some ⟨gm, 0, none⟩), .int .i64 i] w (VisP gm w0.heap.size (.slice A ps.length cP) (lkPc (lk ps n) ps[i] s) w) := by
  obtain ⟨vl, vf, hm⟩ := hm
  obtain ⟨b, o, Kk, ck, rfl, c0, c1, c2, hrk⟩ := hx.at_ hil
  have ho := hp.2 i hil
  have hkids := ho.kids
  have HLK : ∀ k ∈ ps[i].k, ∀ s, StOk s → s.labs.length < 24 → LkOk s (lk ps n k.toNat s) := fun k hk s h1 h2 => by
    have := hkids k hk
    exact lk_ok hp n k.toNat s (by omega) (by omega) h1 h2
  have hkn : ps[i].k.length ≤ 4294967296 := hkl _ (List.getElem_mem hil)
  obtain ⟨x, hxx⟩ : ∃ x, ps[i] = x := ⟨_, rfl⟩
  rw [hxx] at ho hkids c0 c1 c2 hrk HLK hop hkn h24 ⊢
  clear hxx hx hkl
  obtain ⟨op, l, ks⟩ := x
  simp only at ho hkids c0 c1 c2 hrk HLK hop hkn h24 ⊢
  subst hop
  obtain ⟨j0, hj, hy0, hy1, hy2⟩ := info_parts Try.infoU8
  obtain ⟨k0, hk, hu0, hu1, hu2⟩ := info_parts Try.infoU32
  clear h24
  have HC : Hid (LkC.Ok ⟨w, gm, w0.heap.size, .slice (some ⟨b, o, none⟩) ps.length cP, ⟨1, l, ks⟩, Kk, ck⟩) := Lib.hid ⟨hqg, hgm⟩
  have i1 : (0 : Int) ≤ (i : Int) := by omega
  have i2 : (i : Int) < (ps.length : Int) := by omega
  replace c0 := held_step hb c0
  replace c1 := held_step hb c1
  replace c2 := held_step hb c2
  have hbl : b < w.heap.size := World.block_lt_of_cell? w _ c0
  have m0 := blk_cell (o := 0) hm.box rfl
  have ka := below_alloc w (.cells #[.int .u32 0, .int .u32 0, .bool false] 60)
  have kb := below_alloc (w.alloc (.cells #[.int .u32 0, .int .u32 0, .bool false] 60)) (.cells #[.int .i64 1, .int .u8 l, .slice Kk ks.length ck] 78)
  have p1 := heap_alloc_new (w.alloc (.cells #[.int .u32 0, .int .u32 0, .bool false] 60)) (.cells #[.int .i64 1, .int .u8 l, .slice Kk ks.length ck] 78)
  rw [show (w.alloc (.cells #[.int .u32 0, .int .u32 0, .bool false] 60)).heap.size = w.heap.size + 1 by simp] at p1
  have HD0 : Hid (VsR ⟨w, gm, w0.heap.size, .slice (some ⟨b, o, none⟩) ps.length cP, ⟨1, l, ks⟩, Kk, ck⟩ s.labs (fwOf s.labs.length s.prs) ((w.alloc (.cells #[.int .u32 0, .int .u32 0, .bool false] 60)).alloc (.cells #[.int .i64 1, .int .u8 l, .slice Kk ks.length ck] 78))) := Lib.hid ⟨blk_below kb (heap_alloc_new _ _), p1, ⟨vl, vf, hm.kept (below_step ka kb)⟩, (Kq.refl _ _ _ _).below (below_step ka kb)⟩
  have HRES : Hid (lkPc (lk ps n) ⟨1, l, ks⟩ s = (⟨[s.labs.length + 1], [s.labs.length + 1], false⟩, ⟨s.labs ++ [l], s.prs⟩)) := Lib.hid (if_pos rfl)
  rw [HRES.out]
  have HFW := Lib.hid (fwOf_more hs)
  have HLN : Hid ((s.labs ++ [l]).length = s.labs.length + 1) := Lib.hid (by simp)
  clear ka kb p1 hm HLK IH hkids ho hrk hb hp hs
  go_enter Try.func21, Try.ntmps21
  go_upto_region 4 with fail
  clear c0 c1 c2 m0 hbl
  obtain ⟨W3, hW3⟩ : ∃ W, (w.alloc (.cells #[.int .u32 0, .int .u32 0, .bool false] 60)).alloc (.cells #[.int .i64 1, .int .u8 l, .slice Kk ks.length ck] 78) = W := ⟨_, rfl⟩
  rw [hW3]
  have HD0 := Lib.hid (show _ from hW3 ▸ HD0.out)
  obtain ⟨vl3, vf3, hm3⟩ := HD0.out.mm
  have ka : Below W3.heap.size W3 (W3.alloc (.cells #[.int .u8 l] 5)).drew := (below_alloc W3 _).drew
  have HMA := Lib.hid (hm3.kept ka)
  have HRA := Lib.hid (HD0.out.below ka)
  have p1 : W3.cell? ⟨w.heap.size + 1, 1, none⟩ = some (.int .u8 l) := blk_cell (o := 1) HD0.out.pc rfl
  have m1 : W3.cell? ⟨gm, 1, none⟩ = some vl3 := blk_cell (o := 1) hm3.box rfl
  have m1a : (W3.alloc (.cells #[.int .u8 l] 5)).drew.cell? ⟨gm, 1, none⟩ = some vl3 := blk_cell (o := 1) (HMA.out).box rfl
  have hba : w0.heap.size ≤ (W3.alloc (.cells #[.int .u8 l] 5)).drew.heap.size := by have h1 : w.heap.size + 1 < W3.heap.size := blk_lt HD0.out.pc; have h2 := ka.size; omega
  clear hm3 hW3 ka
  refine wp_region_held_drew (S := fun w' => w'.cell? ⟨w.heap.size + 1, 1, none⟩ = some (.int .u8 l)) (by kernel_rfl) p1 (fun hHeld => ?_)
  refine wpAnyH_take (i := 0) (oi := _) (v := ?_) rfl (by kernel_rfl) (by kernel_rfl) (by kernel_rfl) (fun _ _ _ h => h) (Or.inl ⟨by rfl, ?_⟩) (by assumption) ?_
  rotate_left 1
  · intro w hSw; (try dsimp only at hSw); go_simp; try with_reducible rfl
  simp only [Act.put, List.setIfInBounds_toArray]
  refine wpAnyH_take (i := 1) (oi := _) (v := ?_) rfl (by kernel_rfl) (by kernel_rfl) (by kernel_rfl) (fun _ _ _ h => h) (Or.inl ⟨by rfl, ?_⟩) (by assumption) ?_
  rotate_left 1
  · intro w hSw; (try dsimp only at hSw); go_simp; try with_reducible rfl
  simp only [Act.put]
  refine wpAnyH_take (i := 2) (oi := _) (v := ?_) rfl (by kernel_rfl) (by kernel_rfl) (by kernel_rfl) (fun _ _ _ h => h) (Or.inl ⟨by rfl, ?_⟩) (by assumption) ?_
  rotate_left 1
  · intro w hSw; (try dsimp only at hSw); go_simp; try with_reducible rfl
  simp only [Act.put]
  refine wpAnyH_take (i := 3) (oi := _) (v := ?_) rfl (by kernel_rfl) (by kernel_rfl) (by kernel_rfl) (fun _ _ _ h => h) (Or.inl ⟨by rfl, ?_⟩) (by assumption) ?_
  rotate_left 1
  · intro w hSw; (try dsimp only at hSw); go_simp; try with_reducible rfl
  simp only [Act.put]
  refine wpAnyH_take (i := 5) (oi := _) (v := ?_) rfl (by kernel_rfl) (by kernel_rfl) (by kernel_rfl) (fun _ _ _ h => h) (Or.inl ⟨by rfl, ?_⟩) (by assumption) ?_
  rotate_left 1
  · intro w hSw; (try dsimp only at hSw); go_simp; try with_reducible rfl
  simp only [Act.put]
  refine wpAnyH_take (i := 6) (oi := _) (v := ?_) rfl (by kernel_rfl) (by kernel_rfl) (by kernel_rfl) (fun _ _ _ h => h) (Or.inl ⟨by rfl, ?_⟩) (by assumption) ?_
  rotate_left 1
  · intro w hSw; (try dsimp only at hSw); go_simp; try with_reducible rfl
  simp only [Act.put]
  refine wpAnyH_ready (rs := [4, 7]) (by kernel_rfl) (by simp) ?_
  refine AllReadyH.cons (o := _) rfl (fun K hK => ?_) (AllReadyH.cons (o := _) rfl (fun K hK => ?_) AllReadyH.nil)
  · go_simp
    refine hK.out _ _ hHeld (fun hHeld => ?_)
    clear hK K
    try simp only [Act.put]
    refine wpAnyH_ready (rs := [7]) (by kernel_rfl) (by simp) ?_
    refine AllReadyH.cons (o := _) rfl (fun K hK => ?_) AllReadyH.nil
    go_simp
    refine hK.out _ _ (held_step (below_alloc _ _) hHeld) (fun hHeld => ?_)
    clear hK K
    try simp only [Act.put]
    refine wpAnyH_ready (rs := [8]) (by kernel_rfl) (by simp) ?_
    refine AllReadyH.cons (o := _) rfl (fun K hK => ?_) AllReadyH.nil
    refine step_append_any _ rfl (.tmp 32) (.tmp 35) 44 rfl w0.heap.size 5 j0 _ 1 1 Try.underlying44 hj hy0 hy1 hy2 rfl (by decide) vl3 s.labs.length _ rfl HMA.out.lo (some ⟨W3.heap.size, 0, none⟩) 1 1 [.int .u8 l] rfl (Rd.one2 _ _ _) (by intro u hu; simp at hu; subst hu; rfl) (by unfold maxLen; omega) (by omega) hba ?_
    intro v8 w8 hown8 hg8 hv8
    obtain ⟨A8, c8, rfl, _, _⟩ := own_slice hown8
    have HR9 := Lib.hid (HRA.out.label (l := l) HC.out HMA.out hg8 (by rw [List.length_append, List.map_append]; exact hown8))
    have hb8 := (hg8.block _ (blk_lt HMA.out.box) (fun e => row_ne HMA.out.lo HMA.out.box (by decide) e.symm)).trans HMA.out.box
    have p18 : w8.cell? ⟨w.heap.size + 1, 1, none⟩ = some (.int .u8 l) := blk_cell (o := 1) ((hg8.block _ (blk_lt HRA.out.pc) (fun e => row_ne HMA.out.lo HRA.out.pc (by decide) e.symm)).trans HRA.out.pc) rfl
    have g1 : w8.cell? ⟨gm, 1, none⟩ = some vl3 := blk_cell (o := 1) hb8 rfl
    have gf : w8.frozen? ⟨gm, 1, none⟩ = false := frozen_of_row w8 _ 1 _ _ hb8
    clear hown8 hg8 hv8 hb8
    refine hK.out _ _ p18 (fun hHeld => ?_)
    clear hK K
    try simp only [Act.put]
    refine wpAnyH_take (i := 9) (oi := _) (v := ?_) rfl (by kernel_rfl) (by kernel_rfl) (by kernel_rfl) (fun _ _ _ h => h) (Or.inl ⟨by rfl, ?_⟩) (by assumption) ?_
    rotate_left 1
    · intro w hSw; (try dsimp only at hSw); go_simp; try with_reducible rfl
    simp only [Act.put, List.setIfInBounds_toArray]
    refine wpAnyH_take (i := 10) (oi := _) (v := ?_) rfl (by kernel_rfl) (by kernel_rfl) (by kernel_rfl) (fun _ _ _ h => h) (Or.inl ⟨by rfl, ?_⟩) (by assumption) ?_
    rotate_left 1
    · intro w hSw; (try dsimp only at hSw); go_simp; try with_reducible rfl
    simp only [Act.put]
    refine wpAnyH_ready (rs := [11]) (by kernel_rfl) (by simp) ?_
    refine AllReadyH.cons (o := _) rfl (fun K hK => ?_) AllReadyH.nil
    go_simp
    refine hK.out _ _ ((World.cell?_setCell_far _ _ _ _ (show gm ≠ w.heap.size + 1 by omega)).trans hHeld) (fun hHeld => ?_)
    clear hK K
    try simp only [Act.put]
    refine wpAnyH_done (by kernel_rfl) ?_ _
    clear hHeld p1 m1 m1a p18 g1 gf hba
    go_upto_region 5 with fail
    obtain ⟨W9, hW9⟩ : ∃ W, w8.setCell ⟨gm, 1, none⟩ (.slice A8 (s.labs.length + 1) c8) = W := ⟨_, rfl⟩
    rw [hW9]
    have HR9 := Lib.hid (show _ from hW9 ▸ HR9.out)
    obtain ⟨vl9, vf9, hm9⟩ := HR9.out.mm
    have kb : Below W9.heap.size W9 (W9.alloc (.cells #[.int .u32 0] 58)) := below_alloc W9 _
    have HMB := Lib.hid (hm9.kept kb)
    have HRB := Lib.hid (HR9.out.below kb)
    have n2 : W9.cell? ⟨gm, 2, none⟩ = some vf9 := blk_cell (o := 2) hm9.box rfl
    have hbb : w0.heap.size ≤ (W9.alloc (.cells #[.int .u32 0] 58)).heap.size := by have h1 : w.heap.size + 1 < W9.heap.size := blk_lt HR9.out.pc; have h2 := kb.size; omega
    have hfl := fwOf_len s.labs.length s.prs
    have HFL := Lib.hid hfl
    clear hm9 kb hfl
    go_upto_region 6 with (first
      | (at_builtin
         refine wpList_append_any _ rfl (.tmp 43) (.tmp 44) 55 rfl w0.heap.size 58 k0 _ 1 4 Try.underlying55 hk hu0 hu1 hu2 rfl (by decide) vf9 (fwOf s.labs.length s.prs).length _ rfl HMB.out.fo (some ⟨W9.heap.size, 0, none⟩) 1 1 [.int .u32 0] rfl (Rd.one2 _ _ _) (by intro u hu; simp at hu; subst hu; rfl) (by rw [HFL.out]; unfold maxLen; omega) (by rw [HFL.out]; omega) hbb ?_
         intro v10 w10 hown10 hg10 hv10
         obtain ⟨A10, c10, rfl, _, _⟩ := own_slice hown10
         have HR11 := Lib.hid (HRB.out.more (x := 0) HC.out HMB.out hg10 (by rw [List.length_append]; simpa [u32s] using hown10))
         have hb10 := (hg10.block _ (blk_lt HMB.out.box) (fun e => row_ne HMB.out.fo HMB.out.box (by decide) e.symm)).trans HMB.out.box
         have g2 : w10.cell? ⟨gm, 2, none⟩ = some vf9 := blk_cell (o := 2) hb10 rfl
         have gf2 : w10.frozen? ⟨gm, 2, none⟩ = false := frozen_of_row w10 _ 2 _ _ hb10
         clear hown10 hg10 hv10 hb10))
    clear n2 hbb g2 gf2
    obtain ⟨W11, hW11⟩ : ∃ W, w10.setCell ⟨gm, 2, none⟩ (.slice A10 ((fwOf s.labs.length s.prs).length + 1) c10) = W := ⟨_, rfl⟩
    rw [hW11]
    have HR11 := Lib.hid (show _ from hW11 ▸ HR11.out)
    rw [← HFW.out] at HR11
    obtain ⟨vl11, vf11, hm11⟩ := HR11.out.mm
    obtain ⟨L11, cL11, rfl, _, _⟩ := own_slice hm11.lo
    have hb11 := hm11.box
    rw [HLN.out] at hb11
    have hrs := HR11.out.res
    have n1 : W11.cell? ⟨gm, 1, none⟩ = _ := blk_cell (o := 1) hb11 rfl
    have r0 : W11.cell? ⟨w.heap.size, 0, none⟩ = _ := blk_cell (o := 0) hrs rfl
    have r1 : W11.cell? ⟨w.heap.size, 1, none⟩ = _ := blk_cell (o := 1) hrs rfl
    have r2 : W11.cell? ⟨w.heap.size, 2, none⟩ = _ := blk_cell (o := 2) hrs rfl
    have f0 : W11.frozen? ⟨w.heap.size, 0, none⟩ = false := frozen_of_row W11 _ 0 _ _ hrs
    have f1 : W11.frozen? ⟨w.heap.size, 1, none⟩ = false := frozen_of_row W11 _ 1 _ _ hrs
    have f2 : W11.frozen? ⟨w.heap.size, 2, none⟩ = false := frozen_of_row W11 _ 2 _ _ hrs
    have hn24 : s.labs.length < 24 := hc
    have hbit := bit_of s.labs.length hc
    have hwr : IntKind.i64.wrap ((s.labs.length : Int) + 1 - 1) = (s.labs.length : Int) := (IntWalk.i64_in _ (by omega)).trans (by omega)
    clear hm11 hb11 hrs
    go_wp2
    refine bodyPost_ret (v := .agg #[.int .u32 (bitsOf [s.labs.length + 1] : Nat), .int .u32 (bitsOf [s.labs.length + 1] : Nat), .bool false]) (by simp [results, Try.results21, go_sem, r0, r1, r2]) rfl ?_
    have hfin := HR11.out.fin HC.out (.int .u32 (bitsOf [s.labs.length + 1] : Nat)) (.int .u32 (bitsOf [s.labs.length + 1] : Nat)) (.bool false)
    refine ⟨rfl, ?_, hfin.2⟩
    simp only [HLN.out]
    exact hfin.1
  · go_simp
    refine hK.out _ _ (held_step (below_alloc _ _) hHeld) (fun hHeld => ?_)
    clear hK K
    try simp only [Act.put]
    refine wpAnyH_ready (rs := [4]) (by kernel_rfl) (by simp) ?_
    refine AllReadyH.cons (o := _) rfl (fun K hK => ?_) AllReadyH.nil
    go_simp
    refine hK.out _ _ hHeld (fun hHeld => ?_)
    clear hK K
    try simp only [Act.put]
    refine wpAnyH_ready (rs := [8]) (by kernel_rfl) (by simp) ?_
    refine AllReadyH.cons (o := _) rfl (fun K hK => ?_) AllReadyH.nil
    refine step_append_any _ rfl (.tmp 32) (.tmp 35) 44 rfl w0.heap.size 5 j0 _ 1 1 Try.underlying44 hj hy0 hy1 hy2 rfl (by decide) vl3 s.labs.length _ rfl HMA.out.lo (some ⟨W3.heap.size, 0, none⟩) 1 1 [.int .u8 l] rfl (Rd.one2 _ _ _) (by intro u hu; simp at hu; subst hu; rfl) (by unfold maxLen; omega) (by omega) hba ?_
    intro v8 w8 hown8 hg8 hv8
    obtain ⟨A8, c8, rfl, _, _⟩ := own_slice hown8
    have HR9 := Lib.hid (HRA.out.label (l := l) HC.out HMA.out hg8 (by rw [List.length_append, List.map_append]; exact hown8))
    have hb8 := (hg8.block _ (blk_lt HMA.out.box) (fun e => row_ne HMA.out.lo HMA.out.box (by decide) e.symm)).trans HMA.out.box
    have p18 : w8.cell? ⟨w.heap.size + 1, 1, none⟩ = some (.int .u8 l) := blk_cell (o := 1) ((hg8.block _ (blk_lt HRA.out.pc) (fun e => row_ne HMA.out.lo HRA.out.pc (by decide) e.symm)).trans HRA.out.pc) rfl
    have g1 : w8.cell? ⟨gm, 1, none⟩ = some vl3 := blk_cell (o := 1) hb8 rfl
    have gf : w8.frozen? ⟨gm, 1, none⟩ = false := frozen_of_row w8 _ 1 _ _ hb8
    clear hown8 hg8 hv8 hb8
    refine hK.out _ _ p18 (fun hHeld => ?_)
    clear hK K
    try simp only [Act.put]
    refine wpAnyH_take (i := 9) (oi := _) (v := ?_) rfl (by kernel_rfl) (by kernel_rfl) (by kernel_rfl) (fun _ _ _ h => h) (Or.inl ⟨by rfl, ?_⟩) (by assumption) ?_
    rotate_left 1
    · intro w hSw; (try dsimp only at hSw); go_simp; try with_reducible rfl
    simp only [Act.put, List.setIfInBounds_toArray]
    refine wpAnyH_take (i := 10) (oi := _) (v := ?_) rfl (by kernel_rfl) (by kernel_rfl) (by kernel_rfl) (fun _ _ _ h => h) (Or.inl ⟨by rfl, ?_⟩) (by assumption) ?_
    rotate_left 1
    · intro w hSw; (try dsimp only at hSw); go_simp; try with_reducible rfl
    simp only [Act.put]
    refine wpAnyH_ready (rs := [11]) (by kernel_rfl) (by simp) ?_
    refine AllReadyH.cons (o := _) rfl (fun K hK => ?_) AllReadyH.nil
    go_simp
    refine hK.out _ _ ((World.cell?_setCell_far _ _ _ _ (show gm ≠ w.heap.size + 1 by omega)).trans hHeld) (fun hHeld => ?_)
    clear hK K
    try simp only [Act.put]
    refine wpAnyH_done (by kernel_rfl) ?_ _
    clear hHeld p1 m1 m1a p18 g1 gf hba
    go_upto_region 5 with fail
    obtain ⟨W9, hW9⟩ : ∃ W, w8.setCell ⟨gm, 1, none⟩ (.slice A8 (s.labs.length + 1) c8) = W := ⟨_, rfl⟩
    rw [hW9]
    have HR9 := Lib.hid (show _ from hW9 ▸ HR9.out)
    obtain ⟨vl9, vf9, hm9⟩ := HR9.out.mm
    have kb : Below W9.heap.size W9 (W9.alloc (.cells #[.int .u32 0] 58)) := below_alloc W9 _
    have HMB := Lib.hid (hm9.kept kb)
    have HRB := Lib.hid (HR9.out.below kb)
    have n2 : W9.cell? ⟨gm, 2, none⟩ = some vf9 := blk_cell (o := 2) hm9.box rfl
    have hbb : w0.heap.size ≤ (W9.alloc (.cells #[.int .u32 0] 58)).heap.size := by have h1 : w.heap.size + 1 < W9.heap.size := blk_lt HR9.out.pc; have h2 := kb.size; omega
    have hfl := fwOf_len s.labs.length s.prs
    have HFL := Lib.hid hfl
    clear hm9 kb hfl
    go_upto_region 6 with (first
      | (at_builtin
         refine wpList_append_any _ rfl (.tmp 43) (.tmp 44) 55 rfl w0.heap.size 58 k0 _ 1 4 Try.underlying55 hk hu0 hu1 hu2 rfl (by decide) vf9 (fwOf s.labs.length s.prs).length _ rfl HMB.out.fo (some ⟨W9.heap.size, 0, none⟩) 1 1 [.int .u32 0] rfl (Rd.one2 _ _ _) (by intro u hu; simp at hu; subst hu; rfl) (by rw [HFL.out]; unfold maxLen; omega) (by rw [HFL.out]; omega) hbb ?_
         intro v10 w10 hown10 hg10 hv10
         obtain ⟨A10, c10, rfl, _, _⟩ := own_slice hown10
         have HR11 := Lib.hid (HRB.out.more (x := 0) HC.out HMB.out hg10 (by rw [List.length_append]; simpa [u32s] using hown10))
         have hb10 := (hg10.block _ (blk_lt HMB.out.box) (fun e => row_ne HMB.out.fo HMB.out.box (by decide) e.symm)).trans HMB.out.box
         have g2 : w10.cell? ⟨gm, 2, none⟩ = some vf9 := blk_cell (o := 2) hb10 rfl
         have gf2 : w10.frozen? ⟨gm, 2, none⟩ = false := frozen_of_row w10 _ 2 _ _ hb10
         clear hown10 hg10 hv10 hb10))
    clear n2 hbb g2 gf2
    obtain ⟨W11, hW11⟩ : ∃ W, w10.setCell ⟨gm, 2, none⟩ (.slice A10 ((fwOf s.labs.length s.prs).length + 1) c10) = W := ⟨_, rfl⟩
    rw [hW11]
    have HR11 := Lib.hid (show _ from hW11 ▸ HR11.out)
    rw [← HFW.out] at HR11
    obtain ⟨vl11, vf11, hm11⟩ := HR11.out.mm
    obtain ⟨L11, cL11, rfl, _, _⟩ := own_slice hm11.lo
    have hb11 := hm11.box
    rw [HLN.out] at hb11
    have hrs := HR11.out.res
    have n1 : W11.cell? ⟨gm, 1, none⟩ = _ := blk_cell (o := 1) hb11 rfl
    have r0 : W11.cell? ⟨w.heap.size, 0, none⟩ = _ := blk_cell (o := 0) hrs rfl
    have r1 : W11.cell? ⟨w.heap.size, 1, none⟩ = _ := blk_cell (o := 1) hrs rfl
    have r2 : W11.cell? ⟨w.heap.size, 2, none⟩ = _ := blk_cell (o := 2) hrs rfl
    have f0 : W11.frozen? ⟨w.heap.size, 0, none⟩ = false := frozen_of_row W11 _ 0 _ _ hrs
    have f1 : W11.frozen? ⟨w.heap.size, 1, none⟩ = false := frozen_of_row W11 _ 1 _ _ hrs
    have f2 : W11.frozen? ⟨w.heap.size, 2, none⟩ = false := frozen_of_row W11 _ 2 _ _ hrs
    have hn24 : s.labs.length < 24 := hc
    have hbit := bit_of s.labs.length hc
    have hwr : IntKind.i64.wrap ((s.labs.length : Int) + 1 - 1) = (s.labs.length : Int) := (IntWalk.i64_in _ (by omega)).trans (by omega)
    clear hm11 hb11 hrs
    go_wp2
    refine bodyPost_ret (v := .agg #[.int .u32 (bitsOf [s.labs.length + 1] : Nat), .int .u32 (bitsOf [s.labs.length + 1] : Nat), .bool false]) (by simp [results, Try.results21, go_sem, r0, r1, r2]) rfl ?_
    have hfin := HR11.out.fin HC.out (.int .u32 (bitsOf [s.labs.length + 1] : Nat)) (.int .u32 (bitsOf [s.labs.length + 1] : Nat)) (.bool false)
    refine ⟨rfl, ?_, hfin.2⟩
    simp only [HLN.out]
    exact hfin.1

theorem vis_any {ps : List Pc} (hp : PaOk ps) (hkl : ∀ p ∈ ps, p.k.length ≤ 4294967296) {w0 : World} {A : Option Addr} {cP : Nat} (hx : RdP w0 A ps) {gm : Nat} (hqg : w0.heap.size ≤ gm) : ∀ n, VisC ps gm (.slice A ps.length cP) w0 n
  | 0 => fun i _ _ h => absurd h (by omega)
  | n + 1 => fun i s w hin hil hs hc h24 hb hgm hm => by
    replace h24 : (lkPc (lk ps n) (ps.getD i pc0) s).2.labs.length < 24 := h24
    show Calls _ _ _ _ (VisP gm w0.heap.size _ (lkPc (lk ps n) (ps.getD i pc0) s) w)
    rw [pc_at hil] at h24 ⊢
    have IH := vis_any hp hkl hx hqg n (cP := cP)
    have ho := (hp.2 i hil).ops
    rcases (by omega : ps[i].op = 1 ∨ ps[i].op = 2 ∨ ps[i].op = 3 ∨ ps[i].op = 4 ∨ ps[i].op = 5 ∨ ps[i].op = 6) with h | h | h | h | h | h
    · exact vis_step hp hx hqg IH i s w hin hil hs hc h24 hb hgm hm h hkl
    · exact vis_row hp hx hqg IH i s w hin hil hs hc h24 hb hgm hm h hkl
    · exact vis_alt hp hx hqg IH i s w hin hil hs hc h24 hb hgm hm h hkl
    · exact vis_one4 hp hx hqg IH i s w hin hil hs hc h24 hb hgm hm h hkl
    · exact vis_one5 hp hx hqg IH i s w hin hil hs hc h24 hb hgm hm h hkl
    · exact vis_one6 hp hx hqg IH i s w hin hil hs hc h24 hb hgm hm h hkl
end Go.Proofs.Ytjlekcoikceidaa
