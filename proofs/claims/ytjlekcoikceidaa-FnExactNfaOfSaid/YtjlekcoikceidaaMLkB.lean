/- What a walker leaves as it was: all blocks but its own box and the blocks of some types that are not older than a given number. Rows that do not share a block. No conditions. What l07Make.look holds while it walks the kids of a piece. No conditions. -/
import Derived.Test.YtjlekcoikceidaaJoin
import Derived.Test.YtjlekcoikceidaaPcs
namespace Go.Proofs.Ytjlekcoikceidaa
open Go.RowKit

/-- Blocks below q are as they were; younger ones too, but gm and those of the types T. -/
structure Kq (T : List TypeId) (q gm : Nat) (w w' : World) : Prop where
  os : w'.os = w.os
  tape : w'.tape = w.tape
  output : w'.output = w.output
  size : w.heap.size ≤ w'.heap.size
  blk : ∀ k, k < w.heap.size → (k < q ∨ (k ≠ gm ∧ ∀ t ∈ T, ∀ cs fz, w.heap[k]? ≠ some (.cells cs t fz))) → w'.heap[k]? = w.heap[k]?
section
variable {T : List TypeId} {q gm : Nat} {w wr w' : World}
theorem Kq.refl (T : List TypeId) (q gm : Nat) (w : World) : Kq T q gm w w := ⟨rfl, rfl, rfl, Nat.le_refl _, fun _ _ _ => rfl⟩
theorem Kq.trans (h : Kq T q gm w wr) (k : Kq T q gm wr w') : Kq T q gm w w' :=
  ⟨k.os.trans h.os, k.tape.trans h.tape, k.output.trans h.output, Nat.le_trans h.size k.size, fun i hi hc => by
    have h1 := h.blk i hi hc
    refine (k.blk i (Nat.lt_of_lt_of_le hi h.size) ?_).trans h1
    rcases hc with hc | ⟨h2, h3⟩
    · exact .inl hc
    · exact .inr ⟨h2, fun t ht cs fz => by rw [h1]; exact h3 t ht cs fz⟩⟩
theorem Kq.below (h : Kq T q gm w wr) (k : Below wr.heap.size wr w') : Kq T q gm w w' := h.trans ⟨k.os, k.tape, k.output, k.size, fun i hi _ => k.block i hi⟩
theorem Kq.only (h : Kq T q gm w wr) (hq : q ≤ gm) (k : wr.grownBy w' (some gm)) : Kq T q gm w w' := h.trans ⟨k.os, k.tape, k.output, k.size, fun i hi hc => k.block i hi (fun e => by injection e with e; subst e; rcases hc with hc | hc; omega; exact hc.1 rfl)⟩
/-- A row of one of the types T has grown. -/
theorem Kq.row {e : TypeId} {sz : Nat} {v : Value} {n : Nat} {xs : List Value} (h : Kq T q gm w wr) (ht : e ∈ T) (ho : wr.ownsRow q e sz v n xs) (k : wr.grownBy w' v.ownBlock) : Kq T q gm w w' :=
  h.trans ⟨k.os, k.tape, k.output, k.size, fun i hi hc => k.block i hi (fun hr => by
    rcases hc with hc | ⟨_, hc⟩
    · have := (ho.lt i hr.symm).1
      omega
    · rcases ho.2 with ⟨rfl, _⟩ | ⟨g, cap, cur, rfl, _, hg, _⟩
      · cases hr
      · simp only [Value.ownBlock, Option.some.injEq] at hr
        subst hr
        exact hc e ht _ _ hg)⟩
/-- A block that is younger than the start has turned. -/
theorem Kq.young {row : Option Nat} (h : Kq T q gm w wr) (hr : ∀ k, row = some k → w.heap.size ≤ k) (k : wr.grownBy w' row) : Kq T q gm w w' :=
  ⟨k.os.trans h.os, k.tape.trans h.tape, k.output.trans h.output, Nat.le_trans h.size k.size, fun i hi hc =>
    (k.block i (Nat.lt_of_lt_of_le hi h.size) (fun e => by have := hr i e.symm; omega)).trans (h.blk i hi hc)⟩
theorem Kq.set (h : Kq T q gm w wr) {a : Addr} (ha : w.heap.size ≤ a.block) (u : Value) : Kq T q gm w (wr.setCell a u) :=
  ⟨h.os, h.tape, h.output, by simpa using h.size, fun i hi hc => (Below.heap_setCell _ _ _ _ (by omega)).trans (h.blk i hi hc)⟩
theorem Kq.drew (h : Kq T q gm w wr) : Kq T q gm w wr.drew := ⟨h.os, h.tape, h.output, h.size, h.blk⟩
/-- A block of another type is as it was. -/
theorem Kq.block (h : Kq T q gm w w') {g : Nat} {cs : Array Value} {t : TypeId} {fz : Nat × Nat} (hb : w.heap[g]? = some (.cells cs t fz)) (hg : g ≠ gm) (ht : t ∉ T) : w'.heap[g]? = some (.cells cs t fz) :=
  (h.blk g (blk_lt hb) (.inr ⟨hg, fun t' ht' cs' fz' e => by
    rw [hb] at e
    injection e with e
    injection e with _ e _
    subst e
    exact ht ht'⟩)).trans hb
theorem Kq.own {e : TypeId} {sz b : Nat} {v : Value} {n : Nat} {xs : List Value} (h : Kq T q gm w w') (ho : w.ownsRow b e sz v n xs) (hg : v.ownBlock ≠ some gm) (ht : e ∉ T) : w'.ownsRow b e sz v n xs := by
  refine ⟨ho.1, ?_⟩
  rcases ho.2 with hn | ⟨g, cap, cur, rfl, hbg, hgg, rest⟩
  · exact .inl hn
  · exact .inr ⟨g, cap, cur, rfl, hbg, h.block hgg (fun e => hg (by rw [← e]; rfl)) ht, rest⟩
theorem Kq.low {w0 : World} (h : Kq T q gm w w') (hb : Below q w0 w) (hq : q ≤ w0.heap.size) : Below q w0 w' :=
  ⟨h.os.trans hb.os, h.tape.trans hb.tape, h.output.trans hb.output, Nat.le_trans hb.size h.size, fun k hk => (h.blk k (Nat.lt_of_lt_of_le (Nat.lt_of_lt_of_le hk hq) hb.size) (.inl hk)).trans (hb.block k hk)⟩
end

/-- Two rows that do not share a block. -/
def Ap (v v' : Value) : Prop := ∀ r, v.ownBlock = some r → v'.ownBlock ≠ some r
theorem Ap.symm {v v' : Value} (h : Ap v v') : Ap v' v := fun r h1 h2 => h r h2 h1
theorem Ap.to {v v' : Value} (h : Ap v v') : v.ownBlock = none ∨ v.ownBlock ≠ v'.ownBlock := by
  cases e : v.ownBlock with
  | none => exact .inl rfl
  | some r => exact .inr (fun h2 => h r e h2.symm)
theorem Ap.nil (v : Value) (c : Nat) : Ap (.slice none 0 c) v := fun r h => by cases h
/-- An elder row and a younger one. -/
theorem Ap.old {w w' : World} {b b' : Nat} {e e' : TypeId} {sz sz' : Nat} {v v' : Value} {n n' : Nat} {xs xs' : List Value} (h : w.ownsRow b e sz v n xs) (h' : w'.ownsRow b' e' sz' v' n' xs') (hb : w.heap.size ≤ b') : Ap v v' :=
  fun r h1 h2 => by have := (h.lt r h1).2; have := (h'.lt r h2).1; omega
/-- What an append hands back. -/
theorem Ap.grown {w : World} {b : Nat} {e : TypeId} {sz : Nat} {v v1 u : Value} {n : Nat} {xs : List Value} (h : Ap v u) (ho : w.ownsRow b e sz u n xs) {m : Nat} (hm : w.heap.size ≤ m) (hv : v1.ownBlock = v.ownBlock ∨ v1.ownBlock = some m) : Ap v1 u :=
  fun r h1 h2 => by
    rcases hv with hv | hv
    · exact h r (hv ▸ h1) h2
    · rw [hv] at h1
      injection h1 with h1
      subst h1
      have := (ho.lt m h2).2
      omega
end Go.Proofs.Ytjlekcoikceidaa
namespace Go.Proofs.Ytjlekcoikceidaa
open Go.RowKit

theorem MkI.kept {gm q : Nat} {P vl va : Value} {labs : List Int} {es : List Ed} {bad : Bool} {wr w' : World} {row : Option Nat} (h : MkI gm q P vl va labs es bad wr) (hg : wr.grownBy w' row) (h1 : row ≠ some gm) (h2 : vl.ownBlock = none ∨ vl.ownBlock ≠ row) (h3 : va.ownBlock = none ∨ va.ownBlock ≠ row) : MkI gm q P vl va labs es bad w' :=
  ⟨(hg.block _ (blk_lt h.box) h1.symm).trans h.box, h.lo.kept hg h2, h.ao.kept hg h3⟩
theorem MkI.set {gm q g j : Nat} {P vl va : Value} {labs : List Int} {es : List Ed} {bad : Bool} {wr : World} {cs : Array Value} {t : TypeId} {fz : Nat × Nat} (h : MkI gm q P vl va labs es bad wr) (hb : wr.heap[g]? = some (.cells cs t fz)) (hg : g ≠ gm) (h2 : t ≠ 5) (h3 : t ≠ 64) (u : Value) : MkI gm q P vl va labs es bad (wr.setCell ⟨g, j, none⟩ u) :=
  ⟨blk_set_ne h.box (Ne.symm hg), own_setCell_other h.lo (row_ne h.lo hb h2) _, own_setCell_other h.ao (row_ne h.ao hb h3) _⟩
theorem MkI.below {gm q : Nat} {P vl va : Value} {labs : List Int} {es : List Ed} {bad : Bool} {wr w' : World} (h : MkI gm q P vl va labs es bad wr) (hb : Below wr.heap.size wr w') : MkI gm q P vl va labs es bad w' :=
  ⟨blk_below hb h.box, own_below h.lo hb, own_below h.ao hb⟩

/-- The numbers of the blocks and the piece. -/
structure LkC where
  w : World
  gm : Nat
  q : Nat
  P : Value
  x : Pc
  K : Option Addr
  c : Nat
structure LkC.Ok (C : LkC) : Prop where
  h1 : C.q ≤ C.gm
  h2 : C.gm < C.w.heap.size
/-- All but the rows in the making. -/
structure LkR (C : LkC) (labs : List Int) (es : List Ed) (bad : Bool) (wr : World) : Prop where
  res : wr.heap[C.w.heap.size]? = some (.cells #[.slice none 0 0, .slice none 0 0, .bool false] 49 (0, 0))
  pc : wr.heap[C.w.heap.size + 1]? = some (.cells #[.int .i64 C.x.op, .int .u8 C.x.l, .slice C.K C.x.k.length C.c] 78 (0, 0))
  mm : ∃ vl va, MkI C.gm C.q C.P vl va labs es bad wr
  kq : Kq [5] C.q C.gm C.w wr
structure LkB (C : LkC) (vf vt : Value) (o : Lk) (labs : List Int) (es : List Ed) (bad : Bool) (wr : World) : Prop where
  r : LkR C labs es bad wr
  out : wr.heap[C.w.heap.size + 2]? = some (.cells #[vf, vt, .bool o.nul] 49 (0, 0))
  fi : OwnN wr C.w.heap.size vf o.fi
  la : OwnN wr C.w.heap.size vt o.la
  ap : Ap vf vt
section
variable {C : LkC} {vf vt : Value} {o : Lk} {labs : List Int} {es : List Ed} {bad : Bool} {wr w' : World}
theorem LkR.below (h : LkR C labs es bad wr) (hb : Below wr.heap.size wr w') : LkR C labs es bad w' := by
  obtain ⟨vl, va, hm⟩ := h.mm
  exact ⟨blk_below hb h.res, blk_below hb h.pc, ⟨vl, va, hm.below hb⟩, h.kq.below hb⟩
theorem LkB.below (h : LkB C vf vt o labs es bad wr) (hb : Below wr.heap.size wr w') : LkB C vf vt o labs es bad w' :=
  ⟨h.r.below hb, blk_below hb h.out, own_below h.fi hb, own_below h.la hb, h.ap⟩
/-- A row of ints of the call's own has grown. -/
theorem LkR.grow {b : Nat} {v : Value} {xs : List Nat} (h : LkR C labs es bad wr) (hb : C.w.heap.size ≤ b) (ho : OwnN wr b v xs) (hg : wr.grownBy w' v.ownBlock) : LkR C labs es bad w' := by
  obtain ⟨vl, va, hm⟩ := h.mm
  exact ⟨(hg.block _ (blk_lt h.res) (fun e => row_ne ho h.res (by decide) e.symm)).trans h.res, (hg.block _ (blk_lt h.pc) (fun e => row_ne ho h.pc (by decide) e.symm)).trans h.pc,
    ⟨vl, va, hm.kept hg (row_ne ho hm.box (by decide)) (own_ne hm.lo ho (by decide)) (own_ne hm.ao ho (by decide))⟩, h.kq.young (fun k hk => by have := (ho.lt k hk).1; omega) hg⟩
/-- A cell of what is handed back is set. -/
theorem LkR.set {cs : Array Value} {j : Nat} (h : LkR C labs es bad wr) (hC : C.Ok) (hb : wr.heap[C.w.heap.size + 2]? = some (.cells cs 49 (0, 0))) (u : Value) : LkR C labs es bad (wr.setCell ⟨C.w.heap.size + 2, j, none⟩ u) := by
  obtain ⟨vl, va, hm⟩ := h.mm
  have := hC.h2
  exact ⟨blk_set_ne h.res (by omega), blk_set_ne h.pc (by omega), ⟨vl, va, hm.set hb (by omega) (by decide) (by decide) _⟩, h.kq.set (Nat.le_add_right _ 2) _⟩
theorem LkB.set0 {vf' : Value} {xs : List Nat} (h : LkB C vf vt o labs es bad wr) (hC : C.Ok) (ho : OwnN wr C.w.heap.size vf' xs) (ha : Ap vf' vt) : LkB C vf' vt ⟨xs, o.la, o.nul⟩ labs es bad (wr.setCell ⟨C.w.heap.size + 2, 0, none⟩ vf') :=
  ⟨h.r.set hC h.out _, by simp [World.setCell, Array.getElem?_modify, h.out], own_setCell_other ho (row_ne ho h.out (by decide)) _, own_setCell_other h.la (row_ne h.la h.out (by decide)) _, ha⟩
theorem LkB.set1 {vt' : Value} {xs : List Nat} (h : LkB C vf vt o labs es bad wr) (hC : C.Ok) (ho : OwnN wr C.w.heap.size vt' xs) (ha : Ap vf vt') : LkB C vf vt' ⟨o.fi, xs, o.nul⟩ labs es bad (wr.setCell ⟨C.w.heap.size + 2, 1, none⟩ vt') :=
  ⟨h.r.set hC h.out _, by simp [World.setCell, Array.getElem?_modify, h.out], own_setCell_other h.fi (row_ne h.fi h.out (by decide)) _, own_setCell_other ho (row_ne ho h.out (by decide)) _, ha⟩
theorem LkB.set2 (h : LkB C vf vt o labs es bad wr) (hC : C.Ok) (b : Bool) : LkB C vf vt ⟨o.fi, o.la, b⟩ labs es bad (wr.setCell ⟨C.w.heap.size + 2, 2, none⟩ (.bool b)) :=
  ⟨h.r.set hC h.out _, by simp [World.setCell, Array.getElem?_modify, h.out], own_setCell_other h.fi (row_ne h.fi h.out (by decide)) _, own_setCell_other h.la (row_ne h.la h.out (by decide)) _, h.ap⟩
/-- The first ones have grown, and are set. -/
theorem LkB.app0 {vf' : Value} {xs : List Nat} (h : LkB C vf vt o labs es bad wr) (hC : C.Ok) (hg : wr.grownBy w' vf.ownBlock) (ho : OwnN w' C.w.heap.size vf' xs) (hv : vf'.ownBlock = vf.ownBlock ∨ vf'.ownBlock = some wr.heap.size) : LkB C vf' vt ⟨xs, o.la, o.nul⟩ labs es bad (w'.setCell ⟨C.w.heap.size + 2, 0, none⟩ vf') := by
  have h1 := h.r.grow (Nat.le_refl _) h.fi hg
  have h2 := (hg.block _ (blk_lt h.out) (fun e => row_ne h.fi h.out (by decide) e.symm)).trans h.out
  have h3 := h.la.kept hg h.ap.symm.to
  exact ⟨h1.set hC h2 _, by simp [World.setCell, Array.getElem?_modify, h2], own_setCell_other ho (row_ne ho h2 (by decide)) _, own_setCell_other h3 (row_ne h3 h2 (by decide)) _, h.ap.grown h.la (Nat.le_refl _) hv⟩
theorem LkB.app1 {vt' : Value} {xs : List Nat} (h : LkB C vf vt o labs es bad wr) (hC : C.Ok) (hg : wr.grownBy w' vt.ownBlock) (ho : OwnN w' C.w.heap.size vt' xs) (hv : vt'.ownBlock = vt.ownBlock ∨ vt'.ownBlock = some wr.heap.size) : LkB C vf vt' ⟨o.fi, xs, o.nul⟩ labs es bad (w'.setCell ⟨C.w.heap.size + 2, 1, none⟩ vt') := by
  have h1 := h.r.grow (Nat.le_refl _) h.la hg
  have h2 := (hg.block _ (blk_lt h.out) (fun e => row_ne h.la h.out (by decide) e.symm)).trans h.out
  have h3 := h.fi.kept hg h.ap.to
  exact ⟨h1.set hC h2 _, by simp [World.setCell, Array.getElem?_modify, h2], own_setCell_other h3 (row_ne h3 h2 (by decide)) _, own_setCell_other ho (row_ne ho h2 (by decide)) _, (h.ap.symm.grown h.fi (Nat.le_refl _) hv).symm⟩
/-- The maker's box alone has turned. -/
theorem LkB.only {es' : List Ed} (h : LkB C vf vt o labs es bad wr) (hC : C.Ok) (hg : wr.grownBy w' (some C.gm)) (hm : ∃ vl va, MkI C.gm C.q C.P vl va labs es' bad w') : LkB C vf vt o labs es' bad w' := by
  obtain ⟨vl, va, hb⟩ := h.r.mm
  have := hC.h2
  exact ⟨⟨(hg.block _ (blk_lt h.r.res) (fun e => by injection e; omega)).trans h.r.res, (hg.block _ (blk_lt h.r.pc) (fun e => by injection e; omega)).trans h.r.pc, hm, h.r.kq.only hC.h1 hg⟩,
    (hg.block _ (blk_lt h.out) (fun e => by injection e; omega)).trans h.out, h.fi.kept hg (.inr (row_ne h.fi hb.box (by decide))), h.la.kept hg (.inr (row_ne h.la hb.box (by decide))), h.ap⟩
/-- A kid has been looked at. -/
theorem LkB.look {labs' : List Int} {es' : List Ed} {bad' : Bool} (h : LkB C vf vt o labs es bad wr) (hC : C.Ok) (hk : Kq [5] C.q C.gm wr w') (hm : ∃ vl va, MkI C.gm C.q C.P vl va labs' es' bad' w') : LkB C vf vt o labs' es' bad' w' := by
  obtain ⟨vl, va, hb⟩ := h.r.mm
  have := hC.h2
  exact ⟨⟨hk.block h.r.res (by omega) (by decide), hk.block h.r.pc (by omega) (by decide), hm, h.r.kq.trans hk⟩,
    hk.block h.out (by omega) (by decide), hk.own h.fi (row_ne h.fi hb.box (by decide)) (by decide), hk.own h.la (row_ne h.la hb.box (by decide)) (by decide), h.ap⟩
end

/-- A kid's look lies beside. -/
structure LkY (g : Nat) (b : Nat) (vf vt yf yt : Value) (y : Lk) (wr : World) : Prop where
  yb : wr.heap[g]? = some (.cells #[yf, yt, .bool y.nul] 49 (0, 0))
  yfi : OwnN wr b yf y.fi
  yla : OwnN wr b yt y.la
  ap : Ap yf yt
  a1 : Ap vf yf
  a2 : Ap vf yt
  a3 : Ap vt yf
  a4 : Ap vt yt
section
variable {g b : Nat} {vf vt yf yt : Value} {y : Lk} {wr w' : World}
theorem LkY.below (h : LkY g b vf vt yf yt y wr) (hb : Below wr.heap.size wr w') : LkY g b vf vt yf yt y w' := ⟨blk_below hb h.yb, own_below h.yfi hb, own_below h.yla hb, h.ap, h.a1, h.a2, h.a3, h.a4⟩
theorem LkY.only {gm : Nat} {cs : Array Value} {fz : Nat × Nat} (h : LkY g b vf vt yf yt y wr) (hg : wr.grownBy w' (some gm)) (hm : wr.heap[gm]? = some (.cells cs 46 fz)) (hne : g ≠ gm) : LkY g b vf vt yf yt y w' :=
  ⟨(hg.block _ (blk_lt h.yb) (fun e => by injection e with e; exact hne e)).trans h.yb, h.yfi.kept hg (.inr (row_ne h.yfi hm (by decide))), h.yla.kept hg (.inr (row_ne h.yla hm (by decide))), h.ap, h.a1, h.a2, h.a3, h.a4⟩
theorem LkY.set {g' j : Nat} {cs : Array Value} {t : TypeId} {fz : Nat × Nat} (h : LkY g b vf vt yf yt y wr) (hb : wr.heap[g']? = some (.cells cs t fz)) (hg : g ≠ g') (ht : t ≠ 3) (u : Value) : LkY g b vf vt yf yt y (wr.setCell ⟨g', j, none⟩ u) :=
  ⟨blk_set_ne h.yb hg, own_setCell_other h.yfi (row_ne h.yfi hb ht) _, own_setCell_other h.yla (row_ne h.yla hb ht) _, h.ap, h.a1, h.a2, h.a3, h.a4⟩
/-- The first ones have grown. -/
theorem LkY.app0 {b0 : Nat} {vf' : Value} {xs : List Nat} (h : LkY g b vf vt yf yt y wr) (ho : OwnN wr b0 vf xs) (hg : wr.grownBy w' vf.ownBlock) (hv : vf'.ownBlock = vf.ownBlock ∨ vf'.ownBlock = some wr.heap.size) : LkY g b vf' vt yf yt y w' :=
  ⟨(hg.block _ (blk_lt h.yb) (fun e => row_ne ho h.yb (by decide) e.symm)).trans h.yb, h.yfi.kept hg h.a1.symm.to, h.yla.kept hg h.a2.symm.to, h.ap, h.a1.grown h.yfi (Nat.le_refl _) hv, h.a2.grown h.yla (Nat.le_refl _) hv, h.a3, h.a4⟩
end
end Go.Proofs.Ytjlekcoikceidaa
