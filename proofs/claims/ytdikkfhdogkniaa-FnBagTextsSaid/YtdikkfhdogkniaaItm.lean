/- Items of a bag in memory: rows of structs that hold slices of ints. No conditions. -/
import Derived.Test.YtdikkfhdogkniaaIntS
import Derived.Test.YtdikkfhdogkniaaBlk
namespace Go.Proofs.Ytdikkfhdogkniaa
open Go.RowKit

/-- An item: row, times. -/
structure It where
  r : List Int
  t : Int
/-- An item with the place and the capacity of its row. -/
structure ItX where
  p : It
  K : Option Addr
  c : Nat
def ItX.v (x : ItX) : Value := .slice x.K x.p.r.length x.c
def ItX.cells (x : ItX) : List Value := [x.v, .int .i64 x.p.t]
def ixCells (xs : List ItX) : List Value := xs.flatMap ItX.cells
theorem ixCells_len : ∀ xs : List ItX, (ixCells xs).length = xs.length * 2
  | [] => rfl
  | x :: xs => by
    have := ixCells_len xs
    simp only [ixCells, List.flatMap_cons, List.length_append, List.length_cons] at this ⊢
    simp only [ItX.cells, List.length_cons, List.length_nil]
    omega
theorem ixCells_append (xs ys : List ItX) : ixCells (xs ++ ys) = ixCells xs ++ ixCells ys := by simp [ixCells]
theorem ixCells_at : ∀ (xs : List ItX) (i : Nat) (h : i < xs.length), (ixCells xs)[i * 2]? = some xs[i].v ∧ (ixCells xs)[i * 2 + 1]? = some (.int .i64 xs[i].p.t)
  | [], i, h => absurd h (by simp)
  | x :: xs, 0, _ => by simp [ixCells, ItX.cells]
  | x :: xs, i + 1, h => by
    have ih := ixCells_at xs i (by simpa using h)
    have e : ixCells (x :: xs) = [x.v, .int .i64 x.p.t] ++ ixCells xs := by simp [ixCells, ItX.cells]
    rw [e, show (i + 1) * 2 = i * 2 + 2 by omega, show i * 2 + 2 + 1 = i * 2 + 1 + 2 by omega]
    simpa using ih
theorem ixCells_next {xs : List ItX} {k : Nat} (h : k < xs.length) : ixCells (xs.take (k + 1)) = ixCells (xs.take k) ++ xs[k].cells := by
  rw [List.take_succ_eq_append_getElem h, ixCells_append]
  simp [ixCells]
theorem oneCell_ix (xs : List ItX) : ∀ u ∈ ixCells xs, u.oneCell' = true := by
  intro u hu
  obtain ⟨x, _, hx⟩ := List.mem_flatMap.1 hu
  simp only [ItX.cells, List.mem_cons, List.not_mem_nil, or_false] at hx
  rcases hx with rfl | rfl <;> rfl
theorem it_ext {p q : It} (h1 : p.r = q.r) (h2 : p.t = q.t) : p = q := by
  cases p; cases q; simp_all

/-- The two cells of element k of a row of the call's own. -/
theorem own2 {w : World} {base : Nat} {e : TypeId} {g n cap : Nat} {ys : List Value} (h : w.ownsRow base e 2 (.slice (some ⟨g, 0, none⟩) n cap) n ys) {k : Nat} (hk : k < n) :
    ∃ u0 u1, w.cell? ⟨g, k * 2, none⟩ = some u0 ∧ w.cell? ⟨g, k * 2 + 1, none⟩ = some u1 ∧ w.frozen? ⟨g, k * 2, none⟩ = false ∧ w.frozen? ⟨g, k * 2 + 1, none⟩ = false := by
  have hl := h.1
  have c : ∀ j, j < n * 2 → w.cell? ⟨g, j, none⟩ = some (ys.getD j undef) := fun j hj => by
    rw [h.cellAt j hj]
    simp [List.getD, List.getElem?_eq_getElem (show j < ys.length by omega)]
  exact ⟨_, _, c _ (by omega), c _ (by omega), h.frozenAt _, h.frozenAt _⟩
theorem own2_stored {w : World} {base : Nat} {e : TypeId} {g n cap : Nat} {ys : List Value} (h : w.ownsRow base e 2 (.slice (some ⟨g, 0, none⟩) n cap) n ys) (k : Nat) (a b : Value) :
    ((w.setCell ⟨g, k * 2, none⟩ a).setCell ⟨g, k * 2 + 1, none⟩ b).ownsRow base e 2 (.slice (some ⟨g, 0, none⟩) n cap) n ((ys.set (k * 2) a).set (k * 2 + 1) b) ∧
      w.grownBy ((w.setCell ⟨g, k * 2, none⟩ a).setCell ⟨g, k * 2 + 1, none⟩ b) (some g) := by
  have h1 := h.stored (k * 2) a
  have h2 := h1.1.stored (k * 2 + 1) b
  exact ⟨h2.1, h1.2.trans h2.2⟩
theorem take_set2 (ys : List Value) (k : Nat) (a b : Value) (h : k * 2 + 1 < ys.length) :
    ((ys.set (k * 2) a).set (k * 2 + 1) b).take ((k + 1) * 2) = ys.take (k * 2) ++ [a, b] := by
  rw [show (k + 1) * 2 = k * 2 + 1 + 1 by omega]
  rw [List.take_succ_eq_append_getElem (by simp; omega), List.take_succ_eq_append_getElem (by simp; omega)]
  simp [List.take_set_of_le]

/-- A slice of items reads as ps. -/
def RdB (w : World) (A : Option Addr) (ps : List It) : Prop := ∃ xs : List ItX, xs.map ItX.p = ps ∧ Rd w 2 A ps.length (ixCells xs) ∧ ∀ x ∈ xs, RdI w x.K x.p.r.length x.p.r
theorem RdB.keep {w w' : World} {A : Option Addr} {ps : List It} (h : RdB w A ps) (hb : Below w.heap.size w w') : RdB w' A ps := by
  obtain ⟨xs, h1, h2, h3⟩ := h
  exact ⟨xs, h1, Rd.below h2 hb, fun x hx => RdI.below (h3 x hx) hb⟩
theorem RdB.alloc {w : World} {A : Option Addr} {ps : List It} (h : RdB w A ps) (o : Obj) : RdB (w.alloc o) A ps := h.keep (below_alloc w o)
theorem RdB.nil (w : World) (A : Option Addr) : RdB w A [] := ⟨[], rfl, ⟨rfl, fun h => absurd h (by simp)⟩, by simp⟩
theorem RdB.at_ {w : World} {A : Option Addr} {ps : List It} {k : Nat} (h : RdB w A ps) (hk : k < ps.length) :
    ∃ b o K c, A = some ⟨b, o, none⟩ ∧ w.cell? ⟨b, o + k * 2, none⟩ = some (.slice K ps[k].r.length c) ∧ w.cell? ⟨b, o + k * 2 + 1, none⟩ = some (.int .i64 ps[k].t) ∧ RdI w K ps[k].r.length ps[k].r := by
  obtain ⟨xs, h1, h2, h3⟩ := h
  subst h1
  have hk' : k < xs.length := by simpa using hk
  obtain ⟨ad, rfl, hc⟩ := h2.2 (by omega)
  obtain ⟨c0, c1⟩ := ixCells_at xs k hk'
  have d0 := hc _ _ c0
  have d1 := hc _ _ c1
  simp only [List.getElem_map]
  have cz := hc 0 _ (ixCells_at xs 0 (by omega)).1
  obtain ⟨b, off, spot⟩ := ad
  have hspot : spot = none := by simpa [Addr.add] using World.cell?_spot cz
  subst hspot
  have hp : ∀ j, (⟨b, off, none⟩ : Addr).add j = ⟨b, off + j, none⟩ := by intro j; unfold Addr.add; split <;> simp_all
  rw [hp] at d0 d1
  exact ⟨b, off, xs[k].K, xs[k].c, rfl, d0, by rw [Nat.add_assoc]; exact d1, h3 _ (List.getElem_mem hk')⟩

/-- Two rows are not one block. -/
def ApartB (x y : ItX) : Prop := x.v.ownBlock = none ∨ x.v.ownBlock ≠ y.v.ownBlock
/-- A slice of items is the call's own, rows and all. -/
structure OwnBx (w : World) (base : Nat) (A : Option Addr) (c : Nat) (xs : List ItX) : Prop where
  row : w.ownsRow base 54 2 (.slice A xs.length c) xs.length (ixCells xs)
  kids : ∀ x ∈ xs, w.ownsRow base 3 1 x.v x.p.r.length (x.p.r.map (Value.int .i64))
  apart : xs.Pairwise ApartB
def OwnB (w : World) (base : Nat) (A : Option Addr) (c : Nat) (ps : List It) : Prop := ∃ xs, xs.map ItX.p = ps ∧ OwnBx w base A c xs
theorem OwnBx.keep {w w' : World} {base c : Nat} {A : Option Addr} {xs : List ItX} (h2 : OwnBx w base A c xs) (hb : Below w.heap.size w w') : OwnBx w' base A c xs :=
  ⟨own_below h2.row hb, fun x hx => own_below (h2.kids x hx) hb, h2.apart⟩
theorem OwnBx.mono {w : World} {base base' c : Nat} {A : Option Addr} {xs : List ItX} (h2 : OwnBx w base A c xs) (hb : base' ≤ base) : OwnBx w base' A c xs :=
  ⟨own_mono h2.row hb, fun x hx => own_mono (h2.kids x hx) hb, h2.apart⟩
theorem OwnB.keep {w w' : World} {base c : Nat} {A : Option Addr} {ps : List It} (h : OwnB w base A c ps) (hb : Below w.heap.size w w') : OwnB w' base A c ps := by
  obtain ⟨xs, h1, h2⟩ := h
  exact ⟨xs, h1, h2.keep hb⟩
theorem OwnB.mono {w : World} {base base' c : Nat} {A : Option Addr} {ps : List It} (h : OwnB w base A c ps) (hb : base' ≤ base) : OwnB w base' A c ps := by
  obtain ⟨xs, h1, h2⟩ := h
  exact ⟨xs, h1, h2.mono hb⟩
theorem OwnB.rd {w : World} {base c : Nat} {A : Option Addr} {ps : List It} (h : OwnB w base A c ps) : RdB w A ps := by
  obtain ⟨xs, h1, h2⟩ := h
  subst h1
  refine ⟨xs, rfl, ?_, fun x hx => Rd.of_own (h2.kids x hx)⟩
  rw [List.length_map]
  exact Rd.of_own h2.row
theorem OwnB.nil (w : World) (base : Nat) : OwnB w base none 0 [] :=
  ⟨[], rfl, ⟨by simp [ixCells], .inl ⟨rfl, rfl⟩⟩, by simp, List.Pairwise.nil⟩
theorem own_set_row {w : World} {b b' : Nat} {e e' : TypeId} {sz sz' : Nat} {v : Value} {m n c g : Nat} {ys ys' : List Value} (h : w.ownsRow b e sz v m ys) (ho : w.ownsRow b' e' sz' (.slice (some ⟨g, 0, none⟩) n c) n ys') (ht : e' ≠ e) (j : Nat) (u : Value) :
    (w.setCell ⟨g, j, none⟩ u).ownsRow b e sz v m ys := by
  refine h.kept (row := some g) ⟨rfl, rfl, rfl, by simp [World.setCell], fun i _ hi => Below.heap_setCell _ _ _ _ (fun h => hi (by rw [h]))⟩ ?_
  rcases ho.2 with ⟨h0, _⟩ | ⟨g', cap, cur, hv, _, hg, _⟩
  · cases h0
  · injection hv with e1 _ _
    injection e1 with e1
    injection e1 with e1
    subst e1
    rcases h.2 with ⟨rfl, _⟩ | ⟨g2, cap2, cur2, rfl, _, hg2, _⟩
    · exact .inl (by simp [Value.ownBlock])
    · refine .inr fun hr => ?_
      simp only [Value.ownBlock, Option.some.injEq] at hr
      subst hr
      rw [hg] at hg2
      injection hg2 with hg2
      injection hg2 with _ h2 _
      exact ht h2
theorem blk_of_own {w : World} {base : Nat} {e : TypeId} {k g n c : Nat} {xs : List Value} (h : w.ownsRow base e k (.slice (some ⟨g, 0, none⟩) n c) n xs) (_hn : 0 < n) : g < w.heap.size := (h.lt g rfl).2
theorem Try.infoItem : (Try.prog.info? 54).map (fun i => (i.zero, i.size, i.bytes)) = some (some (.agg #[.slice none 0 0, .int .i64 0]), 2, 32) := by kernel_rfl
/-- What a call that makes an item leaves. -/
def MadeIt (w : World) (p : It) (e : Ending) (w' : World) : Prop :=
  ∃ K c, e = .returned (.agg #[.slice K p.r.length c, .int .i64 p.t]) ∧ w'.ownsRow w.heap.size 3 1 (.slice K p.r.length c) p.r.length (p.r.map (Value.int .i64)) ∧ Below w.heap.size w w'

set_option maxRecDepth 100000 in
set_option maxHeartbeats 1600000 in
theorem toItem_any (p : It) (K : Option Addr) (c : Nat) (w : World) (hx : RdI w K p.r.length p.r) (hn : p.r.length ≤ 4294967296) :
    Calls Try.prog 75 #[.agg #[.slice K p.r.length c, .int .i64 p.t]] w (MadeIt w p) := by
  have HX := Lib.hid hx
  clear hx
  obtain ⟨k, t⟩ := p
  simp only at HX hn ⊢
  go_enter Try.func75, Try.ntmps75
  go_wp2_with fail
  refine (toIntS_any K k.length c k _ (((HX.out.alloc _).alloc _).alloc _) hn).mono ?_
  rintro e w1 ⟨K1, c1, rfl, hown, hb⟩
  have HO := Lib.hid hown
  have HB := Lib.hid hb
  obtain ⟨hcl, hfr⟩ := bcell hb
  have hz : w.heap.size + 3 ≤ w1.heap.size := by have := hb.size; simp at this; omega
  have h0 : w1.cell? ⟨w.heap.size, 1, none⟩ = some (.int .i64 t) := by rw [hcl _ _ (by simp; omega)]; go_simp
  have h1 : w1.cell? ⟨w.heap.size + 2, 0, none⟩ = some (.slice none 0 0) := by rw [hcl _ _ (by simp)]; go_simp
  have h2 : w1.cell? ⟨w.heap.size + 2, 1, none⟩ = some (.int .i64 0) := by rw [hcl _ _ (by simp)]; go_simp
  have h4 : w1.cell? ⟨w.heap.size + 1, 0, none⟩ = some (.slice none 0 0) := by rw [hcl _ _ (by simp)]; go_simp
  have h5 : w1.cell? ⟨w.heap.size + 1, 1, none⟩ = some (.int .i64 0) := by rw [hcl _ _ (by simp)]; go_simp
  have g1 : w1.frozen? ⟨w.heap.size + 2, 0, none⟩ = false := by rw [hfr _ _ (by simp)]; go_simp
  have g2 : w1.frozen? ⟨w.heap.size + 2, 1, none⟩ = false := by rw [hfr _ _ (by simp)]; go_simp
  have g3 : w1.frozen? ⟨w.heap.size + 1, 0, none⟩ = false := by rw [hfr _ _ (by simp)]; go_simp
  have g4 : w1.frozen? ⟨w.heap.size + 1, 1, none⟩ = false := by rw [hfr _ _ (by simp)]; go_simp
  clear hown hb hcl hfr
  go_wp2
  refine bodyPost_ret (v := .agg #[.slice K1 k.length c1, .int .i64 t]) (by simp [results, Try.results75, go_sem, h4, h5]) rfl ⟨K1, c1, rfl, ?_, ?_⟩
  · exact own_mono (ownsRow_setCell_below (ownsRow_setCell_below (ownsRow_setCell_below (ownsRow_setCell_below HO.out (by simp) _) (by simp) _) (by simp) _) (by simp) _) (by simp; omega)
  · have hb3 : Below w.heap.size w w1 := below_step ((((Below.refl w.heap.size w).alloc (Nat.le_refl _) _).alloc (by simp) _).alloc (by simp; omega) _) HB.out
    exact (((hb3.setCell (by simp; omega) _).setCell (by simp; omega) _).setCell (by simp) _).setCell (by simp) _

/-- What a call that makes a slice of items leaves. -/
def MadeB (w : World) (ps : List It) (e : Ending) (w' : World) : Prop := ∃ A c, e = .returned (.slice A ps.length c) ∧ OwnB w' w.heap.size A c ps ∧ Below w.heap.size w w'
set_option maxRecDepth 100000 in
set_option maxHeartbeats 3200000 in
theorem toItemS_any (A : Option Addr) (c : Nat) (ps : List It) (w : World) (hx : RdB w A ps) (hn : ps.length ≤ 4294967296) (hk : ∀ p ∈ ps, p.r.length ≤ 4294967296) :
    Calls Try.prog 47 #[.slice A ps.length c] w (MadeB w ps) := by
  obtain ⟨i0, hi, hz0, hz1, hz2⟩ := info_parts Try.infoItem
  have HX := Lib.hid hx
  have HK := Lib.hid hk
  clear hx hk
  go_enter Try.func47, Try.ntmps47
  go_wp2_with (first
    | (at_make
       refine wpList_make_full _ rfl _ _ 27 rfl w.heap.size 54 i0 _ 2 Try.underlying27 hi hz0 hz1 .i64 .i64 (ps.length : Int) (ps.length : Int) ps.length rfl rfl rfl rfl (by rw [hz2]; omega) (by unfold maxLen; omega) (Nat.le_refl _) ?_
       intro w0 hown0 hg0
       have hb0 := (Below.refl w.heap.size w).grown hg0 (Nat.le_refl _) (fun g hg => by cases hg)))
  go_loopw [4] (fun i wr => ∃ (k : Nat) (ys : List Value) (xs : List ItX), k ≤ ps.length ∧ i = .int .i64 k ∧ ys.length ≤ ps.length * 2 ∧ ps.length * 2 ≤ ys.length ∧ Hid (xs.map ItX.p = ps.take k) ∧ Hid (ys.take (k * 2) = ixCells xs) ∧ wr.ownsRow w.heap.size 54 2 (.slice (some ⟨w.heap.size, 0, none⟩) ps.length ps.length) ps.length ys ∧
      Hid (∀ x ∈ xs, wr.ownsRow w.heap.size 3 1 x.v x.p.r.length (x.p.r.map (Value.int .i64))) ∧ Hid (xs.Pairwise ApartB) ∧ Below w.heap.size w wr) (fun i _ => ps.length - (intOf i).toNat)
  case atStart =>
    have := hown0.1
    exact ⟨0, _, [], Nat.zero_le _, rfl, by omega, by omega, Lib.hid rfl, Lib.hid (by simp [ixCells]), hown0, Lib.hid (by simp), Lib.hid List.Pairwise.nil, hb0⟩
  case round =>
    obtain ⟨k, ys, xs, hk, rfl, hy1, hy2, HM, HT, hown, HR, HA, hb⟩ := hrel
    clear hown0 hg0 hb0
    by_cases hlt : k < ps.length
    · obtain ⟨b, o, Kk, ck, rfl, c0, c1, hrk⟩ := (RdB.keep HX.out hb).at_ hlt
      have hkl := HK.out ps[k] (List.getElem_mem hlt)
      obtain ⟨pk, hpk⟩ : ∃ pk, ps[k] = pk := ⟨_, rfl⟩
      rw [hpk] at c0 c1 hkl hrk
      have HPK := Lib.hid hpk
      have T := Lib.hid (toItem_any pk Kk ck wr hrk hkl)
      have k0 : (0 : Int) ≤ (k : Int) := by omega
      have k1 : (k : Int) < (ps.length : Int) := by omega
      clear hpk hrk
      go_wp2_with fail
      refine T.out.mono ?_
      rintro e w1 ⟨K1, d1, rfl, ho1, hb1⟩
      have hown1 := own_below hown hb1
      obtain ⟨u0, u1, e0, e1, f0, f1⟩ := own2 hown1 hlt
      have hst := own2_stored hown1 k (.slice K1 pk.r.length d1) (.int .i64 pk.t)
      have HS := Lib.hid hst
      have HB := Lib.hid (below_step hb hb1)
      have hsz := hb.size
      have HNew : Hid (((w1.setCell ⟨w.heap.size, k * 2, none⟩ (.slice K1 pk.r.length d1)).setCell ⟨w.heap.size, k * 2 + 1, none⟩ (.int .i64 pk.t)).ownsRow w.heap.size 3 1 (.slice K1 pk.r.length d1) pk.r.length (pk.r.map (Value.int .i64))) :=
        Lib.hid (own_mono (ownsRow_setCell_below (ownsRow_setCell_below ho1 (by have := blk_of_own hown (by omega); simp; omega) _) (by have := blk_of_own hown (by omega); simp; omega) _) hsz)
      have HOld : Hid (∀ x ∈ xs, ((w1.setCell ⟨w.heap.size, k * 2, none⟩ (.slice K1 pk.r.length d1)).setCell ⟨w.heap.size, k * 2 + 1, none⟩ (.int .i64 pk.t)).ownsRow w.heap.size 3 1 x.v x.p.r.length (x.p.r.map (Value.int .i64))) := Lib.hid (fun x hx => by
        have h0 := own_below (HR.out x hx) hb1
        have t0 := hown1.stored (k * 2) (.slice K1 pk.r.length d1)
        have h1 := own_set_row h0 hown1 (by decide) (k * 2) (.slice K1 pk.r.length d1)
        exact own_set_row h1 t0.1 (by decide) (k * 2 + 1) (.int .i64 pk.t))
      have HApp : Hid ((xs ++ [(⟨pk, K1, d1⟩ : ItX)]).Pairwise ApartB) := Lib.hid (by
        rw [List.pairwise_append]
        refine ⟨HA.out, List.pairwise_singleton _ _, fun x hx y hy => ?_⟩
        simp only [List.mem_cons, List.not_mem_nil, or_false] at hy
        subst hy
        unfold ApartB
        cases hv : x.v.ownBlock with
        | none => exact .inl rfl
        | some r =>
          refine .inr fun e => ?_
          have h3 := ((HR.out x hx).lt r hv).2
          have h4 := (ho1.lt r e.symm).1
          omega)
      clear hst hown hown1 hb hb1 c0 c1 T ho1
      go_wp2
      go_roundw
      case rel =>
        refine ⟨k + 1, _, xs ++ [(⟨pk, K1, d1⟩ : ItX)], by omega, by go_num, ?_, ?_, ?_, ?_, HS.out.1, ?_, HApp, HB.out.grown HS.out.2 HB.out.size (fun g hg => by cases hg; exact Nat.le_refl _)⟩
        · simp; omega
        · simp; omega
        · show _ = _
          rw [List.map_append, HM.out, List.take_succ_eq_append_getElem hlt, HPK.out]
          rfl
        · show _ = _
          rw [take_set2 ys k _ _ (by omega), HT.out, ixCells_append]
          simp [ixCells, ItX.cells, ItX.v]
        · refine Lib.hid (fun x hx => ?_)
          rcases List.mem_append.1 hx with hx | hx
          · exact HOld.out x hx
          · simp only [List.mem_cons, List.not_mem_nil, or_false] at hx
            subst hx
            exact HNew.out
      case measure => simp [intOf]; omega
    · obtain rfl : k = ps.length := by omega
      have hM := HM.out
      rw [List.take_of_length_le (Nat.le_refl _)] at hM
      have hT := HT.out
      rw [List.take_of_length_le (by omega)] at hT
      have hlen : xs.length = ps.length := by rw [← hM]; simp
      have HF : Hid (OwnB wr w.heap.size (some ⟨w.heap.size, 0, none⟩) ps.length ps) := Lib.hid ⟨xs, hM, by rw [hlen, ← hT]; exact hown, HR.out, HA.out⟩
      clear hM hT hlen hown
      go_wp2
      go_ret
      exact ⟨_, _, rfl, HF.out, hb⟩

/-- What a call that makes a bag leaves. -/
def MadeBag (w : World) (ps : List It) (e : Ending) (w' : World) : Prop := ∃ A c, e = .returned (.agg #[.slice A ps.length c]) ∧ OwnB w' w.heap.size A c ps ∧ Below w.heap.size w w'
end Go.Proofs.Ytdikkfhdogkniaa
