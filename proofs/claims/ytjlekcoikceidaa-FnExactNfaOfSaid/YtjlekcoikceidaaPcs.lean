/- Pieces of a path in memory: rows of structs that hold slices of ints. No conditions. -/
import Derived.Test.YtjlekcoikceidaaIntS
import Derived.Test.YtjlekcoikceidaaMark
import Derived.Test.YtjlekcoikceidaaBlk
import Derived.Test.YtjlekcoikceidaaGMem
namespace Go.Proofs.Ytjlekcoikceidaa
open Go.RowKit

/-- A piece: operation, label, kids. -/
structure Pc where
  op : Int
  l : Int
  k : List Int
/-- A piece with the place and the capacity of its kids. -/
structure PcX where
  p : Pc
  K : Option Addr
  c : Nat
def PcX.v (x : PcX) : Value := .slice x.K x.p.k.length x.c
def PcX.cells (x : PcX) : List Value := [.int .i64 x.p.op, .int .u8 x.p.l, x.v]
def pxCells (xs : List PcX) : List Value := xs.flatMap PcX.cells
theorem pxCells_len : ∀ xs : List PcX, (pxCells xs).length = xs.length * 3
  | [] => rfl
  | x :: xs => by
    have := pxCells_len xs
    simp only [pxCells, List.flatMap_cons, List.length_append, List.length_cons] at this ⊢
    simp only [PcX.cells, List.length_cons, List.length_nil]
    omega
theorem pxCells_append (xs ys : List PcX) : pxCells (xs ++ ys) = pxCells xs ++ pxCells ys := by simp [pxCells]
theorem pxCells_at : ∀ (xs : List PcX) (i : Nat) (h : i < xs.length), (pxCells xs)[i * 3]? = some (.int .i64 xs[i].p.op) ∧ (pxCells xs)[i * 3 + 1]? = some (.int .u8 xs[i].p.l) ∧ (pxCells xs)[i * 3 + 2]? = some xs[i].v
  | [], i, h => absurd h (by simp)
  | x :: xs, 0, _ => by simp [pxCells, PcX.cells]
  | x :: xs, i + 1, h => by
    have ih := pxCells_at xs i (by simpa using h)
    have e : pxCells (x :: xs) = [.int .i64 x.p.op, .int .u8 x.p.l, x.v] ++ pxCells xs := by simp [pxCells, PcX.cells]
    rw [e, show (i + 1) * 3 = i * 3 + 3 by omega, show i * 3 + 3 + 1 = i * 3 + 1 + 3 by omega, show i * 3 + 3 + 2 = i * 3 + 2 + 3 by omega]
    simpa using ih
theorem pxCells_next {xs : List PcX} {k : Nat} (h : k < xs.length) : pxCells (xs.take (k + 1)) = pxCells (xs.take k) ++ xs[k].cells := by
  rw [List.take_succ_eq_append_getElem h, pxCells_append]
  simp [pxCells]
theorem oneCell_px (xs : List PcX) : ∀ u ∈ pxCells xs, u.oneCell' = true := by
  intro u hu
  obtain ⟨x, _, hx⟩ := List.mem_flatMap.1 hu
  simp only [PcX.cells, List.mem_cons, List.not_mem_nil, or_false] at hx
  rcases hx with rfl | rfl | rfl <;> rfl

/-- A slice of pieces reads as ps. -/
def RdP (w : World) (A : Option Addr) (ps : List Pc) : Prop := ∃ xs : List PcX, xs.map PcX.p = ps ∧ Rd w 3 A ps.length (pxCells xs) ∧ ∀ x ∈ xs, RdI w x.K x.p.k.length x.p.k
theorem RdP.keep {w w' : World} {A : Option Addr} {ps : List Pc} (h : RdP w A ps) (hb : Below w.heap.size w w') : RdP w' A ps := by
  obtain ⟨xs, h1, h2, h3⟩ := h
  exact ⟨xs, h1, Rd.below h2 hb, fun x hx => RdI.below (h3 x hx) hb⟩
theorem RdP.alloc {w : World} {A : Option Addr} {ps : List Pc} (h : RdP w A ps) (o : Obj) : RdP (w.alloc o) A ps := h.keep (below_alloc w o)
theorem RdP.at_ {w : World} {A : Option Addr} {ps : List Pc} {k : Nat} (h : RdP w A ps) (hk : k < ps.length) :
    ∃ b o K c, A = some ⟨b, o, none⟩ ∧ w.cell? ⟨b, o + k * 3, none⟩ = some (.int .i64 ps[k].op) ∧ w.cell? ⟨b, o + k * 3 + 1, none⟩ = some (.int .u8 ps[k].l) ∧ w.cell? ⟨b, o + k * 3 + 2, none⟩ = some (.slice K ps[k].k.length c) ∧ RdI w K ps[k].k.length ps[k].k := by
  obtain ⟨xs, h1, h2, h3⟩ := h
  subst h1
  have hk' : k < xs.length := by simpa using hk
  obtain ⟨ad, rfl, hc⟩ := h2.2 (by omega)
  obtain ⟨c0, c1, c2⟩ := pxCells_at xs k hk'
  have d0 := hc _ _ c0
  have d1 := hc _ _ c1
  have d2 := hc _ _ c2
  simp only [List.getElem_map]
  have cz := hc 0 _ (pxCells_at xs 0 (by omega)).1
  obtain ⟨b, off, spot⟩ := ad
  have hspot : spot = none := by simpa [Addr.add] using World.cell?_spot cz
  subst hspot
  have hp : ∀ j, (⟨b, off, none⟩ : Addr).add j = ⟨b, off + j, none⟩ := by intro j; unfold Addr.add; split <;> simp_all
  rw [hp] at d0 d1 d2
  exact ⟨b, off, xs[k].K, xs[k].c, rfl, d0, by rw [Nat.add_assoc]; exact d1, by rw [Nat.add_assoc]; exact d2, h3 _ (List.getElem_mem hk')⟩

/-- Two rows are not one block. -/
def Apart (x y : PcX) : Prop := x.v.ownBlock = none ∨ x.v.ownBlock ≠ y.v.ownBlock
/-- A slice of pieces is the call's own, kids and all. -/
structure OwnPx (w : World) (base : Nat) (A : Option Addr) (c : Nat) (xs : List PcX) : Prop where
  row : w.ownsRow base 78 3 (.slice A xs.length c) xs.length (pxCells xs)
  kids : ∀ x ∈ xs, w.ownsRow base 3 1 x.v x.p.k.length (x.p.k.map (Value.int .i64))
  apart : xs.Pairwise Apart
def OwnP (w : World) (base : Nat) (A : Option Addr) (c : Nat) (ps : List Pc) : Prop := ∃ xs, xs.map PcX.p = ps ∧ OwnPx w base A c xs
theorem OwnP.keep {w w' : World} {base c : Nat} {A : Option Addr} {ps : List Pc} (h : OwnP w base A c ps) (hb : Below w.heap.size w w') : OwnP w' base A c ps := by
  obtain ⟨xs, h1, h2⟩ := h
  exact ⟨xs, h1, own_below h2.row hb, fun x hx => own_below (h2.kids x hx) hb, h2.apart⟩
theorem OwnP.mono {w : World} {base base' c : Nat} {A : Option Addr} {ps : List Pc} (h : OwnP w base A c ps) (hb : base' ≤ base) : OwnP w base' A c ps := by
  obtain ⟨xs, h1, h2⟩ := h
  exact ⟨xs, h1, own_mono h2.row hb, fun x hx => own_mono (h2.kids x hx) hb, h2.apart⟩
theorem OwnP.rd {w : World} {base c : Nat} {A : Option Addr} {ps : List Pc} (h : OwnP w base A c ps) : RdP w A ps := by
  obtain ⟨xs, h1, h2⟩ := h
  subst h1
  refine ⟨xs, rfl, ?_, fun x hx => Rd.of_own (h2.kids x hx)⟩
  rw [List.length_map]
  exact Rd.of_own h2.row
theorem own_set_row {w : World} {b b' : Nat} {e e' : TypeId} {sz sz' : Nat} {v : Value} {m n c g : Nat} {ys ys' : List Value} (h : w.ownsRow b e sz v m ys) (ho : w.ownsRow b' e' sz' (.slice (some ⟨g, 0, none⟩) n c) n ys') (ht : e' ≠ e) (j : Nat) (u : Value) :
    (w.setCell ⟨g, j, none⟩ u).ownsRow b e sz v m ys := by
  refine h.kept (row := some g) ⟨rfl, rfl, rfl, by simp [World.setCell], fun i _ hi => Below.heap_setCell _ _ _ _ (fun h => hi (by rw [h]))⟩ ?_
  rcases ho.2 with ⟨h0, _⟩ | ⟨g', cap, cur, hv, _, hg, _⟩
  · cases h0
  · injection hv with e1 _ _
    injection e1 with e1
    injection e1 with e1
    subst e1
    rcases h.2 with ⟨rfl, _⟩ | ⟨g2, cap2, cur2, rfl, _, hg2, _⟩
    · exact .inl (by simp [Value.ownBlock])
    · refine .inr fun hr => ?_
      simp only [Value.ownBlock, Option.some.injEq] at hr
      subst hr
      rw [hg] at hg2
      injection hg2 with hg2
      injection hg2 with _ h2 _
      exact ht h2

theorem blk_of_own {w : World} {base : Nat} {e : TypeId} {k g n c : Nat} {xs : List Value} (h : w.ownsRow base e k (.slice (some ⟨g, 0, none⟩) n c) n xs) (_hn : 0 < n) : g < w.heap.size := (h.lt g rfl).2
theorem Try.infoPiece : (Try.prog.info? 78).map (fun i => (i.zero, i.size, i.bytes)) = some (some (.agg #[.int .i64 0, .int .u8 0, .slice none 0 0]), 3, 40) := by kernel_rfl
/-- What a call that makes a piece leaves. -/
def MadePc (w : World) (p : Pc) (e : Ending) (w' : World) : Prop :=
  ∃ K c, e = .returned (.agg #[.int .i64 p.op, .int .u8 p.l, .slice K p.k.length c]) ∧ w'.ownsRow w.heap.size 3 1 (.slice K p.k.length c) p.k.length (p.k.map (Value.int .i64)) ∧ Below w.heap.size w w'

set_option maxRecDepth 100000 in
set_option maxHeartbeats 1600000 in
theorem toPiece_any (p : Pc) (K : Option Addr) (c : Nat) (w : World) (hx : RdI w K p.k.length p.k) (hn : p.k.length ≤ 4294967296) :
    Calls Try.prog 38 #[.agg #[.int .i64 p.op, .int .u8 p.l, .slice K p.k.length c]] w (MadePc w p) := by
  have HX := Lib.hid hx
  clear hx
  obtain ⟨op, l, k⟩ := p
  simp only at HX hn ⊢
  go_enter Try.func38, Try.ntmps38
  go_wp2_with fail
  refine (toIntS_any K k.length c k _ (((HX.out.alloc _).alloc _).alloc _) hn).mono ?_
  rintro e w1 ⟨K1, c1, rfl, hown, hb⟩
  have HO := Lib.hid hown
  have HB := Lib.hid hb
  obtain ⟨hcl, hfr⟩ := bcell hb
  have hz : w.heap.size + 3 ≤ w1.heap.size := by have := hb.size; simp at this; omega
  have h1 : w1.cell? ⟨w.heap.size + 2, 0, none⟩ = some (.int .i64 op) := by rw [hcl _ _ (by simp)]; go_simp
  have h2 : w1.cell? ⟨w.heap.size + 2, 1, none⟩ = some (.int .u8 l) := by rw [hcl _ _ (by simp)]; go_simp
  have h3 : w1.cell? ⟨w.heap.size + 2, 2, none⟩ = some (.slice none 0 0) := by rw [hcl _ _ (by simp)]; go_simp
  have h4 : w1.cell? ⟨w.heap.size + 1, 0, none⟩ = some (.int .i64 0) := by rw [hcl _ _ (by simp)]; go_simp
  have h5 : w1.cell? ⟨w.heap.size + 1, 1, none⟩ = some (.int .u8 0) := by rw [hcl _ _ (by simp)]; go_simp
  have h6 : w1.cell? ⟨w.heap.size + 1, 2, none⟩ = some (.slice none 0 0) := by rw [hcl _ _ (by simp)]; go_simp
  have g2 : w1.frozen? ⟨w.heap.size + 2, 2, none⟩ = false := by rw [hfr _ _ (by simp)]; go_simp
  have g3 : w1.frozen? ⟨w.heap.size + 1, 0, none⟩ = false := by rw [hfr _ _ (by simp)]; go_simp
  have g4 : w1.frozen? ⟨w.heap.size + 1, 1, none⟩ = false := by rw [hfr _ _ (by simp)]; go_simp
  have g5 : w1.frozen? ⟨w.heap.size + 1, 2, none⟩ = false := by rw [hfr _ _ (by simp)]; go_simp
  clear hown hb hcl hfr
  go_wp2
  refine bodyPost_ret (v := .agg #[.int .i64 op, .int .u8 l, .slice K1 k.length c1]) (by simp [results, Try.results38, go_sem, h4, h5, h6]) rfl ⟨K1, c1, rfl, ?_, ?_⟩
  · exact own_mono (ownsRow_setCell_below (ownsRow_setCell_below (ownsRow_setCell_below (ownsRow_setCell_below HO.out (by simp) _) (by simp) _) (by simp) _) (by simp) _) (by simp; omega)
  · have hb3 : Below w.heap.size w w1 := below_step ((((Below.refl w.heap.size w).alloc (Nat.le_refl _) _).alloc (by simp) _).alloc (by simp; omega) _) HB.out
    exact (((hb3.setCell (by simp; omega) _).setCell (by simp) _).setCell (by simp) _).setCell (by simp) _

/-- What a call that makes a slice of pieces leaves. -/
def MadeP (w : World) (ps : List Pc) (e : Ending) (w' : World) : Prop := ∃ A c, e = .returned (.slice A ps.length c) ∧ OwnP w' w.heap.size A c ps ∧ Below w.heap.size w w'
set_option maxRecDepth 100000 in
set_option maxHeartbeats 3200000 in
theorem toPieceS_any (A : Option Addr) (c : Nat) (ps : List Pc) (w : World) (hx : RdP w A ps) (hn : ps.length ≤ 4294967296) (hk : ∀ p ∈ ps, p.k.length ≤ 4294967296) :
    Calls Try.prog 18 #[.slice A ps.length c] w (MadeP w ps) := by
  obtain ⟨i0, hi, hz0, hz1, hz2⟩ := info_parts Try.infoPiece
  have HX := Lib.hid hx
  have HK := Lib.hid hk
  clear hx hk
  go_enter Try.func18, Try.ntmps18
  go_wp2_with (first
    | (at_make
       refine wpList_make_full _ rfl _ _ 32 rfl w.heap.size 78 i0 _ 3 Try.underlying32 hi hz0 hz1 .i64 .i64 (ps.length : Int) (ps.length : Int) ps.length rfl rfl rfl rfl (by rw [hz2]; omega) (by unfold maxLen; omega) (Nat.le_refl _) ?_
       intro w0 hown0 hg0
       have hb0 := (Below.refl w.heap.size w).grown hg0 (Nat.le_refl _) (fun g hg => by cases hg)))
  go_loopw [4] (fun i wr => ∃ (k : Nat) (ys : List Value) (xs : List PcX), k ≤ ps.length ∧ i = .int .i64 k ∧ ys.length ≤ ps.length * 3 ∧ ps.length * 3 ≤ ys.length ∧ Hid (xs.map PcX.p = ps.take k) ∧ Hid (ys.take (k * 3) = pxCells xs) ∧ wr.ownsRow w.heap.size 78 3 (.slice (some ⟨w.heap.size, 0, none⟩) ps.length ps.length) ps.length ys ∧
      Hid (∀ x ∈ xs, wr.ownsRow w.heap.size 3 1 x.v x.p.k.length (x.p.k.map (Value.int .i64))) ∧ Hid (xs.Pairwise Apart) ∧ Below w.heap.size w wr) (fun i _ => ps.length - (intOf i).toNat)
  case atStart =>
    have := hown0.1
    exact ⟨0, _, [], Nat.zero_le _, rfl, by omega, by omega, Lib.hid rfl, Lib.hid (by simp [pxCells]), hown0, Lib.hid (by simp), Lib.hid List.Pairwise.nil, hb0⟩
  case round =>
    obtain ⟨k, ys, xs, hk, rfl, hy1, hy2, HM, HT, hown, HR, HA, hb⟩ := hrel
    clear hown0 hg0 hb0
    by_cases hlt : k < ps.length
    · obtain ⟨b, o, Kk, ck, rfl, c0, c1, c2, hrk⟩ := (RdP.keep HX.out hb).at_ hlt
      have hkl := HK.out ps[k] (List.getElem_mem hlt)
      obtain ⟨pk, hpk⟩ : ∃ pk, ps[k] = pk := ⟨_, rfl⟩
      rw [hpk] at c0 c1 c2 hkl hrk
      have HPK := Lib.hid hpk
      have T := Lib.hid (toPiece_any pk Kk ck wr hrk hkl)
      have k0 : (0 : Int) ≤ (k : Int) := by omega
      have k1 : (k : Int) < (ps.length : Int) := by omega
      clear hpk hrk
      go_wp2_with fail
      refine T.out.mono ?_
      rintro e w1 ⟨K1, d1, rfl, ho1, hb1⟩
      have hown1 := own_below hown hb1
      obtain ⟨u0, u1, u2, e0, e1, e2, f0, f1, f2⟩ := own3 hown1 hlt
      have hst := own3_stored hown1 k (.int .i64 pk.op) (.int .u8 pk.l) (.slice K1 pk.k.length d1)
      have HS := Lib.hid hst
      have HB := Lib.hid (below_step hb hb1)
      have hsz := hb.size
      have HNew : Hid ((((w1.setCell ⟨w.heap.size, k * 3, none⟩ (.int .i64 pk.op)).setCell ⟨w.heap.size, k * 3 + 1, none⟩ (.int .u8 pk.l)).setCell ⟨w.heap.size, k * 3 + 2, none⟩ (.slice K1 pk.k.length d1)).ownsRow w.heap.size 3 1 (.slice K1 pk.k.length d1) pk.k.length (pk.k.map (Value.int .i64))) :=
        Lib.hid (own_mono (ownsRow_setCell_below (ownsRow_setCell_below (ownsRow_setCell_below ho1 (by have := blk_of_own hown (by omega); simp; omega) _) (by have := blk_of_own hown (by omega); simp; omega) _) (by have := blk_of_own hown (by omega); simp; omega) _) hsz)
      have HOld : Hid (∀ x ∈ xs, (((w1.setCell ⟨w.heap.size, k * 3, none⟩ (.int .i64 pk.op)).setCell ⟨w.heap.size, k * 3 + 1, none⟩ (.int .u8 pk.l)).setCell ⟨w.heap.size, k * 3 + 2, none⟩ (.slice K1 pk.k.length d1)).ownsRow w.heap.size 3 1 x.v x.p.k.length (x.p.k.map (Value.int .i64))) := Lib.hid (fun x hx => by
        have h0 := own_below (HR.out x hx) hb1
        have t0 := hown1.stored (k * 3) (.int .i64 pk.op)
        have h1 := own_set_row h0 hown1 (by decide) (k * 3) (.int .i64 pk.op)
        have t1 := t0.1.stored (k * 3 + 1) (.int .u8 pk.l)
        have h2 := own_set_row h1 t0.1 (by decide) (k * 3 + 1) (.int .u8 pk.l)
        exact own_set_row h2 t1.1 (by decide) (k * 3 + 2) (.slice K1 pk.k.length d1))
      have HApp : Hid ((xs ++ [(⟨pk, K1, d1⟩ : PcX)]).Pairwise Apart) := Lib.hid (by
        rw [List.pairwise_append]
        refine ⟨HA.out, List.pairwise_singleton _ _, fun x hx y hy => ?_⟩
        simp only [List.mem_cons, List.not_mem_nil, or_false] at hy
        subst hy
        unfold Apart
        cases hv : x.v.ownBlock with
        | none => exact .inl rfl
        | some r =>
          refine .inr fun e => ?_
          have h3 := ((HR.out x hx).lt r hv).2
          have h4 := (ho1.lt r e.symm).1
          omega)
      clear hst hown hown1 hb hb1 c0 c1 c2 T ho1
      go_wp2
      go_roundw
      case rel =>
        refine ⟨k + 1, _, xs ++ [(⟨pk, K1, d1⟩ : PcX)], by omega, by go_num, ?_, ?_, ?_, ?_, HS.out.1, ?_, HApp, HB.out.grown HS.out.2 HB.out.size (fun g hg => by cases hg; exact Nat.le_refl _)⟩
        · simp; omega
        · simp; omega
        · show _ = _
          rw [List.map_append, HM.out, List.take_succ_eq_append_getElem hlt, HPK.out]
          rfl
        · show _ = _
          rw [take_set3 ys k _ _ _ (by omega), HT.out, pxCells_append]
          simp [pxCells, PcX.cells, PcX.v]
        · refine Lib.hid (fun x hx => ?_)
          rcases List.mem_append.1 hx with hx | hx
          · exact HOld.out x hx
          · simp only [List.mem_cons, List.not_mem_nil, or_false] at hx
            subst hx
            exact HNew.out
      case measure => simp [intOf]; omega
    · obtain rfl : k = ps.length := by omega
      have hM := HM.out
      rw [List.take_of_length_le (Nat.le_refl _)] at hM
      have hT := HT.out
      rw [List.take_of_length_le (by omega)] at hT
      have hlen : xs.length = ps.length := by rw [← hM]; simp
      have HF : Hid (OwnP wr w.heap.size (some ⟨w.heap.size, 0, none⟩) ps.length ps) := Lib.hid ⟨xs, hM, by rw [hlen, ← hT]; exact hown, HR.out, HA.out⟩
      clear hM hT hlen hown
      go_wp2
      go_ret
      exact ⟨_, _, rfl, HF.out, hb⟩

/-- What a call that makes a path leaves. -/
def MadePath (w : World) (ps : List Pc) (e : Ending) (w' : World) : Prop := ∃ A c, e = .returned (.agg #[.slice A ps.length c]) ∧ OwnP w' w.heap.size A c ps ∧ Below w.heap.size w w'
end Go.Proofs.Ytjlekcoikceidaa
