/- Slices of graphs: in memory, copied, sized, compared; opened. No conditions but the lengths. -/
import Derived.Test.YtlnphcongijfiaaGraph
import Derived.Test.YtlnphcongijfiaaMark
import Derived.Test.YtlnphcongijfiaaTouch
import Derived.Test.YtlnphcongijfiaaBelowQ
import Derived.Test.YtlnphcongijfiaaGraphOk
import Derived.Test.YtlnphcongijfiaaOpenGraph
namespace Go.Proofs.Ytlnphcongijfiaa
open Go.ChangeShapes Go.WideShapes Go.ChangeAt Go.RowKit Go.Joins Go.Deep

/-- A graph: its size and its edges. -/
structure Gr where
  s : Int
  e : List Ed
instance : Inhabited Gr := ⟨⟨0, []⟩⟩
theorem gr_ext {p q : Gr} (h1 : p.s = q.s) (h2 : p.e = q.e) : p = q := by cases p; cases q; simp_all
/-- A graph with the place and the capacity of its edges. -/
structure GrX where
  p : Gr
  K : Option Addr
  c : Nat
def GrX.v (x : GrX) : Value := .slice x.K x.p.e.length x.c
def GrX.cells (x : GrX) : List Value := [.int .i64 x.p.s, x.v]
def gxCells (xs : List GrX) : List Value := xs.flatMap GrX.cells
theorem gxCells_len : ∀ xs : List GrX, (gxCells xs).length = xs.length * 2
  | [] => rfl
  | x :: xs => by
    have := gxCells_len xs
    simp only [gxCells, List.flatMap_cons, List.length_append, List.length_cons] at this ⊢
    simp only [GrX.cells, List.length_cons, List.length_nil]
    omega
theorem gxCells_append (xs ys : List GrX) : gxCells (xs ++ ys) = gxCells xs ++ gxCells ys := by simp [gxCells]
theorem gxCells_at : ∀ (xs : List GrX) (i : Nat) (h : i < xs.length), (gxCells xs)[i * 2]? = some (.int .i64 xs[i].p.s) ∧ (gxCells xs)[i * 2 + 1]? = some xs[i].v
  | [], i, h => absurd h (by simp)
  | x :: xs, 0, _ => by simp [gxCells, GrX.cells]
  | x :: xs, i + 1, h => by
    have ih := gxCells_at xs i (by simpa using h)
    have e : gxCells (x :: xs) = [.int .i64 x.p.s, x.v] ++ gxCells xs := by simp [gxCells, GrX.cells]
    rw [e, show (i + 1) * 2 = i * 2 + 2 by omega, show i * 2 + 2 + 1 = i * 2 + 1 + 2 by omega]
    simpa using ih
/-- A slice of graphs reads as ps. -/
def RdG (w : World) (A : Option Addr) (ps : List Gr) : Prop := ∃ xs : List GrX, xs.map GrX.p = ps ∧ Rd w 2 A ps.length (gxCells xs) ∧ ∀ x ∈ xs, RdE w x.K x.p.e
theorem RdG.keep {w w' : World} {A : Option Addr} {ps : List Gr} (h : RdG w A ps) (hb : Below w.heap.size w w') : RdG w' A ps := by
  obtain ⟨xs, h1, h2, h3⟩ := h
  exact ⟨xs, h1, Rd.below h2 hb, fun x hx => RdE.below (h3 x hx) hb⟩
theorem RdG.at_ {w : World} {A : Option Addr} {ps : List Gr} {k : Nat} (h : RdG w A ps) (hk : k < ps.length) :
    ∃ b o K c, A = some ⟨b, o, none⟩ ∧ w.cell? ⟨b, o + k * 2, none⟩ = some (.int .i64 ps[k].s) ∧ w.cell? ⟨b, o + k * 2 + 1, none⟩ = some (.slice K ps[k].e.length c) ∧ RdE w K ps[k].e := by
  obtain ⟨xs, h1, h2, h3⟩ := h
  subst h1
  have hk' : k < xs.length := by simpa using hk
  obtain ⟨ad, rfl, hc⟩ := h2.2 (by omega)
  obtain ⟨c0, c1⟩ := gxCells_at xs k hk'
  have d0 := hc _ _ c0
  have d1 := hc _ _ c1
  simp only [List.getElem_map]
  have cz := hc 0 _ (gxCells_at xs 0 (by omega)).1
  obtain ⟨b, off, spot⟩ := ad
  have hspot : spot = none := by simpa [Addr.add] using World.cell?_spot cz
  subst hspot
  have hp : ∀ j, (⟨b, off, none⟩ : Addr).add j = ⟨b, off + j, none⟩ := by intro j; unfold Addr.add; split <;> simp_all
  rw [hp] at d0 d1
  exact ⟨b, off, xs[k].K, xs[k].c, rfl, d0, by rw [Nat.add_assoc]; exact d1, h3 _ (List.getElem_mem hk')⟩

/-- The two cells of element k of a row of the call's own. -/
theorem own2 {w : World} {base : Nat} {e : TypeId} {g n cap : Nat} {ys : List Value} (h : w.ownsRow base e 2 (.slice (some ⟨g, 0, none⟩) n cap) n ys) {k : Nat} (hk : k < n) :
    ∃ u0 u1, w.cell? ⟨g, k * 2, none⟩ = some u0 ∧ w.cell? ⟨g, k * 2 + 1, none⟩ = some u1 ∧ w.frozen? ⟨g, k * 2, none⟩ = false ∧ w.frozen? ⟨g, k * 2 + 1, none⟩ = false := by
  have hl := h.1
  have c : ∀ j, j < n * 2 → w.cell? ⟨g, j, none⟩ = some (ys.getD j undef) := fun j hj => by
    rw [h.cellAt j hj]
    simp [List.getD, List.getElem?_eq_getElem (show j < ys.length by omega)]
  exact ⟨_, _, c _ (by omega), c _ (by omega), h.frozenAt _, h.frozenAt _⟩
theorem own2_stored {w : World} {base : Nat} {e : TypeId} {g n cap : Nat} {ys : List Value} (h : w.ownsRow base e 2 (.slice (some ⟨g, 0, none⟩) n cap) n ys) (k : Nat) (a b : Value) :
    ((w.setCell ⟨g, k * 2, none⟩ a).setCell ⟨g, k * 2 + 1, none⟩ b).ownsRow base e 2 (.slice (some ⟨g, 0, none⟩) n cap) n ((ys.set (k * 2) a).set (k * 2 + 1) b) ∧
      w.grownBy ((w.setCell ⟨g, k * 2, none⟩ a).setCell ⟨g, k * 2 + 1, none⟩ b) (some g) := by
  have h1 := h.stored (k * 2) a
  have h2 := h1.1.stored (k * 2 + 1) b
  exact ⟨h2.1, h1.2.trans h2.2⟩
theorem take_set2 (ys : List Value) (k : Nat) (a b : Value) (h : k * 2 + 1 < ys.length) :
    ((ys.set (k * 2) a).set (k * 2 + 1) b).take ((k + 1) * 2) = ys.take (k * 2) ++ [a, b] := by
  rw [show (k + 1) * 2 = k * 2 + 1 + 1 by omega]
  rw [List.take_succ_eq_append_getElem (by simp; omega), List.take_succ_eq_append_getElem (by simp; omega)]
  simp [List.take_set_of_le]
theorem own_set_row {w : World} {b b' : Nat} {e e' : TypeId} {sz sz' : Nat} {v : Value} {m n c g : Nat} {ys ys' : List Value} (h : w.ownsRow b e sz v m ys) (ho : w.ownsRow b' e' sz' (.slice (some ⟨g, 0, none⟩) n c) n ys') (ht : e' ≠ e) (j : Nat) (u : Value) :
    (w.setCell ⟨g, j, none⟩ u).ownsRow b e sz v m ys := by
  refine h.kept (row := some g) ⟨rfl, rfl, rfl, by simp [World.setCell], fun i _ hi => Below.heap_setCell _ _ _ _ (fun h => hi (by rw [h]))⟩ ?_
  rcases ho.2 with ⟨h0, _⟩ | ⟨g', cap, cur, hv, _, hg, _⟩
  · cases h0
  · injection hv with e1 _ _
    injection e1 with e1
    injection e1 with e1
    subst e1
    rcases h.2 with ⟨rfl, _⟩ | ⟨g2, cap2, cur2, rfl, _, hg2, _⟩
    · exact .inl (by simp [Value.ownBlock])
    · refine .inr fun hr => ?_
      simp only [Value.ownBlock, Option.some.injEq] at hr
      subst hr
      rw [hg] at hg2
      injection hg2 with hg2
      injection hg2 with _ h2 _
      exact ht h2
theorem blk_of_own {w : World} {base : Nat} {e : TypeId} {k g n c : Nat} {xs : List Value} (h : w.ownsRow base e k (.slice (some ⟨g, 0, none⟩) n c) n xs) (_hn : 0 < n) : g < w.heap.size := (h.lt g rfl).2

/-- Two rows are not one block. -/
def ApartG (x y : GrX) : Prop := x.v.ownBlock = none ∨ x.v.ownBlock ≠ y.v.ownBlock
/-- A slice of graphs is the call's own, edges and all. -/
structure OwnGx (w : World) (base : Nat) (A : Option Addr) (c : Nat) (xs : List GrX) : Prop where
  row : w.ownsRow base 44 2 (.slice A xs.length c) xs.length (gxCells xs)
  kids : ∀ x ∈ xs, w.ownsRow base 62 3 x.v x.p.e.length (edCells x.p.e)
  apart : xs.Pairwise ApartG
def OwnG (w : World) (base : Nat) (A : Option Addr) (c : Nat) (ps : List Gr) : Prop := ∃ xs, xs.map GrX.p = ps ∧ OwnGx w base A c xs
theorem OwnG.keep {w w' : World} {base c : Nat} {A : Option Addr} {ps : List Gr} (h : OwnG w base A c ps) (hb : Below w.heap.size w w') : OwnG w' base A c ps := by
  obtain ⟨xs, h1, h2⟩ := h
  exact ⟨xs, h1, own_below h2.row hb, fun x hx => own_below (h2.kids x hx) hb, h2.apart⟩
theorem OwnG.rd {w : World} {base c : Nat} {A : Option Addr} {ps : List Gr} (h : OwnG w base A c ps) : RdG w A ps := by
  obtain ⟨xs, h1, h2⟩ := h
  subst h1
  refine ⟨xs, rfl, ?_, fun x hx => Rd.of_own (h2.kids x hx)⟩
  rw [List.length_map]
  exact Rd.of_own h2.row
theorem Try.infoGraph : (Try.prog.info? 44).map (fun i => (i.zero, i.size, i.bytes)) = some (some (.agg #[.int .i64 0, .slice none 0 0]), 2, 32) := by kernel_rfl
/-- What a call that makes a slice of graphs leaves. -/
def MadeGS (w : World) (ps : List Gr) (e : Ending) (w' : World) : Prop := ∃ A c, e = .returned (.slice A ps.length c) ∧ OwnG w' w.heap.size A c ps ∧ Below w.heap.size w w'
set_option maxRecDepth 100000 in
set_option maxHeartbeats 3200000 in
theorem toGraphS_any (A : Option Addr) (c : Nat) (ps : List Gr) (w : World) (hx : RdG w A ps) (hn : ps.length ≤ 4294967296) (hk : ∀ p ∈ ps, p.e.length ≤ 4294967296) :
    Calls Try.prog 21 #[.slice A ps.length c] w (MadeGS w ps) := by
  obtain ⟨i0, hi, hz0, hz1, hz2⟩ := info_parts Try.infoGraph
  have HX := Lib.hid hx
  have HK := Lib.hid hk
  clear hx hk
  go_enter Try.func21, Try.ntmps21
  go_wp2_with (first
    | (at_make
       refine wpList_make_full _ rfl _ _ 47 rfl w.heap.size 44 i0 _ 2 Try.underlying47 hi hz0 hz1 .i64 .i64 (ps.length : Int) (ps.length : Int) ps.length rfl rfl rfl rfl (by rw [hz2]; omega) (by unfold maxLen; omega) (Nat.le_refl _) ?_
       intro w0 hown0 hg0
       have hb0 := (Below.refl w.heap.size w).grown hg0 (Nat.le_refl _) (fun g hg => by cases hg)))
  go_loopw [4] (fun i wr => ∃ (k : Nat) (ys : List Value) (xs : List GrX), k ≤ ps.length ∧ i = .int .i64 k ∧ ys.length ≤ ps.length * 2 ∧ ps.length * 2 ≤ ys.length ∧ Hid (xs.map GrX.p = ps.take k) ∧ Hid (ys.take (k * 2) = gxCells xs) ∧ wr.ownsRow w.heap.size 44 2 (.slice (some ⟨w.heap.size, 0, none⟩) ps.length ps.length) ps.length ys ∧
      Hid (∀ x ∈ xs, wr.ownsRow w.heap.size 62 3 x.v x.p.e.length (edCells x.p.e)) ∧ Hid (xs.Pairwise ApartG) ∧ Below w.heap.size w wr) (fun i _ => ps.length - (intOf i).toNat)
  case atStart =>
    have := hown0.1
    exact ⟨0, _, [], Nat.zero_le _, rfl, by omega, by omega, Lib.hid rfl, Lib.hid (by simp [gxCells]), hown0, Lib.hid (by simp), Lib.hid List.Pairwise.nil, hb0⟩
  case round =>
    obtain ⟨k, ys, xs, hk, rfl, hy1, hy2, HM, HT, hown, HR, HA, hb⟩ := hrel
    clear hown0 hg0 hb0
    by_cases hlt : k < ps.length
    · obtain ⟨b, o, Kk, ck, rfl, c0, c1, hrk⟩ := (RdG.keep HX.out hb).at_ hlt
      have hkl := HK.out ps[k] (List.getElem_mem hlt)
      obtain ⟨pk, hpk⟩ : ∃ pk, ps[k] = pk := ⟨_, rfl⟩
      rw [hpk] at c0 c1 hkl hrk
      have HPK := Lib.hid hpk
      have T := Lib.hid (toGraph_any pk.s Kk ck pk.e wr hrk hkl)
      have k0 : (0 : Int) ≤ (k : Int) := by omega
      have k1 : (k : Int) < (ps.length : Int) := by omega
      clear hpk hrk
      go_wp2_with fail
      refine T.out.mono ?_
      rintro e w1 ⟨K1, d1, rfl, ho1, hb1⟩
      have hown1 := own_below hown hb1
      obtain ⟨u0, u1, e0, e1, f0, f1⟩ := own2 hown1 hlt
      have hst := own2_stored hown1 k (.int .i64 pk.s) (.slice K1 pk.e.length d1)
      have HS := Lib.hid hst
      have HB := Lib.hid (below_step hb hb1)
      have hsz := hb.size
      have HNew : Hid (((w1.setCell ⟨w.heap.size, k * 2, none⟩ (.int .i64 pk.s)).setCell ⟨w.heap.size, k * 2 + 1, none⟩ (.slice K1 pk.e.length d1)).ownsRow w.heap.size 62 3 (.slice K1 pk.e.length d1) pk.e.length (edCells pk.e)) :=
        Lib.hid (own_mono (ownsRow_setCell_below (ownsRow_setCell_below ho1 (by have := blk_of_own hown (by omega); simp; omega) _) (by have := blk_of_own hown (by omega); simp; omega) _) hsz)
      have HOld : Hid (∀ x ∈ xs, ((w1.setCell ⟨w.heap.size, k * 2, none⟩ (.int .i64 pk.s)).setCell ⟨w.heap.size, k * 2 + 1, none⟩ (.slice K1 pk.e.length d1)).ownsRow w.heap.size 62 3 x.v x.p.e.length (edCells x.p.e)) := Lib.hid (fun x hx => by
        have h0 := own_below (HR.out x hx) hb1
        have t0 := hown1.stored (k * 2) (.int .i64 pk.s)
        have h1 := own_set_row h0 hown1 (by decide) (k * 2) (.int .i64 pk.s)
        exact own_set_row h1 t0.1 (by decide) (k * 2 + 1) (.slice K1 pk.e.length d1))
      have HApp : Hid ((xs ++ [(⟨pk, K1, d1⟩ : GrX)]).Pairwise ApartG) := Lib.hid (by
        rw [List.pairwise_append]
        refine ⟨HA.out, List.pairwise_singleton _ _, fun x hx y hy => ?_⟩
        simp only [List.mem_cons, List.not_mem_nil, or_false] at hy
        subst hy
        unfold ApartG
        cases hv : x.v.ownBlock with
        | none => exact .inl rfl
        | some r =>
          refine .inr fun e => ?_
          have h3 := ((HR.out x hx).lt r hv).2
          have h4 := (ho1.lt r e.symm).1
          omega)
      clear hst hown hown1 hb hb1 c0 c1 T ho1
      go_wp2
      go_roundw
      case rel =>
        refine ⟨k + 1, _, xs ++ [(⟨pk, K1, d1⟩ : GrX)], by omega, by go_num, ?_, ?_, ?_, ?_, HS.out.1, ?_, HApp, HB.out.grown HS.out.2 HB.out.size (fun g hg => by cases hg; exact Nat.le_refl _)⟩
        · simp; omega
        · simp; omega
        · show _ = _
          rw [List.map_append, HM.out, List.take_succ_eq_append_getElem hlt, HPK.out]
          rfl
        · show _ = _
          rw [take_set2 ys k _ _ (by omega), HT.out, gxCells_append]
          simp [gxCells, GrX.cells, GrX.v]
        · refine Lib.hid (fun x hx => ?_)
          rcases List.mem_append.1 hx with hx | hx
          · exact HOld.out x hx
          · simp only [List.mem_cons, List.not_mem_nil, or_false] at hx
            subst hx
            exact HNew.out
      case measure => simp [intOf]; omega
    · obtain rfl : k = ps.length := by omega
      have hM := HM.out
      rw [List.take_of_length_le (Nat.le_refl _)] at hM
      have hT := HT.out
      rw [List.take_of_length_le (by omega)] at hT
      have hlen : xs.length = ps.length := by rw [← hM]; simp
      have HF : Hid (OwnG wr w.heap.size (some ⟨w.heap.size, 0, none⟩) ps.length ps) := Lib.hid ⟨xs, hM, by rw [hlen, ← hT]; exact hown, HR.out, HA.out⟩
      clear hM hT hlen hown
      go_wp2
      go_ret
      exact ⟨_, _, rfl, HF.out, hb⟩

/-- How many edges there are. -/
def sumG (ps : List Gr) : Nat := (ps.map fun p => p.e.length).sum
theorem sumG_next {ps : List Gr} {k : Nat} (h : k < ps.length) : sumG (ps.take (k + 1)) = sumG (ps.take k) + ps[k].e.length := by
  unfold sumG
  rw [List.take_succ_eq_append_getElem h, List.map_append, List.sum_append]
  simp
theorem sumG_le (ps : List Gr) (k : Nat) : sumG (ps.take k) ≤ sumG ps := by
  have h : sumG ps = sumG (ps.take k) + sumG (ps.drop k) := by
    unfold sumG
    rw [← List.sum_append, ← List.map_append, List.take_append_drop]
  omega
theorem sumG_mem {ps : List Gr} {p : Gr} (h : p ∈ ps) : p.e.length ≤ sumG ps := by
  obtain ⟨i, hi, rfl⟩ := List.getElem_of_mem h
  have h1 := sumG_next hi
  have h2 := sumG_le ps (i + 1)
  omega
def szG (ps : List Gr) (left : Int) : Int := if (ps.length : Int) + sumG ps ≤ left then left - ps.length - sumG ps else -1
theorem szG_yes {ps : List Gr} {left : Int} (h : (ps.length : Int) + sumG ps ≤ left) : szG ps left = left - ps.length - sumG ps := if_pos h
theorem szG_no {ps : List Gr} {left : Int} (h : ¬ (ps.length : Int) + sumG ps ≤ left) : szG ps left = -1 := if_neg h
set_option maxRecDepth 100000 in
set_option maxHeartbeats 1600000 in
theorem szGraphS_any (A : Option Addr) (c : Nat) (ps : List Gr) (left : Int) (w : World) (hx : RdG w A ps) (hl : 0 ≤ left ∧ left ≤ 4611686018427387904) (hn : ps.length ≤ 9223372036854775807) (hk : ∀ p ∈ ps, p.e.length ≤ 9223372036854775807) :
    Calls Try.prog 19 #[.slice A ps.length c, .int .i64 left] w fun e w' => e = .returned (.int .i64 (szG ps left)) ∧ Below w.heap.size w w' := by
  have HX := Lib.hid hx
  have HK := Lib.hid hk
  clear hx hk
  obtain ⟨h0, h1⟩ := hl
  by_cases h : (ps.length : Int) ≤ left
  · go_enter Try.func19, Try.ntmps19
    go_wp2
    go_loopw [1, 5] (fun v i wr => ∃ k z : Nat, k ≤ ps.length ∧ i = .int .i64 k ∧ v = .int .i64 (left - ps.length - z) ∧ Hid (z = sumG (ps.take k)) ∧ (ps.length : Int) + z ≤ left ∧ Below w.heap.size w wr) (fun _ i _ => ps.length - (intOf i).toNat)
    case atStart => exact ⟨0, 0, Nat.zero_le _, rfl, by simp, Lib.hid rfl, by omega, Below.refl _ _⟩
    case round =>
      obtain ⟨k, z, hk, rfl, rfl, HZ, hzl, hb⟩ := hrel
      by_cases hlt : k < ps.length
      · obtain ⟨b, o, Kk, ck, rfl, c0, c1, hrk⟩ := (RdG.keep HX.out hb).at_ hlt
        have hkl := HK.out ps[k] (List.getElem_mem hlt)
        have hsn := sumG_next hlt
        have hsl := sumG_le ps (k + 1)
        obtain ⟨pk, hpk⟩ : ∃ pk, ps[k] = pk := ⟨_, rfl⟩
        rw [hpk] at c0 c1 hkl hsn
        rw [← HZ.out] at hsn
        clear hrk hpk
        obtain ⟨L, hL⟩ : ∃ L : Int, left - ps.length - z = L := ⟨_, rfl⟩
        have hL0 : 0 ≤ L := by omega
        have hL1 : L ≤ 4611686018427387904 := by omega
        have T := Lib.hid (fun w => szGraph_any pk.s Kk pk.e.length ck L w ⟨hL0, hL1⟩ hkl)
        have k0 : (0 : Int) ≤ (k : Int) := by omega
        have k1 : (k : Int) < (ps.length : Int) := by omega
        have HSN := Lib.hid hsn
        have HLL := Lib.hid hL
        rw [hL]
        clear hsn hL
        by_cases hfit : (pk.e.length : Int) ≤ L
        · rw [if_pos hfit] at T
          go_wp2_with fail
          refine (T.out _).mono ?_
          rintro e w1 ⟨rfl, hb1⟩
          go_wp2
          go_roundw
          case rel =>
            have e1 := HSN.out
            have e2 := HLL.out
            exact ⟨k + 1, sumG (ps.take (k + 1)), by omega, by go_num, by rw [e1, ← e2]; congr 1; push_cast; omega, Lib.hid rfl, by omega, below_step hb hb1⟩
          case measure => simp [intOf]; omega
        · rw [if_neg hfit] at T
          go_wp2_with fail
          refine (T.out _).mono ?_
          rintro e w1 ⟨rfl, hb1⟩
          go_wp2
          go_ret
          refine ⟨?_, below_step hb hb1⟩
          have e1 := HSN.out
          have e2 := HLL.out
          rw [szG_no (by omega)]
          rfl
      · obtain rfl : k = ps.length := by omega
        have hz := HZ.out
        rw [List.take_of_length_le (Nat.le_refl _)] at hz
        subst hz
        go_wp2
        go_ret
        exact ⟨by rw [szG_yes hzl]; rfl, hb⟩
  · rw [szG_no (by omega)]
    go_enter Try.func19, Try.ntmps19
    go_wp2
    go_ret
    exact ⟨rfl, Below.refl _ _⟩

theorem eqGraph_pp (p q : Gr) (A B : Option Addr) (c d : Nat) (w : World) (hx : RdE w A p.e) (hy : RdE w B q.e) (hn : p.e.length ≤ 4294967296) (hm : q.e.length ≤ 4294967296) :
    Calls Try.prog 23 #[.agg #[.int .i64 p.s, .slice A p.e.length c], .agg #[.int .i64 q.s, .slice B q.e.length d]] w fun e w' => e = .returned (.bool (PP (p = q))) ∧ Below w.heap.size w w' := by
  have e : (decide (p.s = q.s) && eqE p.e q.e) = PP (p = q) := by
    by_cases h : p = q
    · subst h; rw [PP_yes rfl, eqE_yes rfl]; simp
    · rw [PP_no h]
      by_cases h1 : p.s = q.s
      · rw [eqE_no (fun h2 => h (gr_ext h1 h2))]; simp
      · simp [h1]
  rw [← e]
  exact eqGraph_any p.s q.s A B c d p.e q.e w hx hy hn hm
set_option maxRecDepth 100000 in
set_option maxHeartbeats 3200000 in
theorem eqGraphS_any (A B : Option Addr) (c d : Nat) (ps qs : List Gr) (w : World) (hx : RdG w A ps) (hy : RdG w B qs) (hn : ps.length ≤ 4294967296) (hk : ∀ p ∈ ps, p.e.length ≤ 4294967296) (hk2 : ∀ p ∈ qs, p.e.length ≤ 4294967296) :
    Calls Try.prog 24 #[.slice A ps.length c, .slice B qs.length d] w fun e w' => e = .returned (.bool (PP (ps = qs))) ∧ Below w.heap.size w w' := by
  have HX := Lib.hid hx
  have HY := Lib.hid hy
  have HK := Lib.hid hk
  have HK2 := Lib.hid hk2
  clear hx hy hk hk2
  by_cases hnm : ps.length = qs.length
  · have b1 : ((ps.length : Int) != (qs.length : Int)) = false := by rw [bne_eq_false_iff_eq]; omega
    have l1 : ps.length ≤ qs.length := by omega
    have l2 : qs.length ≤ ps.length := by omega
    clear hnm
    go_enter Try.func24, Try.ntmps24
    go_wp2
    go_loopw [5] (fun i wr => ∃ k : Nat, k ≤ ps.length ∧ i = .int .i64 k ∧ Hid (ps.take k = qs.take k) ∧ Below w.heap.size w wr) (fun i _ => ps.length - (intOf i).toNat)
    case atStart => exact ⟨0, Nat.zero_le _, rfl, by show _ = _; simp, Below.refl _ _⟩
    case round =>
      obtain ⟨k, hk, rfl, HE, hb⟩ := hrel
      by_cases hlt : k < ps.length
      · have hlt2 : k < qs.length := by omega
        obtain ⟨b, o, K1, d1, rfl, c0, c1, r1⟩ := (RdG.keep HX.out hb).at_ hlt
        obtain ⟨b', o', K2, d2, rfl, c0', c1', r2⟩ := (RdG.keep HY.out hb).at_ hlt2
        have hkl := HK.out ps[k] (List.getElem_mem hlt)
        have hkl2 := HK2.out qs[k] (List.getElem_mem hlt2)
        obtain ⟨x, hxx⟩ : ∃ x, ps[k] = x := ⟨_, rfl⟩
        obtain ⟨y, hyy⟩ : ∃ y, qs[k] = y := ⟨_, rfl⟩
        rw [hxx] at c0 c1 r1 hkl
        rw [hyy] at c0' c1' r2 hkl2
        have EX := Lib.hid hxx
        have EY := Lib.hid hyy
        clear hxx hyy
        have k0 : (0 : Int) ≤ (k : Int) := by omega
        have k1 : (k : Int) < (ps.length : Int) := by omega
        have k2 : (k : Int) < (qs.length : Int) := by omega
        have R1 := Lib.hid (fun p : BelowOf wr => RdE.below r1 p.h)
        have R2 := Lib.hid (fun p : BelowOf wr => RdE.below r2 p.h)
        have T := Lib.hid (fun w h1 h2 => eqGraph_pp x y K1 K2 d1 d2 w h1 h2 hkl hkl2)
        obtain ⟨r, hr⟩ : ∃ r, PP (x = y) = r := ⟨_, rfl⟩
        rw [hr] at T
        have HR := Lib.hid hr
        have c0 := fun p => cellQ c0 p
        have c1 := fun p => cellQ c1 p
        have c0' := fun p => cellQ c0' p
        have c1' := fun p => cellQ c1' p
        clear hr r1 r2
        go_wp2_with fail
        refine wp_region_below (by kernel_rfl) (by kernel_rfl) ?_
        repeat (first
          | go_big_quiet_step ((go_at_call 23; exact Calls.below_of (T.out _ (R1.out _) (R2.out _))))
          | quiet_step ((go_at_call 23; exact Calls.below_of (T.out _ (R1.out _) (R2.out _)))))
        refine wpQuiet_nil ?_
        intro _ hw'
        obtain ⟨⟨w5, kk⟩, hw''⟩ := hw'
        subst hw''
        have hb5 := below_step hb kk
        clear c0 c1 c0' c1'
        cases r
        · go_wp2
          go_ret
          refine ⟨ret_b2 (PP_no fun h => ?_).symm, hb5⟩
          have h1 : ps[k] = qs[k] := by subst h; rfl
          rw [EX.out, EY.out] at h1
          have h2 := HR.out
          rw [PP_yes h1] at h2
          cases h2
        · go_wp2
          go_roundw
          case rel =>
            refine ⟨k + 1, by omega, by go_num, ?_, hb5⟩
            show _ = _
            have h2 : x = y := by
              have := HR.out
              unfold PP at this
              exact @of_decide_eq_true _ (Classical.propDecidable _) this
            rw [List.take_succ_eq_append_getElem hlt, List.take_succ_eq_append_getElem hlt2, HE.out, EX.out, EY.out, h2]
          case measure => simp [intOf]; omega
      · obtain rfl : k = ps.length := by omega
        go_wp2
        go_ret
        refine ⟨ret_b2 (PP_yes ?_).symm, hb⟩
        have := HE.out
        rw [List.take_of_length_le (Nat.le_refl _), List.take_of_length_le l2] at this
        exact this
  · have b1 : ((ps.length : Int) != (qs.length : Int)) = true := by rw [bne_iff_ne]; omega
    rw [PP_no (fun h => hnm (by rw [h]))]
    clear hnm
    go_enter Try.func24, Try.ntmps24
    go_wp2
    go_ret
    exact ⟨rfl, Below.refl _ _⟩

section
variable {H : Type} {enc : TypeId × Value → H} {w : World} {base : Nat} {spare : Nat → Bool} {held : Bool}
/-- The parts of a graph are in their kinds' ranges. -/
def Gr.ok (p : Gr) : Prop := (-9223372036854775808 ≤ p.s ∧ p.s ≤ 9223372036854775807) ∧ p.e.length ≤ maxLen ∧ ∀ e ∈ p.e, e.ok
theorem Try.cellsEdgeS : Try.prog.cellsOf 99 = 1 := by kernel_rfl
set_option maxRecDepth 100000 in
theorem graph_cells {n : Nat} {cs : List Value} {x : DataW H × List MemPlace} (h : DataW.trod enc Try.prog w base spare held n 101 cs = some x) (hl : cs.length = 2) :
    ∃ e : GrX, cs = e.cells ∧ e.p.ok ∧ RdE w e.K e.p.e := by
  obtain ⟨xs, m, _, _, _, hxl, hf⟩ := DataW.trod_struct Try.underlying101 h
  match cs, hl with
  | [c0, c1], _ =>
    match xs, hxl with
    | [y0, y1], _ =>
      have h0 : DataW.trod enc Try.prog w base spare held m 3 (List.take (Try.prog.cellsOf 3) [c0, c1]) = some y0 := hf 0 _ rfl
      have h1 : DataW.trod enc Try.prog w base spare held m 99 (List.take (Try.prog.cellsOf 99) [c1]) = some y1 := hf 1 _ rfl
      rw [Try.cellsInt] at h0
      rw [Try.cellsEdgeS] at h1
      simp only [List.take] at h0 h1
      obtain ⟨a, e0, _, w0⟩ := DataW.trod_int Try.underlying3 h0
      obtain ⟨A, c, zs, rfl, hr, hlc, hcm, hz⟩ := open_edges h1
      simp at e0
      subst e0
      exact ⟨⟨⟨a, zs⟩, A, c⟩, rfl, ⟨bounds_i64 w0, Nat.le_trans hlc hcm, hz⟩, hr⟩
/-- A slice of graphs as it came in. -/
def GsK (w : World) (v : Value) (ps : List Gr) : Prop := ∃ A c, v = .slice A ps.length c ∧ RdG w A ps ∧ ps.length ≤ c ∧ c ≤ maxLen ∧ ∀ p ∈ ps, p.ok
theorem open_graphs {fuel : Nat} {v : Value} {x : DataW H × List MemPlace} (h : DataW.trod enc Try.prog w base spare held fuel 40 [v] = some x) : ∃ ps, GsK w v ps := by
  rcases open_slice Try.underlying40 h with ⟨hcs, _⟩ | ⟨a, len, cap, m, n, D, Pl, hcs, _, hl, hm, hmm, _, hi⟩
  · simp at hcs
    subst hcs
    exact ⟨[], none, 0, rfl, ⟨[], rfl, ⟨rfl, fun h => absurd h (by simp)⟩, by simp⟩, Nat.le_refl _, by unfold maxLen; omega, by simp⟩
  · simp at hcs
    subst hcs
    have hlm : len ≤ m := by rw [hmm]; split <;> omega
    obtain ⟨es, hes, hp⟩ := list_of (α := GrX) (P := fun i e => (w.cell? (a.add (i * 2)) = some (.int .i64 e.p.s) ∧ w.cell? (a.add (i * 2 + 1)) = some e.v) ∧ e.p.ok ∧ RdE w e.K e.p.e) len (fun i hil => by
      obtain ⟨cs', hc, ht⟩ := hi i (by omega)
      rw [Try.cellsGraph] at hc
      obtain ⟨_, hcl, hat⟩ := World.cells?_some hc
      obtain ⟨e, rfl, hok, hr⟩ := graph_cells ht hcl
      have h0 := hat 0 (by omega)
      have h1 := hat 1 (by omega)
      rw [add_of_add] at h0 h1
      exact ⟨e, ⟨h0, h1⟩, hok, hr⟩)
    subst hes
    refine ⟨es.map GrX.p, some a, cap, by simp, ⟨es, rfl, ⟨by rw [gxCells_len]; simp, fun _ => ⟨a, rfl, fun j u hu => ?_⟩⟩, fun x hx => ?_⟩, by simpa using hl, hm, fun p hp2 => ?_⟩
    · have hj : j < (gxCells es).length := (List.getElem?_eq_some_iff.1 hu).1
      rw [gxCells_len] at hj
      have hk : j / 2 < es.length := by omega
      obtain ⟨⟨c0, c1⟩, _⟩ := hp _ hk
      obtain ⟨g0, g1⟩ := gxCells_at es _ hk
      rcases (by omega : j = j / 2 * 2 ∨ j = j / 2 * 2 + 1) with e | e
      · rw [← e] at c0 g0; rw [c0, ← g0, hu]
      · rw [← e] at c1 g1; rw [c1, ← g1, hu]
    · obtain ⟨i, hi, rfl⟩ := List.getElem_of_mem hx
      exact (hp i hi).2.2
    · obtain ⟨x, hx, rfl⟩ := List.mem_map.1 hp2
      obtain ⟨i, hi, rfl⟩ := List.getElem_of_mem hx
      exact (hp i hi).2.1
set_option maxRecDepth 100000 in
theorem open_gsk {b0 : Nat} {r : Reach} {v : Value} {d : DataW H} {p : List MemPlace}
    (hv : Value.okWide Try.prog w r b0 40 v) (h : DataW.Trod enc Try.prog w base spare held 40 v d p) : ∃ ps, GsK w v ps := by
  obtain ⟨a, l, c, rfl⟩ := okWide_slice Try.underlying40 hv
  obtain ⟨fuel, hf⟩ := h
  exact open_graphs hf
end
end Go.Proofs.Ytlnphcongijfiaa
