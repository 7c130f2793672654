/- slices.Insert of one element. No conditions but the sizes. -/
import Derived.Test.YtlnphcongijfiaaGMem
import Derived.Test.YtlnphcongijfiaaApp
import Derived.Test.YtlnphcongijfiaaBlk
import Derived.Laws.IdiomCopy
import Derived.Shelf.Spec.SlicesInsert
import Derived.Lib.AppendZerosOnto
import Derived.Deep.RegionLaw
namespace Go.Proofs.Ytlnphcongijfiaa
open Go.RowKit

/-- copy, at elements of k cells. -/
theorem run_copy_cellsK {P : Program} (k : Nat) (w : World) (dT sT ty elem : TypeId) (b o dLen dCap : Nat) (a : Addr) (sLen sCap : Nat) (cs : List Value)
    (hu : P.underlying dT = some (.slice elem)) (hs : (P.info? elem).map (·.size) = some k) (hn : cs.length = Nat.min sLen dLen * k)
    (hsrc : ∀ j v, cs[j]? = some v → w.cell? (a.add j) = some v) (hc : ∀ j, j < cs.length → (w.cell? ⟨b, o + j, none⟩).isSome = true) (hf : ∀ j, j < cs.length → w.frozen? ⟨b, o + j, none⟩ = false) (h1 : ∀ v ∈ cs, v.oneCell' = true) :
    (Builtin.copy_ #[dT, sT] ty #[.slice (some ⟨b, o, none⟩) dLen dCap, .slice (some a) sLen sCap]).run P w = .ok (goInt (Nat.min sLen dLen)) (w.setCells b o cs) := by
  have hl := run_loadCells_list (P := P) w a cs hsrc
  have hst := run_storeCells_cells (P := P) b o cs 0 w (by simpa using hc) (by simpa using hf) h1
  cases hq : P.info? elem with
  | none => simp [hq] at hs
  | some i =>
    have hi : i.size = k := by simpa [hq] using hs
    simp [Builtin.copy_, run_underlying hu, Builtin.lenOf, Builtin.firstCells, sizeOf, typeInfo, hq, hi, ← hn, hl, hst]

/-- The whole row behind a slice, spare elements and all. -/
theorem own_full {w : World} {base : Nat} {e : TypeId} {k g n c : Nat} {xs : List Value} (h : w.ownsRow base e k (.slice (some ⟨g, 0, none⟩) n c) n xs) :
    ∃ ys, w.ownsRow base e k (.slice (some ⟨g, 0, none⟩) c c) c ys ∧ ys.take (n * k) = xs ∧ ys.length = c * k ∧ n ≤ c ∧ base ≤ g ∧ g < w.heap.size := by
  have hlt := h.lt g rfl
  rcases h.2 with ⟨h0, _⟩ | ⟨g', cap', cur, hv, hbase, hb, h1, h2, h3, h4⟩
  · cases h0
  · injection hv with e1 _ e3
    injection e1 with e1
    injection e1 with e1
    subst e1 e3
    exact ⟨cur.toList, ⟨by simpa using h3, .inr ⟨g, c, cur, rfl, hbase, hb, Nat.le_refl _, h2, h3, by rw [List.take_of_length_le (by simp [h3])]⟩⟩, h4, by simpa using h3, h1, hlt.1, hlt.2⟩
/-- A slice of a row's first elements. -/
theorem own_cut {w : World} {base : Nat} {e : TypeId} {k g n c : Nat} {ys : List Value} (h : w.ownsRow base e k (.slice (some ⟨g, 0, none⟩) c c) c ys) (hn : n ≤ c) :
    w.ownsRow base e k (.slice (some ⟨g, 0, none⟩) n c) n (ys.take (n * k)) := by
  rcases h.2 with ⟨h0, _⟩ | ⟨g', cap', cur, hv, hbase, hb, h1, h2, h3, h4⟩
  · cases h0
  · injection hv with e1 _ e3
    injection e1 with e1
    injection e1 with e1
    subst e1 e3
    have hl : ys.length = c * k := h.1
    have hm : n * k ≤ c * k := Nat.mul_le_mul_right _ hn
    refine ⟨by simp; omega, .inr ⟨g, c, cur, rfl, hbase, hb, hn, h2, h3, ?_⟩⟩
    rw [← h4, List.take_take, Nat.min_eq_left hm]
/-- Cells of a row written over. -/
theorem own_setCells {base : Nat} {e : TypeId} {k g c n : Nat} : ∀ (vs : List Value) (w : World) (o : Nat) (ys : List Value), w.ownsRow base e k (.slice (some ⟨g, 0, none⟩) n c) n ys → o + vs.length ≤ ys.length →
    (w.setCells g o vs).ownsRow base e k (.slice (some ⟨g, 0, none⟩) n c) n (ys.take o ++ vs ++ ys.drop (o + vs.length)) ∧ w.grownBy (w.setCells g o vs) (some g)
  | [], w, o, ys, h, _ => ⟨by simpa [World.setCells] using h, World.grownBy.refl _ _⟩
  | v :: vs, w, o, ys, h, hl => by
    simp only [List.length_cons] at hl
    obtain ⟨h1, h2⟩ := h.stored o v
    obtain ⟨h3, h4⟩ := own_setCells vs (w.setCell ⟨g, o, none⟩ v) (o + 1) (ys.set o v) h1 (by simp; omega)
    refine ⟨?_, h2.trans h4⟩
    have e1 : (ys.set o v).take (o + 1) = ys.take o ++ [v] := by
      rw [List.take_succ_eq_append_getElem (by simp; omega), List.take_set_of_le (Nat.le_refl _)]
      simp
    have e2 : (ys.set o v).drop (o + 1 + vs.length) = ys.drop (o + (vs.length + 1)) := by
      rw [List.drop_set_of_lt (by omega)]
      congr 1
      omega
    rw [e1, e2] at h3
    simpa [World.setCells] using h3
theorem own_shape {w : World} {base : Nat} {e : TypeId} {k g n c : Nat} {xs : List Value} (h : w.ownsRow base e k (.slice (some ⟨g, 0, none⟩) n c) n xs) : w.shape? g = some (e, c * k) := by
  rcases h.2 with ⟨h0, _⟩ | ⟨g', cap', cur, hv, hbase, hb, h1, h2, h3, h4⟩
  · cases h0
  · injection hv with e1 _ e3
    injection e1 with e1
    injection e1 with e1
    subst e1 e3
    simp [World.shape?, hb, h3]
/-- What stands in the row behind the two copies. -/
theorem ins_list {ys xs nx : List Value} {a k m : Nat} (hx : ys.take m = xs) (hm : m + k ≤ ys.length) (ha : a ≤ m) (hk : nx.length = k) :
    ((ys.take (a + k) ++ xs.drop a ++ ys.drop (a + k + (xs.drop a).length)).take a ++ nx ++ (ys.take (a + k) ++ xs.drop a ++ ys.drop (a + k + (xs.drop a).length)).drop (a + nx.length)).take (m + k) = xs.take a ++ nx ++ xs.drop a := by
  have l1 : (ys.take (a + k)).length = a + k := by rw [List.length_take]; omega
  have lx : xs.length = m := by rw [← hx, List.length_take]; omega
  have e2 : (ys.take (a + k) ++ xs.drop a ++ ys.drop (a + k + (xs.drop a).length)).take a = xs.take a := by
    rw [List.append_assoc, List.take_append_of_le_length (by rw [l1]; omega), List.take_take, Nat.min_eq_left (by omega), ← hx, List.take_take, Nat.min_eq_left (by omega)]
  have e3 : (ys.take (a + k) ++ xs.drop a ++ ys.drop (a + k + (xs.drop a).length)).drop (a + nx.length) = xs.drop a ++ ys.drop (a + k + (xs.drop a).length) := by
    rw [hk, List.append_assoc]
    exact List.drop_left' l1
  rw [e2, e3, ← List.append_assoc]
  exact List.take_left' (by simp; omega)
/-- What stands in a new row behind the two copies. -/
theorem ins_list2 {R xs nx : List Value} {a k m : Nat} (hx : R.take a = xs.take a) (hm : m + k ≤ R.length) (hxl : xs.length = m) (ha : a ≤ m) (hk : nx.length = k) :
    ((R.take a ++ nx ++ R.drop (a + nx.length)).take (a + k) ++ xs.drop a ++ (R.take a ++ nx ++ R.drop (a + nx.length)).drop (a + k + (xs.drop a).length)).take (m + k) = xs.take a ++ nx ++ xs.drop a := by
  have l1 : (R.take a ++ nx).length = a + k := by rw [List.length_append, List.length_take]; omega
  rw [List.take_left' l1, hx]
  exact List.take_left' (by simp; omega)
theorem own_made_full {w : World} {e : TypeId} {k : Nat} (base : Nat) (cur : Array Value) (cap : Nat) (hb : base ≤ w.heap.size) (hm : cap ≤ maxLen) (hs : cur.size = cap * k) :
    (w.alloc (.cells cur e)).ownsRow base e k (.slice (some ⟨w.heap.size, 0, none⟩) cap cap) cap cur.toList :=
  ⟨by simp [hs], .inr ⟨w.heap.size, cap, cur, rfl, hb, heap_alloc_new w _, Nat.le_refl _, hm, hs, by rw [List.take_of_length_le (by simp [hs])]⟩⟩
theorem grown_drew {a w : World} {row : Option Nat} (h : a.grownBy w row) : a.grownBy w.drew row := ⟨h.os, h.tape, h.output, h.size, h.block⟩

set_option maxRecDepth 100000 in
set_option maxHeartbeats 3200000 in
/-- There is room: in place. -/
theorem InsEdge_room (base g0 n c i g : Nat) (xs nx : List Value) (w : World) (hown : w.ownsRow base 62 3 (.slice (some ⟨g0, 0, none⟩) n c) n xs) (hi : i < n) (hroom : n + 1 ≤ c)
    (hbx : w.heap[g]? = some (.cells nx.toArray 62 (0, 0))) (hnx : nx.length = 3) (h1n : ∀ v ∈ nx, v.oneCell' = true) (h1x : ∀ v ∈ xs, v.oneCell' = true) (hne : g ≠ g0) :
    Calls Try.prog 116 #[.slice (some ⟨g0, 0, none⟩) n c, .int .i64 i, .slice (some ⟨g, 0, none⟩) 1 1] w fun e w' => e = .returned (.slice (some ⟨g0, 0, none⟩) (n + 1) c) ∧ w'.ownsRow base 62 3 (.slice (some ⟨g0, 0, none⟩) (n + 1) c) (n + 1) (xs.take (i * 3) ++ nx ++ xs.drop (i * 3)) ∧ w.grownBy w' (some g0) := by
  obtain ⟨ys, hfull, hys, hyl, _, _, _⟩ := own_full hown
  have hc : c ≤ maxLen := by
    obtain ⟨A', c', e, h1, h2⟩ := own_slice hown
    injection e with _ _ e
    subst e
    exact h2
  unfold maxLen at hc
  have HO := Lib.hid hfull
  have HY := Lib.hid hys
  have HBX := Lib.hid hbx
  have HNX := Lib.hid hnx
  have HYL := Lib.hid hyl
  have hxl : xs.length = n * 3 := hown.1
  have HXL := Lib.hid hxl
  have H1N := Lib.hid h1n
  have H1X := Lib.hid h1x
  clear hown hys hbx hfull hnx hyl hxl h1n h1x
  have hz2 : ((i : Int) == (n : Int)) = false := by simp; omega
  have k0 : (0 : Int) ≤ (i : Int) := by omega
  have k1 : (i : Int) < (n : Int) := by omega
  have k2 : i ≤ n := by omega
  have hov : ∀ lb cb, (callFunc 137 #[.slice (some ⟨g, 0, none⟩) 1 1, .slice (some ⟨g0, (i + 1) * 3, none⟩) lb cb]).run Try.prog w = .ok (.value (.bool false)) w := fun lb cb => by
    rw [run_callFunc_extern Try.func137 (by kernel_rfl) (by kernel_rfl) (by kernel_rfl) (e := Extern.SlicesOverlaps.overlaps #[42, 42] #[4]) (by kernel_rfl),
      Lib.run_overlaps_apart w 42 4 62 Try.underlying42 3 Try.sizeOf62 ⟨g, 0, none⟩ ⟨g0, (i + 1) * 3, none⟩ 1 1 lb cb hne 62 62 3 (c * 3) ?_ ?_ (by omega) ?_ ?_]
    · rfl
    · simp [World.shape?, HBX.out, HNX.out]
    · exact own_shape HO.out
    · simp [World.frozen?, HBX.out]
    · simp [World.frozen?, HBX.out]
  have hcell : ∀ j u, xs[j]? = some u → w.cell? ⟨g0, j, none⟩ = some u := fun j u hj => by
    have hjl : j < n * 3 := by
      have := (List.getElem?_eq_some_iff.1 hj).1
      rw [HXL.out] at this
      exact this
    rw [HO.out.cellAt j (by omega), ← hj, ← HY.out, List.getElem?_take_of_lt hjl]
  have hsome : ∀ j, j < c * 3 → (w.cell? ⟨g0, j, none⟩).isSome = true := fun j hj => by
    rw [HO.out.cellAt j hj, List.getElem?_eq_getElem (by rw [HYL.out]; exact hj)]
    rfl
  have hfrz : ∀ j, w.frozen? ⟨g0, j, none⟩ = false := fun j => HO.out.frozenAt j
  have hsz : (Try.prog.info? 62).map (·.size) = some 3 := by
    obtain ⟨i0, hi0, h0, h1, h2⟩ := info_parts Try.infoEdge
    rw [hi0]; simp [h1]
  have hdl : (xs.drop (i * 3)).length = (n - i) * 3 := by rw [List.length_drop, HXL.out]; omega
  have hcp1 : ∀ ty dc sc, (Builtin.copy_ #[42, 42] ty #[.slice (some ⟨g0, (i + 1) * 3, none⟩) (n - i) dc, .slice (some ⟨g0, i * 3, none⟩) (n + 1 - i) sc]).run Try.prog w.drew = .ok (goInt (Nat.min (n + 1 - i) (n - i))) (w.drew.setCells g0 ((i + 1) * 3) (xs.drop (i * 3))) := fun ty dc sc =>
    run_copy_cellsK 3 w.drew _ _ ty 62 g0 ((i + 1) * 3) (n - i) dc ⟨g0, i * 3, none⟩ (n + 1 - i) sc (xs.drop (i * 3)) Try.underlying42 hsz (by rw [hdl]; simp only [Nat.min_def]; split <;> omega)
      (fun j v hj => by
        rw [Addr.add_lit]
        rw [List.getElem?_drop] at hj
        exact hcell _ _ hj)
      (fun j hj => hsome _ (by omega)) (fun j hj => hfrz _) (fun v hv => H1X.out v (List.mem_of_mem_drop hv))
  obtain ⟨hW1o, hW1g⟩ := own_setCells (base := base) (e := 62) (k := 3) (g := g0) (c := c) (n := c) (xs.drop (i * 3)) w.drew ((i + 1) * 3) ys HO.out.drew (by rw [hdl, HYL.out]; omega)
  obtain ⟨W1, hW1⟩ : ∃ W1, W1 = w.drew.setCells g0 ((i + 1) * 3) (xs.drop (i * 3)) := ⟨_, rfl⟩
  rw [← hW1] at hW1o hW1g hcp1
  have hl1 := hW1o.1
  have hbx1 : W1.heap[g]? = some (.cells nx.toArray 62 (0, 0)) := by
    rw [hW1g.block g (by have := (Array.getElem?_eq_some_iff.1 HBX.out).1; simpa using this) (fun e => hne (by injection e))]
    exact HBX.out
  have hcp2 : ∀ ty dc, (Builtin.copy_ #[42, 42] ty #[.slice (some ⟨g0, i * 3, none⟩) (n + 1 - i) dc, .slice (some ⟨g, 0, none⟩) 1 1]).run Try.prog W1 = .ok (goInt (Nat.min 1 (n + 1 - i))) (W1.setCells g0 (i * 3) nx) := fun ty dc =>
    run_copy_cellsK 3 W1 _ _ ty 62 g0 (i * 3) (n + 1 - i) dc ⟨g, 0, none⟩ 1 1 nx Try.underlying42 hsz (by rw [HNX.out]; simp only [Nat.min_def]; split <;> omega)
      (fun j v hj => by
        rw [Addr.add_lit]
        have hcr := cell_of_row W1 g (0 + j) nx.toArray 62 (0, 0) hbx1
        rw [hcr]
        simpa using hj)
      (fun j hj => by
        have hjn := HNX.out
        rw [hW1o.cellAt _ (by omega), List.getElem?_eq_getElem (by rw [hl1]; omega)]
        rfl)
      (fun j hj => hW1o.frozenAt _) H1N.out
  obtain ⟨hW2o, hW2g⟩ := own_setCells (base := base) (e := 62) (k := 3) (g := g0) (c := c) (n := c) nx W1 (i * 3) _ hW1o (by rw [hl1, HNX.out]; omega)
  have hlist := ins_list (a := i * 3) (k := 3) (m := n * 3) HY.out (by rw [HYL.out]; omega) (by omega) HNX.out
  have hq : (i + 1) * 3 = i * 3 + 3 := by omega
  have HW2o := Lib.hid hW2o
  have HG := Lib.hid (((⟨rfl, rfl, rfl, Nat.le_refl _, fun _ _ _ => rfl⟩ : w.grownBy w.drew (some g0)).trans hW1g).trans hW2g)
  have HLI := Lib.hid hlist
  have HW1 := Lib.hid hW1
  have HQ := Lib.hid hq
  clear hW1o hW1g hW2o hW2g hlist hW1 hbx1 hl1 hcell hsome hfrz hdl hsz hq
  have a1 : (0 : Int) ≤ (i : Int) + 1 := by omega
  have a2 : (i : Int) + 1 ≤ (n : Int) + 1 := by omega
  have a3 : ((i : Int) + 1).toNat = i + 1 := by omega
  have a4 : ¬ (c = i + 1) := by omega
  have a5 : ¬ (c = i) := by omega
  have a6 : (i : Int) ≤ (n : Int) + 1 := by omega
  have a7 : IntKind.i64.wrap ((i : Int) + 1) = (i : Int) + 1 := IntWalk.i64_in _ (by omega)
  go_enter Try.func116, Try.ntmps116
  go_wp2_with (simp only [hov])
  go_region_law (refine step_copy_runI rfl _ _ 42 42 rfl _ _ (by simp [Act.eval, Act.put]) (by simp [Act.eval, Act.put]) (hcp1 _ _ _) ?_)
  go_wp2_with (at_builtin; refine wpList_copy_runI _ rfl _ _ 42 42 rfl _ _ rfl rfl (hcp2 _ _) ?_)
  go_ret
  refine ⟨rfl, ?_, HG.out⟩
  have h := own_cut HW2o.out (n := n + 1) (by omega)
  rw [HQ.out, show (n + 1) * 3 = n * 3 + 3 by omega] at h
  rw [HLI.out] at h
  exact h

set_option maxRecDepth 100000 in
set_option maxHeartbeats 1600000 in
/-- At the end, with room or without. -/
theorem InsEdge_end (base n c g : Nat) (A : Option Addr) (xs nx : List Value) (w : World) (hown : w.ownsRow base 62 3 (.slice A n c) n xs) (hn : n ≤ 1073741824)
    (hbx : w.heap[g]? = some (.cells nx.toArray 62 (0, 0))) (hnx : nx.length = 3) (h1n : ∀ v ∈ nx, v.oneCell' = true) (hbase : base ≤ w.heap.size) :
    Calls Try.prog 116 #[.slice A n c, .int .i64 n, .slice (some ⟨g, 0, none⟩) 1 1] w fun e w' => ∃ A' c', e = .returned (.slice A' (n + 1) c') ∧ w'.ownsRow base 62 3 (.slice A' (n + 1) c') (n + 1) (xs ++ nx) ∧ w.grownBy w' (Value.slice A n c).ownBlock := by
  obtain ⟨i0, hi, hz0, hz1, hz2⟩ := info_parts Try.infoEdge
  have hsl : n ≤ c ∧ c ≤ maxLen := by
    obtain ⟨A', c', e, h1, h2⟩ := own_slice hown
    injection e with _ _ e
    subst e
    exact ⟨h1, h2⟩
  obtain ⟨hc1, hc2⟩ := hsl
  unfold maxLen at hc2
  have hrd : Rd w 3 (some ⟨g, 0, none⟩) 1 nx := ⟨by rw [hnx], fun _ => ⟨_, rfl, fun j v hj => by
    rw [Addr.add_lit]
    have hcr := cell_of_row w g (0 + j) nx.toArray 62 (0, 0) hbx
    rw [hcr]
    simpa using hj⟩⟩
  have HO := Lib.hid hown
  have HR := Lib.hid hrd
  have H1 := Lib.hid h1n
  clear hown hrd hbx hnx h1n
  have k0 : (0 : Int) ≤ (n : Int) := by omega
  by_cases hcn : c = n
  all_goals
    cases A
    all_goals
      go_enter Try.func116, Try.ntmps116
      go_wp2_with (at_builtin
                   refine wpList_append_any _ rfl _ _ 42 rfl base 62 i0 _ 3 24 Try.underlying42 hi hz0 hz1 hz2 rfl (by decide) _ n xs rfl HO.out _ 1 1 nx rfl HR.out H1.out (by unfold maxLen; omega) (by omega) hbase ?_
                   intro v1 w3 hown3 hg3 _
                   obtain ⟨A1, c1', rfl, _, _⟩ := own_slice hown3)
      go_ret
      exact ⟨A1, c1', rfl, hown3, hg3⟩

set_option maxRecDepth 100000 in
set_option maxHeartbeats 3200000 in
/-- No room: a new row. -/
theorem InsEdge_grow (base g0 n i g : Nat) (xs nx : List Value) (w : World) (hown : w.ownsRow base 62 3 (.slice (some ⟨g0, 0, none⟩) n n) n xs) (hin : i < n) (hn : n ≤ 1073741824)
    (hbx : w.heap[g]? = some (.cells nx.toArray 62 (0, 0))) (hnx : nx.length = 3) (h1n : ∀ v ∈ nx, v.oneCell' = true) (h1x : ∀ v ∈ xs, v.oneCell' = true) :
    Calls Try.prog 116 #[.slice (some ⟨g0, 0, none⟩) n n, .int .i64 i, .slice (some ⟨g, 0, none⟩) 1 1] w fun e w' => ∃ A' c', e = .returned (.slice A' (n + 1) c') ∧ w'.ownsRow w.heap.size 62 3 (.slice A' (n + 1) c') (n + 1) (xs.take (i * 3) ++ nx ++ xs.drop (i * 3)) ∧ Below w.heap.size w w' := by
  obtain ⟨i0, hi, hz0, hz1, hz2⟩ := info_parts Try.infoEdge
  have hxl : xs.length = n * 3 := hown.1
  have hsz : (Try.prog.info? 62).map (·.size) = some 3 := by rw [hi]; simp [hz1]
  have hg0w : g0 < w.heap.size := (hown.lt g0 rfl).2
  have hgw : g < w.heap.size := (Array.getElem?_eq_some_iff.1 hbx).1
  have hcell : ∀ j u, xs[j]? = some u → w.cell? ⟨g0, j, none⟩ = some u := fun j u hj => by
    have := hown.cells (g := g0) rfl j u hj
    rwa [Addr.add_lit, Nat.zero_add] at this
  have hik : i + (n + 1 - i) = n + 1 := by omega
  have hold : (Builtin.firstCells i0.size i (.slice (some ⟨g0, 0, none⟩) i n)).run Try.prog w.drew = .ok (xs.take (i * 3)).toArray w.drew := by
    rw [hz1]
    exact run_firstCells_some w.drew 3 i ⟨g0, 0, none⟩ i n (xs.take (i * 3)) (by rw [List.length_take]; omega) (fun j v hj => by
      rw [Addr.add_lit, Nat.zero_add]
      rw [List.getElem?_take] at hj
      split at hj
      · exact hcell j v hj
      · cases hj)
  obtain ⟨G, hG⟩ : ∃ G, G = grownCap w (n + 1) n 62 := ⟨_, rfl⟩
  obtain ⟨Z, hZ⟩ : ∃ Z : Value, i0.zero = some Z ∧ Z.cells.size = 3 := ⟨_, hz0, rfl⟩
  obtain ⟨hZ, hZK⟩ := hZ
  have hGn : n + 1 ≤ G := by rw [hG]; exact grownCap_ge w _ _ _
  have hGm : G ≤ maxLen := by rw [hG]; exact grownCap_le_maxLen w (n + 1) n 62 (by unfold maxLen; omega)
  obtain ⟨ROW, hROW⟩ : ∃ ROW : Array Value, ROW = (xs.take (i * 3)).toArray ++ Builtin.zeroCells Z.cells (n + 1 - i) ++ Builtin.zeroCells Z.cells (G - (n + 1)) := ⟨_, rfl⟩
  have hrz : ∀ ty, (Builtin.append_ #[42, 3] ty #[.slice (some ⟨g0, 0, none⟩) i n, .int .i64 ((n : Int) + 1 - (i : Int))]).run Try.prog w =
      .ok (.slice (some ⟨w.heap.size, 0, none⟩) (n + 1) G) (w.drew.alloc (.cells ROW 62)) := fun ty => by
    have h := Lib.run_append_grow_zeros w 42 3 ty 62 i0 Z .i64 .i64 Try.underlying42 Try.underlying3 hi hZ (some ⟨g0, 0, none⟩) i n (xs.take (i * 3)) hold (n + 1 - i) (by omega) (by omega) (by omega) (by omega) (by rw [hz2]; omega) (by rw [hz2, hik]; exact growslice_fits (by omega) (by omega))
    rw [hik, ← hG, ← hROW] at h
    rw [show (n : Int) + 1 - (i : Int) = ((n + 1 - i : Nat) : Int) by omega]
    exact h
  have hRs : ROW.size = G * 3 := by
    rw [hROW, Array.size_append, Array.size_append, size_zeroCells, size_zeroCells, hZK]
    simp only [List.size_toArray, List.length_take]
    omega
  have hRt : ROW.toList.take (i * 3) = xs.take (i * 3) := by
    rw [hROW]
    simp only [Array.toList_append, List.append_assoc]
    exact List.take_left' (by rw [List.length_take]; omega)
  have hW1o : (w.drew.alloc (.cells ROW 62)).ownsRow w.heap.size 62 3 (.slice (some ⟨w.heap.size, 0, none⟩) G G) G ROW.toList := own_made_full (w := w.drew) w.heap.size ROW G (Nat.le_refl _) hGm hRs
  have hW1g : w.grownBy (w.drew.alloc (.cells ROW 62)) (some w.heap.size) := (grown_drew (World.grownBy.refl w _)).trans (World.grownBy_alloc w.drew _ _)
  obtain ⟨W1, hW1⟩ : ∃ W1, W1 = w.drew.alloc (.cells ROW 62) := ⟨_, rfl⟩
  rw [← hW1] at hW1o hW1g hrz
  have hl1 := hW1o.1
  have hRl : ROW.toList.length = G * 3 := hl1
  have hbx1 : W1.heap[g]? = some (.cells nx.toArray 62 (0, 0)) := by
    rw [hW1g.block g hgw (fun e => by injection e with e; omega)]
    exact hbx
  have hcpA : ∀ ty dc, (Builtin.copy_ #[42, 42] ty #[.slice (some ⟨w.heap.size, i * 3, none⟩) (n + 1 - i) dc, .slice (some ⟨g, 0, none⟩) 1 1]).run Try.prog W1 = .ok (goInt (Nat.min 1 (n + 1 - i))) (W1.setCells w.heap.size (i * 3) nx) := fun ty dc =>
    run_copy_cellsK 3 W1 _ _ ty 62 w.heap.size (i * 3) (n + 1 - i) dc ⟨g, 0, none⟩ 1 1 nx Try.underlying42 hsz (by rw [hnx]; simp only [Nat.min_def]; split <;> omega)
      (fun j v hj => by
        rw [Addr.add_lit]
        have hcr := cell_of_row W1 g (0 + j) nx.toArray 62 (0, 0) hbx1
        rw [hcr]
        simpa using hj)
      (fun j hj => by
        rw [hW1o.cellAt _ (by omega), List.getElem?_eq_getElem (by omega)]
        rfl)
      (fun j hj => hW1o.frozenAt _) h1n
  obtain ⟨hW2o, hW2g⟩ := own_setCells (base := w.heap.size) (e := 62) (k := 3) (g := w.heap.size) (c := G) (n := G) nx W1 (i * 3) _ hW1o (by omega)
  obtain ⟨W2, hW2⟩ : ∃ W2, W2 = W1.setCells w.heap.size (i * 3) nx := ⟨_, rfl⟩
  rw [← hW2] at hW2o hW2g hcpA
  have hW2G := (hW1g.trans hW2g)
  have hl2 := hW2o.1
  have hdl : (xs.drop (i * 3)).length = (n - i) * 3 := by rw [List.length_drop, hxl]; omega
  have hcell2 : ∀ j u, xs[j]? = some u → W2.cell? ⟨g0, j, none⟩ = some u := fun j u hj => hW2G.cell (hcell j u hj) (fun e => by injection e with e; simp only at e; omega)
  have hcpB : ∀ ty dc sc, (Builtin.copy_ #[42, 42] ty #[.slice (some ⟨w.heap.size, (i + 1) * 3, none⟩) (n - i) dc, .slice (some ⟨g0, i * 3, none⟩) (n - i) sc]).run Try.prog W2.drew = .ok (goInt (Nat.min (n - i) (n - i))) (W2.drew.setCells w.heap.size ((i + 1) * 3) (xs.drop (i * 3))) := fun ty dc sc =>
    run_copy_cellsK 3 W2.drew _ _ ty 62 w.heap.size ((i + 1) * 3) (n - i) dc ⟨g0, i * 3, none⟩ (n - i) sc (xs.drop (i * 3)) Try.underlying42 hsz (by rw [hdl]; simp only [Nat.min_def]; split <;> omega)
      (fun j v hj => by
        rw [Addr.add_lit]
        rw [List.getElem?_drop] at hj
        exact hcell2 _ _ hj)
      (fun j hj => by
        show (W2.cell? _).isSome = true
        rw [hW2o.cellAt _ (by omega), List.getElem?_eq_getElem (by omega)]
        rfl)
      (fun j hj => hW2o.frozenAt _) (fun v hv => h1x v (List.mem_of_mem_drop hv))
  obtain ⟨hW3o, hW3g⟩ := own_setCells (base := w.heap.size) (e := 62) (k := 3) (g := w.heap.size) (c := G) (n := G) (xs.drop (i * 3)) W2.drew ((i + 1) * 3) _ hW2o.drew (by omega)
  have hB3 : Below w.heap.size w (W2.drew.setCells w.heap.size ((i + 1) * 3) (xs.drop (i * 3))) := (Below.refl _ _).grown ((grown_drew hW2G).trans hW3g) (Nat.le_refl _) (fun r hr => by injection hr with hr; omega)
  have hlist := ins_list2 (R := ROW.toList) (xs := xs) (nx := nx) (a := i * 3) (k := 3) (m := n * 3) hRt (by omega) hxl (by omega) hnx
  have hq : (i + 1) * 3 = i * 3 + 3 := by omega
  have HO3 := Lib.hid hW3o
  have HB3 := Lib.hid hB3
  have HLI := Lib.hid hlist
  have HQ := Lib.hid hq
  have hgi : ¬ (G = i) := by omega
  have hgi1 : ¬ (G = i + 1) := by omega
  have hGn' : (n : Int) + 1 ≤ (G : Int) := by omega
  have hG63 : G ≤ 9223372036854775807 := by unfold maxLen at hGm; omega
  have hz2' : ((i : Int) == (n : Int)) = false := by simp; omega
  have k0 : (0 : Int) ≤ (i : Int) := by omega
  have k1 : (i : Int) < (n : Int) := by omega
  have k2 : i ≤ n := by omega
  have k3 : ¬ (n = i) := by omega
  have a1 : (0 : Int) ≤ (i : Int) + 1 := by omega
  have a2 : (i : Int) + 1 ≤ (n : Int) + 1 := by omega
  have a3 : ((i : Int) + 1).toNat = i + 1 := by omega
  have a6 : (i : Int) ≤ (n : Int) + 1 := by omega
  have a8 : (i : Int) ≤ (n : Int) := by omega
  have a7 : IntKind.i64.wrap ((i : Int) + 1) = (i : Int) + 1 := IntWalk.i64_in _ (by omega)
  clear hown hxl hsz hcell hold hG hZ hZK hROW hRs hRt hW1o hW1g hW1 hl1 hRl hbx1 hW2o hW2g hW2 hW2G hl2 hdl hcell2 hW3o hW3g hB3 hlist hq hbx hnx h1n h1x hi hz0 hz1 hz2 hik hGm
  go_enter Try.func116, Try.ntmps116
  go_wp2_with (first
    | (at_builtin; refine Lib.wpList_append_run _ rfl _ _ _ _ rfl _ _ rfl rfl _ _ (hrz _) ?_)
    | (at_builtin; refine wpList_copy_runI _ rfl _ _ 42 42 rfl _ _ rfl rfl (hcpA _ _) ?_))
  go_region_law (refine step_copy_runI rfl _ _ 42 42 rfl _ _ (by simp [Act.eval, Act.put]) (by simp [Act.eval, Act.put]) (hcpB _ _ _) ?_)
  go_wp2
  go_ret
  refine ⟨_, _, rfl, ?_, HB3.out⟩
  have h := own_cut HO3.out (n := n + 1) (by omega)
  rw [HQ.out] at h ⊢
  rw [show (n + 1) * 3 = n * 3 + 3 by omega] at h
  rw [HLI.out] at h
  exact h

/-- An element is put in at any place. -/
theorem InsEdge_any (base n c i g : Nat) (A : Option Addr) (xs nx : List Value) (w : World) (hown : w.ownsRow base 62 3 (.slice A n c) n xs) (hin : i ≤ n) (hn : n ≤ 1073741823)
    (hbx : w.heap[g]? = some (.cells nx.toArray 62 (0, 0))) (hnx : nx.length = 3) (h1n : ∀ v ∈ nx, v.oneCell' = true) (h1x : ∀ v ∈ xs, v.oneCell' = true) (hbase : base ≤ w.heap.size) (hne : (Value.slice A n c).ownBlock ≠ some g) :
    Calls Try.prog 116 #[.slice A n c, .int .i64 i, .slice (some ⟨g, 0, none⟩) 1 1] w fun e w' => ∃ A' c', e = .returned (.slice A' (n + 1) c') ∧ w'.ownsRow base 62 3 (.slice A' (n + 1) c') (n + 1) (xs.take (i * 3) ++ nx ++ xs.drop (i * 3)) ∧ w.grownBy w' (Value.slice A n c).ownBlock := by
  have hxl : xs.length = n * 3 := hown.1
  rcases (by omega : i = n ∨ i < n) with h | h
  · subst h
    rw [List.take_of_length_le (by omega), List.drop_eq_nil_of_le (by omega), List.append_nil]
    exact InsEdge_end base i c g A xs nx w hown (by omega) hbx hnx h1n hbase
  · rcases hown.2 with ⟨h0, _⟩ | ⟨g0, cap, cur, hv, hb0, hg0, hnc, hcm, hcs, hct⟩
    · injection h0 with _ h0
      omega
    · injection hv with e1 _ e3
      subst e1 e3
      by_cases hr : n + 1 ≤ c
      · refine (InsEdge_room base g0 n c i g xs nx w hown h hr hbx hnx h1n h1x (fun e => hne (by simp [Value.ownBlock, e]))).mono ?_
        rintro e w' ⟨he, h1, h2⟩
        exact ⟨_, _, he, h1, h2⟩
      · obtain rfl : c = n := by omega
        refine (InsEdge_grow base g0 c i g xs nx w hown h (by omega) hbx hnx h1n h1x).mono ?_
        rintro e w' ⟨A', c', he, h1, h2⟩
        exact ⟨A', c', he, own_mono h1 hbase, only_below2 h2⟩
end Go.Proofs.Ytlnphcongijfiaa
