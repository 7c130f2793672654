/- slices.SortFunc on a row of arcs of the call's own. No conditions but the length and the labels' range. -/
import Derived.Test.YtjlekcoikceidaaShelfA
import Derived.Test.YtjlekcoikceidaaMOrd
import Derived.Test.YtjlekcoikceidaaNfaOk
import Derived.Lib.OwnBridge
import Derived.Sort.OwnSortedInts
namespace Go.Proofs.Ytjlekcoikceidaa
open Go.RowKit Go.Sort

theorem arcCmp_less (a b : Ed) : decide (arcCmp a b < 0) = edLess a b := by
  have h := arcCmp_ge a b
  by_cases h1 : arcCmp a b < 0
  · rw [decide_eq_false (by omega)] at h
    rw [decide_eq_true h1]
    cases e : edLess a b with
    | true => rfl
    | false => rw [e] at h; cases h
  · rw [decide_eq_true (by omega)] at h
    rw [decide_eq_false h1]
    cases e : edLess a b with
    | false => rfl
    | true => rw [e] at h; cases h
set_option maxRecDepth 100000 in
set_option maxHeartbeats 800000 in
theorem compareArcs_grow (a b : Ed) (ha : 0 ≤ a.l ∧ a.l ≤ 255) (hb : 0 ≤ b.l ∧ b.l ≤ 255) (w : World) : Calls Try.prog 25 #[a.val, b.val] w fun e w' => e = .returned (.int .i64 (arcCmp a b)) ∧ ∃ q os, w' = grow (w.drewN q) os := by
  obtain ⟨af, al, at_⟩ := a
  obtain ⟨bf, bl, bt⟩ := b
  obtain ⟨ha1, ha2⟩ := ha
  obtain ⟨hb1, hb2⟩ := hb
  simp only at ha1 ha2 hb1 hb2
  unfold Ed.val
  rw [show arcCmp ⟨af, al, at_⟩ ⟨bf, bl, bt⟩ = cmpI [af, al, at_] [bf, bl, bt] from rfl]
  go_enter Try.func25, Try.ntmps25
  go_wp2_with (go_at_call 43; refine (Compare_any _ _ 3 3 3 3 [af, al, at_] [bf, bl, bt] _ ((RdI.three _ _ _ _ _ (by simp)).alloc _) (RdI.three _ _ _ _ _ (by simp)) (by omega) (by omega)).mono ?_; rintro e w1 ⟨rfl, rfl⟩)
  go_ret
  exact ⟨rfl, 0, _, by simp only [alloc_eq_grow, grow_grow]; rfl⟩

/-- An edge whose label is a byte. -/
abbrev Eb := {e : Ed // 0 ≤ e.l ∧ e.l ≤ 255}
instance : Inhabited Eb := ⟨⟨⟨0, 0, 0⟩, by simp⟩⟩
def encE (x : Eb) : List Value := [.int .i64 x.1.f, .int .u8 x.1.l, .int .i64 x.1.t]
def cfE (x y : Eb) : Int := arcCmp x.1 y.1
theorem ltE (x y : Eb) : ltOf cfE x y = edLess x.1 y.1 := arcCmp_less x.1 y.1
theorem edLess_ntrans {a b c : Ed} (h1 : edLess a b = false) (h2 : edLess b c = false) : edLess a c = false := by
  cases h : edLess a c with
  | false => rfl
  | true =>
    rcases edLess_tri a b with h3 | h3 | h3
    · rw [h3] at h1; cases h1
    · subst h3; rw [h] at h2; cases h2
    · rw [edLess_trans h3 h] at h2; cases h2
theorem swoE : SWO (ltOf cfE) where
  irrefl x := by rw [ltE]; exact edLess_irrefl _
  trans x y z h1 h2 := by rw [ltE] at *; exact edLess_trans h1 h2
  ntrans x y z h1 h2 := by rw [ltE] at *; exact edLess_ntrans h1 h2
theorem totE (x y : Eb) (h1 : ltOf cfE x y = false) (h2 : ltOf cfE y x = false) : x = y := by
  rw [ltE] at h1 h2
  rcases edLess_tri x.1 y.1 with h | h | h
  · rw [h] at h1; cases h1
  · exact Subtype.ext h
  · rw [h] at h2; cases h2
theorem flat_cells (d : List Eb) : flatK encE 3 d.toArray = (edCells (d.map (·.1))).toArray := by
  apply Array.ext
  · simp [edCells_len]
  · intro j h1 h2
    have hj : j < d.length * 3 := by simpa using h1
    have hk : j / 3 < d.length := by omega
    have he := edCells_at (d.map (·.1)) (j / 3) (by simpa using hk)
    have hm : (d.map (·.1))[j / 3]'(by simpa using hk) = (d[j / 3]).1 := by simp
    rw [hm] at he
    have hg : (flatK encE 3 d.toArray)[j] = (encE d[j / 3])[j % 3]! := by
      have := get_flatK encE 3 d.toArray j (by simpa using hj)
      simpa [getElem!_pos, h1, hj, hk] using this
    rw [hg]
    have hx : (edCells (d.map (·.1)))[j]? = some ((encE d[j / 3])[j % 3]!) := by
      rcases (by omega : j % 3 = 0 ∨ j % 3 = 1 ∨ j % 3 = 2) with h | h | h
      · have e : j = j / 3 * 3 := by omega
        rw [h]
        conv => lhs; rw [e]
        exact he.1
      · have e : j = j / 3 * 3 + 1 := by omega
        rw [h]
        conv => lhs; rw [e]
        exact he.2.1
      · have e : j = j / 3 * 3 + 2 := by omega
        rw [h]
        conv => lhs; rw [e]
        exact he.2.2
    have hj2 : j < (edCells (d.map (·.1))).length := by simpa using h2
    rw [List.getElem?_eq_getElem hj2] at hx
    simpa using (Option.some.inj hx).symm
theorem ownsRow_putCells {w : World} {base g cap n size q : Nat} {e : TypeId} {os : Array Obj} {xs ys : List Value} (h : w.ownsRow base e size (.slice (some ⟨g, 0, none⟩) n cap) n xs) (hy : ys.length = n * size) :
    (grow (putRow id (Sort.ahead w q) g 0 ys.toArray) os).ownsRow base e size (.slice (some ⟨g, 0, none⟩) n cap) n ys := by
  rcases h.2 with ⟨h0, _⟩ | ⟨g', cap', cur, hv, hbase, hb, h1, h2, h3, h4⟩
  · cases h0
  · injection hv with e1 _ e3
    injection e1 with e1
    injection e1 with e1
    subst e1 e3
    refine ⟨hy, .inr ⟨g, cap, putCells id 0 ys.toArray cur, rfl, hbase, ?_, h1, h2, by simp [putCells, h3], ?_⟩⟩
    · have hg : g < w.heap.size := (Array.getElem?_eq_some_iff.1 hb).1
      rw [heap_grow_old _ _ (by simpa [putRow, mapBlock, Sort.ahead] using hg)]
      simp [putRow, mapBlock, Sort.ahead, Array.getElem?_modify, hb, onCells]
    · have hcs : ys.length ≤ cur.size := by rw [hy, h3]; exact Nat.mul_le_mul_right _ h1
      rw [← hy]
      apply List.ext_getElem?
      intro j
      by_cases hj : j < ys.length
      · rw [List.getElem?_take_of_lt hj, Array.getElem?_toList]
        simp [putCells, hj, show j < cur.size by omega]
      · rw [List.getElem?_take_eq_none (by omega), List.getElem?_eq_none (by omega)]
theorem grownBy_putK {w : World} {g n : Nat} {os : Array Obj} (d : Array Value) : w.grownBy (grow (putRow id (Sort.ahead w n) g 0 d) os) (some g) := by
  refine ⟨rfl, rfl, rfl, by simp [putRow, mapBlock, Sort.ahead, grow], fun k hk hne => ?_⟩
  rw [heap_grow_old _ _ (by simpa [putRow, mapBlock, Sort.ahead] using hk)]
  have : g ≠ k := fun e => hne (by rw [e])
  simp [putRow, mapBlock, Sort.ahead, Array.getElem?_modify, this]
/-- fs is es sorted. -/
def SortedE (es fs : List Ed) : Prop := fs.Perm es ∧ fs.Pairwise fun x y => edLess y x = false

theorem slices_SortFuncA_own (base : Nat) (A : Option Addr) (c : Nat) (es : List Ed) (w : World) (hown : w.ownsRow base 64 3 (.slice A es.length c) es.length (edCells es)) (hn : es.length ≤ 4294967296) (hl : ∀ e ∈ es, 0 ≤ e.l ∧ e.l ≤ 255) :
    Calls Try.prog 24 #[.slice A es.length c, .func (.func 25) #[] #[]] w fun e w' =>
      e = .returned (.tuple #[]) ∧ ∃ fs, SortedE es fs ∧ w'.ownsRow base 64 3 (.slice A es.length c) es.length (edCells fs) ∧ w.grownBy w' (Value.slice A es.length c).ownBlock := by
  rcases hown.2 with ⟨h0, _⟩ | ⟨g, cap, cur, hv, hbase, hb, h1, h2, h3, h4⟩
  · injection h0 with e1 e2 e3
    subst e1 e3
    obtain rfl : es = [] := List.eq_nil_of_length_eq_zero e2
    refine (AnyF.slices_SortFunc_none { laysE with } none 0 _ w).mono ?_
    rintro e w' ⟨rfl, rfl⟩
    exact ⟨rfl, [], ⟨List.Perm.refl _, List.Pairwise.nil⟩, hown, World.grownBy.refl _ _⟩
  · injection hv with e1 _ e3
    subst e1 e3
    obtain ⟨d, hd⟩ : ∃ d : List Eb, d.map (·.1) = es := ⟨es.pmap (fun e h => ⟨e, h⟩) hl, by rw [List.map_pmap]; simp⟩
    have hdl : d.length = es.length := by rw [← hd]; simp
    have hH : HoldsK encE 3 w g 0 d.toArray := by
      intro j hj
      rw [flat_cells, hd] at hj ⊢
      have hj2 : j < (edCells es).length := by simpa using hj
      have hc := hown.cellAt j (by rw [edCells_len] at hj2; exact hj2)
      refine ⟨?_, ?_⟩
      · rw [Nat.zero_add, hc, List.getElem?_eq_getElem hj2]
        simp [getElem!_pos, hj2]
      · rw [Nat.zero_add]
        exact hown.frozenAt j
    have eg : ∀ args w, (callFunc 25 args).run Try.prog w = .ok (.enter 25 args) w := enters_of Try.func25 (by kernel_rfl) rfl
    have hcon := AnyQ.slices_SortFunc_total laysE 3 Try.isAgg64 Try.sizeOf64 encE (fun _ => rfl) (fun x v hv => by simp [encE] at hv; rcases hv with rfl | rfl | rfl <;> rfl) cfE swoE 25 #[] g 0 c d.toArray w eg (fun _ _ _ _ x y => compareArcs_grow x.1 y.1 x.2 y.2 _) hH (Array.getElem?_eq_some_iff.1 hb).1 (by simp; omega) totE
    rw [show d.toArray.size = es.length by simpa using hdl] at hcon
    refine hcon.mono ?_
    rintro e w' ⟨rfl, n, os, rfl⟩
    obtain ⟨ds, hds⟩ : ∃ ds, (d.toArray.toList.mergeSort fun x y => !(ltOf cfE) y x) = ds := ⟨_, rfl⟩
    have hp : ds.Perm d := by rw [← hds]; exact List.mergeSort_perm _ _
    have hs : ds.Pairwise fun x y => edLess y.1 x.1 = false := by
      rw [← hds]
      refine (List.pairwise_mergeSort (le := fun x y => !(ltOf cfE) y x) ?_ ?_ _).imp ?_
      · intro a b c h1 h2
        simp only [ltE, Bool.not_eq_true'] at *
        exact edLess_ntrans h2 h1
      · intro a b
        simp only [ltE, Bool.or_eq_true, Bool.not_eq_true']
        cases h : edLess b.1 a.1 with
        | false => exact .inl rfl
        | true => exact .inr (edLess_asymm h)
      · intro a b h
        simpa [ltE] using h
    rw [hds]
    refine ⟨rfl, ds.map (·.1), ⟨by rw [← hd]; exact hp.map _, List.pairwise_map.2 hs⟩, ?_, ?_⟩
    · unfold sortWorldK putRowK
      rw [flat_cells]
      exact ownsRow_putCells hown (by rw [edCells_len]; simp; rw [hp.length_eq, hdl])
    · exact grownBy_putK _
end Go.Proofs.Ytjlekcoikceidaa
