/- Two drawn rows. No conditions but the length of the code. -/
import Derived.Test.YtbegiflfecoanaaDrawn
import Derived.Test.YtbegiflfecoanaaApp
namespace Go.Proofs.Ytbegiflfecoanaa
open Go.RowKit

/-- Two rows. -/
def TwoRows (w : World) (e : Ending) (w' : World) : Prop := ∃ (A B : Option Addr) (n m c d : Nat) (xs ys : List Int), e = .returned (.tuple #[.slice A n c, .slice B m d]) ∧ n ≤ 20 ∧ m ≤ 20 ∧ RdI w' A n xs ∧ RdI w' B m ys ∧ Below w.heap.size w w'

set_option maxHeartbeats 4000000 in
theorem DrawRowLess_any (A : Option Addr) (n c : Nat) (zs : List Int) (w : World) (hc : Code0 w A n zs) :
    Calls Try.prog 39 #[.slice A n c] w (TwoRows w) := by
  obtain ⟨i0, hi, hz0, hz1, hz2⟩ := info_parts Try.infoInt
  have C := Lib.hid (l01New_any A n c zs w hc)
  clear hc
  go_enter Try.func39, Try.ntmps39
  go_wp2_with fail
  refine C.out.mono ?_
  rintro e w2 ⟨rfl, hc2, hb2⟩
  clear C
  have hgl : w.heap.size < w2.heap.size := hc2.lt
  go_wp2
  go_loopw [5, 6] (fun v i wr => ∃ (k : Nat) (ys : List Int), k ≤ 4 ∧ ys.length ≤ k ∧ k ≤ ys.length ∧ i = .int .i64 k ∧ wr.ownsRow w2.heap.size 3 1 v ys.length (ys.map (Value.int .i64)) ∧ CurAt w w.heap.size wr ∧ w2.grownBy wr (some w.heap.size) ∧ Below w.heap.size w wr) (fun _ i _ => 4 - (intOf i).toNat)
  case atStart => exact ⟨0, [], by omega, Nat.zero_le _, Nat.zero_le _, rfl, World.ownsRow_made w2 #[] 0 (Nat.le_refl _) (by unfold maxLen; omega) rfl, hc2.below ((Below.refl w2.heap.size w2).alloc (Nat.le_refl _) _), only_alloc (World.grownBy.refl w2 _) _, hb2.alloc hb2.size _⟩
  case round =>
    obtain ⟨k, ys, hk, hy1, hy2, rfl, hown, hcr, ho, hb⟩ := hrel
    go_wp2_with fail
    refine (l01Below_any w _ wr 4 (by omega) hcr hb).mono ?_
    rintro e w3 h
    obtain ⟨x, rfl, ⟨hx0, hx1⟩, hc3, hg3, hb3⟩ := h.step hb
    clear h
    have hx2 : x < 4 := by omega
    have hown3 := own_only hown hg3 hgl
    have ho3 := only_trans ho hg3
    clear hown hcr hb ho hg3 hx1
    by_cases hlt : (k : Int) < x
    · go_wp2_with fail
      refine (l01Below_any w _ w3 3 (by omega) hc3 hb3).mono ?_
      rintro e w4 h
      obtain ⟨y, rfl, ⟨hy0, hy3⟩, hc4, hg4, hb4⟩ := h.step hb3
      clear h
      have hown4 := own_only hown3 hg4 hgl
      have ho4 := only_trans ho3 hg4
      have hs4 := ho4.size
      clear hown3 hc3 hb3 ho3 hg4 hy3
      go_wp2_with (first
        | (at_builtin
           refine wpList_append_own _ rfl (.tmp 17) (.tmp 20) 40 rfl w2.heap.size 3 i0 (.int .i64 0) 1 8 Try.underlying40 hi hz0 hz1 hz2 rfl (by decide) _ _ _ rfl (hown4.alloc _) ⟨w4.heap.size, 0, none⟩ 1 1 [.int .i64 y] rfl rfl (cell_one_new _ _ _) (by intro u hu; simp at hu; subst hu; rfl) (by unfold maxLen; omega) (by omega) (by simp; omega) ?_
           intro v1 w5 hown5 hg5 _))
      have ho5 := only_row (only_alloc ho4 (.cells #[.int .i64 y] 3)) hg5 (fun r hr => (hown4.lt r hr).1)
      have hc5 : CurAt w w.heap.size w5 := (hc4.below ((Below.refl w4.heap.size w4).alloc (Nat.le_refl _) (.cells #[.int .i64 y] 3))).grown hg5 (fun e => by have := (hown4.lt w.heap.size e.symm).1; omega)
      have hb5 : Below w.heap.size w w5 := (hb4.alloc hb4.size _).grown hg5 (by simp; have := hb4.size; omega) (fun r hr => by have := (hown4.lt r hr).1; omega)
      go_roundw
      case rel =>
        refine ⟨k + 1, ys ++ [y], by omega, by simp; omega, by simp; omega, by go_num, ?_, hc5, ho5, hb5⟩
        rw [List.map_append, List.length_append]
        exact hown5
      case measure => simp [intOf]; omega
    · obtain ⟨A1, c1, rfl, _, _⟩ := own_slice hown3
      have hs3 := ho3.size
      have hrd3 : RdI w3 A1 ys.length ys := Rd.of_own hown3
      go_wp2_with (first
        | (at_builtin
           refine wpList_append_any _ rfl (.tmp 22) (.tmp 23) 40 rfl w3.heap.size 3 i0 (.int .i64 0) 1 8 Try.underlying40 hi hz0 hz1 hz2 rfl (by decide) (.slice (some ⟨w3.heap.size, 0, none⟩) 0 0) 0 [] rfl (World.ownsRow_made w3 #[] 0 (Nat.le_refl _) (by unfold maxLen; omega) rfl) A1 ys.length c1 (ys.map (Value.int .i64)) rfl (Rd.alloc hrd3 _) (oneCell_ints _ _) (by unfold maxLen; omega) (by omega) (by simp) ?_
           intro v1 w5 hown5 hg5 hat5))
      simp only [Nat.zero_add, List.nil_append] at hown5
      replace hg5 : (w3.alloc (.cells #[] 3)).grownBy w5 (some w3.heap.size) := hg5
      have hA1 : ∀ r, (Value.slice A1 ys.length c1).ownBlock = some r → r < w3.heap.size := fun r hr => (hown3.lt r hr).2
      have hown5a := (hown3.alloc (.cells #[] 3)).kept hg5 (.inr (fun e => by have := hA1 _ e; omega))
      have hc5 : CurAt w w.heap.size w5 := (hc3.below ((Below.refl w3.heap.size w3).alloc (Nat.le_refl _) (.cells #[] 3))).grown hg5 (fun e => by injection e with e; omega)
      have hb5 : Below w.heap.size w w5 := (hb3.alloc hb3.size _).grown hg5 (by simp; have := hb3.size; omega) (fun r hr => by injection hr with hr; omega)
      have hs5 := hg5.size
      have hle5 : w3.heap.size + 1 ≤ w5.heap.size := by simpa using hs5
      clear hg5 hat5 hown3 hc3 hb3 ho3 hrd3 hs5 hi hx0 hx2
      go_wp2_with fail
      refine (l01Below_any w _ w5 4 (by omega) hc5 hb5).mono ?_
      rintro e w6 h
      obtain ⟨q, rfl, ⟨hq0, hq1⟩, hc6, hg6, hb6⟩ := h.step hb5
      clear h
      have hown6a := own_only hown5a hg6 hgl
      have hown6 := own_only hown5 hg6 (by omega)
      have hs6 := hg6.size
      clear hown5a hown5 hc5 hb5 hg6
      rcases (by omega : q = 0 ∨ q = 1 ∨ q = 2 ∨ q = 3) with rfl | rfl | rfl | rfl
      · obtain ⟨i1, hi1, hz01, hz11, hz21⟩ := info_parts Try.infoInt
        go_wp2_with (first
          | (at_builtin
             refine wpList_append_own _ rfl (.tmp 29) (.tmp 30) 40 rfl w3.heap.size 3 i1 (.int .i64 0) 1 8 Try.underlying40 hi1 hz01 hz11 hz21 rfl (by decide) v1 ys.length (ys.map (Value.int .i64)) rfl (hown6.alloc _) ⟨w6.heap.size, 0, none⟩ 1 1 [.int .i64 1] rfl rfl (cell_one_new _ _ _) (by intro u hu; simp at hu; subst hu; rfl) (by unfold maxLen; omega) (by omega) (by simp; omega) ?_
             intro v2 w7 hown7 hg7 _))
        have hown7a := (hown6a.alloc (.cells #[.int .i64 1] 3)).kept hg7 (Classical.or_iff_not_imp_left.2 fun hne e => by
          cases hr : (Value.slice A1 ys.length c1).ownBlock with
          | none => exact hne hr
          | some r =>
            have h1 := hA1 r hr
            have h2 := (hown6.lt r (e.symm.trans hr)).1
            omega)
        have hb7 : Below w.heap.size w w7 := (hb6.alloc hb6.size _).grown hg7 (by simp; have := hb6.size; omega) (fun r hr => by have := (hown6.lt r hr).1; omega)
        obtain ⟨B, d, rfl, _, _⟩ := own_slice hown7
        go_wp2
        go_ret2
        exact ⟨A1, B, ys.length, ys.length + 1, c1, d, ys, ys ++ [1], rfl, by omega, by omega, Rd.of_own hown7a, Rd.of_own (by rw [List.map_append]; exact hown7), hb7⟩
      · by_cases hpos : 0 < ys.length
        · obtain ⟨g, cap, rfl, hg, _⟩ := hown6.form hpos
          go_wp2_with fail
          refine (l01Below_any w _ w6 3 (by omega) hc6 hb6).mono ?_
          rintro e w7 h
          obtain ⟨y, rfl, _, hc7, hg7, hb7⟩ := h.step hb6
          clear h
          have hown7a := own_only hown6a hg7 hgl
          have hown7 := own_only hown6 hg7 (by omega)
          clear hown6 hown6a hc6 hb6 hg7
          have hco := hown7.cellAt 0 (by omega)
          have hys : (ys.map (Value.int .i64))[0]? = some (.int .i64 (ys[0]'hpos)) := by simp [List.getElem?_eq_getElem hpos]
          rw [hys] at hco
          have hfo := hown7.frozenAt 0
          obtain ⟨u, hu⟩ : ∃ u, ys[0]'hpos = u := ⟨_, rfl⟩
          rw [hu] at hco
          have hst := hown7.stored 0 (.int .i64 y)
          have HS := Lib.hid hst
          have HB := Lib.hid hb7
          clear hst hys hu hb7 hc7
          go_wp2
          go_ret2
          obtain ⟨hs1, hs2⟩ := HS.out
          have hown8a := hown7a.kept hs2 (Classical.or_iff_not_imp_left.2 fun hne e => by
            cases hr : (Value.slice A1 ys.length c1).ownBlock with
            | none => exact hne hr
            | some r =>
              have h1 := hA1 r hr
              rw [hr] at e
              injection e with e
              omega)
          rw [show (ys.map (Value.int .i64)).set 0 (.int .i64 y) = (ys.set 0 y).map (Value.int .i64) by rw [List.map_set]] at hs1
          exact ⟨A1, _, ys.length, ys.length, c1, cap, ys, ys.set 0 y, rfl, by omega, by omega, Rd.of_own hown8a, Rd.of_own hs1, HB.out.grown hs2 HB.out.size (fun r hr => by injection hr with hr; omega)⟩
        · obtain ⟨B, d, rfl, _, _⟩ := own_slice hown6
          go_wp2
          go_ret2
          exact ⟨A1, B, ys.length, ys.length, c1, d, ys, ys, rfl, by omega, by omega, Rd.of_own hown6a, Rd.of_own hown6, hb6⟩
      · go_wp2_with fail
        refine (l01Below_any w _ w6 3 (by omega) hc6 hb6).mono ?_
        rintro e w7 h
        obtain ⟨y, rfl, _, hc7, hg7, hb7⟩ := h.step hb6
        clear h
        have hown7a := own_only hown6a hg7 hgl
        clear hown6 hown6a hc6 hb6 hg7
        go_wp2
        go_ret2
        exact ⟨A1, _, ys.length, 1, c1, 1, ys, [y], rfl, by omega, by omega, Rd.of_own (hown7a.alloc _), Rd.new w7 #[.int .i64 y] 3 rfl rfl, hb7.alloc hb7.size _⟩
      · obtain ⟨B, d, rfl, _, _⟩ := own_slice hown6
        go_wp2
        go_ret2
        exact ⟨A1, B, ys.length, ys.length, c1, d, ys, ys, rfl, by omega, by omega, Rd.of_own hown6a, Rd.of_own hown6, hb6⟩
end Go.Proofs.Ytbegiflfecoanaa
