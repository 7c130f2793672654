/- l04Sorted: the reference's sorting by insertion, each once. No conditions but the length. -/
import Derived.Test.YtnhanakeijplcaaSetI
import Derived.Test.YtnhanakeijplcaaApp
import Derived.RegionTactic
import Derived.OwnWalk
namespace Go.Proofs.Ytnhanakeijplcaa
open Go.RowKit

theorem filtI_next {out : List Int} {p : Int → Bool} {j : Nat} (h : j < out.length) (hp : p (out.getD j 0) = true) : (out.take (j + 1)).filter p = (out.take j).filter p ++ [out.getD j 0] := by
  have e : out.getD j 0 = out[j] := by simp [List.getD, List.getElem?_eq_getElem h]
  rw [e] at hp ⊢
  rw [List.take_succ_eq_append_getElem h, List.filter_append]
  simp [hp]
theorem filtI_skip {out : List Int} {p : Int → Bool} {j : Nat} (h : j < out.length) (hp : p (out.getD j 0) = false) : (out.take (j + 1)).filter p = (out.take j).filter p := by
  have e : out.getD j 0 = out[j] := by simp [List.getD, List.getElem?_eq_getElem h]
  rw [e] at hp
  rw [List.take_succ_eq_append_getElem h, List.filter_append]
  simp [hp]
theorem filtI_le (out : List Int) (p : Int → Bool) (j : Nat) : ((out.take j).filter p).length ≤ j :=
  Nat.le_trans (List.length_filter_le _ _) (by simp; omega)
theorem setI_next {zs : List Int} {k : Nat} (h : k < zs.length) : setI (zs.take (k + 1)) = insI (setI (zs.take k)) (zs.getD k 0) := by
  have e : zs.getD k 0 = zs[k] := by simp [List.getD, List.getElem?_eq_getElem h]
  rw [e, List.take_succ_eq_append_getElem h, setI, List.foldl_append]
  rfl

set_option maxRecDepth 100000 in
set_option maxHeartbeats 6400000 in
theorem spec_l04Sorted_any (A : Option Addr) (n c : Nat) (zs : List Int) (w : World) (hx : RdI w A n zs) (hn : n ≤ 1073741824) :
    Calls Try.prog 60 #[.slice A n c] w (MadeI w (setI zs)) := by
  obtain ⟨i0, hi, hz0, hz1, hz2⟩ := info_parts Try.infoInt
  have hlen := hx.len
  subst hlen
  have HX := Lib.hid hx
  clear hx
  go_enter Try.func60, Try.ntmps60
  go_wp2
  go_loopw [3, 4] (fun v i wr => ∃ (k : Nat) (out : List Int), k ≤ zs.length ∧ i = .int .i64 k ∧ Hid (out = setI (zs.take k)) ∧ out.length ≤ k ∧ wr.ownsRow w.heap.size 3 1 v out.length (out.map (Value.int .i64)) ∧ Below w.heap.size w wr) (fun _ i _ => zs.length - (intOf i).toNat)
  case atStart => exact ⟨0, [], Nat.zero_le _, rfl, Lib.hid (by simp [setI]), Nat.le_refl _, World.ownsRow_made w #[] 0 (Nat.le_refl _) (by unfold maxLen; omega) rfl, (Below.refl _ _).alloc (Nat.le_refl _) _⟩
  case round =>
    obtain ⟨k, out, hk, rfl, HS, hol, hown, hb⟩ := hrel
    by_cases hlt : k < zs.length
    · obtain ⟨W, rfl⟩ : ∃ W, W = wr := ⟨_, rfl⟩
      obtain ⟨B, oc, rfl, _, _⟩ := own_slice hown
      have RO := Lib.hid (show RdI W B out.length out from Rd.of_own hown)
      have RX := Lib.hid (HX.out.below hb)
      obtain ⟨x, hxx⟩ : ∃ x, zs.getD k 0 = x := ⟨_, rfl⟩
      have EX := Lib.hid hxx
      have hws := hb.size
      have own0 := World.ownsRow_made (base := W.heap.size) (e := 3) (size := 1) W #[] 0 (Nat.le_refl _) (by unfold maxLen; omega) rfl
      have OWN0 := Lib.hid own0
      have HB := Lib.hid hb
      obtain ⟨adx, rfl, hcx⟩ := RX.out.at_ hlt
      rw [hxx] at hcx
      clear hown hb own0 hxx
      go_wp2
      go_loopw [5, 6] (fun v i wr => ∃ (j : Nat) (ys : List Int), j ≤ out.length ∧ i = .int .i64 j ∧ Hid (ys = (out.take j).filter fun y => decide (y < x)) ∧ ys.length ≤ j ∧ wr.ownsRow W.heap.size 3 1 v ys.length (ys.map (Value.int .i64)) ∧ Below W.heap.size W wr) (fun _ i _ => out.length - (intOf i).toNat)
      case atStart => exact ⟨0, [], Nat.zero_le _, rfl, Lib.hid (by simp), Nat.le_refl _, OWN0.out, (Below.refl _ _).alloc (Nat.le_refl _) _⟩
      case round =>
        obtain ⟨j, ys, hj, rfl, HY, hyl, hown, hb⟩ := hrel
        by_cases hjl : j < out.length
        · obtain ⟨ad, rfl, hc0⟩ := (RO.out.below hb).at_ hjl
          have hc1 := held_step hb hcx
          have j0 : (0 : Int) ≤ (j : Int) := by omega
          have j1 : (j : Int) < (out.length : Int) := by omega
          have k0 : (0 : Int) ≤ (k : Int) := by omega
          have k1 : (k : Int) < (zs.length : Int) := by omega
          obtain ⟨y, hy⟩ : ∃ y, out.getD j 0 = y := ⟨_, rfl⟩
          rw [hy] at hc0
          have EY := Lib.hid hy
          clear hy
          by_cases hyx : y < x
          · have d0 : decide (y < x) = true := decide_eq_true hyx
            have F := Lib.hid (filtI_next (p := fun y => decide (y < x)) hjl (by rw [EY.out]; exact d0))
            go_wp2_with (first
              | go_region
              | (at_builtin
                 refine wpList_append_own _ rfl (.tmp 31) (.tmp 36) 28 rfl W.heap.size 3 i0 (.int .i64 0) 1 8 Try.underlying28 hi hz0 hz1 hz2 rfl (by decide) _ _ _ rfl (hown.alloc _) ⟨wr.heap.size, 0, none⟩ 1 1 [.int .i64 y] rfl rfl (cell_one_new _ _ _) (by intro u hu; simp at hu; subst hu; rfl) (by unfold maxLen; omega) (by omega) (by simp; have := hb.size; omega) ?_
                 intro v1 w3 hown3 hg3 _))
            have hbs := hb.size
            have hb3 : Below W.heap.size W w3 := ((hb.alloc hbs (.cells #[.int .i64 y] 3)).drew).grown hg3 (by simp; omega) (fun r hr => by have := (hown.lt r hr).1; omega)
            clear d0
            go_roundw
            case rel =>
              refine ⟨j + 1, ys ++ [y], by omega, by go_num, ?_, by simp; omega, ?_, hb3⟩
              · refine Lib.hid ?_
                rw [F.out, HY.out, EY.out]
              · rw [List.map_append, List.length_append]
                exact hown3
            case measure => simp [intOf]; omega
          · have d0 : decide (y < x) = false := decide_eq_false hyx
            have F := Lib.hid (filtI_skip (p := fun y => decide (y < x)) hjl (by rw [EY.out]; exact d0))
            go_wp2_with go_region
            clear d0
            go_roundw
            case rel => exact ⟨j + 1, ys, by omega, by go_num, Lib.hid (by rw [F.out, HY.out]), by omega, hown, hb.drew⟩
            case measure => simp [intOf]; omega
        · obtain rfl : j = out.length := by omega
          have HY1 : Hid (ys = out.filter fun y => decide (y < x)) := Lib.hid (by have := HY.out; rwa [List.take_of_length_le (Nat.le_refl _)] at this)
          have hc1 := held_step hb hcx
          have hbs := hb.size
          have k0 : (0 : Int) ≤ (k : Int) := by omega
          have k1 : (k : Int) < (zs.length : Int) := by omega
          go_wp2_with (first
            | (at_builtin
               refine wpList_append_own _ rfl (.tmp 38) (.tmp 43) 28 rfl W.heap.size 3 i0 (.int .i64 0) 1 8 Try.underlying28 hi hz0 hz1 hz2 rfl (by decide) _ _ _ rfl (hown.alloc _) ⟨wr.heap.size, 0, none⟩ 1 1 [.int .i64 x] rfl rfl (cell_one_new _ _ _) (by intro u hu; simp at hu; subst hu; rfl) (by unfold maxLen; omega) (by omega) (by simp; omega) ?_
               intro v1 w3 hown3 hg3 _))
          have hb3 : Below W.heap.size W w3 := (hb.alloc hbs (.cells #[.int .i64 x] 3)).grown hg3 (by simp; omega) (fun r hr => by have := (hown.lt r hr).1; omega)
          have HB3 := Lib.hid hb3
          have OWN3 : Hid (w3.ownsRow W.heap.size 3 1 v1 (ys ++ [x]).length ((ys ++ [x]).map (Value.int .i64))) := by
            refine Lib.hid ?_
            rw [List.map_append, List.length_append]
            exact hown3
          clear hown hb hown3 hg3 hb3 hc1 hbs k0 k1
          go_wp2
          go_loopw [5, 7] (fun v i wr => ∃ (j : Nat) (us : List Int), j ≤ out.length ∧ i = .int .i64 j ∧ Hid (us = (ys ++ [x]) ++ (out.take j).filter fun y => decide (x < y)) ∧ us.length ≤ ys.length + 1 + j ∧ wr.ownsRow W.heap.size 3 1 v us.length (us.map (Value.int .i64)) ∧ Below W.heap.size W wr) (fun _ i _ => out.length - (intOf i).toNat)
          case atStart => exact ⟨0, ys ++ [x], Nat.zero_le _, rfl, Lib.hid (by simp), by simp, OWN3.out, HB3.out⟩
          case round =>
            obtain ⟨j, us, hj, rfl, HU, hul, hown, hb⟩ := hrel
            by_cases hjl : j < out.length
            · obtain ⟨ad, rfl, hc0⟩ := (RO.out.below hb).at_ hjl
              have hc1 := held_step hb hcx
              have j0 : (0 : Int) ≤ (j : Int) := by omega
              have j1 : (j : Int) < (out.length : Int) := by omega
              have k0 : (0 : Int) ≤ (k : Int) := by omega
              have k1 : (k : Int) < (zs.length : Int) := by omega
              obtain ⟨y, hy⟩ : ∃ y, out.getD j 0 = y := ⟨_, rfl⟩
              rw [hy] at hc0
              have EY := Lib.hid hy
              clear hy
              by_cases hyx : x < y
              · have d0 : decide (x < y) = true := decide_eq_true hyx
                have F := Lib.hid (filtI_next (p := fun y => decide (x < y)) hjl (by rw [EY.out]; exact d0))
                go_wp2_with (first
                  | go_region
                  | (at_builtin
                     refine wpList_append_own _ rfl (.tmp 60) (.tmp 65) 28 rfl W.heap.size 3 i0 (.int .i64 0) 1 8 Try.underlying28 hi hz0 hz1 hz2 rfl (by decide) _ _ _ rfl (hown.alloc _) ⟨wr.heap.size, 0, none⟩ 1 1 [.int .i64 y] rfl rfl (cell_one_new _ _ _) (by intro u hu; simp at hu; subst hu; rfl) (by unfold maxLen; omega) (by omega) (by simp; have := hb.size; omega) ?_
                     intro v1 w3 hown3 hg3 _))
                have hbs := hb.size
                have hb3 : Below W.heap.size W w3 := ((hb.alloc hbs (.cells #[.int .i64 y] 3)).drew).grown hg3 (by simp; omega) (fun r hr => by have := (hown.lt r hr).1; omega)
                clear d0
                go_roundw
                case rel =>
                  refine ⟨j + 1, us ++ [y], by omega, by go_num, ?_, by simp; omega, ?_, hb3⟩
                  · refine Lib.hid ?_
                    rw [F.out, HU.out, EY.out]
                    simp
                  · rw [List.map_append, List.length_append]
                    exact hown3
                case measure => simp [intOf]; omega
              · have d0 : decide (x < y) = false := decide_eq_false hyx
                have F := Lib.hid (filtI_skip (p := fun y => decide (x < y)) hjl (by rw [EY.out]; exact d0))
                go_wp2_with go_region
                clear d0
                go_roundw
                case rel => exact ⟨j + 1, us, by omega, by go_num, Lib.hid (by rw [F.out, HU.out]), by omega, hown, hb.drew⟩
                case measure => simp [intOf]; omega
            · obtain rfl : j = out.length := by omega
              have HU1 : Hid (us = insI out x) := Lib.hid (by
                have := HU.out
                rw [List.take_of_length_le (Nat.le_refl _), HY1.out] at this
                rw [this]
                simp [insI])
              have hul2 : us.length ≤ k + 1 := by
                have h1 := HU1.out
                have h2 := insI_len out x
                rw [← h1] at h2
                omega
              clear HU
              go_wp2
              go_roundw
              case rel =>
                refine ⟨k + 1, us, by omega, by go_num, Lib.hid ?_, hul2, own_mono hown hws, below_step HB.out hb⟩
                rw [HU1.out, setI_next hlt, EX.out, ← HS.out]
              case measure => simp [intOf]; omega
    · obtain rfl : k = zs.length := by omega
      have hz : setI zs = out := by
        have := HS.out
        rw [List.take_of_length_le (Nat.le_refl _)] at this
        exact this.symm
      obtain ⟨B, oc, rfl, _, _⟩ := own_slice hown
      go_wp2
      go_ret
      unfold MadeI
      rw [hz]
      exact ⟨B, oc, rfl, hown, hb⟩
end Go.Proofs.Ytnhanakeijplcaa
