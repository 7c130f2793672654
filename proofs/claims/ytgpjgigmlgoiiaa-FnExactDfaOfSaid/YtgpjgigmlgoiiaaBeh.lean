/- spec.l06Behind: matrices of bools put behind each other; spec.l06Or as relations. Conditions: the number of places. -/
import Derived.Test.YtgpjgigmlgoiiaaSem
import Derived.Test.YtgpjgigmlgoiiaaL06Or
namespace Go.Proofs.Ytgpjgigmlgoiiaa
open Go.RowKit

/-- What a call that makes a matrix leaves. -/
def MadeM (n : Nat) (R : Rl) (w : World) (e : Ending) (w' : World) : Prop := ∃ A c bs, e = .returned (.slice A (n * n) c) ∧ IsB n bs R ∧ w'.ownsRow w.heap.size 4 1 (.slice A (n * n) c) (n * n) (bls bs) ∧ Below w.heap.size w w'
theorem cell_ij {n i j a b : Nat} (hj : j < n) (hb : b < n) : i * n + j = a * n + b ↔ i = a ∧ j = b := by
  constructor
  · intro h
    have h1 : (i * n + j) / n = i := by rw [Nat.mul_comm, Nat.mul_add_div (by omega), Nat.div_eq_of_lt hj]; omega
    have h2 : (a * n + b) / n = a := by rw [Nat.mul_comm, Nat.mul_add_div (by omega), Nat.div_eq_of_lt hb]; omega
    have h3 : i = a := by rw [← h1, ← h2, h]
    subst h3
    exact ⟨rfl, by omega⟩
  · rintro ⟨rfl, rfl⟩; rfl
theorem ij_lt {n i j : Nat} (hi : i < n) (hj : j < n) : i * n + j < n * n := by
  have h : (i + 1) * n ≤ n * n := Nat.mul_le_mul_right n hi
  rw [Nat.add_mul] at h
  omega
theorem gd_setB (bs : List Bool) (i j : Nat) (b : Bool) (hi : i < bs.length) : (bs.set i b).getD j false = if i = j then b else bs.getD j false := by
  simp only [List.getD, List.getElem?_set]
  by_cases e : i = j
  · subst e; rw [if_pos rfl, if_pos rfl, if_pos hi]; rfl
  · rw [if_neg e, if_neg e]
theorem bls_at {bs : List Bool} {k : Nat} (h : k < bs.length) : (bls bs)[k]? = some (.bool (bs.getD k false)) := by simp [bls, h]
theorem bls_set (bs : List Bool) (k : Nat) (b : Bool) : (bls bs).set k (.bool b) = bls (bs.set k b) := by simp [bls, List.map_set]
theorem bls_no (n : Nat) : (madeCells #[Value.bool false] n).toList = bls (List.replicate n false) := by
  apply List.ext_getElem
  · simp [madeCells, bls]
  · intro i h1 h2
    simp [madeCells, bls, Nat.mod_one]
/-- What is done of a composition before the place (i, k, j). -/
structure BhI (n : Nat) (R S : Rl) (i k j : Nat) (bs : List Bool) : Prop where
  len : bs.length = n * n
  bit : ∀ a b, a < n → b < n → (bs.getD (a * n + b) false = true ↔ ∃ m, m < n ∧ R a m ∧ S m b ∧ (a < i ∨ (a = i ∧ (m < k ∨ (m = k ∧ b < j)))))
theorem BhI.start (n : Nat) (R S : Rl) : BhI n R S 0 0 0 (List.replicate (n * n) false) := by
  refine ⟨by simp, fun a b ha hb => ?_⟩
  simp only [List.getD, List.getElem?_replicate]
  constructor
  · intro h; split at h <;> simp at h
  · rintro ⟨m, _, _, _, h | ⟨_, h | ⟨_, h⟩⟩⟩ <;> omega
theorem BhI.step {n : Nat} {R S : Rl} {i k j : Nat} {bs : List Bool} (h : BhI n R S i k j bs) (hi : i < n) (hk : k < n) (hj : j < n) (hr : R i k) {y : Bool} (hy : y = true ↔ S k j) : BhI n R S i k (j + 1) (bs.set (i * n + j) (bs.getD (i * n + j) false || y)) := by
  refine ⟨by simp [h.len], fun a b ha hb => ?_⟩
  rw [gd_setB _ _ _ _ (by rw [h.len]; exact ij_lt hi hj)]
  by_cases e : i * n + j = a * n + b
  · obtain ⟨rfl, rfl⟩ := (cell_ij hj hb).1 e
    rw [if_pos rfl, Bool.or_eq_true, hy, h.bit i j hi hj]
    constructor
    · rintro (⟨m, h1, h2, h3, h4⟩ | h3)
      · exact ⟨m, h1, h2, h3, by omega⟩
      · exact ⟨k, hk, hr, h3, by omega⟩
    · rintro ⟨m, h1, h2, h3, h4⟩
      by_cases em : m = k
      · subst em; exact .inr h3
      · exact .inl ⟨m, h1, h2, h3, by omega⟩
  · rw [if_neg e, h.bit a b ha hb]
    have hne : ¬ (i = a ∧ j = b) := fun hh => e ((cell_ij hj hb).2 hh)
    constructor
    · rintro ⟨m, h1, h2, h3, h4⟩; exact ⟨m, h1, h2, h3, by omega⟩
    · rintro ⟨m, h1, h2, h3, h4⟩; exact ⟨m, h1, h2, h3, by omega⟩
theorem BhI.endJ {n : Nat} {R S : Rl} {i k : Nat} {bs : List Bool} (h : BhI n R S i k n bs) : BhI n R S i (k + 1) 0 bs := by
  refine ⟨h.len, fun a b ha hb => (h.bit a b ha hb).trans ?_⟩
  constructor
  · rintro ⟨m, h1, h2, h3, h4⟩; exact ⟨m, h1, h2, h3, by omega⟩
  · rintro ⟨m, h1, h2, h3, h4⟩; exact ⟨m, h1, h2, h3, by omega⟩
theorem BhI.skip {n : Nat} {R S : Rl} {i k j : Nat} {bs : List Bool} (h : BhI n R S i k j bs) (hr : ¬ R i k) : BhI n R S i (k + 1) 0 bs := by
  refine ⟨h.len, fun a b ha hb => (h.bit a b ha hb).trans ?_⟩
  constructor
  · rintro ⟨m, h1, h2, h3, h4⟩; exact ⟨m, h1, h2, h3, by omega⟩
  · rintro ⟨m, h1, h2, h3, h4⟩
    refine ⟨m, h1, h2, h3, ?_⟩
    by_cases e : a = i ∧ m = k
    · obtain ⟨rfl, rfl⟩ := e; exact absurd h2 hr
    · omega
theorem BhI.endK {n : Nat} {R S : Rl} {i : Nat} {bs : List Bool} (h : BhI n R S i n 0 bs) : BhI n R S (i + 1) 0 0 bs := by
  refine ⟨h.len, fun a b ha hb => (h.bit a b ha hb).trans ?_⟩
  constructor
  · rintro ⟨m, h1, h2, h3, h4⟩; exact ⟨m, h1, h2, h3, by omega⟩
  · rintro ⟨m, h1, h2, h3, h4⟩; exact ⟨m, h1, h2, h3, by omega⟩
theorem BhI.done {n : Nat} {R S : Rl} {bs : List Bool} (h : BhI n R S n 0 0 bs) : IsB n bs (cmpR n R S) := by
  refine ⟨h.len, fun a b ha hb => (h.bit a b ha hb).trans ?_⟩
  constructor
  · rintro ⟨m, h1, h2, h3, h4⟩; exact ⟨m, h1, h2, h3⟩
  · rintro ⟨m, h1, h2, h3⟩; exact ⟨m, h1, h2, h3, .inl ha⟩
theorem IsB.or {n : Nat} {as_ bs : List Bool} {R S : Rl} (h : IsB n as_ R) (h2 : IsB n bs S) : IsB n (orTo as_ bs as_.length) (orR R S) := by
  refine ⟨by rw [orTo_len, h.len], fun i j hi hj => ?_⟩
  have hl := ij_lt hi hj
  have e : (orTo as_ bs as_.length).getD (i * n + j) false = (as_.getD (i * n + j) false || bs.getD (i * n + j) false) := by
    have hl2 : i * n + j < as_.length := by rw [h.len]; exact hl
    simp [orTo, List.getD, hl2]
  rw [e, Bool.or_eq_true, h.bit i j hi hj, h2.bit i j hi hj]
  exact Iff.rfl
theorem l06OrR_any (n base : Nat) (A B : Option Addr) (c d : Nat) (as_ bs : List Bool) (R S : Rl) (w : World) (hn : n ≤ 32) (ha : IsB n as_ R) (hb : IsB n bs S) (hown : w.ownsRow base 4 1 (.slice A (n * n) c) (n * n) (bls as_)) (hy : ∀ w', w.grownBy w' (Value.slice A (n * n) c).ownBlock → RdB w' B (n * n) bs) :
    Calls Try.prog 93 #[.slice A (n * n) c, .slice B (n * n) d] w fun e w' => e = .returned (.tuple #[]) ∧ w.grownBy w' (Value.slice A (n * n) c).ownBlock ∧ ∃ bs', IsB n bs' (orR R S) ∧ w'.ownsRow base 4 1 (.slice A (n * n) c) (n * n) (bls bs') := by
  have hmul : n * n ≤ 32 * 32 := Nat.mul_le_mul hn hn
  have h := l06Or_any base A B c d as_ bs w (by rw [ha.len]; exact hown) (by rw [ha.len, hb.len]; exact hy) (by rw [ha.len, hb.len]) (by rw [ha.len]; omega)
  rw [hb.len] at h
  have hab := ha.or hb
  have hl := ha.len
  rw [hl] at h hab
  exact h.mono (fun e w' ⟨h1, h2, h3⟩ => ⟨h1, h3, _, hab, h2⟩)

set_option maxRecDepth 100000 in
set_option maxHeartbeats 6400000 in
theorem l06Behind_any (n : Nat) (A B : Option Addr) (c d : Nat) (as_ bs : List Bool) (R S : Rl) (w : World) (hn : n ≤ 32) (ha : IsB n as_ R) (hb : IsB n bs S) (hx : RdB w A (n * n) as_) (hy : RdB w B (n * n) bs) :
    Calls Try.prog 92 #[.slice A (n * n) c, .slice B (n * n) d, .int .i64 n] w (MadeM n (cmpR n R S) w) := by
  obtain ⟨i0, hi, hz0, hz1, hz2⟩ := info_parts Try.infoBool
  have hmul : n * n ≤ 32 * 32 := Nat.mul_le_mul hn hn
  have HX := Lib.hid hx
  have HY := Lib.hid hy
  have HA := Lib.hid ha
  have HB := Lib.hid hb
  have hno := bls_no (n * n)
  have wnn : IntKind.i64.wrap ((n : Int) * (n : Int)) = ((n * n : Nat) : Int) := by rw [← Int.natCast_mul]; exact IntWalk.i64_in _ (by omega)
  have HST := Lib.hid (BhI.start n R S)
  have HIJ := Lib.hid (fun i j (hi : i < n) (hj : j < n) => ij_lt hi hj)
  have HWR := Lib.hid (fun i (hi : i < n) => show IntKind.i64.wrap ((i : Int) * (n : Int)) = ((i * n : Nat) : Int) by
    rw [← Int.natCast_mul]
    have : i * n ≤ 32 * 32 := Nat.mul_le_mul (by omega) hn
    exact IntWalk.i64_in _ (by omega))
  have HNN := Lib.hid (rfl : n * n = n * n)
  obtain ⟨nn, hnn⟩ : ∃ nn, n * n = nn := ⟨_, rfl⟩
  rw [hnn] at HX HY hmul hno wnn
  have HN := Lib.hid hnn
  have hgoal : ∀ e w', (∃ A c bs, e = .returned (.slice A nn c) ∧ IsB n bs (cmpR n R S) ∧ w'.ownsRow w.heap.size 4 1 (.slice A nn c) nn (bls bs) ∧ Below w.heap.size w w') → MadeM n (cmpR n R S) w e w' := by
    intro e w' h
    unfold MadeM
    rw [hnn]
    exact h
  have HG := Lib.hid hgoal
  rw [hnn]
  clear hx hy ha hb hgoal HNN hnn
  refine Calls.mono (R := fun e w' => ∃ A c bs, e = .returned (.slice A nn c) ∧ IsB n bs (cmpR n R S) ∧ w'.ownsRow w.heap.size 4 1 (.slice A nn c) nn (bls bs) ∧ Below w.heap.size w w') ?_ HG.out
  go_enter Try.func92, Try.ntmps92
  go_wp2_with (first
    | (at_make
       refine wpList_make_full _ rfl _ _ 23 rfl w.heap.size 4 i0 (.bool false) 1 Try.underlying23 hi hz0 hz1 .i64 .i64 (nn : Int) (nn : Int) nn rfl rfl rfl rfl (by rw [hz2]; omega) (by unfold maxLen; omega) (Nat.le_refl _) ?_
       intro w0 hown0 hg0
       rw [Nat.mul_one] at hown0
       have hown1 : w0.ownsRow w.heap.size 4 1 (.slice (some ⟨w.heap.size, 0, none⟩) nn nn) nn (bls (List.replicate nn false)) := by rw [← hno]; exact hown0
       have hb0 := (Below.refl w.heap.size w).grown hg0 (Nat.le_refl _) (fun g hg => by cases hg)))
  clear hno wnn
  have HST2 : Hid (BhI n R S 0 0 0 (List.replicate nn false)) := Lib.hid (by rw [← HN.out]; exact HST.out)
  go_loopw [8] (fun i wr => ∃ (k : Nat) (ys : List Bool), k ≤ n ∧ i = .int .i64 k ∧ Hid (BhI n R S k 0 0 ys) ∧ wr.ownsRow w.heap.size 4 1 (.slice (some ⟨w.heap.size, 0, none⟩) nn nn) nn (bls ys) ∧ Below w.heap.size w wr) (fun i _ => n - (intOf i).toNat)
  case atStart => exact ⟨0, _, Nat.zero_le _, rfl, HST2, hown1, hb0⟩
  case round =>
    clear hown0 hown1 hg0 hb0 HST HST2
    obtain ⟨i, ys, hi', rfl, HI, hown, hb⟩ := hrel
    obtain ⟨wo, rfl⟩ : ∃ wo : World, wo = wr := ⟨_, rfl⟩
    by_cases hlt : i < n
    · have HO := Lib.hid hown
      have HBW := Lib.hid hb
      clear hown hb
      go_wp2_with fail
      go_loopw [9] (fun i1 wr => ∃ (k : Nat) (ys : List Bool), k ≤ n ∧ i1 = .int .i64 k ∧ Hid (BhI n R S i k 0 ys) ∧ wr.ownsRow w.heap.size 4 1 (.slice (some ⟨w.heap.size, 0, none⟩) nn nn) nn (bls ys) ∧ Below w.heap.size w wr) (fun i _ => n - (intOf i).toNat)
      case atStart => exact ⟨0, _, Nat.zero_le _, rfl, HI, HO.out, HBW.out⟩
      case round =>
        clear HO HBW HI
        obtain ⟨k, ys, hk', rfl, HI, hown, hb⟩ := hrel
        obtain ⟨wp, rfl⟩ : ∃ wp : World, wp = wr := ⟨_, rfl⟩
        by_cases hkt : k < n
        · have HO := Lib.hid hown
          have HBW := Lib.hid hb
          have HW1 := HWR.out i hlt
          have h1 := HIJ.out i k hlt hkt
          have HRK := HA.out.bit i k hlt hkt
          obtain ⟨q, hq⟩ : ∃ q, i * n = q := ⟨_, rfl⟩
          rw [hq] at HW1 h1 HRK
          obtain ⟨x1, hx1⟩ : ∃ x, q + k = x := ⟨_, rfl⟩
          rw [hx1] at h1 HRK
          rw [HN.out] at h1
          obtain ⟨av, hav⟩ : ∃ a, as_.getD x1 false = a := ⟨_, rfl⟩
          rw [hav] at HRK
          have HRK := Lib.hid HRK
          have HAV := Lib.hid hav
          have HQ := Lib.hid hq
          have w1 : IntKind.i64.wrap ((q : Int) + (k : Int)) = (x1 : Int) := by rw [← hx1]; push_cast; exact IntWalk.i64_in _ (by omega)
          have b1 : (0 : Int) ≤ (x1 : Int) := by omega
          have b2 : (x1 : Int) < (nn : Int) := by omega
          clear hown hb hq hav
          go_wp2_with fail
          go_loopw [10] (fun i1 wr => ∃ (j : Nat) (ys : List Bool), j ≤ n ∧ i1 = .int .i64 j ∧ Hid (BhI n R S i k j ys) ∧ wr.ownsRow w.heap.size 4 1 (.slice (some ⟨w.heap.size, 0, none⟩) nn nn) nn (bls ys) ∧ Below w.heap.size w wr) (fun i _ => n - (intOf i).toNat)
          case atStart => exact ⟨0, _, Nat.zero_le _, rfl, HI, HO.out, HBW.out⟩
          case round =>
            clear HO HBW HI
            obtain ⟨j, ys, hj', rfl, HI, hown, hb⟩ := hrel
            obtain ⟨wq, rfl⟩ : ∃ wq : World, wq = wr := ⟨_, rfl⟩
            have HO := Lib.hid hown
            have HBW := Lib.hid hb
            by_cases hjt : j < n
            · obtain ⟨ad, rfl, z0⟩ := (HX.out.below hb).at_ (show x1 < nn by omega)
              rw [HAV.out] at z0
              clear hown hb
              cases av
              · have HNO := Lib.hid (show ¬ R i k from fun h => by have := HRK.out.2 h; cases this)
                go_wp2
                go_roundw
                case rel => exact ⟨k + 1, ys, by omega, by go_num, Lib.hid (HI.out.skip HNO.out), HO.out, HBW.out⟩
                case measure => simp [intOf]; omega
              · have HYES := Lib.hid (HRK.out.1 rfl)
                have h2 := HIJ.out i j hlt hjt
                have h3 := HIJ.out k j hkt hjt
                have HW3 := HWR.out k hkt
                have HSJ := HB.out.bit k j hkt hjt
                rw [HQ.out, HN.out] at h2
                rw [HN.out] at h3
                obtain ⟨r, hr⟩ : ∃ r, k * n = r := ⟨_, rfl⟩
                rw [hr] at HW3 h3 HSJ
                obtain ⟨x2, hx2⟩ : ∃ x, q + j = x := ⟨_, rfl⟩
                obtain ⟨x3, hx3⟩ : ∃ x, r + j = x := ⟨_, rfl⟩
                rw [hx2] at h2
                rw [hx3] at h3 HSJ
                have w2 : IntKind.i64.wrap ((q : Int) + (j : Int)) = (x2 : Int) := by rw [← hx2]; push_cast; exact IntWalk.i64_in _ (by omega)
                have w3 : IntKind.i64.wrap ((r : Int) + (j : Int)) = (x3 : Int) := by rw [← hx3]; push_cast; exact IntWalk.i64_in _ (by omega)
                have b3 : (0 : Int) ≤ (x2 : Int) := by omega
                have b4 : (x2 : Int) < (nn : Int) := by omega
                have b5 : (0 : Int) ≤ (x3 : Int) := by omega
                have b6 : (x3 : Int) < (nn : Int) := by omega
                obtain ⟨ad2, rfl, z1⟩ := (HY.out.below HBW.out).at_ (show x3 < nn by omega)
                have hyl := HI.out.len
                rw [HN.out] at hyl
                have hco := HO.out.cellAt x2 (by omega)
                rw [bls_at (by omega)] at hco
                have hfo := HO.out.frozenAt x2
                have hst := HI.out.step hlt hkt hjt HYES.out HSJ
                rw [HQ.out, hx2] at hst
                obtain ⟨yv, hyv⟩ : ∃ y, ys.getD x2 false = y := ⟨_, rfl⟩
                obtain ⟨bv, hbv⟩ : ∃ y, bs.getD x3 false = y := ⟨_, rfl⟩
                rw [hyv] at hco hst
                rw [hbv] at z1 hst
                have HST := Lib.hid hst
                have HS := Lib.hid (HO.out.stored x2 (.bool (yv || bv)))
                clear hyv hbv hst HSJ hr hx2 hx3 hyl
                cases yv
                all_goals
                  go_wp2
                  go_roundw
                  case rel =>
                    have h5 := HS.out.1
                    rw [bls_set] at h5
                    exact ⟨j + 1, _, by omega, by go_num, HST, by first | exact h5 | simpa using h5, by first | exact HBW.out.grown HS.out.2 HBW.out.size (fun g hg => by cases hg; exact Nat.le_refl _) | simpa using HBW.out.grown HS.out.2 HBW.out.size (fun g hg => by cases hg; exact Nat.le_refl _)⟩
                  case measure => simp [intOf]; omega
            · obtain rfl : j = n := by omega
              clear hown hb
              go_wp2
              go_roundw
              case rel => exact ⟨k + 1, ys, by omega, by go_num, Lib.hid HI.out.endJ, HO.out, HBW.out⟩
              case measure => simp [intOf]; omega
        · obtain rfl : k = n := by omega
          go_wp2
          go_roundw
          case rel => exact ⟨i + 1, ys, by omega, by go_num, Lib.hid HI.out.endK, hown, hb⟩
          case measure => simp [intOf]; omega
    · obtain rfl : i = n := by omega
      go_wp2
      go_ret
      exact ⟨_, _, ys, rfl, HI.out.done, hown, hb⟩
end Go.Proofs.Ytgpjgigmlgoiiaa
