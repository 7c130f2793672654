/- Arcs: copied, compared, sized, marked, held; opened. (Printed by a program of ours out of the texts on edges.) No conditions but the lengths. -/
import Derived.Test.YtjlekcoikceidaaGraph
import Derived.Test.YtjlekcoikceidaaMark
import Derived.Test.YtjlekcoikceidaaMOpen
import Derived.Deep.RegionHeld3
namespace Go.Proofs.Ytjlekcoikceidaa
open Go.ChangeShapes Go.WideShapes Go.ChangeAt Go.RowKit Go.Joins Go.Deep
theorem Try.infoArc : (Try.prog.info? 64).map (fun i => (i.zero, i.size, i.bytes)) = some (some (.agg #[.int .i64 0, .int .u8 0, .int .i64 0]), 3, 24) := by kernel_rfl

/-- What a call that makes a slice of edges leaves. -/
def MadeA (w : World) (es : List Ed) (e : Ending) (w' : World) : Prop := ∃ A c, e = .returned (.slice A es.length c) ∧ w'.ownsRow w.heap.size 64 3 (.slice A es.length c) es.length (edCells es) ∧ Below w.heap.size w w'

set_option maxRecDepth 100000 in
theorem eqArc_any (a b : Ed) (w : World) : Calls Try.prog 44 #[a.val, b.val] w fun e w' => e = .returned (.bool (edEq a b)) ∧ Below w.heap.size w w' := by
  obtain ⟨af, al, at_⟩ := a
  obtain ⟨bf, bl, bt⟩ := b
  unfold Ed.val
  by_cases h1 : af = bf
  · by_cases h2 : al = bl
    · by_cases h3 : at_ = bt
      · subst h1 h2 h3
        rw [show edEq ⟨af, al, at_⟩ ⟨af, al, at_⟩ = true by simp [edEq]]
        go_enter Try.func44, Try.ntmps44
        go_wp2
        go_ret
        exact ⟨rfl, ((Below.refl w.heap.size w).alloc (Nat.le_refl _) _).alloc (by simp) _⟩
      · subst h1 h2
        rw [show edEq ⟨af, al, at_⟩ ⟨af, al, bt⟩ = false by simp [edEq, h3]]
        have b3 : (at_ != bt) = true := by rw [bne_iff_ne]; exact h3
        go_enter Try.func44, Try.ntmps44
        go_wp2
        go_ret
        exact ⟨rfl, ((Below.refl w.heap.size w).alloc (Nat.le_refl _) _).alloc (by simp) _⟩
    · subst h1
      rw [show edEq ⟨af, al, at_⟩ ⟨af, bl, bt⟩ = false by simp [edEq, h2]]
      have b2 : (al != bl) = true := by rw [bne_iff_ne]; exact h2
      go_enter Try.func44, Try.ntmps44
      go_wp2
      go_ret
      exact ⟨rfl, ((Below.refl w.heap.size w).alloc (Nat.le_refl _) _).alloc (by simp) _⟩
  · rw [show edEq ⟨af, al, at_⟩ ⟨bf, bl, bt⟩ = false by simp [edEq, h1]]
    have b1 : (af != bf) = true := by rw [bne_iff_ne]; exact h1
    go_enter Try.func44, Try.ntmps44
    go_wp2
    go_ret
    exact ⟨rfl, ((Below.refl w.heap.size w).alloc (Nat.le_refl _) _).alloc (by simp) _⟩

set_option maxRecDepth 100000 in
set_option maxHeartbeats 1600000 in
theorem eqArcS_any (A B : Option Addr) (c d : Nat) (xs ys : List Ed) (w : World) (hx : RdE w A xs) (hy : RdE w B ys) (hn : xs.length ≤ 4294967296) (hm : ys.length ≤ 4294967296) :
    Calls Try.prog 26 #[.slice A xs.length c, .slice B ys.length d] w fun e w' => e = .returned (.bool (eqE xs ys)) ∧ Below w.heap.size w w' := by
  have HX := Lib.hid hx
  have HY := Lib.hid hy
  clear hx hy
  by_cases hnm : xs.length = ys.length
  · have b1 : ((xs.length : Int) != (ys.length : Int)) = false := by rw [bne_eq_false_iff_eq]; omega
    have l1 : xs.length ≤ ys.length := by omega
    have l2 : ys.length ≤ xs.length := by omega
    have HN := Lib.hid hnm
    clear hnm
    go_enter Try.func26, Try.ntmps26
    go_wp2
    go_loopw [5] (fun i wr => ∃ k : Nat, k ≤ xs.length ∧ i = .int .i64 k ∧ Hid (xs.take k = ys.take k) ∧ Below w.heap.size w wr) (fun i _ => xs.length - (intOf i).toNat)
    case atStart => exact ⟨0, Nat.zero_le _, rfl, by show _ = _; simp, Below.refl _ _⟩
    case round =>
      obtain ⟨k, hk, rfl, HE, hb⟩ := hrel
      by_cases hlt : k < xs.length
      · have hlt2 : k < ys.length := by omega
        obtain ⟨b, o, rfl, c0, c1, c2⟩ := (RdE.below HX.out hb).at_ hlt
        obtain ⟨b', o', rfl, c0', c1', c2'⟩ := (RdE.below HY.out hb).at_ hlt2
        obtain ⟨x, hxx⟩ : ∃ x, xs[k] = x := ⟨_, rfl⟩
        obtain ⟨y, hyy⟩ : ∃ y, ys[k] = y := ⟨_, rfl⟩
        rw [hxx] at c0 c1 c2
        rw [hyy] at c0' c1' c2'
        have EX := Lib.hid hxx
        have EY := Lib.hid hyy
        clear hxx hyy
        have k0 : (0 : Int) ≤ (k : Int) := by omega
        have k1 : (k : Int) < (xs.length : Int) := by omega
        have k2 : (k : Int) < (ys.length : Int) := by omega
        have T := Lib.hid (fun w => eqArc_any x y w)
        obtain ⟨xf, xl, xt⟩ := x
        obtain ⟨yf, yl, yt⟩ := y
        unfold Ed.val at T
        simp only at c0 c1 c2 c0' c1' c2'
        obtain ⟨r, hr⟩ : ∃ r, edEq ⟨xf, xl, xt⟩ ⟨yf, yl, yt⟩ = r := ⟨_, rfl⟩
        rw [hr] at T
        have HR := Lib.hid hr
        clear hr
        go_wp2_with fail
        go_region_held3 (fun w' => w'.cell? ⟨b, o + k * 3, none⟩ = some (.int .i64 xf) ∧ w'.cell? ⟨b, o + k * 3 + 1, none⟩ = some (.int .u8 xl) ∧ w'.cell? ⟨b, o + k * 3 + 2, none⟩ = some (.int .i64 xt) ∧
            w'.cell? ⟨b', o' + k * 3, none⟩ = some (.int .i64 yf) ∧ w'.cell? ⟨b', o' + k * 3 + 1, none⟩ = some (.int .u8 yl) ∧ w'.cell? ⟨b', o' + k * 3 + 2, none⟩ = some (.int .i64 yt) ∧ Below w.heap.size w w')
          ((first
            | (go_split_ands; exact ⟨held_step hbk (by assumption), held_step hbk (by assumption), held_step hbk (by assumption), held_step hbk (by assumption), held_step hbk (by assumption), held_step hbk (by assumption), below_step (by assumption) hbk⟩)
            | (exact ⟨by assumption, by assumption, by assumption, by assumption, by assumption, by assumption, Below.drew (by assumption)⟩)))
          ((go_at_call 44; refine (T.out _).mono ?_; rintro e w' ⟨rfl, hbk⟩))
        go_split_ands
        have hbn : Below w.heap.size w w' := by assumption
        cases r
        · go_wp2
          go_ret
          refine ⟨ret_bo (eqE_no fun h => ?_).symm, hbn⟩
          have h1 : xs[k] = ys[k] := by subst h; rfl
          rw [EX.out, EY.out] at h1
          have h2 := edEq_iff.2 h1
          rw [HR.out] at h2
          cases h2
        · go_wp2
          go_roundw
          case rel =>
            refine ⟨k + 1, by omega, by go_num, ?_, hbn⟩
            show _ = _
            rw [List.take_succ_eq_append_getElem hlt, List.take_succ_eq_append_getElem hlt2, HE.out, EX.out, EY.out, edEq_iff.1 HR.out]
          case measure => simp [intOf]; omega
      · obtain rfl : k = xs.length := by omega
        go_wp2
        go_ret
        refine ⟨ret_bo (eqE_yes ?_).symm, hb⟩
        have := HE.out
        rw [List.take_of_length_le (Nat.le_refl _), List.take_of_length_le l2] at this
        exact this
  · have b1 : ((xs.length : Int) != (ys.length : Int)) = true := by rw [bne_iff_ne]; omega
    have hne : eqE xs ys = false := eqE_no fun h => hnm (by rw [h])
    rw [hne]
    clear hne
    go_enter Try.func26, Try.ntmps26
    go_wp2
    go_ret
    exact ⟨rfl, Below.refl _ _⟩

/-- What a marking of a row of edges leaves. -/
def MarkedA (w : World) (base : Nat) (A : Option Addr) (n c : Nat) (k : Int) (e : Ending) (w' : World) : Prop :=
  e = .returned (.int .i64 (k + 3 * n)) ∧ w'.ownsRow base 64 3 (.slice A n c) n (edCells (marksE k n)) ∧ w.grownBy w' (Value.slice A n c).ownBlock

set_option maxRecDepth 100000 in
set_option maxHeartbeats 1600000 in
theorem markArcS_any (base : Nat) (A : Option Addr) (n c : Nat) (xs : List Value) (k : Int) (w : World) (hown : w.ownsRow base 64 3 (.slice A n c) n xs) (hk : 0 ≤ k ∧ k ≤ 4294967296) (hn : n ≤ 4294967296) :
    Calls Try.prog 30 #[.slice A n c, .int .i64 k] w (MarkedA w base A n c k) := by
  have H0 := Lib.hid hown
  clear hown
  obtain ⟨hk0, hk1⟩ := hk
  go_enter Try.func30, Try.ntmps30
  go_wp2
  go_loopw [1, 5] (fun v i wr => ∃ (j : Nat) (ys : List Value), j ≤ n ∧ v = .int .i64 (k + 3 * j) ∧ i = .int .i64 j ∧ ys.length ≤ n * 3 ∧ n * 3 ≤ ys.length ∧ Hid (ys.take (j * 3) = edCells (marksE k j)) ∧ wr.ownsRow base 64 3 (.slice A n c) n ys ∧ w.grownBy wr (Value.slice A n c).ownBlock) (fun _ i _ => n - (intOf i).toNat)
  case atStart =>
    have := H0.out.1
    exact ⟨0, xs, Nat.zero_le _, by simp, rfl, by omega, by omega, rfl, H0.out, World.grownBy.refl w _⟩
  case round =>
    obtain ⟨j, ys, hj, rfl, rfl, hy1, hy2, HT, hown, hb⟩ := hrel
    by_cases hlt : j < n
    · obtain ⟨g, cap, hv, _, _⟩ := hown.form (by omega)
      injection hv with e1 e2 e3
      subst e1 e3
      obtain ⟨u0, u1, u2, d0, d1, d2, f0, f1, f2⟩ := own3 hown hlt
      obtain ⟨z, hz⟩ : ∃ z, k + 3 * (j : Int) = z := ⟨_, rfl⟩
      have hz0 : 0 ≤ z := by omega
      have hz1 : z ≤ 17179869184 := by omega
      rw [hz]
      have HZ := Lib.hid hz
      clear hz
      have HS := Lib.hid (own3_stored hown j (.int .i64 z) (.int .u8 ((z + 1) % 256)) (.int .i64 (z + 1 + 1)))
      have HB := Lib.hid hb
      clear hown hb
      go_wp2
      go_roundw
      case rel =>
        refine ⟨j + 1, _, by omega, ?_, by go_num, ?_, ?_, ?_, HS.out.1, HB.out.trans HS.out.2⟩
        · have := HZ.out
          rw [← this]
          congr 1
          omega
        · simp; omega
        · simp; omega
        · show _ = _
          rw [take_set3 ys j _ _ _ (by omega), HT.out, marksE_succ, edCells_append]
          have := HZ.out
          simp [markE, edCells, this]
      case measure => simp [intOf]; omega
    · obtain rfl : j = n := by omega
      have e1 : ys = edCells (marksE k j) := by
        have := HT.out
        rw [List.take_of_length_le (by omega)] at this
        exact this
      subst e1
      have HO := Lib.hid hown
      have HB := Lib.hid hb
      clear hown hb
      go_wp2
      go_ret
      exact ⟨rfl, HO.out, HB.out⟩

/-- A marked row of edges reads as its marks. -/
theorem rdA_marks {w : World} {A : Option Addr} {n c base : Nat} {k : Int} (h : w.ownsRow base 64 3 (.slice A n c) n (edCells (marksE k n))) : RdE w A (marksE k n) := by
  have := Rd.of_own h
  unfold RdE
  rw [marksE_len]
  exact this

set_option maxRecDepth 100000 in
set_option maxHeartbeats 1600000 in
theorem heldArcS_any (A : Option Addr) (n c : Nat) (k : Int) (w : World) (hx : RdE w A (marksE k n)) (hk : 0 ≤ k ∧ k ≤ 4294967296) (hn : n ≤ 4294967296) :
    Calls Try.prog 32 #[.slice A n c, .int .i64 k] w fun e w' => e = .returned (.int .i64 (k + 3 * n)) ∧ w = w' := by
  have HX := Lib.hid hx
  clear hx
  obtain ⟨hk0, hk1⟩ := hk
  go_enter Try.func32, Try.ntmps32
  go_wp2
  go_loop [1, 5] (fun v i => ∃ (j : Nat), j ≤ n ∧ v = .int .i64 (k + 3 * j) ∧ i = .int .i64 j) (fun _ i => n - (intOf i).toNat)
  case atStart => exact ⟨0, Nat.zero_le _, by simp, rfl⟩
  case round =>
    obtain ⟨j, hj, rfl, rfl⟩ := hrel
    by_cases hlt : j < n
    · obtain ⟨b, o, rfl, c0, c1, c2⟩ := HX.out.at_ (k := j) (by rw [marksE_len]; exact hlt)
      rw [marksE_at] at c0 c1 c2
      unfold markE at c0 c1 c2
      simp only at c0 c1 c2
      obtain ⟨z, hz⟩ : ∃ z, k + 3 * (j : Int) = z := ⟨_, rfl⟩
      have hz0 : 0 ≤ z := by omega
      have hz1 : z ≤ 17179869184 := by omega
      rw [hz] at c0 c1 c2 ⊢
      have HZ := Lib.hid hz
      clear hz
      have n0 : (z != z) = false := by simp
      have n1 : ((z + 1) % 256 != (z + 1) % 256) = false := by simp
      have n2 : ((z + 1 + 1) != (z + 1 + 1)) = false := by simp
      go_wp2
      go_round
      case rel =>
        refine ⟨j + 1, by omega, ?_, by go_num⟩
        have := HZ.out
        rw [← this]
        congr 1
        omega
      case measure => simp [intOf]; omega
    · obtain rfl : j = n := by omega
      go_wp2
      go_ret
      exact ⟨rfl, rfl⟩

section

variable {H : Type} {enc : TypeId × Value → H} {w : World} {base : Nat} {spare : Nat → Bool} {held : Bool}
end
end Go.Proofs.Ytjlekcoikceidaa
