/- Relations as rows of sets of bits: identity, or, then. Conditions: the lengths, the values in 32 bits. -/
import Derived.Test.YtgpjgigmlgoiiaaBits
import Derived.Test.YtgpjgigmlgoiiaaMark
import Derived.Deep.RegionLaw
import Derived.Deep.RegionHeld3
namespace Go.Proofs.Ytgpjgigmlgoiiaa
open Go.RowKit

def u32s (rs : List Nat) : List Value := rs.map (fun (S : Nat) => Value.int .u32 (S : Int))
theorem u32s_len (rs : List Nat) : (u32s rs).length = rs.length := by simp [u32s]
theorem u32s_at {rs : List Nat} {k : Nat} (h : k < rs.length) : (u32s rs)[k]? = some (.int .u32 ((rs.getD k 0 : Nat) : Int)) := by
  simp [u32s, List.getD, h]
theorem u32s_set (rs : List Nat) (k S : Nat) : (u32s rs).set k (.int .u32 (S : Int)) = u32s (rs.set k S) := by simp [u32s, List.map_set]
/-- A relation reads as rs. -/
def RdU (w : World) (A : Option Addr) (rs : List Nat) : Prop := Rd w 1 A rs.length (u32s rs)
theorem RdU.below {w w' : World} {A : Option Addr} {rs : List Nat} (h : RdU w A rs) (hb : Below w.heap.size w w') : RdU w' A rs := Rd.below h hb
theorem RdU.at_ {w : World} {A : Option Addr} {rs : List Nat} {k : Nat} (h : RdU w A rs) (hk : k < rs.length) : ∃ ad, A = some ad ∧ w.cell? (ad.add k) = some (.int .u32 ((rs.getD k 0 : Nat) : Int)) := by
  obtain ⟨ad, e, hc⟩ := h.2 (by omega)
  exact ⟨ad, e, hc _ _ (u32s_at hk)⟩
/-- What a call that makes a relation leaves. -/
def MadeU (w : World) (rs : List Nat) (e : Ending) (w' : World) : Prop := ∃ A c, e = .returned (.slice A rs.length c) ∧ w'.ownsRow w.heap.size 80 1 (.slice A rs.length c) rs.length (u32s rs) ∧ Below w.heap.size w w'
theorem Try.infoU32 : (Try.prog.info? 80).map (fun i => (i.zero, i.size, i.bytes)) = some (some (.int .u32 0), 1, 4) := by kernel_rfl
/-- All values lie in 32 bits. -/
def Lo32 (rs : List Nat) : Prop := ∀ k, rs.getD k 0 < 4294967296
/-- A row by its places. -/
def rowF (n : Nat) (f : Nat → Nat) : List Nat := (List.range n).map f
theorem rowF_len (n : Nat) (f : Nat → Nat) : (rowF n f).length = n := by simp [rowF]
theorem rowF_at {n : Nat} {f : Nat → Nat} {k : Nat} (h : k < n) : (rowF n f).getD k 0 = f k := by simp [rowF, List.getD, h]
theorem rowF_set (n : Nat) (f : Nat → Nat) (k S : Nat) : (rowF n f).set k S = rowF n (fun i => if i = k then S else f i) := by
  apply List.ext_getElem (by simp [rowF])
  intro i h1 h2
  rw [List.getElem_set]
  simp only [rowF, List.getElem_map, List.getElem_range]
  by_cases e : k = i
  · rw [if_pos e, if_pos e.symm]
  · rw [if_neg e, if_neg (fun h => e h.symm)]
theorem rowF_ext {n : Nat} {f g : Nat → Nat} (h : ∀ i, i < n → f i = g i) : rowF n f = rowF n g := by
  unfold rowF
  exact List.map_congr_left (fun i hi => h i (List.mem_range.1 hi))
theorem rowF_self (rs : List Nat) : rs = rowF rs.length (fun i => rs.getD i 0) := by
  apply List.ext_getElem (by simp [rowF])
  intro i h1 h2
  simp [rowF, List.getD, h1]
theorem made_zero (n : Nat) : (madeCells #[Value.int .u32 0] n).toList = u32s (rowF n (fun _ => 0)) := by
  apply List.ext_getElem
  · simp [madeCells, u32s, rowF]
  · intro i h1 h2
    simp [madeCells, u32s, rowF, Nat.mod_one]
def idN (n : Nat) : List Nat := rowF n (fun i => 2 ^ i)
def orN (a b : List Nat) : List Nat := rowF a.length (fun i => a.getD i 0 ||| b.getD i 0)
/-- What is reached from a set by the first j rows. -/
def thTo (b : List Nat) (S : Nat) : Nat → Nat
  | 0 => 0
  | j + 1 => if S.testBit j = true then thTo b S j ||| b.getD j 0 else thTo b S j
def thenN (a b : List Nat) : List Nat := rowF a.length (fun i => thTo b (a.getD i 0) b.length)
theorem thTo_lt {b : List Nat} (h : Lo32 b) (S : Nat) : ∀ j, thTo b S j < 4294967296
  | 0 => by simp [thTo]
  | j + 1 => by
    have h1 := thTo_lt h S j
    unfold thTo
    split
    · have := Nat.or_lt_two_pow (n := 32) h1 (h j)
      exact this
    · exact h1
theorem pow_32 (k : Nat) (h : k < 32) : (2 : Int) ^ k % 4294967296 = ((2 ^ k : Nat) : Int) := by
  have h1 : 2 ^ k < 4294967296 := by rw [show 4294967296 = 2 ^ 32 by rfl]; exact Nat.pow_lt_pow_right (by omega) h
  have h3 : (2 : Int) ^ k = ((2 ^ k : Nat) : Int) := (Int.natCast_pow 2 k).symm
  rw [h3]
  obtain ⟨p, hp⟩ : ∃ p : Nat, 2 ^ k = p := ⟨_, rfl⟩
  rw [hp] at h1 ⊢
  omega

set_option maxRecDepth 100000 in
set_option maxHeartbeats 3200000 in
theorem identity_any (n : Nat) (w : World) (hn : n ≤ 32) : Calls Try.prog 96 #[.int .i64 n] w (MadeU w (idN n)) := by
  obtain ⟨i0, hi, hz0, hz1, hz2⟩ := info_parts Try.infoU32
  go_enter Try.func96, Try.ntmps96
  go_wp2_with (first
    | (at_make
       refine wpList_make_full _ rfl _ _ 105 rfl w.heap.size 80 i0 (.int .u32 0) 1 Try.underlying105 hi hz0 hz1 .i64 .i64 (n : Int) (n : Int) n rfl rfl rfl rfl (by rw [hz2]; omega) (by unfold maxLen; omega) (Nat.le_refl _) ?_
       intro w0 hown0 hg0
       have hb0 := (Below.refl w.heap.size w).grown hg0 (Nat.le_refl _) (fun g hg => by cases hg)))
  go_loopw [9] (fun i wr => ∃ (k : Nat) (ys : List Value), k ≤ n ∧ i = .int .i64 k ∧ ys.length ≤ n ∧ n ≤ ys.length ∧ Hid (ys.take k = (u32s (idN n)).take k) ∧ wr.ownsRow w.heap.size 80 1 (.slice (some ⟨w.heap.size, 0, none⟩) n n) n ys ∧ Below w.heap.size w wr) (fun i _ => n - (intOf i).toNat)
  case atStart =>
    have := hown0.1
    exact ⟨0, _, Nat.zero_le _, rfl, by omega, by omega, by show _ = _; simp, hown0, hb0⟩
  case round =>
    obtain ⟨k, ys, hk, rfl, hy1, hy2, HT, hown, hb⟩ := hrel
    clear hown0 hg0 hb0
    by_cases hlt : k < n
    · have hco := hown.cellAt k (by omega)
      have hys : ys[k]? = some (ys[k]'(by omega)) := List.getElem?_eq_getElem (by omega)
      rw [hys] at hco
      have hfo := hown.frozenAt k
      clear hys
      obtain ⟨u, hu⟩ : ∃ u, ys[k]'(by omega) = u := ⟨_, rfl⟩
      rw [hu] at hco
      clear hu
      have hp := pow_32 k (by omega)
      have HS := Lib.hid (hown.stored k (.int .u32 ((2 ^ k : Nat) : Int)))
      go_wp2
      clear hp
      go_roundw
      case rel =>
        refine ⟨k + 1, ys.set k (.int .u32 ((2 ^ k : Nat) : Int)), by omega, by go_num, by simp; omega, by simp; omega, ?_, by first | exact HS.out.1 | (rw [pow_32 k (by omega)]; exact HS.out.1), by first | exact hb.grown HS.out.2 hb.size (fun g hg => by cases hg; exact Nat.le_refl _) | (rw [pow_32 k (by omega)]; exact hb.grown HS.out.2 hb.size (fun g hg => by cases hg; exact Nat.le_refl _))⟩
        show _ = _
        have hl : (u32s (idN n)).length = n := by simp [u32s, idN, rowF]
        rw [List.take_succ_eq_append_getElem (by simp; omega), List.take_set_of_le (Nat.le_refl _), HT.out, List.take_succ_eq_append_getElem (by omega)]
        simp [u32s, idN, rowF]
      case measure => simp [intOf]; omega
    · obtain rfl : k = n := by omega
      have hl : (u32s (idN k)).length = k := by simp [u32s, idN, rowF]
      have e1 : ys = u32s (idN k) := by
        have := HT.out
        rw [List.take_of_length_le (by omega), List.take_of_length_le (by omega)] at this
        exact this
      subst e1
      have hlen : (idN k).length = k := rowF_len _ _
      go_wp2
      go_ret
      exact ⟨some ⟨w.heap.size, 0, none⟩, k, by rw [hlen]; rfl, by rw [hlen]; exact hown, hb⟩
set_option maxRecDepth 100000 in
set_option maxHeartbeats 3200000 in
theorem or_any (A B : Option Addr) (c d : Nat) (as_ bs : List Nat) (w : World) (hx : RdU w A as_) (hy : RdU w B bs) (hl : bs.length = as_.length) (hn : as_.length ≤ 32) (ha : Lo32 as_) (hb : Lo32 bs) :
    Calls Try.prog 98 #[.slice A as_.length c, .slice B bs.length d] w (MadeU w (orN as_ bs)) := by
  obtain ⟨i0, hi, hz0, hz1, hz2⟩ := info_parts Try.infoU32
  have HX := Lib.hid hx
  have HY := Lib.hid hy
  have HA := Lib.hid ha
  have HB := Lib.hid hb
  clear hx hy ha hb
  go_enter Try.func98, Try.ntmps98
  go_wp2_with (first
    | (at_make
       refine wpList_make_full _ rfl _ _ 105 rfl w.heap.size 80 i0 (.int .u32 0) 1 Try.underlying105 hi hz0 hz1 .i64 .i64 (as_.length : Int) (as_.length : Int) as_.length rfl rfl rfl rfl (by rw [hz2]; omega) (by unfold maxLen; omega) (Nat.le_refl _) ?_
       intro w0 hown0 hg0
       have hb0 := (Below.refl w.heap.size w).grown hg0 (Nat.le_refl _) (fun g hg => by cases hg)))
  go_loopw [12] (fun i wr => ∃ (k : Nat) (ys : List Value), k ≤ as_.length ∧ i = .int .i64 k ∧ ys.length ≤ as_.length ∧ as_.length ≤ ys.length ∧ Hid (ys.take k = (u32s (orN as_ bs)).take k) ∧ wr.ownsRow w.heap.size 80 1 (.slice (some ⟨w.heap.size, 0, none⟩) as_.length as_.length) as_.length ys ∧ Below w.heap.size w wr) (fun i _ => as_.length - (intOf i).toNat)
  case atStart =>
    have := hown0.1
    exact ⟨0, _, Nat.zero_le _, rfl, by omega, by omega, by show _ = _; simp, hown0, hb0⟩
  case round =>
    obtain ⟨k, ys, hk, rfl, hy1, hy2, HT, hown, hb⟩ := hrel
    clear hown0 hg0 hb0
    by_cases hlt : k < as_.length
    · obtain ⟨ad, rfl, x0⟩ := (HX.out.below hb).at_ hlt
      obtain ⟨ad2, rfl, y0⟩ := (HY.out.below hb).at_ (show k < bs.length by omega)
      have hxa := HA.out k
      have hyb := HB.out k
      have hor := u32_or_nat _ _ hxa hyb
      obtain ⟨x, hxx⟩ : ∃ x, as_.getD k 0 = x := ⟨_, rfl⟩
      obtain ⟨y, hyy⟩ : ∃ y, bs.getD k 0 = y := ⟨_, rfl⟩
      rw [hxx] at x0 hxa hor
      rw [hyy] at y0 hyb hor
      have EX := Lib.hid hxx
      have EY := Lib.hid hyy
      have hco := hown.cellAt k (by omega)
      have hys : ys[k]? = some (ys[k]'(by omega)) := List.getElem?_eq_getElem (by omega)
      rw [hys] at hco
      have hfo := hown.frozenAt k
      obtain ⟨u, hu⟩ : ∃ u, ys[k]'(by omega) = u := ⟨_, rfl⟩
      rw [hu] at hco
      have k0 : (0 : Int) ≤ (k : Int) := by omega
      have k1 : (k : Int) < (as_.length : Int) := by omega
      have k2 : (k : Int) < (bs.length : Int) := by omega
      have HOW := Lib.hid hown
      have HBW := Lib.hid hb
      clear hys hu hxx hyy hown hb
      go_wp2_with fail
      go_region_law fail
      all_goals
        have HS := Lib.hid ((own_below HOW.out (Below.refl _ _).drew).stored k (.int .u32 ((x ||| y : Nat) : Int)))
        have HBD := Lib.hid (HBW.out.drew)
        clear hor
        go_wp2
        go_roundw
        case rel =>
          refine ⟨k + 1, ys.set k (.int .u32 ((x ||| y : Nat) : Int)), by omega, by go_num, by simp; omega, by simp; omega, ?_, HS.out.1, HBD.out.grown HS.out.2 HBD.out.size (fun g hg => by cases hg; exact Nat.le_refl _)⟩
          show _ = _
          have hl2 : (u32s (orN as_ bs)).length = as_.length := by simp [u32s, orN, rowF]
          rw [List.take_succ_eq_append_getElem (by simp; omega), List.take_set_of_le (Nat.le_refl _), HT.out, List.take_succ_eq_append_getElem (by omega)]
          have e3 : (u32s (orN as_ bs))[k]'(by omega) = Value.int .u32 ((x ||| y : Nat) : Int) := by
            rw [← EX.out, ← EY.out]
            simp [u32s, orN, rowF]
          rw [e3]
          simp
        case measure => simp [intOf]; omega
    · obtain rfl : k = as_.length := by omega
      have hl2 : (u32s (orN as_ bs)).length = as_.length := by simp [u32s, orN, rowF]
      have e1 : ys = u32s (orN as_ bs) := by
        have := HT.out
        rw [List.take_of_length_le (by omega), List.take_of_length_le (by omega)] at this
        exact this
      subst e1
      have hlen : (orN as_ bs).length = as_.length := rowF_len _ _
      go_wp2
      go_ret
      exact ⟨some ⟨w.heap.size, 0, none⟩, as_.length, by rw [hlen]; rfl, by rw [hlen]; exact hown, hb⟩
end Go.Proofs.Ytgpjgigmlgoiiaa
