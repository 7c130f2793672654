/- Slices of bools: copied, compared, sized, marked, held, opened. No conditions but the lengths. -/
import Derived.Test.YtjlekcoikceidaaMark
import Derived.Test.YtjlekcoikceidaaMOpen
namespace Go.Proofs.Ytjlekcoikceidaa
open Go.ChangeShapes Go.WideShapes Go.ChangeAt Go.RowKit Go.Joins Go.Deep

theorem Try.infoBool : (Try.prog.info? 4).map (fun i => (i.zero, i.size, i.bytes)) = some (some (.bool false), 1, 1) := by kernel_rfl
/-- A slice of bools reads as bs. -/
def RdB (w : World) (A : Option Addr) (n : Nat) (bs : List Bool) : Prop := Rd w 1 A n (bs.map Value.bool)
theorem RdB.len {w : World} {A : Option Addr} {n : Nat} {zs : List Bool} (h : RdB w A n zs) : zs.length = n := by have := h.1; simpa using this
theorem RdB.at_ {w : World} {A : Option Addr} {n k : Nat} {zs : List Bool} (h : RdB w A n zs) (hk : k < n) : ∃ ad, A = some ad ∧ w.cell? (ad.add k) = some (.bool (zs.getD k false)) := by
  obtain ⟨ad, u, e, hu, hc⟩ := Rd.at_ h hk
  refine ⟨ad, e, ?_⟩
  rw [hc, ← hu]
  have : k < zs.length := by have := h.len; omega
  simp [List.getD, List.getElem?_eq_getElem this]
theorem RdB.below {w w' : World} {A : Option Addr} {n : Nat} {zs : List Bool} (h : RdB w A n zs) (hb : Below w.heap.size w w') : RdB w' A n zs := Rd.below h hb
theorem RdB.alloc {w : World} {A : Option Addr} {n : Nat} {zs : List Bool} (h : RdB w A n zs) (o : Obj) : RdB (w.alloc o) A n zs := Rd.alloc h o
theorem RdB.own {w : World} {b0 : Nat} {e : TypeId} {A : Option Addr} {c n : Nat} {zs : List Bool} (h : w.ownsRow b0 e 1 (.slice A n c) n (zs.map Value.bool)) : RdB w A n zs := Rd.of_own h
/-- What a call that makes a slice of bools leaves. -/
def MadeB (w : World) (zs : List Bool) (e : Ending) (w' : World) : Prop := ∃ A c, e = .returned (.slice A zs.length c) ∧ w'.ownsRow w.heap.size 4 1 (.slice A zs.length c) zs.length (zs.map Value.bool) ∧ Below w.heap.size w w'
theorem map_take_setB (zs : List Bool) (ys : List Value) (k : Nat) (hk : k < zs.length) (hl : ys.length = zs.length) (h : ys.take k = (zs.take k).map Value.bool) :
    (ys.set k (.bool (zs.getD k false))).take (k + 1) = (zs.take (k + 1)).map Value.bool := by
  rw [List.take_succ_eq_append_getElem (by simp; omega), List.take_succ_eq_append_getElem (l := zs) hk, List.map_append, List.take_set_of_le (by omega), h]
  simp [List.getD, List.getElem?_eq_getElem hk]

def eqLB (xs ys : List Bool) : Bool := decide (xs = ys)
theorem eqLB_yes {xs ys : List Bool} (h : xs = ys) : eqLB xs ys = true := by simp [eqLB, h]
theorem eqLB_no {xs ys : List Bool} (h : ¬ xs = ys) : eqLB xs ys = false := by simp [eqLB, h]
theorem take_nextB {l : List Bool} {k : Nat} (h : k < l.length) : l.take (k + 1) = l.take k ++ [l.getD k false] := by
  rw [List.take_succ_eq_append_getElem h]
  simp [List.getD, List.getElem?_eq_getElem h]

set_option maxRecDepth 100000 in
set_option maxHeartbeats 800000 in
theorem eqBoolS_any (A B : Option Addr) (n m c d : Nat) (xs ys : List Bool) (w : World) (hx : RdB w A n xs) (hy : RdB w B m ys) (hn : n ≤ 4294967296) :
    Calls Try.prog 27 #[.slice A n c, .slice B m d] w fun e w' => e = .returned (.bool (eqLB xs ys)) ∧ Below w.heap.size w w' := by
  have l1 := hx.len
  have l2 := hy.len
  by_cases hnm : n = m
  · subst hnm
    have HX := Lib.hid hx
    have HY := Lib.hid hy
    have L1 := Lib.hid l1
    have L2 := Lib.hid l2
    clear hx hy l1 l2
    go_enter Try.func27, Try.ntmps27
    go_wp2
    go_loopw [5] (fun i wr => ∃ k : Nat, k ≤ n ∧ i = .int .i64 k ∧ Hid (xs.take k = ys.take k) ∧ Below w.heap.size w wr) (fun i _ => n - (intOf i).toNat)
    case atStart => exact ⟨0, Nat.zero_le _, rfl, by show _ = _; simp, Below.refl _ _⟩
    case round =>
      obtain ⟨k, hk, rfl, HE, hb⟩ := hrel
      by_cases hlt : k < n
      · obtain ⟨ad, rfl, hc⟩ := (RdB.below HX.out hb).at_ hlt
        obtain ⟨bd, rfl, hd⟩ := (RdB.below HY.out hb).at_ hlt
        obtain ⟨x, hxx⟩ : ∃ x, xs.getD k false = x := ⟨_, rfl⟩
        obtain ⟨y, hyy⟩ : ∃ y, ys.getD k false = y := ⟨_, rfl⟩
        rw [hxx] at hc
        rw [hyy] at hd
        have EX := Lib.hid hxx
        have EY := Lib.hid hyy
        clear hxx hyy
        have k0 : (0 : Int) ≤ (k : Int) := by omega
        have k1 : (k : Int) < (n : Int) := by omega
        by_cases hxy : x = y
        · have b1 : (!(x == y)) = false := by rw [hxy]; simp
          have HXY := Lib.hid hxy
          clear hxy
          go_wp2_with fail
          go_quiet (fail)
          go_wp2
          go_roundw
          case rel => exact ⟨k + 1, by omega, by go_num, by show _ = _; rw [take_nextB (by have := L1.out; omega), take_nextB (l := ys) (by have := L2.out; omega), HE.out, EX.out, EY.out, HXY.out], below_drewN hb _⟩
          case measure => simp [intOf]; omega
        · have b1 : (!(x == y)) = true := by simpa using hxy
          have HXY := Lib.hid hxy
          clear hxy
          go_wp2_with fail
          go_quiet (fail)
          go_wp2
          go_ret
          exact ⟨ret_b (eqLB_no fun h => HXY.out (by rw [← EX.out, ← EY.out, h])).symm, below_drewN hb _⟩
      · obtain rfl : k = n := by omega
        go_wp2
        go_ret
        refine ⟨ret_b (eqLB_yes ?_).symm, hb⟩
        have := HE.out
        rw [List.take_of_length_le (by have := L1.out; omega), List.take_of_length_le (by have := L2.out; omega)] at this
        exact this
  · have b1 : ((n : Int) != (m : Int)) = true := by rw [bne_iff_ne]; omega
    have hne : eqLB xs ys = false := eqLB_no fun h => hnm (by rw [← l1, ← l2, h])
    rw [hne]
    clear hx hy l1 l2 hne
    go_enter Try.func27, Try.ntmps27
    go_wp2
    go_ret
    exact ⟨rfl, Below.refl _ _⟩


def marksB (k : Int) (n : Nat) : List Bool := (List.range n).map (fun (i : Nat) => decide ((k + (i : Int)) % 3 = 0))
theorem marksB_len (k : Int) (n : Nat) : (marksB k n).length = n := by simp [marksB]
theorem marksB_succ (k : Int) (n : Nat) : marksB k (n + 1) = marksB k n ++ [decide ((k + (n : Int)) % 3 = 0)] := by simp [marksB, List.range_succ]
theorem marksB_at (k : Int) (n j : Nat) (h : j < n) : (marksB k n).getD j false = decide ((k + (j : Int)) % 3 = 0) := by
  simp [marksB, List.getD, h]
/-- What a marking of a row of bools leaves. -/
def MarkedB (w : World) (base : Nat) (A : Option Addr) (n c : Nat) (k : Int) (e : Ending) (w' : World) : Prop :=
  e = .returned (.int .i64 (k + n)) ∧ w'.ownsRow base 4 1 (.slice A n c) n ((marksB k n).map Value.bool) ∧ w.grownBy w' (Value.slice A n c).ownBlock

set_option maxRecDepth 100000 in
set_option maxHeartbeats 800000 in
theorem markBoolS_any (base : Nat) (A : Option Addr) (n c : Nat) (xs : List Value) (k : Int) (w : World) (hown : w.ownsRow base 4 1 (.slice A n c) n xs) (hk : 0 ≤ k ∧ k ≤ 4294967296) (hn : n ≤ 4294967296) :
    Calls Try.prog 31 #[.slice A n c, .int .i64 k] w (MarkedB w base A n c k) := by
  have H0 := Lib.hid hown
  clear hown
  obtain ⟨hk0, hk1⟩ := hk
  go_enter Try.func31, Try.ntmps31
  go_wp2
  go_loopw [1, 5] (fun v i wr => ∃ (j : Nat) (ys : List Value), j ≤ n ∧ v = .int .i64 (k + j) ∧ i = .int .i64 j ∧ ys.length ≤ n ∧ n ≤ ys.length ∧ Hid (ys.take j = (marksB k j).map Value.bool) ∧ wr.ownsRow base 4 1 (.slice A n c) n ys ∧ w.grownBy wr (Value.slice A n c).ownBlock) (fun _ i _ => n - (intOf i).toNat)
  case atStart =>
    have := H0.out.1
    exact ⟨0, xs, Nat.zero_le _, by simp, rfl, by omega, by omega, rfl, H0.out, World.grownBy.refl w _⟩
  case round =>
    obtain ⟨j, ys, hj, rfl, rfl, hy1, hy2, HT, hown, hb⟩ := hrel
    by_cases hlt : j < n
    · obtain ⟨g, cap, hv, _, _⟩ := hown.form (by omega)
      injection hv with e1 e2 e3
      subst e1 e3
      have hco := hown.cellAt j (by omega)
      rw [List.getElem?_eq_getElem (show j < ys.length by omega)] at hco
      have hfo := hown.frozenAt j
      obtain ⟨u, hu⟩ : ∃ u, ys[j]'(by omega) = u := ⟨_, rfl⟩
      rw [hu] at hco
      clear hu
      have HS := Lib.hid (hown.stored j (.bool (decide ((k + (j : Int)) % 3 = 0))))
      have HB := Lib.hid hb
      clear hown hb
      go_wp2
      go_roundw
      case rel =>
        refine ⟨j + 1, ys.set j (.bool (decide ((k + (j : Int)) % 3 = 0))), by omega, by go_num; try omega, by go_num, by simp; omega, by simp; omega, ?_, HS.out.1, HB.out.trans HS.out.2⟩
        show _ = _
        rw [List.take_succ_eq_append_getElem (by simp; omega), List.take_set_of_le (by omega), HT.out, marksB_succ]
        simp
      case measure => simp [intOf]; omega
    · obtain rfl : j = n := by omega
      have e1 : ys = (marksB k j).map Value.bool := by
        have := HT.out
        rw [List.take_of_length_le (by omega)] at this
        exact this
      subst e1
      have HO := Lib.hid hown
      have HB := Lib.hid hb
      clear hown hb
      go_wp2
      go_ret
      exact ⟨rfl, HO.out, HB.out⟩

set_option maxRecDepth 100000 in
set_option maxHeartbeats 800000 in
theorem heldBoolS_any (A : Option Addr) (n c : Nat) (k : Int) (w : World) (hx : RdB w A n (marksB k n)) (hk : 0 ≤ k ∧ k ≤ 4294967296) (hn : n ≤ 4294967296) :
    Calls Try.prog 33 #[.slice A n c, .int .i64 k] w fun e w' => e = .returned (.int .i64 (k + n)) ∧ w = w' := by
  have HX := Lib.hid hx
  clear hx
  obtain ⟨hk0, hk1⟩ := hk
  go_enter Try.func33, Try.ntmps33
  go_wp2
  go_loop [1, 5] (fun v i => ∃ (j : Nat), j ≤ n ∧ v = .int .i64 (k + j) ∧ i = .int .i64 j) (fun _ i => n - (intOf i).toNat)
  case atStart => exact ⟨0, Nat.zero_le _, by simp, rfl⟩
  case round =>
    obtain ⟨j, hj, rfl, rfl⟩ := hrel
    by_cases hlt : j < n
    · obtain ⟨ad, rfl, hc⟩ := HX.out.at_ hlt
      rw [marksB_at k n j hlt] at hc
      have hne : (!(decide ((k + (j : Int)) % 3 = 0) == ((k + (j : Int)) % 3 == 0))) = false := by by_cases h : (k + (j : Int)) % 3 = 0 <;> simp [h]
      go_wp2
      go_round
      case rel => refine ⟨j + 1, by omega, by go_num; try omega, by go_num⟩
      case measure => simp [intOf]; omega
    · obtain rfl : j = n := by omega
      go_wp2
      go_ret
      exact ⟨rfl, rfl⟩

section
variable {H : Type} {enc : TypeId × Value → H} {w : World} {base : Nat} {spare : Nat → Bool} {held : Bool}
theorem Try.cellsBool : Try.prog.cellsOf 4 = 1 := by kernel_rfl
theorem open_boolS {fuel : Nat} {v : Value} {x : DataW H × List MemPlace} (h : DataW.trod enc Try.prog w base spare held fuel 27 [v] = some x) :
    ∃ (A : Option Addr) (c : Nat) (bs : List Bool), v = .slice A bs.length c ∧ RdB w A bs.length bs ∧ bs.length ≤ c ∧ c ≤ maxLen := by
  rcases open_slice Try.underlying27 h with ⟨hcs, _⟩ | ⟨a, len, cap, m, n, D, Pl, hcs, _, hl, hm, hmm, _, hi⟩
  · simp at hcs
    subst hcs
    exact ⟨none, 0, [], rfl, ⟨rfl, fun h => absurd h (by simp)⟩, Nat.le_refl _, by unfold maxLen; omega⟩
  · simp at hcs
    subst hcs
    have hlm : len ≤ m := by rw [hmm]; split <;> omega
    obtain ⟨es, hes, hp⟩ := list_of (α := Bool) (P := fun i e => w.cell? (a.add i) = some (.bool e)) len (fun i hil => by
      obtain ⟨cs', hc, ht⟩ := hi i (by omega)
      rw [Try.cellsBool] at hc
      obtain ⟨_, hcl, hat⟩ := World.cells?_some hc
      obtain ⟨b, rfl, _⟩ := DataW.trod_bool Try.underlying4 ht
      have h0 := hat 0 (by omega)
      rw [add_of_add] at h0
      exact ⟨b, by simpa using h0⟩)
    subst hes
    refine ⟨some a, cap, es, rfl, ⟨by simp, fun _ => ⟨a, rfl, fun j u hu => ?_⟩⟩, hl, hm⟩
    have hj : j < es.length := by
      have := (List.getElem?_eq_some_iff.1 hu).1
      simpa using this
    rw [hp j hj, ← hu]
    simp [List.getElem?_eq_getElem hj]
end
end Go.Proofs.Ytjlekcoikceidaa
