/- Slices of strings: copied, compared, marked, held; opened. No conditions but the lengths. Printed by xtxts.py. -/
import Derived.Test.YtlnphcongijfiaaDoorIntS
import Derived.Test.YtlnphcongijfiaaDoorStrS
import Derived.Test.YtlnphcongijfiaaDoorDecP
import Derived.Test.YtlnphcongijfiaaDoorOpenI
import Derived.Test.YtlnphcongijfiaaDoorBelowQ
namespace Go.Proofs.YtlnphcongijfiaaDoor
open Go.ChangeShapes Go.WideShapes Go.ChangeAt Go.RowKit Go.Joins Go.Deep

def noT : ByteArray := ⟨#[]⟩
theorem toList_yes {a b : ByteArray} (h : a = b) : (a.toList == b.toList) = true := by rw [h]; simp
theorem toList_no {a b : ByteArray} (h : a ≠ b) : (a.toList == b.toList) = false := by
  rw [beq_eq_false_iff_ne]
  intro e
  rw [ByteArray.toList_eq, ByteArray.toList_eq] at e
  exact h (Go.WideShapes.bytes_inj e)
/-- A slice of strings reads as ws; the length told apart. -/
def RdT (w : World) (A : Option Addr) (n : Nat) (ws : List ByteArray) : Prop := Rd w 1 A n (ws.map Value.string)
theorem RdT.len {w : World} {A : Option Addr} {n : Nat} {zs : List ByteArray} (h : RdT w A n zs) : zs.length = n := by have := h.1; simpa using this
theorem RdT.at_ {w : World} {A : Option Addr} {n k : Nat} {zs : List ByteArray} (h : RdT w A n zs) (hk : k < n) : ∃ ad, A = some ad ∧ w.cell? (ad.add k) = some (.string (zs.getD k noT)) := by
  obtain ⟨ad, u, e, hu, hc⟩ := Rd.at_ h hk
  refine ⟨ad, e, ?_⟩
  rw [hc, ← hu]
  have : k < zs.length := by have := h.len; omega
  simp [List.getD, List.getElem?_eq_getElem this]
theorem RdT.below {w w' : World} {A : Option Addr} {n : Nat} {zs : List ByteArray} (h : RdT w A n zs) (hb : Below w.heap.size w w') : RdT w' A n zs := Rd.below h hb
theorem RdT.own {w : World} {b0 : Nat} {e : TypeId} {A : Option Addr} {c n : Nat} {zs : List ByteArray} (h : w.ownsRow b0 e 1 (.slice A n c) n (zs.map Value.string)) : RdT w A n zs := Rd.of_own h
/-- What a call that makes a slice of strings leaves. -/
def MadeT_ (w : World) (zs : List ByteArray) (e : Ending) (w' : World) : Prop := ∃ A c, e = .returned (.slice A zs.length c) ∧ w'.ownsRow w.heap.size 9 1 (.slice A zs.length c) zs.length (zs.map Value.string) ∧ Below w.heap.size w w'
theorem map_take_setT (zs : List ByteArray) (ys : List Value) (k : Nat) (hk : k < zs.length) (hl : ys.length = zs.length) (h : ys.take k = (zs.take k).map Value.string) :
    (ys.set k (.string (zs.getD k noT))).take (k + 1) = (zs.take (k + 1)).map Value.string := by
  rw [List.take_succ_eq_append_getElem (by simp; omega), List.take_succ_eq_append_getElem (l := zs) hk, List.map_append, List.take_set_of_le (by omega), h]
  simp [List.getD, List.getElem?_eq_getElem hk]

def eqLT (xs ys : List ByteArray) : Bool := decide (xs = ys)
theorem eqLT_yes {xs ys : List ByteArray} (h : xs = ys) : eqLT xs ys = true := by simp [eqLT, h]
theorem eqLT_no {xs ys : List ByteArray} (h : ¬ xs = ys) : eqLT xs ys = false := by simp [eqLT, h]
theorem take_nextT {l : List ByteArray} {k : Nat} (h : k < l.length) : l.take (k + 1) = l.take k ++ [l.getD k noT] := by
  rw [List.take_succ_eq_append_getElem h]
  simp [List.getD, List.getElem?_eq_getElem h]

set_option maxRecDepth 100000 in
set_option maxHeartbeats 800000 in
theorem eqStringS_any (A B : Option Addr) (n m c d : Nat) (xs ys : List ByteArray) (w : World) (hx : RdT w A n xs) (hy : RdT w B m ys) (hn : n ≤ 4294967296) :
    Calls Tryd.prog 6 #[.slice A n c, .slice B m d] w fun e w' => e = .returned (.bool (eqLT xs ys)) ∧ Below w.heap.size w w' := by
  have l1 := hx.len
  have l2 := hy.len
  by_cases hnm : n = m
  · subst hnm
    have HX := Lib.hid hx
    have HY := Lib.hid hy
    have L1 := Lib.hid l1
    have L2 := Lib.hid l2
    clear hx hy l1 l2
    go_enter Tryd.func6, Tryd.ntmps6
    go_wp2
    go_loopw [5] (fun i wr => ∃ k : Nat, k ≤ n ∧ i = .int .i64 k ∧ Hid (xs.take k = ys.take k) ∧ Below w.heap.size w wr) (fun i _ => n - (intOf i).toNat)
    case atStart => exact ⟨0, Nat.zero_le _, rfl, by show _ = _; simp, Below.refl _ _⟩
    case round =>
      obtain ⟨k, hk, rfl, HE, hb⟩ := hrel
      by_cases hlt : k < n
      · obtain ⟨ad, rfl, hc⟩ := (RdT.below HX.out hb).at_ hlt
        obtain ⟨bd, rfl, hd⟩ := (RdT.below HY.out hb).at_ hlt
        obtain ⟨x, hxx⟩ : ∃ x, xs.getD k noT = x := ⟨_, rfl⟩
        obtain ⟨y, hyy⟩ : ∃ y, ys.getD k noT = y := ⟨_, rfl⟩
        rw [hxx] at hc
        rw [hyy] at hd
        have EX := Lib.hid hxx
        have EY := Lib.hid hyy
        clear hxx hyy
        have k0 : (0 : Int) ≤ (k : Int) := by omega
        have k1 : (k : Int) < (n : Int) := by omega
        by_cases hxy : x = y
        · have b1 := toList_yes hxy
          have HXY := Lib.hid hxy
          clear hxy
          go_wp2_with fail
          go_quiet (fail)
          go_wp2
          go_roundw
          case rel => exact ⟨k + 1, by omega, by go_num, by show _ = _; rw [take_nextT (by have := L1.out; omega), take_nextT (l := ys) (by have := L2.out; omega), HE.out, EX.out, EY.out, HXY.out], below_drewN hb _⟩
          case measure => simp [intOf]; omega
        · have b1 := toList_no hxy
          have HXY := Lib.hid hxy
          clear hxy
          go_wp2_with fail
          go_quiet (fail)
          go_wp2
          go_ret
          exact ⟨ret_b (eqLT_no fun h => HXY.out (by rw [← EX.out, ← EY.out, h])).symm, below_drewN hb _⟩
      · obtain rfl : k = n := by omega
        go_wp2
        go_ret
        refine ⟨ret_b (eqLT_yes ?_).symm, hb⟩
        have := HE.out
        rw [List.take_of_length_le (by have := L1.out; omega), List.take_of_length_le (by have := L2.out; omega)] at this
        exact this
  · have b1 : ((n : Int) != (m : Int)) = true := by rw [bne_iff_ne]; omega
    have hne : eqLT xs ys = false := eqLT_no fun h => hnm (by rw [← l1, ← l2, h])
    rw [hne]
    clear hx hy l1 l2 hne
    go_enter Tryd.func6, Tryd.ntmps6
    go_wp2
    go_ret
    exact ⟨rfl, Below.refl _ _⟩



/-- The mark's text. -/
def mkT (z : Int) : ByteArray := strOfNums ([109] ++ dec z.toNat)
theorem mcat {P : Program} (a b : List Int) (h : a.length + b.length ≤ 4294967296) (w : World) : (Op.stringOp .add (strOfNums a) (strOfNums b)).run P w = .ok (.string (strOfNums (a ++ b))) w := by
  have e : strOfNums a ++ strOfNums b = strOfNums (a ++ b) := by
    apply ByteArray.ext
    simp [strOfNums, ByteArray.data_append]
  rw [run_string_add_sum (a := strOfNums a) (b := strOfNums b) (h := by rw [strOfNums_size, strOfNums_size]; omega), e]
theorem mstr {P : Program} (src dst e : TypeId) (hs : P.underlying src = some (.slice e)) (he : P.underlying e = some (.int .u8)) (hd : P.underlying dst = some .string) (l : Int) (g : Nat) (w : World)
    (h : w.cell? ⟨g, 0, none⟩ = some (.int .u8 l)) : (convert src dst (.slice (some ⟨g, 0, none⟩) 1 1)).run P w = .ok (.string (strOfNums [l])) w :=
  run_convert_bytes_arg (xs := [l]) w src e hs he g 0 1 1 rfl (fun i hi => by
    obtain rfl : i = 0 := by omega
    simpa using h) dst hd
theorem mlen {u0 u : Nat} {acc : List Int} (h : DecAt u0 u acc) (hu : 0 < u) (h0 : u0 ≤ 9223372036854775808) : acc.length ≤ 20 := by
  have h1 := congrArg List.length (h.2 hu)
  have h2 := dec_len 18 u0 (by omega)
  rw [List.length_append] at h1
  omega

set_option maxRecDepth 100000 in
set_option maxHeartbeats 1600000 in
theorem markText_any (n : Int) (h0 : 1 ≤ n) (h1 : n ≤ 9223372036854775807) (w : World) :
    Calls Tryd.prog 10 #[.int .i64 n] w fun e w' => e = .returned (.string (mkT n)) ∧ Below w.heap.size w w' := by
  have HD : Hid (mkT n = strOfNums ([109] ++ dec n.toNat)) := Lib.hid rfl
  obtain ⟨u0, hu0⟩ : ∃ u0, n.toNat = u0 := ⟨_, rfl⟩
  have HU := Lib.hid hu0
  have hub : u0 ≤ 9223372036854775808 := by omega
  have hun : n = (u0 : Int) := by omega
  have HUN := Lib.hid hun
  have hs : 0 < u0 := by omega
  obtain ⟨R, hR⟩ : ∃ R, mkT n = R := ⟨_, rfl⟩
  rw [hR] at HD ⊢
  clear hu0 hun hR
  go_enter Tryd.func10, Tryd.ntmps10
  go_wp2_with fail
  go_loopw [0, 3] (fun a s wr => ∃ (m : Int) (u : Nat) (acc : List Int), a = .int .i64 m ∧ s = .string (strOfNums acc) ∧ Hid (m = (u : Int)) ∧ 0 ≤ m ∧ m ≤ 9223372036854775807 ∧ Hid (DecAt u0 u acc) ∧ Below w.heap.size w wr) (fun a _ _ => (intOf a).toNat)
  case atStart => exact ⟨n, u0, [], rfl, rfl, HUN, by omega, h1, Lib.hid (DecAt.start hs), Below.refl _ _⟩
  case round =>
    obtain ⟨m, u, acc, rfl, rfl, HM, hm0, hm1, HA, hb⟩ := hrel
    by_cases hz : m = 0
    · have hz' : m ≤ 0 := by omega
      have HZ := Lib.hid hz
      have hlen : acc.length ≤ 20 := by
        rw [HA.out.1 (by have := HM.out; omega)]
        have := dec_len 18 u0 (by omega)
        omega
      have hct := fun (w : World) => mcat (P := Tryd.prog) [109] acc (by simp only [List.length_cons, List.length_nil]; omega) w
      have hct' : ∀ w : World, (Op.stringOp .add ⟨#[109]⟩ (strOfNums acc)).run Tryd.prog w = .ok (.string (strOfNums ([109] ++ acc))) w := hct
      clear hz hct
      go_wp2
      go_ret
      exact ⟨by rw [HD.out, HU.out]; exact ret_str (show 109 :: acc = [109] ++ dec u0 by rw [HA.out.1 (by have := HM.out; have := HZ.out; omega)]; rfl), hb⟩
    · have hup : 0 < u := by have := HM.out; omega
      have hmp : 0 < m := by omega
      have hlen := mlen HA.out hup hub
      have hnx := HA.out.next hup
      rw [show ((u % 10 : Nat) : Int) = m % 10 by have := HM.out; omega] at hnx
      have HN := Lib.hid hnx
      have hq : m / 10 = ((u / 10 : Nat) : Int) := by have := HM.out; omega
      have HQ := Lib.hid hq
      have hx0 : 0 ≤ m % 10 := by omega
      have hx1 : m % 10 < 10 := by omega
      obtain ⟨x, hx⟩ : ∃ x, m % 10 = x := ⟨_, rfl⟩
      rw [hx] at hx0 hx1
      have HX := Lib.hid hx
      have HB := Lib.hid hb
      have ht : m.tmod 10 = x := by rw [← hx]; exact Int.tmod_eq_emod_of_nonneg hm0
      have kc := mstr (P := Tryd.prog) 31 9 5 Tryd.underlying31 Tryd.underlying5 Tryd.underlying9 (48 + x) wr.heap.size (wr.alloc (.cells #[.int .u8 (48 + x)] 5)) (cell_one_new wr 5 (.int .u8 (48 + x)) 0 _ rfl)
      have hct := fun (w : World) => mcat (P := Tryd.prog) [48 + x] acc (by simp; omega) w
      clear hz hnx hq hb ht
      have hx' : m % 10 = x := HX.out
      go_wp2
      clear hx'
      go_roundw
      case rel => exact ⟨m / 10, u / 10, (48 + x) :: acc, by go_num, rfl, HQ, by omega, by omega, Lib.hid (by rw [← HX.out]; exact HN.out), HB.out.alloc HB.out.size _⟩
      case measure => simp [intOf]; omega

def marksT (k : Int) (n : Nat) : List ByteArray := (List.range n).map (fun (i : Nat) => mkT (k + (i : Int)))
theorem marksT_len (k : Int) (n : Nat) : (marksT k n).length = n := by simp [marksT]
theorem marksT_succ (k : Int) (n : Nat) : marksT k (n + 1) = marksT k n ++ [mkT (k + (n : Int))] := by simp [marksT, List.range_succ]
theorem marksT_at (k : Int) (n j : Nat) (h : j < n) : (marksT k n).getD j noT = mkT (k + (j : Int)) := by
  simp [marksT, List.getD, h]
theorem grown_on {a b c : World} {row : Option Nat} (h : a.grownBy b row) (k : Below b.heap.size b c) : a.grownBy c row :=
  ⟨k.os.trans h.os, k.tape.trans h.tape, k.output.trans h.output, Nat.le_trans h.size k.size, fun i hi hne => (k.block i (Nat.lt_of_lt_of_le hi h.size)).trans (h.block i hi hne)⟩
/-- What a marking of a row of strings leaves. -/
def MarkedT (w : World) (base : Nat) (A : Option Addr) (n c : Nat) (k : Int) (e : Ending) (w' : World) : Prop :=
  e = .returned (.int .i64 (k + n)) ∧ w'.ownsRow base 9 1 (.slice A n c) n ((marksT k n).map Value.string) ∧ w.grownBy w' (Value.slice A n c).ownBlock

set_option maxRecDepth 100000 in
set_option maxHeartbeats 800000 in
theorem markStringS_any (base : Nat) (A : Option Addr) (n c : Nat) (xs : List Value) (k : Int) (w : World) (hown : w.ownsRow base 9 1 (.slice A n c) n xs) (hk : 1 ≤ k ∧ k ≤ 4294967296) (hn : n ≤ 4294967296) :
    Calls Tryd.prog 7 #[.slice A n c, .int .i64 k] w (MarkedT w base A n c k) := by
  have H0 := Lib.hid hown
  clear hown
  obtain ⟨hk0, hk1⟩ := hk
  go_enter Tryd.func7, Tryd.ntmps7
  go_wp2_with fail
  go_loopw [1, 5] (fun v i wr => ∃ (j : Nat) (ys : List Value), j ≤ n ∧ v = .int .i64 (k + j) ∧ i = .int .i64 j ∧ ys.length ≤ n ∧ n ≤ ys.length ∧ Hid (ys.take j = (marksT k j).map Value.string) ∧ wr.ownsRow base 9 1 (.slice A n c) n ys ∧ w.grownBy wr (Value.slice A n c).ownBlock) (fun _ i _ => n - (intOf i).toNat)
  case atStart =>
    have := H0.out.1
    exact ⟨0, xs, Nat.zero_le _, by simp, rfl, by omega, by omega, rfl, H0.out, World.grownBy.refl w _⟩
  case round =>
    obtain ⟨j, ys, hj, rfl, rfl, hy1, hy2, HT, hown, hb⟩ := hrel
    by_cases hlt : j < n
    · obtain ⟨g, cap, hv, _, _⟩ := hown.form (by omega)
      injection hv with e1 e2 e3
      subst e1 e3
      obtain ⟨z, hz⟩ : ∃ z : Int, k + (j : Int) = z := ⟨_, rfl⟩
      have hz0 : 1 ≤ z := by omega
      have hz1 : z ≤ 9223372036854775806 := by omega
      have C := Lib.hid (markText_any z hz0 (by omega) wr)
      obtain ⟨t, htt⟩ : ∃ t, mkT z = t := ⟨_, rfl⟩
      rw [htt] at C
      have HZ := Lib.hid hz
      have HTT := Lib.hid htt
      have HOW := Lib.hid hown
      have HB := Lib.hid hb
      rw [hz]
      clear hz htt hown hb
      go_wp2_with fail
      refine C.out.mono ?_
      rintro e w2 ⟨rfl, k2⟩
      have hown := own_below HOW.out k2
      have hco := hown.cellAt j (by omega)
      rw [List.getElem?_eq_getElem (show j < ys.length by omega)] at hco
      have hfo := hown.frozenAt j
      obtain ⟨u, hu⟩ : ∃ u, ys[j]'(by omega) = u := ⟨_, rfl⟩
      rw [hu] at hco
      have HS := Lib.hid (hown.stored j (.string t))
      have HB2 := Lib.hid (grown_on HB.out k2)
      have j0 : (0 : Int) ≤ (j : Int) := by omega
      have j1 : (j : Int) < (n : Int) := by omega
      clear hu hown k2
      go_wp2
      go_roundw
      case rel =>
        refine ⟨j + 1, ys.set j (.string t), by omega, by have := HZ.out; congr 1; omega, by go_num, by simp; omega, by simp; omega, ?_, HS.out.1, HB2.out.trans HS.out.2⟩
        show _ = _
        rw [List.take_succ_eq_append_getElem (by simp; omega), List.take_set_of_le (by omega), HT.out, marksT_succ, HZ.out, HTT.out]
        simp
      case measure => simp [intOf]; omega
    · obtain rfl : j = n := by omega
      have e1 : ys = (marksT k j).map Value.string := by
        have := HT.out
        rw [List.take_of_length_le (by omega)] at this
        exact this
      subst e1
      have HO := Lib.hid hown
      have HB := Lib.hid hb
      clear hown hb
      go_wp2
      go_ret
      exact ⟨rfl, HO.out, HB.out⟩

set_option maxRecDepth 100000 in
set_option maxHeartbeats 800000 in
theorem heldStringS_any (A : Option Addr) (n c : Nat) (k : Int) (w : World) (hx : RdT w A n (marksT k n)) (hk : 1 ≤ k ∧ k ≤ 4294967296) (hn : n ≤ 4294967296) :
    Calls Tryd.prog 8 #[.slice A n c, .int .i64 k] w fun e w' => e = .returned (.int .i64 (k + n)) ∧ Below w.heap.size w w' := by
  have HX := Lib.hid hx
  clear hx
  obtain ⟨hk0, hk1⟩ := hk
  go_enter Tryd.func8, Tryd.ntmps8
  go_wp2_with fail
  go_loopw [1, 5] (fun v i wr => ∃ (j : Nat), j ≤ n ∧ v = .int .i64 (k + j) ∧ i = .int .i64 j ∧ Below w.heap.size w wr) (fun _ i _ => n - (intOf i).toNat)
  case atStart => exact ⟨0, Nat.zero_le _, by simp, rfl, Below.refl _ _⟩
  case round =>
    obtain ⟨j, hj, rfl, rfl, hb⟩ := hrel
    by_cases hlt : j < n
    · obtain ⟨ad, rfl, hc⟩ := (HX.out.below hb).at_ hlt
      rw [marksT_at k n j hlt] at hc
      obtain ⟨z, hz⟩ : ∃ z : Int, k + (j : Int) = z := ⟨_, rfl⟩
      have hz0 : 1 ≤ z := by omega
      have hz1 : z ≤ 9223372036854775806 := by omega
      have C := Lib.hid (fun p : BelowOf wr => markText_any z hz0 (by omega) p.w)
      rw [hz] at hc ⊢
      obtain ⟨t, htt⟩ : ∃ t, mkT z = t := ⟨_, rfl⟩
      rw [htt] at C hc
      have hq := toList_yes (Eq.refl t)
      have HZ := Lib.hid hz
      have HB := Lib.hid hb
      have cu := fun p => cellQ hc p
      have j0 : (0 : Int) ≤ (j : Int) := by omega
      have j1 : (j : Int) < (n : Int) := by omega
      clear hz htt hb hc
      go_wp2_with fail
      refine wp_region_below (by kernel_rfl) (by kernel_rfl) ?_
      repeat (first
        | go_big_quiet_step ((go_at_call 10; exact Calls.below_of (C.out _)))
        | quiet_step ((go_at_call 10; exact Calls.below_of (C.out _))))
      refine wpQuiet_nil ?_
      intro _ hw'
      obtain ⟨⟨w5, kk⟩, hw''⟩ := hw'
      subst hw''
      clear cu
      go_wp2
      go_roundw
      case rel => exact ⟨j + 1, by omega, by have := HZ.out; congr 1; omega, by go_num, below_step HB.out kk⟩
      case measure => simp [intOf]; omega
    · obtain rfl : j = n := by omega
      go_wp2
      go_ret
      exact ⟨rfl, hb⟩

section
variable {H : Type} {enc : TypeId × Value → H} {w : World} {base : Nat} {spare : Nat → Bool} {held : Bool}
theorem Tryd.cellsStr : Tryd.prog.cellsOf 9 = 1 := by kernel_rfl
theorem open_strS {fuel : Nat} {v : Value} {x : DataW H × List MemPlace} (h : DataW.trod enc Tryd.prog w base spare held fuel 22 [v] = some x) :
    ∃ (A : Option Addr) (c : Nat) (bs : List ByteArray), v = .slice A bs.length c ∧ RdT w A bs.length bs ∧ bs.length ≤ c ∧ c ≤ maxLen ∧ ∀ e ∈ bs, e.size ≤ maxLen := by
  rcases open_slice Tryd.underlying22 h with ⟨hcs, _⟩ | ⟨a, len, cap, m, n, D, Pl, hcs, _, hl, hm, hmm, _, hi⟩
  · simp at hcs
    subst hcs
    exact ⟨none, 0, [], rfl, ⟨rfl, fun h => absurd h (by simp)⟩, Nat.le_refl _, by unfold maxLen; omega, by simp⟩
  · simp at hcs
    subst hcs
    have hlm : len ≤ m := by rw [hmm]; split <;> omega
    obtain ⟨es, hes, hp⟩ := list_of (α := ByteArray) (P := fun i e => w.cell? (a.add i) = some (.string e) ∧ e.size ≤ maxLen) len (fun i hil => by
      obtain ⟨cs', hc, ht⟩ := hi i (by omega)
      rw [Tryd.cellsStr] at hc
      obtain ⟨_, hcl, hat⟩ := World.cells?_some hc
      obtain ⟨b, rfl, _, hbz⟩ := DataW.trod_string Tryd.underlying9 ht
      have h0 := hat 0 (by omega)
      rw [add_of_add] at h0
      exact ⟨b, by simpa using h0, hbz⟩)
    subst hes
    refine ⟨some a, cap, es, rfl, ⟨by simp, fun _ => ⟨a, rfl, fun j u hu => ?_⟩⟩, hl, hm, fun e he => by obtain ⟨i, hi, rfl⟩ := List.getElem_of_mem he; exact (hp i hi).2⟩
    have hj : j < es.length := by
      have := (List.getElem?_eq_some_iff.1 hu).1
      simpa using this
    rw [(hp j hj).1, ← hu]
    simp [List.getElem?_eq_getElem hj]
end
end Go.Proofs.YtlnphcongijfiaaDoor
