/- Decimal: the program's function (by the shelf's contract on strconv.Itoa, under its table) and the reference's. Conditions: the number is an int; the table reads as it was laid. -/
import Derived.Test.YtgdilhkdeeodhaaDoorDecP
import Derived.Test.YtgdilhkdeeodhaaDoorHex
import Derived.Test.YtgdilhkdeeodhaaDoorApp
import Derived.Test.YtgdilhkdeeodhaaDoorBlk
import Derived.Test.YtgdilhkdeeodhaaDoorShelfD
import Derived.Lib.AppendIntMem
namespace Go.Proofs.YtgdilhkdeeodhaaDoor
open Go.RowKit

/-- The table that strconv.Itoa reads. -/
abbrev TabD (w : World) : Prop := Lib.TabIs Tryd.prog w "internal/strconv.uint64pow10" .u64 Lib.pow10Tab
theorem TabD.below {w w' : World} (h : TabD w) (hb : Below w.heap.size w w') : TabD w' := Lib.tabBelow_of_tabIs h w' hb
theorem below_grow (w : World) (q : Nat) (os : Array Obj) : Below w.heap.size w (Sort.grow (w.drewN q) os) :=
  ⟨rfl, rfl, rfl, by first | (simp [Sort.grow]; done) | (simp [Sort.grow]; omega), fun i hi => by
    show ((w.drewN q).heap ++ os)[i]? = _
    rw [Array.getElem?_append_left (by show i < w.heap.size; omega)]
    rfl⟩

set_option maxRecDepth 100000 in
theorem impl_Decimal_any (n : Int) (h0 : -9223372036854775808 ≤ n) (h1 : n ≤ 9223372036854775807) (w : World) (ht : TabD w) :
    Calls Tryd.prog 11 #[.int .i64 n] w fun e w' => e = .returned (.string (strOfNums (decI n))) ∧ Below w.heap.size w w' := by
  have C := shelf_strconv_Itoa n h0 h1 w ht
  rw [itoa_dec] at C
  have HC := Lib.hid C
  clear C ht
  go_enter Tryd.func11, Tryd.ntmps11
  go_wp2_with fail
  refine HC.out.mono ?_
  rintro e w1 ⟨rfl, k, os, rfl⟩
  have hb := Lib.hid (below_grow w k os)
  obtain ⟨W, hW⟩ : ∃ W, Sort.grow (w.drewN k) os = W := ⟨_, rfl⟩
  rw [hW] at hb ⊢
  clear hW
  go_wp2
  go_ret
  exact ⟨rfl, hb.out⟩

theorem run_dcat {P : Program} (a b : List Int) (h : a.length + b.length ≤ 4294967296) (w : World) : (Op.stringOp .add (strOfNums a) (strOfNums b)).run P w = .ok (.string (strOfNums (a ++ b))) w := by
  have e : strOfNums a ++ strOfNums b = strOfNums (a ++ b) := by
    apply ByteArray.ext
    simp [strOfNums, ByteArray.data_append]
  rw [run_string_add_sum (a := strOfNums a) (b := strOfNums b) (h := by rw [strOfNums_size, strOfNums_size]; omega), e]
theorem run_dstr {P : Program} (src dst e : TypeId) (hs : P.underlying src = some (.slice e)) (he : P.underlying e = some (.int .u8)) (hd : P.underlying dst = some .string) (l : Int) (g : Nat) (w : World)
    (h : w.cell? ⟨g, 0, none⟩ = some (.int .u8 l)) : (convert src dst (.slice (some ⟨g, 0, none⟩) 1 1)).run P w = .ok (.string (strOfNums [l])) w :=
  run_convert_bytes_arg (xs := [l]) w src e hs he g 0 1 1 rfl (fun i hi => by
    obtain rfl : i = 0 := by omega
    simpa using h) dst hd
theorem fig_dig {x : Int} (h : x < 10) : fig x = 48 + x := by unfold fig; rw [if_pos h]
theorem DecAt.len {u0 u : Nat} {acc : List Int} (h : DecAt u0 u acc) (hu : 0 < u) (h0 : u0 ≤ 9223372036854775808) : acc.length ≤ 20 := by
  have h1 := congrArg List.length (h.2 hu)
  have h2 := dec_len 18 u0 (by omega)
  rw [List.length_append] at h1
  omega

set_option maxRecDepth 100000 in
set_option maxHeartbeats 1600000 in
theorem spec_Decimal_pos (n : Int) (h0 : 0 < n) (h1 : n ≤ 9223372036854775807) (w : World) :
    Calls Tryd.prog 17 #[.int .i64 n] w fun e w' => e = .returned (.string (strOfNums (decI n))) ∧ Below w.heap.size w w' := by
  have d0 : (n == 0) = false := by rw [beq_eq_false_iff_ne]; omega
  have d1 : decide (n < 0) = false := by rw [decide_eq_false_iff_not]; omega
  have hD : decI n = dec n.toNat := by unfold decI; rw [if_neg (by omega)]
  have HD := Lib.hid hD
  obtain ⟨u0, hu0⟩ : ∃ u0, n.toNat = u0 := ⟨_, rfl⟩
  have HU := Lib.hid hu0
  have hub : u0 ≤ 9223372036854775808 := by omega
  have hun : n = (u0 : Int) := by omega
  have HUN := Lib.hid hun
  have hs : 0 < u0 := by omega
  clear hD hu0 hun
  go_enter Tryd.func17, Tryd.ntmps17
  go_wp2_with fail
  clear d0
  go_loopw [0, 4] (fun a s wr => ∃ (m : Int) (u : Nat) (acc : List Int), a = .int .i64 m ∧ s = .string (strOfNums acc) ∧ Hid (m = (u : Int)) ∧ 0 ≤ m ∧ m ≤ 9223372036854775807 ∧ Hid (DecAt u0 u acc) ∧ Below w.heap.size w wr) (fun a _ _ => (intOf a).toNat)
  case atStart => exact ⟨n, u0, [], rfl, rfl, HUN, by omega, h1, Lib.hid (DecAt.start hs), Below.refl _ _⟩
  case round =>
    obtain ⟨m, u, acc, rfl, rfl, HM, hm0, hm1, HA, hb⟩ := hrel
    by_cases hz : m = 0
    · have hz' : (m != 0) = false := by rw [bne_eq_false_iff_eq]; exact hz
      have HZ := Lib.hid hz
      clear hz
      go_wp2
      go_ret
      exact ⟨ret_str (by rw [HD.out, HU.out]; exact HA.out.1 (by have := HM.out; have := HZ.out; omega)), hb⟩
    · have hz' : (m != 0) = true := by rw [bne_iff_ne]; exact hz
      have hup : 0 < u := by have := HM.out; omega
      have hmp : 0 < m := by omega
      have hlen := HA.out.len hup hub
      have hnx := HA.out.next hup
      rw [show ((u % 10 : Nat) : Int) = m % 10 by have := HM.out; omega] at hnx
      have HN := Lib.hid hnx
      have hq : m / 10 = ((u / 10 : Nat) : Int) := by have := HM.out; omega
      have HQ := Lib.hid hq
      have hx0 : 0 ≤ m % 10 := by omega
      have hx1 : m % 10 < 10 := by omega
      obtain ⟨x, hx⟩ : ∃ x, m % 10 = x := ⟨_, rfl⟩
      rw [hx] at hx0 hx1
      have HX := Lib.hid hx
      have HB := Lib.hid hb
      have hf := fig_dig hx1
      have C := Lib.hid (spec_l01Figure_any x hx0 (by omega) wr)
      rw [hf] at C
      have ht : m.tmod 10 = x := by rw [← hx]; exact Int.tmod_eq_emod_of_nonneg hm0
      have kc := run_dstr (P := Tryd.prog) 22 9 5 Tryd.underlying22 Tryd.underlying5 Tryd.underlying9 (48 + x) wr.heap.size (wr.alloc (.cells #[.int .u8 (48 + x)] 5)) (cell_one_new wr 5 (.int .u8 (48 + x)) 0 _ rfl)
      have hct := fun (w : World) => run_dcat (P := Tryd.prog) [48 + x] acc (by simp; omega) w
      clear hz hnx hq hf hb ht
      go_wp2_with ((go_at_call 28; first | (refine (C.out).mono ?_; rintro e w' ⟨rfl, rfl⟩)))
      go_roundw
      case rel => exact ⟨m / 10, u / 10, (48 + x) :: acc, by go_num, rfl, HQ, by omega, by omega, Lib.hid (by rw [← HX.out]; exact HN.out), HB.out.alloc HB.out.size _⟩
      case measure => simp [intOf]; omega

theorem tmod_neg10 (u : Nat) : (-(u : Int)).tmod 10 = -((u % 10 : Nat) : Int) := by
  rw [Int.neg_tmod, Int.tmod_eq_emod_of_nonneg (by omega)]
  omega
theorem tdiv_neg10 (u : Nat) : (-(u : Int)).tdiv 10 = -((u / 10 : Nat) : Int) := by
  rw [Int.neg_tdiv, Int.tdiv_eq_ediv_of_nonneg (by omega)]
  omega

set_option maxRecDepth 100000 in
set_option maxHeartbeats 1600000 in
theorem spec_Decimal_neg (n : Int) (h0 : n < 0) (h1 : -9223372036854775808 ≤ n) (w : World) :
    Calls Tryd.prog 17 #[.int .i64 n] w fun e w' => e = .returned (.string (strOfNums (decI n))) ∧ Below w.heap.size w w' := by
  have d0 : (n == 0) = false := by rw [beq_eq_false_iff_ne]; omega
  have d1 : decide (n < 0) = true := by rw [decide_eq_true_eq]; omega
  have hD : decI n = 45 :: dec n.natAbs := by unfold decI; rw [if_pos (by omega)]
  have HD := Lib.hid hD
  obtain ⟨u0, hu0⟩ : ∃ u0, n.natAbs = u0 := ⟨_, rfl⟩
  have HU := Lib.hid hu0
  have hub : u0 ≤ 9223372036854775808 := by omega
  have hun : n = -(u0 : Int) := by omega
  have HUN := Lib.hid hun
  have hs : 0 < u0 := by omega
  clear hD hu0 hun
  go_enter Tryd.func17, Tryd.ntmps17
  go_wp2_with fail
  clear d0
  go_loopw [0, 4] (fun a s wr => ∃ (m : Int) (u : Nat) (acc : List Int), a = .int .i64 m ∧ s = .string (strOfNums acc) ∧ Hid (m = -(u : Int)) ∧ m ≤ 0 ∧ -9223372036854775808 ≤ m ∧ Hid (DecAt u0 u acc) ∧ Below w.heap.size w wr) (fun a _ _ => (intOf a).natAbs)
  case atStart => exact ⟨n, u0, [], rfl, rfl, HUN, by omega, h1, Lib.hid (DecAt.start hs), Below.refl _ _⟩
  case round =>
    obtain ⟨m, u, acc, rfl, rfl, HM, hm0, hm1, HA, hb⟩ := hrel
    by_cases hz : m = 0
    · have hz' : (m != 0) = false := by rw [bne_eq_false_iff_eq]; exact hz
      have HZ := Lib.hid hz
      have hlen : acc.length ≤ 20 := by
        rw [HA.out.1 (by have := HM.out; omega)]
        have := dec_len 18 u0 (by omega)
        omega
      have hct := fun (w : World) => run_dcat (P := Tryd.prog) [45] acc (by simp only [List.length_cons, List.length_nil]; omega) w
      have hct' : ∀ w : World, (Op.stringOp .add ⟨#[45]⟩ (strOfNums acc)).run Tryd.prog w = .ok (.string (strOfNums ([45] ++ acc))) w := hct
      clear hz hct
      go_wp2
      go_ret
      exact ⟨ret_str (by rw [HD.out, HU.out, HA.out.1 (by have := HM.out; have := HZ.out; omega)]), hb⟩
    · have hz' : (m != 0) = true := by rw [bne_iff_ne]; exact hz
      have hup : 0 < u := by have := HM.out; omega
      have hmp : m < 0 := by omega
      have hlen := HA.out.len hup hub
      have hnx := HA.out.next hup
      obtain ⟨x, hx⟩ : ∃ x : Int, ((u % 10 : Nat) : Int) = x := ⟨_, rfl⟩
      have hx0 : 0 ≤ x := by omega
      have hx1 : x < 10 := by omega
      rw [hx] at hnx
      have HN := Lib.hid hnx
      obtain ⟨d, hd⟩ : ∃ d : Int, -x = d := ⟨_, rfl⟩
      obtain ⟨m2, hm2⟩ : ∃ m2 : Int, -((u / 10 : Nat) : Int) = m2 := ⟨_, rfl⟩
      have t1 : m.tmod 10 = d := by rw [HM.out, tmod_neg10, hx, hd]
      have t2 : m.tdiv 10 = m2 := by rw [HM.out, tdiv_neg10, hm2]
      have HM2 := Lib.hid hm2.symm
      have hm20 : m2 ≤ 0 := by omega
      have hm21 : m < m2 := by have := HM.out; omega
      have hf := fig_dig hx1
      have C := Lib.hid (spec_l01Figure_any x hx0 (by omega) wr)
      rw [hf] at C
      have kc := run_dstr (P := Tryd.prog) 22 9 5 Tryd.underlying22 Tryd.underlying5 Tryd.underlying9 (48 + x) wr.heap.size (wr.alloc (.cells #[.int .u8 (48 + x)] 5)) (cell_one_new wr 5 (.int .u8 (48 + x)) 0 _ rfl)
      have hct := fun (w : World) => run_dcat (P := Tryd.prog) [48 + x] acc (by simp; omega) w
      have HB := Lib.hid hb
      have hneg : -d = x := by omega
      have HNE := Lib.hid hneg
      have hd0 : d ≤ 0 := by omega
      have hd1 : -9 ≤ d := by omega
      clear hz hnx hf hb hm2 hx hd
      by_cases hdd : d < 0
      · go_wp2_with ((go_at_call 28; first | (refine (C.out).mono ?_; rintro e w' ⟨rfl, rfl⟩)))
        go_roundw
        case rel => exact ⟨m2, u / 10, (48 + x) :: acc, rfl, rfl, HM2, by omega, by omega, HN, HB.out.alloc HB.out.size _⟩
        case measure => simp [intOf]; omega
      · obtain rfl : d = x := by omega
        clear hneg
        go_wp2_with ((go_at_call 28; first | (refine (C.out).mono ?_; rintro e w' ⟨rfl, rfl⟩)))
        go_roundw
        case rel => exact ⟨m2, u / 10, (48 + d) :: acc, rfl, rfl, HM2, by omega, by omega, HN, HB.out.alloc HB.out.size _⟩
        case measure => simp [intOf]; omega

set_option maxRecDepth 100000 in
theorem spec_Decimal_any (n : Int) (h0 : -9223372036854775808 ≤ n) (h1 : n ≤ 9223372036854775807) (w : World) :
    Calls Tryd.prog 17 #[.int .i64 n] w fun e w' => e = .returned (.string (strOfNums (decI n))) ∧ Below w.heap.size w w' := by
  by_cases h : n = 0
  · subst h
    rw [show strOfNums (decI 0) = ⟨#[48]⟩ by unfold decI; rw [if_neg (by omega), dec_small (by decide)]; rfl]
    go_enter Tryd.func17, Tryd.ntmps17
    go_wp2
    go_ret
    exact ⟨rfl, Below.refl _ _⟩
  · by_cases h2 : 0 < n
    · exact spec_Decimal_pos n h2 h1 w
    · exact spec_Decimal_neg n (by omega) h0 w
end Go.Proofs.YtgdilhkdeeodhaaDoor
