/- Unhex: both functions return the same. No conditions. -/
import Derived.Test.YtgdilhkdeeodhaaDoorKit
import Derived.Lib.Bytealg
import Derived.Laws.Externs
namespace Go.Proofs.YtgdilhkdeeodhaaDoor
open Go.RowKit
/-- What a hexadecimal figure stands for; -1 for any other byte. -/
def hexVal (c : Int) : Int := if 48 ≤ c ∧ c ≤ 57 then c - 48 else if 97 ≤ c ∧ c ≤ 102 then c - 87 else -1
theorem hexVal_bd (c : Int) : -1 ≤ hexVal c ∧ hexVal c ≤ 15 := by unfold hexVal; split <;> (try split) <;> omega

def unDigits : ByteArray := ⟨#[48, 49, 50, 51, 52, 53, 54, 55, 56, 57, 97, 98, 99, 100, 101, 102]⟩
theorem ofInt_i64 (a : Nat) (ha : a < 9223372036854775808) : (BitVec.ofInt 64 (a : Int)).toNat = a := by
  rw [BitVec.ofInt_natCast, BitVec.toNat_ofNat]; exact Nat.mod_eq_of_lt (by omega)
theorem i64_or_nat (a b : Nat) (ha : a < 9223372036854775808) (hb : b < 9223372036854775808) : bits .or .i64 (a : Int) (b : Int) = ((a ||| b : Nat) : Int) := by
  have hx : a ||| b < 2 ^ 63 := Nat.or_lt_two_pow (by omega) (by omega)
  show IntKind.i64.wrap ((BitVec.ofInt 64 (a : Int) ||| BitVec.ofInt 64 (b : Int)).toNat : Int) = _
  rw [BitVec.toNat_or, ofInt_i64 a ha, ofInt_i64 b hb, IntKind.wrap_i64]
  omega
theorem ext_IndexByte (s : ByteArray) (c : Int) (W : World) :
    (callFunc 34 #[.string s, .int .u8 c]).run Tryd.prog W = .ok (.value (.int .i64 (firstIdx s c.toNat.toUInt8))) W := by
  rw [run_callFunc_extern (fn := Tryd.f34) (e := Extern.BytealgIndexByte.indexByte) Tryd.func34 (by kernel_rfl) (by kernel_rfl) (by kernel_rfl) (by kernel_rfl), run_indexByte_string]
  rfl
theorem first_all : ∀ n : Fin 256, firstIdx unDigits n.val.toUInt8 = hexVal n.val := by decide +kernel
set_option maxRecDepth 100000 in
theorem IndexByte_any (c : Int) (h : 0 ≤ c ∧ c ≤ 255) (w : World) : Calls Tryd.prog 27 #[.string unDigits, .int .u8 c] w fun e w' => e = .returned (.int .i64 (hexVal c)) ∧ w = w' := by
  have e1 : firstIdx unDigits c.toNat.toUInt8 = hexVal c := by
    have := first_all ⟨c.toNat, by omega⟩
    rw [show ((⟨c.toNat, by omega⟩ : Fin 256).val : Int) = c by simp; omega] at this
    exact this
  have hx := fun W => ext_IndexByte unDigits c W
  rw [e1] at hx
  clear e1
  go_enter Tryd.func27, Tryd.ntmps27
  go_wp2
  go_ret
  exact ⟨rfl, rfl⟩

theorem IndexByte_lit (c : Int) (h : 0 ≤ c ∧ c ≤ 255) (w : World) : Calls Tryd.prog 27 #[.string ⟨#[48, 49, 50, 51, 52, 53, 54, 55, 56, 57, 97, 98, 99, 100, 101, 102]⟩, .int .u8 c] w fun e w' => e = .returned (.int .i64 (hexVal c)) ∧ w = w' := IndexByte_any c h w

/-- The bytes that k pairs of figures stand for; none where a byte is no figure. -/
def hv (s : ByteArray) (j : Nat) : Int := hexVal ((s.data.toList.getD j 0).toNat : Int)
theorem hv_eq (s : ByteArray) (j : Nat) (h : j < s.size) : hv s j = hexVal (s[j].toNat : Int) := by
  unfold hv
  rw [List.getD_eq_getElem?_getD, List.getElem?_eq_getElem (by simpa using h)]
  rfl
def unGo (s : ByteArray) : Nat → List Int
  | 0 => []
  | k + 1 => unGo s k ++ [16 * hv s (2 * k) + hv s (2 * k + 1)]
theorem unGo_len (s : ByteArray) : ∀ k, (unGo s k).length = k
  | 0 => rfl
  | k + 1 => by rw [unGo, List.length_append, unGo_len s k]; rfl
def UnOk (s : ByteArray) : Prop := s.size ≤ 40000 ∧ s.size % 2 = 0 ∧ ∀ j, j < s.size → 0 ≤ hv s j
noncomputable def unOut (s : ByteArray) : Value := @ite _ (UnOk s) (Classical.propDecidable _) (.tuple #[.string (strOfNums (unGo s (s.size / 2))), .bool true]) (.tuple #[.string ⟨#[]⟩, .bool false])
theorem unOut_yes {s : ByteArray} (h : UnOk s) : unOut s = .tuple #[.string (strOfNums (unGo s (s.size / 2))), .bool true] := by unfold unOut; rw [if_pos h]
theorem unOut_no {s : ByteArray} (h : ¬ UnOk s) : unOut s = .tuple #[.string ⟨#[]⟩, .bool false] := by unfold unOut; rw [if_neg h]
theorem unOut_is (s : ByteArray) : ∃ t b, unOut s = .tuple #[.string t, .bool b] := by
  by_cases h : UnOk s
  · exact ⟨_, _, unOut_yes h⟩
  · exact ⟨_, _, unOut_no h⟩
theorem ret_v {a b : Value} (h : a = b) : Ending.returned a = .returned b := by rw [h]

set_option maxRecDepth 100000 in
set_option maxHeartbeats 1600000 in
theorem impl_Unhex_any (s : ByteArray) (hs : s.size ≤ maxLen) (w : World) : Calls Tryd.prog 16 #[.string s] w fun e w' => e = .returned (unOut s) ∧ Below w.heap.size w w' := by
  unfold maxLen at hs
  by_cases hbig : s.size ≤ 40000
  · by_cases hodd : s.size % 2 = 0
    · obtain ⟨i0, hi, hz0, hz1, hz2⟩ := info_parts Tryd.infoU8
      obtain ⟨m, hm⟩ : ∃ m, s.size = 2 * m := ⟨s.size / 2, by omega⟩
      have HM := Lib.hid hm
      have HO := Lib.hid hodd
      have q1 : ((s.size : Int) % 2 == 0) = true := by rw [beq_iff_eq]; omega
      have q2 : ((s.size : Int) % 2 != 0) = false := by rw [bne_eq_false_iff_eq]; omega
      have q3 : (s.size : Int) % 2 = 0 := by omega
      have q4 : m ≤ 20000 := by omega
      have q5 : s.size ≤ 2 * m := by omega
      have q6 : 2 * m ≤ s.size := by omega
      clear hm hodd
      go_enter Tryd.func16, Tryd.ntmps16
      go_wp2_with (first
        | (at_make
           refine wpList_make_own _ rfl _ _ 22 rfl w.heap.size 5 i0 (.int .u8 0) 1 Tryd.underlying22 hi hz0 hz1 .i64 .i64 ((s.size : Int) / 2) m rfl rfl (by omega) (by rw [hz2]; omega) (by unfold maxLen; omega) (Nat.le_refl _) ?_
           intro w0 hown0 hg0
           have hb0 := (Below.refl w.heap.size w).grown hg0 (Nat.le_refl _) (fun g hg => by cases hg)))
      clear q1 q2 q3
      go_loopw [4, 5] (fun v i wr => ∃ k : Nat, k ≤ m ∧ i = .int .i64 (2 * (k : Int)) ∧ wr.ownsRow w.heap.size 5 1 v k ((unGo s k).map (Value.int .u8)) ∧ Below w.heap.size w wr ∧ Hid (∀ j, j < 2 * k → 0 ≤ hv s j)) (fun _ i _ => s.size - (intOf i).toNat)
      case atStart => exact ⟨0, Nat.zero_le _, rfl, hown0, hb0, fun j hj => absurd hj (by omega)⟩
      case round =>
        obtain ⟨k, hk, rfl, hown, hb, HA⟩ := hrel
        by_cases hlt : k < m
        · have l1 : 2 * k < s.size := by omega
          have l2 : 2 * k + 1 < s.size := by omega
          have c1 : (s[2 * k].toNat : Int) ≤ 255 := by have := s[2 * k].toNat_lt; omega
          have c2 : (s[2 * k + 1].toNat : Int) ≤ 255 := by have := s[2 * k + 1].toNat_lt; omega
          have v1 := hexVal_bd (s[2 * k].toNat : Int)
          have v2 := hexVal_bd (s[2 * k + 1].toNat : Int)
          have C1 := fun w => IndexByte_lit (s[2 * k].toNat : Int) (by omega) w
          have C2 := fun w => IndexByte_lit (s[2 * k + 1].toNat : Int) (by omega) w
          obtain ⟨x, hx⟩ : ∃ x, hexVal (s[2 * k].toNat : Int) = x := ⟨_, rfl⟩
          obtain ⟨y, hy⟩ : ∃ y, hexVal (s[2 * k + 1].toNat : Int) = y := ⟨_, rfl⟩
          rw [hx] at v1 C1
          rw [hy] at v2 C2
          have HX : Hid (hv s (2 * k) = x) := by show _ = _; rw [hv_eq s _ l1, hx]
          have HY : Hid (hv s (2 * k + 1) = y) := by show _ = _; rw [hv_eq s _ l2, hy]
          have C1 := Lib.hid C1
          have C2 := Lib.hid C2
          clear hx hy
          obtain ⟨x0, x1⟩ := v1
          obtain ⟨y0, y1⟩ := v2
          by_cases hxn : x < 0
          · go_wp2_with (go_at_call 27; first | ((with_reducible refine (C1.out _).mono ?_); rintro e w' ⟨rfl, rfl⟩) | ((with_reducible refine (C2.out _).mono ?_); rintro e w' ⟨rfl, rfl⟩))
            go_ret2
            exact ⟨ret_v (unOut_no fun h => by have := h.2.2 (2 * k) l1; rw [HX.out] at this; omega).symm, hb⟩
          · by_cases hyn : y < 0
            · go_wp2_with (go_at_call 27; first | ((with_reducible refine (C1.out _).mono ?_); rintro e w' ⟨rfl, rfl⟩) | ((with_reducible refine (C2.out _).mono ?_); rintro e w' ⟨rfl, rfl⟩))
              go_ret2
              exact ⟨ret_v (unOut_no fun h => by have := h.2.2 (2 * k + 1) l2; rw [HY.out] at this; omega).symm, hb⟩
            · have hbs := hb.size
              have o1 : bits .or .i64 (x * 16) y = 16 * x + y := by
                obtain ⟨X, rfl⟩ := Int.eq_ofNat_of_zero_le (by omega : 0 ≤ x)
                obtain ⟨Y, rfl⟩ := Int.eq_ofNat_of_zero_le (by omega : 0 ≤ y)
                rw [show (X : Int) * 16 = ((X * 16 : Nat) : Int) by omega, i64_or_nat _ _ (by omega) (by omega), nat_join 4 _ _ (by omega) (by omega)]
                omega
              go_wp2_with (first
                | (go_at_call 27; first | ((with_reducible refine (C1.out _).mono ?_); rintro e w' ⟨rfl, rfl⟩) | ((with_reducible refine (C2.out _).mono ?_); rintro e w' ⟨rfl, rfl⟩))
                | (at_builtin
                   refine wpList_append_own _ rfl (.tmp 42) (.tmp 48) 22 rfl w.heap.size 5 i0 (.int .u8 0) 1 1 Tryd.underlying22 hi hz0 hz1 hz2 rfl (by decide) _ _ _ rfl (hown.alloc _) ⟨wr.heap.size, 0, none⟩ 1 1 [.int .u8 (16 * x + y)] rfl rfl (cell_one_new _ _ _) (by intro u hu; simp at hu; subst hu; rfl) (by unfold maxLen; omega) (by omega) (by simp; omega) ?_
                   intro v1 w1 hown1 hg1 _))
              go_roundw
              case rel =>
                refine ⟨k + 1, by omega, by go_num, ?_, ((hb.alloc hb.size _).grown hg1 (by simp; omega) (fun g hg => (hown.lt g hg).1)), ?_⟩
                · rw [unGo, List.map_append, HX.out, HY.out]
                  exact hown1
                · intro j hj
                  rcases (by omega : j < 2 * k ∨ j = 2 * k ∨ j = 2 * k + 1) with h | h | h
                  · exact HA.out j h
                  · rw [h, HX.out]; omega
                  · rw [h, HY.out]; omega
              case measure => simp [intOf]; omega
        · obtain rfl : k = m := by omega
          have hcv := run_string_own (P := Tryd.prog) wr 22 9 5 Tryd.underlying22 Tryd.underlying5 Tryd.underlying9 hown
          go_wp2
          go_ret2
          refine ⟨ret_v ?_, hb⟩
          rw [unOut_yes ⟨hbig, HO.out, fun j hj => HA.out j (by omega)⟩, show s.size / 2 = k by omega]
          rfl
    · have q1 : ((s.size : Int) % 2 == 0) = false := by rw [beq_eq_false_iff_ne]; omega
      have q2 : ((s.size : Int) % 2 != 0) = true := by rw [bne_iff_ne]; omega
      rw [unOut_no fun h => hodd h.2.1]
      go_enter Tryd.func16, Tryd.ntmps16
      go_wp2
      go_ret2
      exact ⟨rfl, Below.refl _ _⟩
  · rw [unOut_no fun h => hbig h.1]
    obtain ⟨b, hbb⟩ : ∃ b, ((s.size : Int) % 2 != 0) = b := ⟨_, rfl⟩
    cases b
    all_goals
      go_enter Tryd.func16, Tryd.ntmps16
      go_wp2
      all_goals
        go_ret2
        exact ⟨rfl, Below.refl _ _⟩

end Go.Proofs.YtgdilhkdeeodhaaDoor
