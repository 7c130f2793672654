/- Hex: program and reference return the same. No conditions. -/
import Derived.Test.YtgdilhkdeeodhaaDoorKit
import Derived.Deep.RegionHeld3
import Derived.Deep.AppendLies
namespace Go.Proofs.YtgdilhkdeeodhaaDoor
open Go.RowKit

def fig (x : Int) : Int := if x < 10 then 48 + x else 87 + x
theorem fig_bd {x : Int} (h0 : 0 ≤ x) (h : x < 16) : 0 ≤ fig x ∧ fig x < 256 := by unfold fig; split <;> omega

set_option maxRecDepth 100000 in
theorem spec_l01Figure_any (x : Int) (h0 : 0 ≤ x) (h : x < 16) (w : World) : Calls Tryd.prog 28 #[.int .i64 x] w fun e w' => e = .returned (.int .u8 (fig x)) ∧ w = w' := by
  by_cases hx : x < 10
  · have hf : fig x = 48 + x := if_pos hx
    rw [hf]
    clear hf
    go_enter Tryd.func28, Tryd.ntmps28
    go_wp2
    go_ret
    exact ⟨rfl, rfl⟩
  · have hf : fig x = 97 + x - 10 := by unfold fig; rw [if_neg hx]; omega
    rw [hf]
    clear hf
    go_enter Tryd.func28, Tryd.ntmps28
    go_wp2
    go_ret
    exact ⟨rfl, rfl⟩

def hx2 (c : UInt8) : List Int := [fig ((c.toNat : Int) / 16), fig ((c.toNat : Int) % 16)]
def hxTo (s : ByteArray) (k : Nat) : List Int := (s.data.toList.take k).flatMap hx2
theorem hxTo_succ (s : ByteArray) (k : Nat) (h : k < s.size) : hxTo s (k + 1) = hxTo s k ++ [fig ((s[k].toNat : Int) / 16), fig ((s[k].toNat : Int) % 16)] := by
  unfold hxTo
  rw [List.take_succ_eq_append_getElem (by simpa using h), List.flatMap_append]
  rfl
theorem flat2 (l : List UInt8) : (l.flatMap hx2).length = 2 * l.length := by
  induction l with
  | nil => rfl
  | cons a l ih => rw [List.flatMap_cons, List.length_append, ih]; simp [hx2]; omega
theorem hxTo_len (s : ByteArray) (k : Nat) (h : k ≤ s.size) : (hxTo s k).length = 2 * k := by
  unfold hxTo
  rw [flat2, List.length_take]
  have : s.data.toList.length = s.size := by simp
  omega

def digits : ByteArray := ⟨#[48, 49, 50, 51, 52, 53, 54, 55, 56, 57, 97, 98, 99, 100, 101, 102]⟩
theorem dig_all : ∀ i : Fin 16, ((digits[i.val]'i.isLt).toNat : Int) = fig i.val := by decide
theorem dig_at (x : Int) (h0 : 0 ≤ x) (h : x < 16) (hi : x.toNat < digits.size) : ((digits[x.toNat]'hi).toNat : Int) = fig x := by
  have h1 := dig_all ⟨x.toNat, by omega⟩
  rw [show ((⟨x.toNat, by omega⟩ : Fin 16).val : Int) = x by simp; omega] at h1
  exact h1

set_option maxRecDepth 100000 in
set_option maxHeartbeats 800000 in
theorem impl_Hex_yes (s : ByteArray) (hs : s.size ≤ 20000) (w : World) : Calls Tryd.prog 15 #[.string s] w fun e w' => e = .returned (.tuple #[.string (strOfNums (hxTo s s.size)), .bool true]) ∧ Below w.heap.size w w' := by
  obtain ⟨i0, hi, hz0, hz1, hz2⟩ := info_parts Tryd.infoU8
  go_enter Tryd.func15, Tryd.ntmps15
  go_wp2_with (first
    | (at_make
       go_loud (refine wpList_make_own _ rfl _ _ 22 rfl w.heap.size 5 i0 (.int .u8 0) 1 Tryd.underlying22 hi hz0 hz1 .i64 .i64 (2 * (s.size : Int)) (2 * s.size) rfl rfl (by omega) (by rw [hz2]; omega) (by unfold maxLen; omega) (Nat.le_refl _) ?_)
       intro w0 hown0 hg0
       have hb0 := (Below.refl w.heap.size w).grown hg0 (Nat.le_refl _) (fun g hg => by cases hg)))
  go_loopw [5, 6] (fun v i wr => ∃ k : Nat, k ≤ s.size ∧ i = .int .i64 k ∧ wr.ownsRow w.heap.size 5 1 v (2 * k) ((hxTo s k).map (Value.int .u8)) ∧ Below w.heap.size w wr) (fun _ i _ => s.size - (intOf i).toNat)
  case atStart => exact ⟨0, Nat.zero_le _, rfl, hown0, hb0⟩
  case round =>
    obtain ⟨k, hk, rfl, hown, hb⟩ := hrel
    clear hown0 hg0 hb0
    by_cases hlt : k < s.size
    · have hq : 0 ≤ (s[k].toNat : Int) ∧ (s[k].toNat : Int) < 256 := by have := s[k].toNat_lt; omega
      have hbs := hb.size
      have hand : bits .and .u8 (s[k].toNat : Int) 15 = (s[k].toNat : Int) % 16 := by
        rw [show (15 : Int) = ((15 : Nat) : Int) from rfl, u8_and_nat _ 15 (by omega) (by omega), nat_mask4]; omega
      have h5 : 0 ≤ (s[k].toNat : Int) % 16 := by omega
      have h6 : (s[k].toNat : Int) % 16 < 16 := by omega
      have h7 : 0 ≤ (s[k].toNat : Int) / 16 := by omega
      have h8 : (s[k].toNat : Int) / 16 < 16 := by omega
      go_wp2_with fail
      go_region_held3 (fun _ => True) (exact trivial)
        ((first
          | (refine step_append_lies _ (by rfl) (.tmp 20) (.tmp 33) 22 (by rfl) w.heap.size 5 i0 _ 1 1 Tryd.underlying22 hi hz0 hz1 hz2 rfl (by omega) u5 (2 * k) ((hxTo s k).map (Value.int .u8)) (by rfl) ((hown.alloc _).drew)
              ⟨wr.heap.size, 0, none⟩ 2 2 [.int .u8 _, .int .u8 _] (by rfl) (by rfl) (World.news_of_block (cs := #[.int .u8 _, .int .u8 _]) (t := 5) (fr := (0, 0)) (heap_alloc_new wr _)) (by simp [Value.oneCell'])
              (by omega) (by unfold maxLen; omega) (by omega) (by simp; omega) _ rfl ?_; intro gg cap w1 hown1 hgrow hat hlt1)))
      all_goals clear hand
      all_goals
        have e1 := dig_at ((s[k].toNat : Int) / 16) h7 h8 (by show _ < 16; omega)
        have e2 := dig_at ((s[k].toNat : Int) % 16) h5 h6 (by show _ < 16; omega)
        unfold digits at e1 e2
        rw [e1, e2] at hown1
        clear e1 e2
      go_wp2
      all_goals
        go_roundw
        case rel =>
          refine ⟨k + 1, by omega, by go_num, ?_, ?_⟩
          · rw [hxTo_succ s k hlt, List.map_append, show 2 * (k + 1) = 2 * k + 2 by omega]
            exact hown1
          · exact ((hb.alloc hb.size _).drew).grown hgrow (by simp; omega) (fun g hg => (hown.lt g hg).1)
        case measure => simp [intOf]; omega
    · obtain rfl : k = s.size := by omega
      have hcv := run_string_own (P := Tryd.prog) wr 22 9 5 Tryd.underlying22 Tryd.underlying5 Tryd.underlying9 hown
      go_wp2
      go_ret2
      exact ⟨rfl, hb⟩

def hexOut (s : ByteArray) : Value := if s.size ≤ 20000 then .tuple #[.string (strOfNums (hxTo s s.size)), .bool true] else .tuple #[.string ⟨#[]⟩, .bool false]
theorem hexOut_is (s : ByteArray) : ∃ t b, hexOut s = .tuple #[.string t, .bool b] := by
  unfold hexOut
  split
  · exact ⟨_, _, rfl⟩
  · exact ⟨_, _, rfl⟩

set_option maxRecDepth 100000 in
theorem impl_Hex_any (s : ByteArray) (hs : s.size ≤ maxLen) (w : World) : Calls Tryd.prog 15 #[.string s] w fun e w' => e = .returned (hexOut s) ∧ Below w.heap.size w w' := by
  unfold maxLen at hs
  by_cases h : s.size ≤ 20000
  · rw [show hexOut s = .tuple #[.string (strOfNums (hxTo s s.size)), .bool true] from if_pos h]
    exact impl_Hex_yes s h w
  · rw [show hexOut s = .tuple #[.string ⟨#[]⟩, .bool false] from if_neg h]
    go_enter Tryd.func15, Tryd.ntmps15
    go_wp2
    go_ret2
    exact ⟨rfl, Below.refl _ _⟩
end Go.Proofs.YtgdilhkdeeodhaaDoor
