/- Decimal and ReadDecimal: program and reference return the same. Conditions: strconv's table reads as it was laid. -/
import Derived.Test.YtgdilhkdeeodhaaDoorRDec
import Derived.OpenShut
namespace Go.Proofs.YtgdilhkdeeodhaaDoor
open Go.RowKit
set_option maxRecDepth 100000 in

theorem FnExactDecimal_walk (n : Int) (h : (Lit.int .i64 n).wf = true) (w : World) (ht : TabD w) : Calls Tryd.prog 4 #[.int .i64 n] w fun e w' => e = .returned (.bool true) ∧ Below w.heap.size w w' := by
  skip
  obtain ⟨h0, h1⟩ := Go.bounds_i64 h
  have C1 := Lib.hid (spec_Decimal_any n h0 h1 w)
  have C2 := Lib.hid (fun w' (k : Below w.heap.size w w') => impl_Decimal_any n h0 h1 w' (ht.below k))
  obtain ⟨t, htt⟩ : ∃ t, strOfNums (decI n) = t := ⟨_, rfl⟩
  rw [htt] at C1 C2
  have q1 := toList_yes (Eq.refl t)
  clear htt ht h
  go_enter Tryd.func4, Tryd.ntmps4
  go_wp2_with fail
  refine C1.out.mono ?_
  rintro e w1 ⟨rfl, k1⟩
  have K1 := Lib.hid k1
  have C3 := Lib.hid (C2.out w1 k1)
  clear k1
  go_wp2_with fail
  refine C3.out.mono ?_
  rintro e w2 ⟨rfl, k2⟩
  go_wp2
  go_ret
  exact ⟨rfl, below_step K1.out k2⟩

set_option maxRecDepth 100000 in
theorem FnExactReadDecimal_walk (s : ByteArray) (hs : s.size ≤ maxLen) (w : World) (ht : TabD w) : Calls Tryd.prog 5 #[.string s] w fun e w' => e = .returned (.bool true) ∧ Below w.heap.size w w' := by
  have C1 := Lib.hid (spec_ReadDecimal_any s hs w)
  have C2 := Lib.hid (fun w' (k : Below w.heap.size w w') => impl_ReadDecimal_any s hs w' (ht.below k))
  unfold maxLen at hs
  unfold rdVal at C1 C2
  obtain ⟨n, hn⟩ : ∃ n, rdN s = n := ⟨_, rfl⟩
  obtain ⟨b, hb⟩ : ∃ b, PP (rdOk s) = b := ⟨_, rfl⟩
  rw [hn, hb] at C1 C2
  have q1 : (n != n) = false := by simp
  have q2 : (!(b == b)) = false := by simp
  clear hn hb ht
  by_cases hbig : 1048576 < s.size
  · have hbig' : (1048576 : Int) < (s.size : Int) := by omega
    go_enter Tryd.func5, Tryd.ntmps5
    go_wp2
    go_ret
    exact ⟨rfl, Below.refl _ _⟩
  · have hbig' : (s.size : Int) ≤ 1048576 := by omega
    go_enter Tryd.func5, Tryd.ntmps5
    go_wp2_with fail
    refine C1.out.mono ?_
    rintro e w1 ⟨rfl, k1⟩
    have K1 := Lib.hid k1
    have C3 := Lib.hid (C2.out w1 k1)
    clear k1
    go_wp2_with fail
    refine C3.out.mono ?_
    rintro e w2 ⟨rfl, k2⟩
    go_wp2
    go_ret
    exact ⟨rfl, below_step K1.out k2⟩
end Go.Proofs.YtgdilhkdeeodhaaDoor
