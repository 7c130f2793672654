/- spec.PathTakes: whether the path leads through the whole word. Conditions: the lengths. -/
import Derived.Test.YtgpjgigmlgoiiaaITakes
import Derived.Test.YtgpjgigmlgoiiaaFull
import Derived.Test.YtgpjgigmlgoiiaaLine
import Derived.Test.YtgpjgigmlgoiiaaSPathOk
import Derived.Deep.RegionLaw
namespace Go.Proofs.Ytgpjgigmlgoiiaa
open Go.RowKit
set_option maxRecDepth 100000 in

set_option maxHeartbeats 3200000 in
theorem spec_PathTakes_any (A : Option Addr) (c : Nat) (ps : List Pc) (s : ByteArray) (w : World) (hx : RdP w A ps) (hpl : ps.length ≤ 1048576) (hkl : ∀ p ∈ ps, p.k.length ≤ 4294967296) (hs : s.size ≤ 1048576) :
    Calls Try.prog 28 #[.agg #[.slice A ps.length c], .string s] w fun e w' => e = .returned (.bool (PP (PtOk s ps))) ∧ Below w.heap.size w w' := by
  have ka := below_alloc w (.cells #[.slice A ps.length c] 59)
  have p0 := heap_alloc_new w (.cells #[.slice A ps.length c] 59)
  have hx1 := hx.keep ka
  obtain ⟨W1, hW1⟩ : ∃ W, w.alloc (.cells #[.slice A ps.length c] 59) = W := ⟨_, rfl⟩
  obtain ⟨g0, hg0⟩ : ∃ g, w.heap.size = g := ⟨_, rfl⟩
  rw [hW1] at p0 ka hx1
  rw [hg0] at p0
  have P0 := Lib.hid p0
  have HB1 := Lib.hid ka
  have HX := Lib.hid hx1
  have HK := Lib.hid hkl
  have b0 := blk_cell (o := 0) p0 rfl
  have PO := Lib.hid (spec_PathOk_any A c ps W1 hx1 (by omega) hkl)
  have HNO := Lib.hid (fun (h : ¬ PtOk s ps) => PP_no h)
  clear hx hkl ka p0 hx1
  go_enter Try.func28, Try.ntmps28
  go_wp2_with fail
  clear hW1 hg0
  refine PO.out.mono ?_
  by_cases hpo : PaOk ps
  · rw [PP_yes hpo]
    rintro e w3 ⟨rfl, k3⟩
    have b0 := blk_cell (o := 0) (blk_below k3 P0.out) rfl
    have HPO := Lib.hid hpo
    have WO := Lib.hid (l07Word_any s w3 hs)
    obtain ⟨wb, hwb⟩ : ∃ wb, PP (WdOk s) = wb := ⟨_, rfl⟩
    rw [hwb] at WO
    have HWB := Lib.hid hwb
    have K3 := Lib.hid k3
    clear hpo hwb k3
    go_wp2_with fail
    refine WO.out.mono ?_
    rintro e w4 ⟨rfl, rfl⟩
    cases wb
    · have E := Lib.hid (HNO.out (fun h => by have h1 := HWB.out; rw [PP_yes h.2.1] at h1; cases h1))
      go_wp2
      go_ret
      exact ⟨ret_b2' E.out.symm, below_step HB1.out K3.out⟩
    · have HWD : Hid (WdOk s) := Lib.hid (Classical.byContradiction fun h => by have h1 := HWB.out; rw [PP_no h] at h1; cases h1)
      have h12 := HWD.out.1
      have hcast : ((s.size : Int) + 1) = ((s.size + 1 : Nat) : Int) := by push_cast; rfl
      have B0 : Below w3.heap.size w3 w3.drew := (Below.refl _ _).drew
      have FC := Lib.hid (fun (W : World) (Ag : Option Addr) (cg : Nat) (hb : Below w3.heap.size w3 W) (he : RdE W Ag (lineE s s.size)) => l06Full_any (s.size + 1) Ag A cg c (lineE s s.size) ps W (by omega) (by omega) he (by rw [lineE_len]; omega) (lineE_er s) (HX.out.keep (below_step K3.out hb)) HPO.out HK.out)
      rw [← hcast] at FC
      clear hcast
      have c0 := b0
      have hz3 : g0 < w3.heap.size := World.block_lt_of_cell? w3 _ b0
      go_wp2_with fail
      go_region_law (first
        | (go_simp
           go_at_call 71
           refine (l07Line_any s _ h12).mono ?_
           rintro e w5 ⟨A5, c5, rfl, own5, k5⟩
           have K5 := Lib.hid (below_step B0 k5)
           have R5 := Lib.hid (Rd.of_own own5)
           have b05 := held_step K5.out c0
           clear own5 k5)
        | (go_simp
           go_at_call 70
           refine (FC.out _ A5 c5 K5.out R5.out).mono ?_
           rintro e w6 ⟨A6, c6, vs, q, rfl, hm, k6⟩
           have K6 := Lib.hid (below_step K5.out k6)
           have M6 := Lib.hid hm
           have b06 := held_step K6.out c0
           clear hm k6))
      all_goals
        have hpl1 := HPO.out.1
        obtain ⟨m, hm1⟩ : ∃ m, ps.length - 1 = m := ⟨_, rfl⟩
        have wpm : IntKind.i64.wrap ((ps.length : Int) - 1) = (m : Int) := by rw [show (ps.length : Int) - 1 = (m : Int) by omega]; exact IntWalk.i64_in _ (by omega)
        have m0 : (0 : Int) ≤ (m : Int) := by omega
        have m1 : (m : Int) < (ps.length : Int) := by omega
        have hmlt : m < ps.length := by omega
        obtain ⟨ad, A2, c2, bs, rfl, e1, r1, u1⟩ := M6.out.at_ hmlt
        have hbit := u1.bit 0 s.size (by omega) (by omega)
        have hnn : s.size < (s.size + 1) * (s.size + 1) := by
          have := Nat.mul_le_mul (show 1 ≤ s.size + 1 by omega) (Nat.le_refl (s.size + 1))
          omega
        obtain ⟨nn, hnn2⟩ : ∃ nn, (s.size + 1) * (s.size + 1) = nn := ⟨_, rfl⟩
        rw [hnn2] at hnn e1 r1
        obtain ⟨ad2, rfl, z1⟩ := r1.at_ hnn
        rw [Nat.zero_mul, Nat.zero_add] at hbit
        obtain ⟨bv, hbv⟩ : ∃ bv, bs.getD s.size false = bv := ⟨_, rfl⟩
        rw [hbv] at z1 hbit
        have EX : Hid (PP (PtOk s ps) = bv) := Lib.hid (by
          cases bv with
          | true => exact PP_yes ⟨HPO.out, HWD.out, by rw [hm1]; exact hbit.1 rfl⟩
          | false => exact PP_no (fun h => by have h2 := h.2.2; rw [hm1] at h2; have := hbit.2 h2; cases this))
        have x1 : (s.size : Int) < (nn : Int) := by omega
        have x0 : (0 : Int) ≤ (s.size : Int) := by omega
        have wsz : IntKind.i64.wrap ((s.size : Int) + 1 - 1) = (s.size : Int) := by rw [show (s.size : Int) + 1 - 1 = (s.size : Int) by omega]; exact IntWalk.i64_in _ (by omega)
        clear hbit r1 u1 hbv hnn2 hm1
        go_wp2
        go_ret
        exact ⟨ret_b2' EX.out.symm, below_step HB1.out (below_step K3.out K6.out)⟩
  · rw [PP_no hpo]
    rintro e w3 ⟨rfl, k3⟩
    have E := Lib.hid (HNO.out (fun h => hpo h.1))
    clear hpo
    go_wp2
    go_ret
    exact ⟨ret_b2' E.out.symm, below_step HB1.out k3⟩
end Go.Proofs.Ytgpjgigmlgoiiaa
