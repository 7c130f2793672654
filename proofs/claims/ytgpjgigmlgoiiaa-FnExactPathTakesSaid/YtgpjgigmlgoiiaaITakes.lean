/- impl.PathTakes: whether the path leads through the whole word. Conditions: the lengths. -/
import Derived.Test.YtgpjgigmlgoiiaaMean
import Derived.Test.YtgpjgigmlgoiiaaWord
import Derived.Deep.RegionLaw
namespace Go.Proofs.Ytgpjgigmlgoiiaa
open Go.RowKit

/-- A valid path takes a word of labels. -/
def PtOk (s : ByteArray) (ps : List Pc) : Prop := PaOk ps ∧ WdOk s ∧ semT (s.size + 1) (stG (lineE s s.size)) ps ps.length (ps.length - 1) 0 s.size
theorem callF_takes : ∀ (args : Array Value) (w : World), (callFunc 76 args).run Try.prog w = .ok (.enter 76 args) w := by
  intro args w
  kernel_rfl

set_option maxRecDepth 100000 in
set_option maxHeartbeats 3200000 in
theorem impl_PathTakes_any (A : Option Addr) (c : Nat) (ps : List Pc) (s : ByteArray) (w : World) (hx : RdP w A ps) (hpl : ps.length ≤ 1048576) (hkl : ∀ p ∈ ps, p.k.length ≤ 4294967296) (hs : s.size ≤ 1048576) :
    Calls Try.prog 30 #[.agg #[.slice A ps.length c], .string s] w fun e w' => e = .returned (.bool (PP (PtOk s ps))) ∧ Below w.heap.size w w' := by
  have hmf : ∀ (fn : Fn) (first cap : Array Value) (w : World), (Instr.makeFunc fn first cap).run Try.prog w = .ok (.func fn first cap) w := fun _ _ _ _ => rfl
  have ka := below_alloc w (.cells #[.slice A ps.length c] 59)
  have p0 := heap_alloc_new w (.cells #[.slice A ps.length c] 59)
  obtain ⟨W1, hW1⟩ : ∃ W, w.alloc (.cells #[.slice A ps.length c] 59) = W := ⟨_, rfl⟩
  obtain ⟨g0, hg0⟩ : ∃ g, w.heap.size = g := ⟨_, rfl⟩
  rw [hW1] at p0 ka
  rw [hg0] at p0
  have kb := below_alloc W1 (.cells #[.string s] 9)
  have p1 := heap_alloc_new W1 (.cells #[.string s] 9)
  have p02 := blk_below kb p0
  have hb2 := below_step ka kb
  have hx2 := (hx.keep ka).keep kb
  obtain ⟨W2, hW2⟩ : ∃ W, W1.alloc (.cells #[.string s] 9) = W := ⟨_, rfl⟩
  obtain ⟨g1, hg1⟩ : ∃ g, W1.heap.size = g := ⟨_, rfl⟩
  rw [hW2] at p1 p02 hb2 hx2
  rw [hg1] at p1
  have P0 := Lib.hid p02
  have P1 := Lib.hid p1
  have HB2 := Lib.hid hb2
  have HX := Lib.hid hx2
  have HK := Lib.hid hkl
  have b0 := blk_cell (o := 0) p02 rfl
  have b1 := blk_cell (o := 0) p1 rfl
  have PO := Lib.hid (impl_PathOk_any A c ps W2 hx2 (by omega) hkl)
  have HNO := Lib.hid (fun (h : ¬ PtOk s ps) => PP_no h)
  clear hx hkl ka kb p0 p1 p02 hb2 hx2
  by_cases h12 : s.size ≤ 12
  · have g12 : decide ((12 : Int) < (s.size : Int)) = false := decide_eq_false (by omega)
    go_enter Try.func30, Try.ntmps30
    go_wp2_with fail
    clear hW1 hW2 hg0 hg1
    refine PO.out.mono ?_
    by_cases hpo : PaOk ps
    · rw [PP_yes hpo]
      rintro e w3 ⟨rfl, k3⟩
      have b0 := blk_cell (o := 0) (blk_below k3 P0.out) rfl
      have b1 := blk_cell (o := 0) (blk_below k3 P1.out) rfl
      have HPO := Lib.hid hpo
      have K3 := Lib.hid k3
      have P03 := Lib.hid (blk_below k3 P0.out)
      have P13 := Lib.hid (blk_below k3 P1.out)
      clear k3 hpo
      go_wp2_with fail
      go_loopw [5] (fun i wr => ∃ (k : Nat), k ≤ s.size ∧ i = .int .i64 k ∧ Hid (∀ i, i < k → 97 ≤ byN s i ∧ byN s i ≤ 100) ∧ Hid (w3 = wr)) (fun i _ => s.size - (intOf i).toNat)
      case atStart => exact ⟨0, Nat.zero_le _, rfl, Lib.hid (fun i hi => absurd hi (by omega)), Lib.hid rfl⟩
      case round =>
        obtain ⟨k, hk, rfl, HD, hw⟩ := hrel
        have hw := hw.out
        subst hw
        by_cases hlt : k < s.size
        · obtain ⟨x, hx⟩ : ∃ x, s[k].toNat = x := ⟨_, rfl⟩
          have HXK := Lib.hid (show byN s k = x by rw [byN_eq s k hlt, hx])
          obtain ⟨lb, hlb⟩ : ∃ lb, lblB (x : Int) = lb := ⟨_, rfl⟩
          have IL := Lib.hid (isLabel_any (x : Int) w3)
          rw [hlb] at IL
          have HLB := Lib.hid hlb
          clear hlb
          go_wp2_with fail
          refine IL.out.mono ?_
          rintro e w4 ⟨rfl, rfl⟩
          cases lb
          · have E := Lib.hid (HNO.out (fun h => by
              have h1 := h.2.1.2 k hlt
              rw [HXK.out] at h1
              have h2 := HLB.out
              unfold lblB at h2
              rw [Bool.and_eq_false_iff] at h2
              rcases h2 with h2 | h2
              · have := of_decide_eq_false h2; omega
              · have := of_decide_eq_false h2; omega))
            go_wp2
            go_ret
            exact ⟨ret_b2' E.out.symm, below_step HB2.out K3.out⟩
          · have hl := HLB.out
            unfold lblB at hl
            rw [Bool.and_eq_true] at hl
            have hl1 := of_decide_eq_true hl.1
            have hl2 := of_decide_eq_true hl.2
            have HD2 : Hid (∀ i, i < k + 1 → 97 ≤ byN s i ∧ byN s i ≤ 100) := Lib.hid (fun i hi => by
              by_cases e : i = k
              · subst e; rw [HXK.out]; omega
              · exact HD.out i (by omega))
            clear hl hl1 hl2
            go_wp2
            go_roundw
            case rel => exact ⟨k + 1, by omega, by go_num, HD2, Lib.hid (by first | trivial | rfl)⟩
            case measure => simp [intOf]; omega
        · obtain rfl : k = s.size := by omega
          have HWD := Lib.hid (show WdOk s from ⟨h12, HD.out⟩)
          have k4 := below_alloc w3 (.cells #[.int .i64 ((s.size : Int) + 1)] 3)
          have p4 := heap_alloc_new w3 (.cells #[.int .i64 ((s.size : Int) + 1)] 3)
          obtain ⟨g4, hg4⟩ : ∃ g, w3.heap.size = g := ⟨_, rfl⟩
          obtain ⟨W4, hW4⟩ : ∃ W, w3.alloc (.cells #[.int .i64 ((s.size : Int) + 1)] 3) = W := ⟨_, rfl⟩
          rw [hW4] at k4 p4
          rw [hg4] at p4
          have b04 := blk_cell (o := 0) (blk_below k4 P03.out) rfl
          have b14 := blk_cell (o := 0) (blk_below k4 P13.out) rfl
          have b44 := blk_cell (o := 0) p4 rfl
          have K4 := Lib.hid (below_step K3.out k4)
          have P4 := Lib.hid p4
          have P14 := Lib.hid (blk_below k4 P13.out)
          have hcast : ((s.size : Int) + 1) = ((s.size + 1 : Nat) : Int) := by push_cast; rfl
          have C := Lib.hid (meaningOf_any A c ps (s.size + 1) (stG (lineE s s.size)) 76 #[.pointer (some ⟨g4, 0, none⟩), .pointer (some ⟨g1, 0, none⟩)] W4 (HX.out.keep K4.out) HPO.out (by omega) HK.out callF_takes (fun l w' hl hb => by
            obtain ⟨m, rfl⟩ : ∃ m : Nat, l = m := ⟨l.toNat, by omega⟩
            have e : (#[Value.int .u8 (m : Int)] ++ #[Value.pointer (some ⟨g4, 0, none⟩), Value.pointer (some ⟨g1, 0, none⟩)] : Array Value) = #[Value.int .u8 (m : Int), Value.pointer (some ⟨g4, 0, none⟩), Value.pointer (some ⟨g1, 0, none⟩)] := by simp
            rw [e]
            have h := takesStep_any s m g4 g1 w' h12 (blk_cell (o := 0) (blk_below hb P4.out) rfl) (blk_cell (o := 0) (blk_below hb P14.out) rfl)
            exact h.mono (fun _ _ h => .of (stF_isU s (m : Int) h12 ⟨m, rfl⟩) h)))
          rw [← hcast] at C
          clear k4 p4 hcast
          go_wp2_with fail
          clear hW4 hg4
          refine C.out.mono ?_
          rintro e w5 ⟨A1, c1, rs, rfl, r5, u5, k5⟩
          obtain ⟨ad, rfl, z0⟩ := r5.at_ (k := 0) (by rw [u5.len]; omega)
          rw [addr_add0] at z0
          have hlo := u5.lo 0
          have hbit := u5.bit 0 (by omega) s.size
          unfold RB at hbit
          obtain ⟨S, hS⟩ : ∃ S, rs.getD 0 0 = S := ⟨_, rfl⟩
          rw [hS] at z0 hlo hbit
          have hbt := bit_test S s.size hlo
          have EX : Hid (PP (PtOk s ps) = S.testBit s.size) := Lib.hid (by
            cases hb : S.testBit s.size with
            | true => exact PP_yes ⟨HPO.out, HWD.out, (hbit.1 hb).2⟩
            | false => exact PP_no (fun h => by rw [hbit.2 ⟨by omega, h.2.2⟩] at hb; cases hb))
          have b15 := blk_cell (o := 0) (blk_below k5 P14.out) rfl
          have K5 := Lib.hid (below_step K4.out k5)
          have l1 : (0 : Int) < (s.size : Int) + 1 := by omega
          have hm32 : min s.size 32 = s.size := Nat.min_eq_left (by omega)
          have hw64 : IntKind.u64.wrap (s.size : Int) = (s.size : Int) := by simp [IntKind.wrap, IntKind.bits, IntKind.signed]; omega
          have HBT := Lib.hid hbt
          have HM32 := Lib.hid hm32
          have HW64 := Lib.hid hw64
          clear hbit r5 u5 hS b0 b1 b04 b14 b44 k5 C
          obtain ⟨t, ht⟩ : ∃ t, S.testBit s.size = t := ⟨_, rfl⟩
          rw [ht] at EX hbt HBT
          clear ht
          go_wp2_with fail
          go_region_law fail
          all_goals
            go_wp2
            go_ret
            exact ⟨ret_b2' (by first | exact EX.out.symm | (rw [HW64.out, Int.toNat_natCast, HM32.out, HBT.out]; exact EX.out.symm)), below_step HB2.out (K5.out.drew)⟩
    · rw [PP_no hpo]
      rintro e w3 ⟨rfl, k3⟩
      have E := Lib.hid (HNO.out (fun h => hpo h.1))
      clear hpo
      go_wp2
      go_ret
      exact ⟨ret_b2' E.out.symm, below_step HB2.out k3⟩
  · have g12 : decide ((12 : Int) < (s.size : Int)) = true := decide_eq_true (by omega)
    have E := Lib.hid (HNO.out (fun h => h12 h.2.1.1))
    clear h12
    go_enter Try.func30, Try.ntmps30
    go_wp2
    go_ret
    exact ⟨ret_b2' E.out.symm, HB2.out⟩
end Go.Proofs.Ytgpjgigmlgoiiaa
