/- StepOnly: program and reference. Conditions: the sizes of the lengths. Printed by xlpath.py. -/
import Derived.Test.YtdmheaommmnhoaaSPathOk
namespace Go.Proofs.Ytdmheaommmnhoaa
open Go.RowKit

/-- A valid path of one step. -/
def StepP (ps : List Pc) : Prop := PaOk ps ∧ ∃ h : ps.length - 1 < ps.length, ps[ps.length - 1].op = 1

set_option maxRecDepth 100000 in
set_option maxHeartbeats 3200000 in
theorem spec_StepOnly_any (A : Option Addr) (c : Nat) (ps : List Pc) (w : World) (hx : RdP w A ps) (hn : ps.length ≤ 4294967296) (hk : ∀ p ∈ ps, p.k.length ≤ 4294967296) :
    Calls Try.prog 20 #[.agg #[.slice A ps.length c]] w fun e w' => e = .returned (.bool (PP (StepP ps))) ∧ Below w.heap.size w w' := by
  have C := Lib.hid (spec_PathOk_any A c ps (w.alloc (.cells #[.slice A ps.length c] 29)) (hx.alloc _) hn hk)
  have HX := Lib.hid hx
  have hB0 := below_alloc w (.cells #[.slice A ps.length c] 29)
  have p1 := heap_alloc_new w (.cells #[.slice A ps.length c] 29)
  clear hx hk
  by_cases hok : PaOk ps
  · rw [PP_yes hok] at C
    have hl : ps.length - 1 < ps.length := by have := hok.1; omega
    have hl1 : (0 : Int) < (ps.length : Int) := by omega
    have e1 : (ps.length : Int) - 1 = ((ps.length - 1 : Nat) : Int) := by omega
    have HOK := Lib.hid hok
    clear hok
    go_enter Try.func20, Try.ntmps20
    go_wp2_with fail
    refine C.out.mono ?_
    rintro e w1 ⟨rfl, k1⟩
    have hB1 := below_step hB0 k1
    obtain ⟨b, o, Kk, ck, rfl, c0, c1, c2, hrk⟩ := (HX.out.keep hB1).at_ hl
    obtain ⟨m, hm⟩ : ∃ m, ps.length - 1 = m := ⟨_, rfl⟩
    have EX : Hid (PP (StepP ps) = (ps[ps.length - 1].op == 1)) := by
      show _ = _
      by_cases h : ps[ps.length - 1].op = 1
      · rw [PP_yes ⟨HOK.out, hl, h⟩]; simp [h]
      · rw [PP_no (fun hh => h hh.2.2)]; simp [h]
    obtain ⟨x, hxx⟩ : ∃ x, ps[ps.length - 1] = x := ⟨_, rfl⟩
    rw [hxx] at c0 EX
    clear hxx c1 c2 hrk
    rw [hm] at c0 hl e1
    have q1 := blk_below k1 p1
    have b0 := blk_cell (o := 0) q1 rfl
    have w0 : IntKind.i64.wrap ((ps.length : Int) - 1) = (m : Int) := by rw [e1]; exact IntWalk.i64_in _ (by omega)
    have l1 : (m : Int) < (ps.length : Int) := by omega
    have l0 : (0 : Int) ≤ (m : Int) := by omega
    clear k1 q1 p1 hB0 hm
    go_wp2
    go_ret
    exact ⟨ret_b2 EX.out.symm, hB1⟩
  · rw [PP_no hok] at C
    have HNO := Lib.hid (PP_no (fun h : StepP ps => hok h.1))
    clear hok p1
    go_enter Try.func20, Try.ntmps20
    go_wp2_with fail
    refine C.out.mono ?_
    rintro e w1 ⟨rfl, k1⟩
    go_wp2
    go_ret
    exact ⟨ret_b2 HNO.out.symm, below_step hB0 k1⟩

set_option maxRecDepth 100000 in
set_option maxHeartbeats 3200000 in
theorem impl_StepOnly_any (A : Option Addr) (c : Nat) (ps : List Pc) (w : World) (hx : RdP w A ps) (hn : ps.length ≤ 4294967296) (hk : ∀ p ∈ ps, p.k.length ≤ 4294967296) :
    Calls Try.prog 21 #[.agg #[.slice A ps.length c]] w fun e w' => e = .returned (.bool (PP (StepP ps))) ∧ Below w.heap.size w w' := by
  have C := Lib.hid (impl_PathOk_any A c ps (w.alloc (.cells #[.slice A ps.length c] 29)) (hx.alloc _) hn hk)
  have HX := Lib.hid hx
  have hB0 := below_alloc w (.cells #[.slice A ps.length c] 29)
  have p1 := heap_alloc_new w (.cells #[.slice A ps.length c] 29)
  clear hx hk
  by_cases hok : PaOk ps
  · rw [PP_yes hok] at C
    have hl : ps.length - 1 < ps.length := by have := hok.1; omega
    have hl1 : (0 : Int) < (ps.length : Int) := by omega
    have e1 : (ps.length : Int) - 1 = ((ps.length - 1 : Nat) : Int) := by omega
    have HOK := Lib.hid hok
    clear hok
    go_enter Try.func21, Try.ntmps21
    go_wp2_with fail
    refine C.out.mono ?_
    rintro e w1 ⟨rfl, k1⟩
    have hB1 := below_step hB0 k1
    obtain ⟨b, o, Kk, ck, rfl, c0, c1, c2, hrk⟩ := (HX.out.keep hB1).at_ hl
    obtain ⟨m, hm⟩ : ∃ m, ps.length - 1 = m := ⟨_, rfl⟩
    have EX : Hid (PP (StepP ps) = (ps[ps.length - 1].op == 1)) := by
      show _ = _
      by_cases h : ps[ps.length - 1].op = 1
      · rw [PP_yes ⟨HOK.out, hl, h⟩]; simp [h]
      · rw [PP_no (fun hh => h hh.2.2)]; simp [h]
    obtain ⟨x, hxx⟩ : ∃ x, ps[ps.length - 1] = x := ⟨_, rfl⟩
    rw [hxx] at c0 EX
    clear hxx c1 c2 hrk
    rw [hm] at c0 hl e1
    have q1 := blk_below k1 p1
    have b0 := blk_cell (o := 0) q1 rfl
    have w0 : IntKind.i64.wrap ((ps.length : Int) - 1) = (m : Int) := by rw [e1]; exact IntWalk.i64_in _ (by omega)
    have l1 : (m : Int) < (ps.length : Int) := by omega
    have l0 : (0 : Int) ≤ (m : Int) := by omega
    clear k1 q1 p1 hB0 hm
    go_wp2
    go_ret
    exact ⟨ret_b2 EX.out.symm, hB1⟩
  · rw [PP_no hok] at C
    have HNO := Lib.hid (PP_no (fun h : StepP ps => hok h.1))
    clear hok p1
    go_enter Try.func21, Try.ntmps21
    go_wp2_with fail
    refine C.out.mono ?_
    rintro e w1 ⟨rfl, k1⟩
    go_wp2
    go_ret
    exact ⟨ret_b2 HNO.out.symm, below_step hB0 k1⟩
end Go.Proofs.Ytdmheaommmnhoaa
