/- ReadBag: program and reference return the same, and what is returned is the caller's own. No conditions. -/
import Derived.Test.YtdikkfhdogkniaaSReadBag
import Derived.Test.YtdikkfhdogkniaaBMark
namespace Go.Proofs.Ytdikkfhdogkniaa
open Go.RowKit

theorem sumR_le4 : ∀ ps : List It, (∀ p ∈ ps, p.r.length ≤ 4) → sumR ps ≤ 4 * ps.length
  | [], _ => by simp [sumR]
  | p :: ps, h => by
    have h1 := sumR_le4 ps (fun q hq => h q (by simp [hq]))
    have h2 := h p (by simp)
    simp only [sumR, List.map_cons, List.sum_cons, List.length_cons] at h1 ⊢
    omega
theorem bg_small {ps : List It} (h : BgOk ps) : ps.length ≤ 300 ∧ cntB ps ≤ 1500 ∧ ∀ p ∈ ps, p.r.length ≤ 4294967296 := by
  have h1 := sumR_le4 ps (fun p hp => (h.it hp).1.1)
  have h2 := h.1
  rw [cntB_eq]
  exact ⟨h2, by omega, fun p hp => by have := (h.it hp).1.1; omega⟩
theorem oB_small (s : ByteArray) : (oB (rbOut s)).length ≤ 300 ∧ cntB (oB (rbOut s)) ≤ 1500 ∧ ∀ p ∈ oB (rbOut s), p.r.length ≤ 4294967296 := by
  unfold rbOut
  split
  · rename_i h
    exact bg_small h.2
  · simp [oB, cntB]

set_option maxRecDepth 100000 in
set_option maxHeartbeats 6400000 in
theorem FnExactReadBag_walk (a0 : ByteArray) (h0 : a0.size ≤ maxLen) (w : World) :
    Calls Try.prog 6 #[.string a0] w fun e w' => e = .returned (.bool true) ∧ Below w.heap.size w w' := by
  unfold maxLen at h0
  by_cases hb1 : a0.size ≤ 1048576
  · have C1 := Lib.hid (fun w => spec_ReadBag_any a0 (by omega) w)
    have C2 := Lib.hid (fun w => impl_ReadBag_any a0 (by omega) w)
    obtain ⟨hzl, hcn, hzk⟩ := oB_small a0
    unfold MadeBB at C1 C2
    obtain ⟨zs, hzs⟩ : ∃ x, oB (rbOut a0) = x := ⟨_, rfl⟩
    obtain ⟨r, hr⟩ : ∃ x, (rbOut a0).isSome = x := ⟨_, rfl⟩
    rw [hzs] at hzl hcn hzk
    rw [hzs, hr] at C1 C2
    have HK := Lib.hid hzk
    clear hzs hr hzk
    obtain ⟨cn, hcn2⟩ : ∃ n : Nat, cntB zs = n := ⟨_, rfl⟩
    have HC := Lib.hid hcn2
    rw [hcn2] at hcn
    clear hcn2
    have hrr : (r != r) = false := by simp
    have EQ := Lib.hid (fun (A B : Option Addr) (c d : Nat) (w : World) (hx : RdB w A zs) (hy : RdB w B zs) => PP_yes (p := zs = zs) rfl ▸ eqBag_any A B c d zs zs w hx hy (by omega) HK.out)
    have MB := Lib.hid (fun (lo hi : Nat) (A : Option Addr) (c : Nat) (w : World) (ho : OwnBI w lo hi A c zs) => markBag_any lo hi A c zs 1 w ho (by have := HC.out; omega))
    have HB := Lib.hid (fun (A : Option Addr) (c : Nat) (w : World) (hx : RdB w A (markB 1 zs)) => heldBag_any A c zs 1 w hx (by have := HC.out; omega))
    unfold MarkedB at MB
    rw [HC.out] at MB HB
    go_enter Try.func6, Try.ntmps6
    go_wp2_with fail
    refine (C1.out _).mono ?_
    rintro e w3 ⟨B0, d0, rfl, oB, k3⟩
    have kB := below_alloc w3 (.cells #[.slice B0 zs.length d0] 29)
    have rB := (oB.keep kB).rd
    have hB3 := below_step k3 kB
    have y0 := blk_cell (o := 0) (heap_alloc_new w3 (.cells #[.slice B0 zs.length d0] 29)) rfl
    have hW : w3.heap.size < (w3.alloc (.cells #[.slice B0 zs.length d0] 29)).heap.size := by simp
    obtain ⟨g8, hg8⟩ : ∃ g, w3.heap.size = g := ⟨_, rfl⟩
    obtain ⟨W3, hW3⟩ : ∃ W, w3.alloc (.cells #[.slice B0 zs.length d0] 29) = W := ⟨_, rfl⟩
    rw [hW3] at rB hB3 y0 hW
    rw [hg8] at y0 hW
    clear k3 oB kB
    go_wp2_with fail
    clear hW3 hg8
    refine (C2.out W3).mono ?_
    rintro e w6 ⟨B1, d1, rfl, o3, k6⟩
    have kg := below_alloc w6 (.cells #[.slice B1 zs.length d1] 29)
    have z0 := blk_cell (o := 0) (heap_alloc_new w6 (.cells #[.slice B1 zs.length d1] 29)) rfl
    obtain ⟨g6, hg6⟩ : ∃ g, w6.heap.size = g := ⟨_, rfl⟩
    have T6 := below_step k6 kg
    have o36 := (OwnBI.of o3).keep kg
    have hW6s := k6.size
    obtain ⟨W6, hW6⟩ : ∃ W, w6.alloc (.cells #[.slice B1 zs.length d1] 29) = W := ⟨_, rfl⟩
    rw [hW6] at z0 T6 o36
    rw [hg6] at z0 o36 hW6s
    have y0 := held_step T6 y0
    clear kg o3 k6
    go_wp2_with fail
    clear hW6 hg6
    refine (EQ.out B1 B0 d1 d0 W6 o36.p.rd (rB.keep T6)).mono ?_
    rintro e w7 ⟨rfl, k7⟩
    have T7 := below_step T6 k7
    have o37 := o36.keep k7
    have z0 := held_step k7 z0
    clear T6 k7 o36
    have hneg2 : decide ((1 : Int) + (cn : Int) < 0) = false := decide_eq_false (by omega)
    have hsame : ((1 : Int) + (cn : Int) != 1 + (cn : Int)) = false := by simp
    go_wp2_with fail
    refine (MB.out _ _ B1 d1 w7 o37).mono ?_
    rintro e w12 ⟨rfl, o312, t12⟩
    have T12 := T7.trans (t12.below T7.size)
    have z0 := t12.cell z0 (by simp)
    clear o37 t12 T7
    go_wp2_with fail
    refine (HB.out B1 d1 w12 o312.p.rd).mono ?_
    rintro e w12' ⟨rfl, k12⟩
    have T12 := below_step T12 k12
    have o312 := o312.keep k12
    have z0 := held_step k12 z0
    clear k12
    go_wp2_with fail
    refine (C2.out w12').mono ?_
    rintro e w14 ⟨B2, d2, rfl, o5, k14⟩
    have ka := below_alloc w14 (.cells #[.slice B2 zs.length d2] 29)
    have k1214 := below_step k14 ka
    have T14 := below_step T12 k1214
    have o314 := o312.keep k1214
    have z0 := held_step k1214 z0
    have y0 := held_step T14 (by assumption : W3.cell? ⟨g8, 0, none⟩ = some (.slice B0 zs.length d0))
    have r5 := (o5.keep ka).rd
    clear k14 k1214 T12 o312 o5 ka
    go_wp2_with fail
    refine (EQ.out B2 B0 d2 d0 _ r5 (rB.keep T14)).mono ?_
    rintro e w15 ⟨rfl, k15⟩
    have T15 := below_step T14 k15
    have o315 := o314.keep k15
    have z0 := held_step k15 z0
    clear T14 k15 o314
    go_wp2_with fail
    refine (HB.out B1 d1 w15 o315.p.rd).mono ?_
    rintro e w15' ⟨rfl, k16⟩
    have T16 := below_step T15 k16
    go_wp2
    go_ret
    exact ⟨rfl, below_step hB3 T16⟩
  · go_enter Try.func6, Try.ntmps6
    go_wp2
    go_ret
    exact ⟨rfl, Below.refl _ _⟩
end Go.Proofs.Ytdikkfhdogkniaa
