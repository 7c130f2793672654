/- FnBagsJoined: two drawn bags are joined the same, whichever is first; with three it is the same which two are joined first. No conditions. Printed by xlbagsj.py. -/
import Derived.Test.YtdikkfhdogkniaaBagsQ
import Derived.Test.YtdikkfhdogkniaaDrawBs
import Derived.Test.YtdikkfhdogkniaaBig
import Derived.Test.YtdikkfhdogkniaaEach
import Derived.Test.YtdikkfhdogkniaaSBagAdd
import Derived.Deep.RegionHeld3
namespace Go.Proofs.Ytdikkfhdogkniaa
open Go.RowKit

theorem rdI_two {w : World} {g : Nat} {x y : Int} {t : TypeId} {fz : Nat × Nat} (h : w.heap[g]? = some (.cells #[.int .i64 x, .int .i64 y] t fz)) : RdI w (some ⟨g, 0, none⟩) 2 [x, y] := by
  refine ⟨rfl, fun _ => ⟨_, rfl, fun j u hu => ?_⟩⟩
  have hadd : (⟨g, 0, none⟩ : Addr).add j = ⟨g, j, none⟩ := by unfold Addr.add; split <;> simp_all
  rw [hadd, cell_of_row _ g j _ _ _ h]
  simpa using hu
set_option maxRecDepth 100000 in
theorem run_field_bag (v : Value) (w : World) : Sem.run Try.prog (Instr.field 29 (Value.agg #[v]) 0) w = .ok v w := by
  unfold Sem.run
  rfl
theorem joinB {m n k l : Nat} {ps qs : List It} (h : Sm m n ps) (hq : Sm k l qs) (hm : m + k * l ≤ 1000000) (hn : n + l ≤ 300) (w : World) (A B : Option Addr) (c d : Nat) (hx : RdB w A ps) (hy : RdB w B qs) :
    Calls Try.prog 31 #[.agg #[.slice A ps.length c], .agg #[.slice B qs.length d]] w (MadeB2 w (joinL ps qs) true) := by
  have hs := (join_small l h hq hm hn).1
  have hok : JoinOk ps qs := ⟨h.1, hq.1, hs.1⟩
  have := impl_BagJoin_any A B c d ps qs w hx hy (by have := h.2.1; omega) (by have := hq.2.1; omega) h.small hq.small
  rw [joinR_yes hok, PP_yes hok] at this
  exact this
/-- What joining drawn bags gives, in any order. -/
theorem joined {a b c : List It} (ha : Sm 21 7 a) (hb : Sm 21 7 b) (hc : Sm 23 8 c) :
    Sm 168 14 (joinL a b) ∧ joinL b a = joinL a b ∧ Sm 352 22 (joinL (joinL a b) c) ∧ Sm 205 15 (joinL b c) ∧ joinL a (joinL b c) = joinL (joinL a b) c ∧ bgSize (joinL a b) = bgSize a + bgSize b ∧ (0 ≤ bgSize a ∧ bgSize a ≤ 147) ∧ (0 ≤ bgSize b ∧ bgSize b ≤ 147) := by
  obtain ⟨x1, x2, x3⟩ := join_small 7 ha hb (by omega) (by omega)
  obtain ⟨y1, y2, _⟩ := join_small 7 hb ha (by omega) (by omega)
  obtain ⟨z1, z2, _⟩ := join_small 8 x1 hc (by omega) (by omega)
  obtain ⟨u1, u2, _⟩ := join_small 8 hb hc (by omega) (by omega)
  obtain ⟨v1, v2, _⟩ := join_small 15 ha u1 (by omega) (by omega)
  have s1 := sumT_le ha.times
  have s2 := sumT_le hb.times
  have l1 := ha.2.1
  have l2 := hb.2.1
  have e1 := ha.size (by omega) (by omega)
  have e2 := hb.size (by omega) (by omega)
  have e3 := x1.size (by omega) (by omega)
  refine ⟨x1, y1.ext x1 (fun r => by rw [y2, x2]; omega), z1, u1, v1.ext z1 (fun r => by rw [v2, u2, z2, x2]; omega), by rw [e1, e2, e3, x3], by rw [e1]; omega, by rw [e2]; omega⟩
theorem addC {b : List It} (hb : Sm 21 7 b) : AddOk b [4, 4] 2 ∧ Sm 23 8 (lput b [4, 4] 2) := by
  have h := hb.put (row := [4, 4]) (t := 2) ⟨by simp, by simp⟩ rfl (by omega) (by omega) (by omega)
  exact ⟨⟨hb.1, ⟨by omega, by omega⟩, h.1⟩, h⟩
theorem Sm.each {m n : Nat} {ps : List It} (h : Sm m n ps) : ∀ p ∈ eachL ps, p.r.length ≤ 4294967296 := fun p hp => by
  simp only [eachL, List.mem_map] at hp
  obtain ⟨q, hq, rfl⟩ := hp
  exact h.small q hq

set_option maxRecDepth 100000 in
set_option linter.unusedSimpArgs false in
set_option maxHeartbeats 6400000 in
theorem FnBagsJoined_walk (w : World) (v0 : Value) (cs : List Int) (h0 : SlK w .u8 v0 cs) :
    Calls Try.prog 10 #[v0] w fun e w' => e = .returned (.bool true) ∧ Below w.heap.size w w' := by
  obtain ⟨A, n, c, rfl, hn, hcode⟩ := code0_of h0
  clear h0
  by_cases hbig : 1048576 < n
  · have B := Lib.hid (big_any A n c w hn)
    rw [show decide (1048576 < n) = true by simp; omega] at B
    clear hcode
    go_enter Try.func10, Try.ntmps10
    go_wp2_with fail
    refine B.out.mono ?_
    rintro e w1 ⟨rfl, rfl⟩
    go_wp2
    go_ret
    exact ⟨rfl, Below.refl _ _⟩
  · have B := Lib.hid (big_any A n c w hn)
    rw [show decide (1048576 < n) = false by simp; omega] at B
    have hc := hcode (by omega)
    clear hcode
    have HC := Lib.hid hc
    clear hc
    go_enter Try.func10, Try.ntmps10
    go_wp2_with fail
    refine B.out.mono ?_
    rintro e w1 ⟨rfl, rfl⟩
    clear B
    go_wp2_with fail
    refine (DrawBags_any A n c cs _ HC.out).mono ?_
    rintro e w1 ⟨A1, c1, ps, A2, c2, qs, rfl, hd1, hd2, o1, o2, k1⟩
    have s1 := hd1.sm
    have s2 := hd2.sm
    obtain ⟨hadd, s3⟩ := addC s2
    have ka := below_alloc w1 (.cells #[.slice A1 ps.length c1] 29)
    have kb := below_alloc (w1.alloc (.cells #[.slice A1 ps.length c1] 29)) (.cells #[.slice A2 qs.length c2] 29)
    have kab := below_step ka kb
    have HB := below_step k1 kab
    have Q1 := blk_below kb (heap_alloc_new w1 (.cells #[.slice A1 ps.length c1] 29))
    have Q2 := heap_alloc_new (w1.alloc (.cells #[.slice A1 ps.length c1] 29)) (.cells #[.slice A2 qs.length c2] 29)
    rw [show (w1.alloc (.cells #[.slice A1 ps.length c1] 29)).heap.size = w1.heap.size + 1 by simp] at Q2
    have R1 := o1.rd.keep kab
    have R2 := o2.rd.keep kab
    obtain ⟨g1, hg1⟩ : ∃ q, w1.heap.size = q := ⟨_, rfl⟩
    obtain ⟨W2, hW2⟩ : ∃ W, (w1.alloc (.cells #[.slice A1 ps.length c1] 29)).alloc (.cells #[.slice A2 qs.length c2] 29) = W := ⟨_, rfl⟩
    rw [hW2] at Q1 Q2 HB R1 R2
    rw [hg1] at Q1 Q2
    have l1 := hd1.2.1
    have l2 := hd2.2.1
    clear ka kb kab k1 o1 o2 hd1 hd2
    have b1 := blk_cell (o := 0) Q1 rfl
    have b2 := blk_cell (o := 0) Q2 rfl
    have kn := below_alloc W2 (.cells #[.int .i64 4, .int .i64 4] 3)
    have rr := rdI_two (heap_alloc_new W2 (.cells #[.int .i64 4, .int .i64 4] 3))
    have CC : Hid (Calls Try.prog 25 #[.agg #[.slice A2 qs.length c2], .slice (some ⟨W2.heap.size, 0, none⟩) 2 2, .int .i64 2] (W2.alloc (.cells #[.int .i64 4, .int .i64 4] 3)) (MadeR2 (W2.alloc (.cells #[.int .i64 4, .int .i64 4] 3)) (lput qs [4, 4] 2) true)) := Lib.hid (by
      have := spec_BagAdd_any A2 (some ⟨W2.heap.size, 0, none⟩) c2 2 qs [4, 4] 2 _ (R2.keep kn) rr (by omega) s2.small (by simp)
      rw [addL_yes hadd, PP_yes hadd] at this
      exact this)
    obtain ⟨zs, hzs⟩ : ∃ z, lput qs [4, 4] 2 = z := ⟨_, rfl⟩
    rw [hzs] at CC s3
    unfold MadeR2 at CC
    clear hzs hadd rr
    obtain ⟨j1, j2, j3, j4, j5, j6, j7, j8⟩ := joined s1 s2 s3
    have J1 := Lib.hid (fun w hx hy => joinB s1 s2 (by omega) (by omega) w A1 A2 c1 c2 hx hy)
    have J2 := Lib.hid (fun w hx hy => joinB s2 s1 (by omega) (by omega) w A2 A1 c2 c1 hx hy)
    have J3 := Lib.hid (fun w A B c d hx hy => joinB j1 s3 (by omega) (by omega) w A B c d hx hy)
    have J4 := Lib.hid (fun w B d hx hy => joinB s2 s3 (by omega) (by omega) w A2 B c2 d hx hy)
    have J5 := Lib.hid (fun w B d hx hy => joinB s1 j4 (by omega) (by omega) w A1 B c1 d hx hy)
    unfold MadeB2 at J1 J2 J3 J4 J5
    rw [j2] at J2
    rw [j5] at J5
    obtain ⟨X, hX⟩ : ∃ x, joinL ps qs = x := ⟨_, rfl⟩
    rw [hX] at J1 J2 J3 J5 j1 j3 j6
    obtain ⟨Y, hY⟩ : ∃ x, joinL X zs = x := ⟨_, rfl⟩
    rw [hY] at J3 J5 j3
    obtain ⟨Z, hZ⟩ : ∃ x, joinL qs zs = x := ⟨_, rfl⟩
    rw [hZ] at J4 J5 j4
    have hXl := j1.2.1
    have hYl := j3.2.1
    have HXK := Lib.hid j1.small
    have SX := Lib.hid (fun w A B c d (h1 : RdB w A X) (h2 : RdB w B X) => PP_yes (p := X = X) rfl ▸ sameBag_any A B c d X X w h1 h2 (by omega) HXK.out)
    have HYK := Lib.hid j3.small
    have SY := Lib.hid (fun w A B c d (h1 : RdB w A Y) (h2 : RdB w B Y) => PP_yes (p := Y = Y) rfl ▸ sameBag_any A B c d Y Y w h1 h2 (by omega) HYK.out)
    have s1k := s1.small
    have s2k := s2.small
    have ZX : Hid (∀ A c w, RdB w A X → Calls Try.prog 18 #[.agg #[.slice A X.length c]] w fun e w' => e = .returned (.int .i64 (bgSize ps + bgSize qs)) ∧ Below w.heap.size w w') := Lib.hid (fun A c w h1 => by
      have := impl_BagSize_any A c X w h1 (by omega) HXK.out
      rw [j6] at this
      exact this)
    have ZA := Lib.hid (fun w h1 => spec_BagSize_any A1 c1 ps w h1 (by omega) s1k)
    have ZB := Lib.hid (fun w h1 => spec_BagSize_any A2 c2 qs w h1 (by omega) s2k)
    obtain ⟨za, hza⟩ : ∃ x, bgSize ps = x := ⟨_, rfl⟩
    obtain ⟨zb, hzb⟩ : ∃ x, bgSize qs = x := ⟨_, rfl⟩
    rw [hza] at ZX ZA j7
    rw [hzb] at ZX ZB j8
    have EX : Hid (∀ w A c, RdB w A X → Calls Try.prog 40 #[.agg #[.slice A X.length c]] w (MadeBag w (eachL X))) := Lib.hid (fun w A c h => impl_BagEach_any A c X w h (by omega) HXK.out)
    have hel := eachL_len X
    have hek := j1.each
    have EE : Hid (∀ w A c, RdB w A (eachL X) → Calls Try.prog 40 #[.agg #[.slice A (eachL X).length c]] w (MadeBag w (eachL X))) := Lib.hid (fun w A c h => by
      have := impl_BagEach_any A c (eachL X) w h (by omega) hek
      rw [show (eachL X).map (fun p => (⟨p.r, 1⟩ : It)) = eachL X from eachL_twice X] at this
      exact this)
    obtain ⟨E, hE⟩ : ∃ x, eachL X = x := ⟨_, rfl⟩
    rw [hE] at EX EE hel hek
    unfold MadeBag at EX EE
    rw [hel] at EX EE
    have HEK := Lib.hid hek
    have HEL := Lib.hid hel
    have SE : Hid (∀ w A B c d, RdB w A E → RdB w B E → Calls Try.prog 39 #[.agg #[.slice A X.length c], .agg #[.slice B X.length d]] w fun e w' => e = .returned (.bool true) ∧ Below w.heap.size w w') := Lib.hid (fun w A B c d h1 h2 => by
      have := PP_yes (p := E = E) rfl ▸ sameBag_any A B c d E E w h1 h2 (by rw [hel]; omega) HEK.out
      rw [hel] at this
      exact this)
    obtain ⟨j7a, j7b⟩ := j7
    obtain ⟨j8a, j8b⟩ := j8
    clear hX hY hZ hza hzb hE hel hek j1 j2 j3 j4 j5 j6 s1 s2 s3 s1k s2k
    go_wp2_with fail
    clear hW2 hg1
    refine CC.out.mono ?_
    rintro e w3 ⟨A3, c3, rfl, R3, k3⟩
    have kk := below_step kn k3
    replace Q1 := blk_below kk Q1
    replace Q2 := blk_below kk Q2
    replace R1 := R1.keep kk
    replace R2 := R2.keep kk
    replace HB := below_step HB kk
    clear CC kn k3 kk b1 b2
    have ka := below_alloc w3 (.cells #[.slice A3 zs.length c3] 29)
    have Q3 := heap_alloc_new w3 (.cells #[.slice A3 zs.length c3] 29)
    replace Q1 := blk_below ka Q1
    replace R1 := R1.keep ka
    replace Q2 := blk_below ka Q2
    replace R2 := R2.keep ka
    replace R3 := R3.keep ka
    replace HB := below_step HB ka
    obtain ⟨g3, hg⟩ : ∃ q, w3.heap.size = q := ⟨_, rfl⟩
    obtain ⟨W3, hW⟩ : ∃ W, w3.alloc (.cells #[.slice A3 zs.length c3] 29) = W := ⟨_, rfl⟩
    rw [hW] at HB Q3 R3 Q1 R1 Q2 R2
    rw [hg] at Q3
    clear ka
    have b1 := blk_cell (o := 0) Q1 rfl
    have b2 := blk_cell (o := 0) Q2 rfl
    have b3 := blk_cell (o := 0) Q3 rfl
    go_wp2_with fail
    clear hW hg
    refine (J1.out _ R1 R2).mono ?_
    rintro e w4 ⟨A4, c4, rfl, oo, kk⟩
    have R4 := oo.rd
    replace Q1 := blk_below kk Q1
    replace R1 := R1.keep kk
    replace Q2 := blk_below kk Q2
    replace R2 := R2.keep kk
    replace Q3 := blk_below kk Q3
    replace R3 := R3.keep kk
    replace HB := below_step HB kk
    clear oo kk b1 b2 b3
    have ka := below_alloc w4 (.cells #[.slice A4 X.length c4] 29)
    have Q4 := heap_alloc_new w4 (.cells #[.slice A4 X.length c4] 29)
    replace Q1 := blk_below ka Q1
    replace R1 := R1.keep ka
    replace Q2 := blk_below ka Q2
    replace R2 := R2.keep ka
    replace Q3 := blk_below ka Q3
    replace R3 := R3.keep ka
    replace R4 := R4.keep ka
    replace HB := below_step HB ka
    obtain ⟨g4, hg⟩ : ∃ q, w4.heap.size = q := ⟨_, rfl⟩
    obtain ⟨W4, hW⟩ : ∃ W, w4.alloc (.cells #[.slice A4 X.length c4] 29) = W := ⟨_, rfl⟩
    rw [hW] at HB Q4 R4 Q1 R1 Q2 R2 Q3 R3
    rw [hg] at Q4
    clear ka
    have b1 := blk_cell (o := 0) Q1 rfl
    have b2 := blk_cell (o := 0) Q2 rfl
    have b3 := blk_cell (o := 0) Q3 rfl
    have b4 := blk_cell (o := 0) Q4 rfl
    go_wp2_with fail
    clear hW hg
    refine (J2.out _ R2 R1).mono ?_
    rintro e w5 ⟨A5, c5, rfl, oo, kk⟩
    have R5 := oo.rd
    replace Q1 := blk_below kk Q1
    replace R1 := R1.keep kk
    replace Q2 := blk_below kk Q2
    replace R2 := R2.keep kk
    replace Q3 := blk_below kk Q3
    replace R3 := R3.keep kk
    replace Q4 := blk_below kk Q4
    replace R4 := R4.keep kk
    replace HB := below_step HB kk
    clear oo kk b1 b2 b3 b4
    have ka := below_alloc w5 (.cells #[.slice A5 X.length c5] 29)
    have Q5 := heap_alloc_new w5 (.cells #[.slice A5 X.length c5] 29)
    replace Q1 := blk_below ka Q1
    replace R1 := R1.keep ka
    replace Q2 := blk_below ka Q2
    replace R2 := R2.keep ka
    replace Q3 := blk_below ka Q3
    replace R3 := R3.keep ka
    replace Q4 := blk_below ka Q4
    replace R4 := R4.keep ka
    replace R5 := R5.keep ka
    replace HB := below_step HB ka
    obtain ⟨g5, hg⟩ : ∃ q, w5.heap.size = q := ⟨_, rfl⟩
    obtain ⟨W5, hW⟩ : ∃ W, w5.alloc (.cells #[.slice A5 X.length c5] 29) = W := ⟨_, rfl⟩
    rw [hW] at HB Q5 R5 Q1 R1 Q2 R2 Q3 R3 Q4 R4
    rw [hg] at Q5
    clear ka
    have b1 := blk_cell (o := 0) Q1 rfl
    have b2 := blk_cell (o := 0) Q2 rfl
    have b3 := blk_cell (o := 0) Q3 rfl
    have b4 := blk_cell (o := 0) Q4 rfl
    have b5 := blk_cell (o := 0) Q5 rfl
    go_wp2_with fail
    clear hW hg
    refine (J3.out _ _ _ _ _ R4 R3).mono ?_
    rintro e w6 ⟨A6, c6, rfl, oo, kk⟩
    have R6 := oo.rd
    replace Q1 := blk_below kk Q1
    replace R1 := R1.keep kk
    replace Q2 := blk_below kk Q2
    replace R2 := R2.keep kk
    replace Q3 := blk_below kk Q3
    replace R3 := R3.keep kk
    replace Q4 := blk_below kk Q4
    replace R4 := R4.keep kk
    replace Q5 := blk_below kk Q5
    replace R5 := R5.keep kk
    replace HB := below_step HB kk
    clear oo kk b1 b2 b3 b4 b5
    have ka := below_alloc w6 (.cells #[.slice A6 Y.length c6] 29)
    have Q6 := heap_alloc_new w6 (.cells #[.slice A6 Y.length c6] 29)
    replace Q1 := blk_below ka Q1
    replace R1 := R1.keep ka
    replace Q2 := blk_below ka Q2
    replace R2 := R2.keep ka
    replace Q3 := blk_below ka Q3
    replace R3 := R3.keep ka
    replace Q4 := blk_below ka Q4
    replace R4 := R4.keep ka
    replace Q5 := blk_below ka Q5
    replace R5 := R5.keep ka
    replace R6 := R6.keep ka
    replace HB := below_step HB ka
    obtain ⟨g6, hg⟩ : ∃ q, w6.heap.size = q := ⟨_, rfl⟩
    obtain ⟨W6, hW⟩ : ∃ W, w6.alloc (.cells #[.slice A6 Y.length c6] 29) = W := ⟨_, rfl⟩
    rw [hW] at HB Q6 R6 Q1 R1 Q2 R2 Q3 R3 Q4 R4 Q5 R5
    rw [hg] at Q6
    clear ka
    have b1 := blk_cell (o := 0) Q1 rfl
    have b2 := blk_cell (o := 0) Q2 rfl
    have b3 := blk_cell (o := 0) Q3 rfl
    have b4 := blk_cell (o := 0) Q4 rfl
    have b5 := blk_cell (o := 0) Q5 rfl
    have b6 := blk_cell (o := 0) Q6 rfl
    go_wp2_with fail
    clear hW hg
    refine (J4.out _ _ _ R2 R3).mono ?_
    rintro e w7 ⟨A7, c7, rfl, oo, kk⟩
    have R7 := oo.rd
    replace Q1 := blk_below kk Q1
    replace R1 := R1.keep kk
    replace Q2 := blk_below kk Q2
    replace R2 := R2.keep kk
    replace Q3 := blk_below kk Q3
    replace R3 := R3.keep kk
    replace Q4 := blk_below kk Q4
    replace R4 := R4.keep kk
    replace Q5 := blk_below kk Q5
    replace R5 := R5.keep kk
    replace Q6 := blk_below kk Q6
    replace R6 := R6.keep kk
    replace HB := below_step HB kk
    clear oo kk b1 b2 b3 b4 b5 b6
    have ka := below_alloc w7 (.cells #[.slice A7 Z.length c7] 29)
    have Q7 := heap_alloc_new w7 (.cells #[.slice A7 Z.length c7] 29)
    replace Q1 := blk_below ka Q1
    replace R1 := R1.keep ka
    replace Q2 := blk_below ka Q2
    replace R2 := R2.keep ka
    replace Q3 := blk_below ka Q3
    replace R3 := R3.keep ka
    replace Q4 := blk_below ka Q4
    replace R4 := R4.keep ka
    replace Q5 := blk_below ka Q5
    replace R5 := R5.keep ka
    replace Q6 := blk_below ka Q6
    replace R6 := R6.keep ka
    replace R7 := R7.keep ka
    replace HB := below_step HB ka
    obtain ⟨g7, hg⟩ : ∃ q, w7.heap.size = q := ⟨_, rfl⟩
    obtain ⟨W7, hW⟩ : ∃ W, w7.alloc (.cells #[.slice A7 Z.length c7] 29) = W := ⟨_, rfl⟩
    rw [hW] at HB Q7 R7 Q1 R1 Q2 R2 Q3 R3 Q4 R4 Q5 R5 Q6 R6
    rw [hg] at Q7
    clear ka
    have b1 := blk_cell (o := 0) Q1 rfl
    have b2 := blk_cell (o := 0) Q2 rfl
    have b3 := blk_cell (o := 0) Q3 rfl
    have b4 := blk_cell (o := 0) Q4 rfl
    have b5 := blk_cell (o := 0) Q5 rfl
    have b6 := blk_cell (o := 0) Q6 rfl
    have b7 := blk_cell (o := 0) Q7 rfl
    go_wp2_with fail
    clear hW hg
    refine (J5.out _ _ _ R1 R7).mono ?_
    rintro e w8 ⟨A8, c8, rfl, oo, kk⟩
    have R8 := oo.rd
    replace Q1 := blk_below kk Q1
    replace R1 := R1.keep kk
    replace Q2 := blk_below kk Q2
    replace R2 := R2.keep kk
    replace Q3 := blk_below kk Q3
    replace R3 := R3.keep kk
    replace Q4 := blk_below kk Q4
    replace R4 := R4.keep kk
    replace Q5 := blk_below kk Q5
    replace R5 := R5.keep kk
    replace Q6 := blk_below kk Q6
    replace R6 := R6.keep kk
    replace Q7 := blk_below kk Q7
    replace R7 := R7.keep kk
    replace HB := below_step HB kk
    clear oo kk b1 b2 b3 b4 b5 b6 b7
    have ka := below_alloc w8 (.cells #[.slice A8 Y.length c8] 29)
    have Q8 := heap_alloc_new w8 (.cells #[.slice A8 Y.length c8] 29)
    replace Q1 := blk_below ka Q1
    replace R1 := R1.keep ka
    replace Q2 := blk_below ka Q2
    replace R2 := R2.keep ka
    replace Q3 := blk_below ka Q3
    replace R3 := R3.keep ka
    replace Q4 := blk_below ka Q4
    replace R4 := R4.keep ka
    replace Q5 := blk_below ka Q5
    replace R5 := R5.keep ka
    replace Q6 := blk_below ka Q6
    replace R6 := R6.keep ka
    replace Q7 := blk_below ka Q7
    replace R7 := R7.keep ka
    replace R8 := R8.keep ka
    replace HB := below_step HB ka
    obtain ⟨g8, hg⟩ : ∃ q, w8.heap.size = q := ⟨_, rfl⟩
    obtain ⟨W8, hW⟩ : ∃ W, w8.alloc (.cells #[.slice A8 Y.length c8] 29) = W := ⟨_, rfl⟩
    rw [hW] at HB Q8 R8 Q1 R1 Q2 R2 Q3 R3 Q4 R4 Q5 R5 Q6 R6 Q7 R7
    rw [hg] at Q8
    clear ka
    have b1 := blk_cell (o := 0) Q1 rfl
    have b2 := blk_cell (o := 0) Q2 rfl
    have b3 := blk_cell (o := 0) Q3 rfl
    have b4 := blk_cell (o := 0) Q4 rfl
    have b5 := blk_cell (o := 0) Q5 rfl
    have b6 := blk_cell (o := 0) Q6 rfl
    have b7 := blk_cell (o := 0) Q7 rfl
    have b8 := blk_cell (o := 0) Q8 rfl
    have s1 : IntKind.i64.wrap (za + zb) = za + zb := IntWalk.i64_in _ (by omega)
    have s3 : (za + zb == za + zb) = true := by simp
    have s4 : ((X.length : Int) == (X.length : Int)) = true := by simp
    have RF := run_field_bag
    have MK := Lib.hid (fun (w' : World) (hb : Below W8.heap.size W8 w') => (⟨blk_cell (o := 0) (blk_below hb Q1) rfl, blk_cell (o := 0) (blk_below hb Q2) rfl, blk_cell (o := 0) (blk_below hb Q4) rfl, blk_cell (o := 0) (blk_below hb Q5) rfl, blk_cell (o := 0) (blk_below hb Q6) rfl, blk_cell (o := 0) (blk_below hb Q8) rfl, hb⟩ : w'.cell? ⟨g1, 0, none⟩ = some (.slice A1 ps.length c1) ∧ w'.cell? ⟨g1 + 1, 0, none⟩ = some (.slice A2 qs.length c2) ∧ w'.cell? ⟨g4, 0, none⟩ = some (.slice A4 X.length c4) ∧ w'.cell? ⟨g5, 0, none⟩ = some (.slice A5 X.length c5) ∧ w'.cell? ⟨g6, 0, none⟩ = some (.slice A6 Y.length c6) ∧ w'.cell? ⟨g8, 0, none⟩ = some (.slice A8 Y.length c8) ∧ Below W8.heap.size W8 w'))
    have B0 : Below W8.heap.size W8 W8.drew := (Below.refl _ _).drew
    have H1 := Lib.hid R1
    have H2 := Lib.hid R2
    have H4 := Lib.hid R4
    have H5 := Lib.hid R5
    have H6 := Lib.hid R6
    have H8 := Lib.hid R8
    have HBH := Lib.hid HB
    clear Q1 Q2 Q3 Q4 Q5 Q6 Q7 Q8 R1 R2 R3 R4 R5 R6 R7 R8 HB J1 J2 J3 J4 J5
    go_wp2_with fail
    clear hW hg
    go_region_held3 (fun w' => w'.cell? ⟨g1, 0, none⟩ = some (.slice A1 ps.length c1) ∧ w'.cell? ⟨g1 + 1, 0, none⟩ = some (.slice A2 qs.length c2) ∧ w'.cell? ⟨g4, 0, none⟩ = some (.slice A4 X.length c4) ∧ w'.cell? ⟨g5, 0, none⟩ = some (.slice A5 X.length c5) ∧ w'.cell? ⟨g6, 0, none⟩ = some (.slice A6 Y.length c6) ∧ w'.cell? ⟨g8, 0, none⟩ = some (.slice A8 Y.length c8) ∧ Below W8.heap.size W8 w')
      ((first
        | (exact MK.out _ B0)
        | assumption
        | (go_split_ands; exact MK.out _ (below_step (by assumption) hbk))))
      ((first
        | (go_at_call 18; go_split_ands; refine (ZX.out _ _ _ (H4.out.keep (by assumption))).mono ?_; rintro e w' ⟨rfl, hbk⟩)
        | (go_at_call 17; go_split_ands; (first | (with_reducible refine (ZA.out _ (H1.out.keep (by assumption))).mono ?_) | (with_reducible refine (ZB.out _ (H2.out.keep (by assumption))).mono ?_)); rintro e w' ⟨rfl, hbk⟩)
        | (go_at_call 40; go_split_ands; first | (with_reducible refine (EX.out _ A4 c4 (H4.out.keep (by assumption))).mono ?_; rintro e w' ⟨Ae, ce, rfl, oe, hbk⟩; (first | (have re2 := re2.keep hbk) | skip); have re1 := oe.rd; clear oe) | (with_reducible refine (EE.out _ _ _ re1).mono ?_; rintro e w' ⟨Af, cf, rfl, oe, hbk⟩; have re2 := oe.rd; clear oe))
        | (go_at_call 39; go_split_ands; (first | (with_reducible refine (SX.out _ A4 A5 c4 c5 (H4.out.keep (by assumption)) (H5.out.keep (by assumption))).mono ?_) | (with_reducible refine (SY.out _ A6 A8 c6 c8 (H6.out.keep (by assumption)) (H8.out.keep (by assumption))).mono ?_) | (refine (SE.out _ _ _ _ _ re2 re1).mono ?_)); rintro e w' ⟨rfl, hbk⟩)))
    all_goals
      go_split_ands
      have U : Below W8.heap.size W8 w' := by assumption
      have UF := below_step HBH.out U
      go_wp2
      go_ret
      exact ⟨rfl, UF⟩
end Go.Proofs.Ytdikkfhdogkniaa
