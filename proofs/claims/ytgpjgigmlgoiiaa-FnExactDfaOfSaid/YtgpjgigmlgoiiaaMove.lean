/- The steps of an automaton over sets as bits: move, accepts. Conditions: the arcs and the set are within the states. -/
import Derived.Test.YtgpjgigmlgoiiaaBits
import Derived.Test.YtgpjgigmlgoiiaaNfa
namespace Go.Proofs.Ytgpjgigmlgoiiaa
open Go.RowKit

/-- An arc within 24 states. -/
def Sm (e : Ed) : Prop := 0 ≤ e.f ∧ e.f < 24 ∧ 0 ≤ e.l ∧ e.l ≤ 255 ∧ 0 ≤ e.t ∧ e.t < 24
def mvB (S : Nat) (l : Int) (e : Ed) : Bool := decide (e.l = l) && S.testBit e.f.toNat
def moveN (es : List Ed) (S : Nat) (l : Int) : Nat := es.foldl (fun o e => if mvB S l e = true then o ||| 2 ^ e.t.toNat else o) 0
theorem moveN_next {es : List Ed} {k : Nat} (S : Nat) (l : Int) (h : k < es.length) : moveN (es.take (k + 1)) S l = if mvB S l es[k] = true then moveN (es.take k) S l ||| 2 ^ es[k].t.toNat else moveN (es.take k) S l := by
  unfold moveN
  rw [List.take_succ_eq_append_getElem h, List.foldl_append]
  rfl
theorem fold_lt (S : Nat) (l : Int) : ∀ (es : List Ed) (o : Nat), (∀ e ∈ es, Sm e) → o < 16777216 → es.foldl (fun o e => if mvB S l e = true then o ||| 2 ^ e.t.toNat else o) o < 16777216
  | [], o, _, h => h
  | e :: es, o, he, h => by
    refine fold_lt S l es _ (fun x hx => he x (List.mem_cons_of_mem _ hx)) ?_
    obtain ⟨_, _, _, _, h5, h6⟩ := he e List.mem_cons_self
    show (if mvB S l e = true then o ||| 2 ^ e.t.toNat else o) < 16777216
    split
    · rw [show 16777216 = 2 ^ 24 by rfl]
      exact Nat.or_lt_two_pow h (Nat.pow_lt_pow_right (by omega) (by omega))
    · exact h
theorem moveN_lt {es : List Ed} (S : Nat) (l : Int) (h : ∀ e ∈ es, Sm e) : moveN es S l < 16777216 := fold_lt S l es 0 h (by omega)
theorem fold_bit (S : Nat) (l : Int) (j : Nat) : ∀ (es : List Ed) (o : Nat), (es.foldl (fun o e => if mvB S l e = true then o ||| 2 ^ e.t.toNat else o) o).testBit j = (o.testBit j || es.any (fun e => mvB S l e && decide (e.t.toNat = j)))
  | [], o => by simp
  | e :: es, o => by
    rw [List.foldl_cons, fold_bit S l j es, List.any_cons]
    by_cases h : mvB S l e = true
    · rw [if_pos h, Nat.testBit_or, Nat.testBit_two_pow, h]
      simp [Bool.or_assoc]
    · rw [if_neg h]
      have h2 : mvB S l e = false := by simpa using h
      rw [h2]
      simp
theorem moveN_bit (es : List Ed) (S : Nat) (l : Int) (j : Nat) : (moveN es S l).testBit j = es.any (fun e => mvB S l e && decide (e.t.toNat = j)) := by
  unfold moveN
  rw [fold_bit]
  simp

theorem or_pow (o t : Nat) (ho : o < 4294967296) (ht : t < 32) : bits .or .u32 (o : Int) (2 ^ t % 4294967296) = ((o ||| 2 ^ t : Nat) : Int) := by
  have h1 : 2 ^ t < 4294967296 := by rw [show 4294967296 = 2 ^ 32 by rfl]; exact Nat.pow_lt_pow_right (by omega) ht
  have h2 : (2 : Int) ^ t % 4294967296 = ((2 ^ t : Nat) : Int) := by
    have h3 : (2 : Int) ^ t = ((2 ^ t : Nat) : Int) := (Int.natCast_pow 2 t).symm
    rw [h3]
    obtain ⟨p, hp⟩ : ∃ p : Nat, 2 ^ t = p := ⟨_, rfl⟩
    rw [hp] at h1 ⊢
    omega
  rw [h2, u32_or_nat _ _ ho h1]

set_option maxRecDepth 100000 in
set_option maxHeartbeats 1600000 in
theorem move_any (s : Int) (A B : Option Addr) (n c d : Nat) (es : List Ed) (S : Nat) (l : Int) (w : World) (hx : RdE w A es) (hn : es.length ≤ 4294967296) (hes : ∀ e ∈ es, Sm e) (hS : S < 16777216) :
    Calls Try.prog 47 #[.agg #[.int .i64 s, .slice A es.length c, .slice B n d], .int .u32 S, .int .u8 l] w fun e w' => e = .returned (.int .u32 (moveN es S l)) ∧ Below w.heap.size w w' := by
  have HX := Lib.hid hx
  have HE := Lib.hid hes
  clear hx hes
  go_enter Try.func47, Try.ntmps47
  go_wp2
  go_loopw [7, 13] (fun v i wr => ∃ (k o : Nat), k ≤ es.length ∧ i = .int .i64 k ∧ v = .int .u32 o ∧ o < 16777216 ∧ Hid (o = moveN (es.take k) S l) ∧ Below w.heap.size w wr) (fun _ i _ => es.length - (intOf i).toNat)
  case atStart => exact ⟨0, 0, Nat.zero_le _, rfl, rfl, by omega, rfl, below_alloc _ _⟩
  case round =>
    obtain ⟨k, o, hk, rfl, rfl, ho, HO, hb⟩ := hrel
    by_cases hlt : k < es.length
    · obtain ⟨b, q, rfl, c0, c1, c2⟩ := (RdE.below HX.out hb).at_ hlt
      have hsm := HE.out es[k] (List.getElem_mem hlt)
      have hnx := moveN_next S l hlt
      obtain ⟨x, hxx⟩ : ∃ x, es[k] = x := ⟨_, rfl⟩
      rw [hxx] at c0 c1 c2 hsm hnx
      clear hxx
      obtain ⟨xf, xl, xt⟩ := x
      simp only at c0 c1 c2 hnx
      obtain ⟨h1, h2, h3, h4, h5, h6⟩ := hsm
      simp only at h1 h2 h3 h4 h5 h6
      obtain ⟨f, rfl⟩ : ∃ f : Nat, xf = f := ⟨xf.toNat, by omega⟩
      obtain ⟨t, rfl⟩ : ∃ t : Nat, xt = t := ⟨xt.toNat, by omega⟩
      have k0 : (0 : Int) ≤ (k : Int) := by omega
      have k1 : (k : Int) < (es.length : Int) := by omega
      have hf : f < 24 := by omega
      have ht : t < 24 := by omega
      have hbt := bit_test S f (by omega)
      rw [← HO.out] at hnx
      have HN := Lib.hid hnx
      clear hnx
      by_cases hl : xl = l
      · have l1 : (xl == l) = true := by rw [hl]; simp
        have HLL := Lib.hid hl
        clear hl
        cases hbit : S.testBit f with
        | false =>
          rw [hbit] at hbt
          have HB := Lib.hid hbit
          clear hbit
          go_wp2
          clear hbt
          go_roundw
          case rel => exact ⟨k + 1, o, by omega, by go_num, rfl, ho, by show _ = _; rw [HN.out, if_neg (by simp [mvB, HB.out])], hb.alloc hb.size _⟩
          case measure => simp [intOf]; omega
        | true =>
          rw [hbit] at hbt
          have HB := Lib.hid hbit
          clear hbit
          go_wp2
          clear hbt
          have hor := or_pow o t (by omega) (by omega)
          have hlt2 : o ||| 2 ^ t < 16777216 := by
            rw [show 16777216 = 2 ^ 24 by rfl]
            exact Nat.or_lt_two_pow ho (Nat.pow_lt_pow_right (by omega) (by omega))
          go_roundw
          case rel => exact ⟨k + 1, o ||| 2 ^ t, by omega, by go_num, by rw [hor], hlt2, by show _ = _; rw [HN.out, if_pos (by simp [mvB, HB.out, HLL.out])]; rfl, hb.alloc hb.size _⟩
          case measure => simp [intOf]; omega
      · have l1 : (xl == l) = false := by simpa using hl
        have HLL := Lib.hid hl
        clear hl
        go_wp2
        clear hbt
        go_roundw
        case rel => exact ⟨k + 1, o, by omega, by go_num, rfl, ho, by show _ = _; rw [HN.out, if_neg (by simp [mvB, HLL.out])], hb.alloc hb.size _⟩
        case measure => simp [intOf]; omega
    · obtain rfl : k = es.length := by omega
      have h := HO.out
      rw [List.take_of_length_le (Nat.le_refl _)] at h
      subst h
      go_wp2
      go_ret
      exact ⟨rfl, hb⟩

/-- Is a place of the set an end. -/
def accB (bs : List Bool) (S : Nat) : Bool := (bitsTo S 32).any (fun z => bs.getD z.toNat false)
/-- All places of the set are states. -/
def InS (S m : Nat) : Prop := ∀ i, S.testBit i = true → i < m

set_option maxRecDepth 100000 in
set_option maxHeartbeats 1600000 in
theorem accepts_any (s : Int) (A B : Option Addr) (n c d : Nat) (bs : List Bool) (S : Nat) (w : World) (hy : RdB w B bs.length bs) (hS : S < 4294967296) (hin : InS S bs.length) :
    Calls Try.prog 49 #[.agg #[.int .i64 s, .slice A n c, .slice B bs.length d], .int .u32 S] w fun e w' => e = .returned (.bool (accB bs S)) ∧ Below w.heap.size w w' := by
  have HY := Lib.hid hy
  have HI := Lib.hid hin
  have p1 := heap_alloc_new w (.cells #[.int .i64 s, .slice A n c, .slice B bs.length d] 29)
  clear hy hin
  go_enter Try.func49, Try.ntmps49
  go_wp2_with fail
  refine (bitsIn_any S _ hS).mono ?_
  have HACC : Hid (accB bs S = (bitsTo S 32).any (fun z => bs.getD z.toNat false)) := Lib.hid rfl
  have HMEM := Lib.hid (fun z => (bitsTo_mem (S := S) (k := 32) (z := z)).1)
  have hzl := bitsTo_len S 32
  unfold MadeI
  obtain ⟨zs, hzs⟩ : ∃ zs, bitsTo S 32 = zs := ⟨_, rfl⟩
  rw [hzs] at HACC HMEM hzl ⊢
  clear hzs
  rintro e w1 ⟨A1, c1, rfl, o1, k1⟩
  have R1 := Lib.hid (show RdI w1 A1 zs.length zs from Rd.of_own o1)
  have P1 := Lib.hid (blk_below k1 p1)
  have B1 := Lib.hid (below_step (below_alloc w (.cells #[.int .i64 s, .slice A n c, .slice B bs.length d] 29)) k1)
  clear p1 o1 k1
  go_wp2_with fail
  go_loop [10] (fun i => ∃ k : Nat, k ≤ zs.length ∧ i = .int .i64 k ∧ Hid ((zs.take k).any (fun z => bs.getD z.toNat false) = false)) (fun i => zs.length - (intOf i).toNat)
  case atStart => exact ⟨0, Nat.zero_le _, rfl, Lib.hid (by simp)⟩
  case round =>
    obtain ⟨k, hk, rfl, HK⟩ := hrel
    by_cases hlt : k < zs.length
    · obtain ⟨ad, rfl, hc⟩ := R1.out.at_ hlt
      have hz : zs.getD k 0 = zs[k] := by simp [List.getD, List.getElem?_eq_getElem hlt]
      rw [hz] at hc
      obtain ⟨j, hj, hj32, hjb⟩ := HMEM.out zs[k] (List.getElem_mem hlt)
      have hnx : (zs.take (k + 1)).any (fun z => bs.getD z.toNat false) = bs.getD j false := by
        rw [List.take_succ_eq_append_getElem hlt, List.any_append, HK.out, hj]
        simp
      have hjl := HI.out j hjb
      rw [hj] at hc
      obtain ⟨bd, rfl, hd⟩ := (RdB.below HY.out B1.out).at_ hjl
      obtain ⟨q, hq⟩ : ∃ q, bs.getD j false = q := ⟨_, rfl⟩
      rw [hq] at hd hnx
      have HN := Lib.hid hnx
      have HJ := Lib.hid hj
      have b2 := blk_cell (o := 2) P1.out rfl
      have k0 : (0 : Int) ≤ (k : Int) := by omega
      have k1 : (k : Int) < (zs.length : Int) := by omega
      have j0 : (0 : Int) ≤ (j : Int) := by omega
      have j1 : (j : Int) < (bs.length : Int) := by omega
      clear hz hj hjb hnx hq
      cases q
      · go_wp2
        go_round
        case rel => exact ⟨k + 1, by omega, by go_num, HN⟩
        case measure => simp [intOf]; omega
      · go_wp2
        go_ret
        refine ⟨ret_b ?_, B1.out⟩
        rw [HACC.out]
        symm
        have h := HN.out
        rw [List.any_eq_true] at h ⊢
        obtain ⟨z, hz, hb⟩ := h
        exact ⟨z, List.mem_of_mem_take hz, hb⟩
    · obtain rfl : k = zs.length := by omega
      have h := HK.out
      rw [List.take_of_length_le (Nat.le_refl _)] at h
      have HH := Lib.hid h
      clear h
      go_wp2
      go_ret
      exact ⟨ret_b (by rw [HACC.out, HH.out]), B1.out⟩
end Go.Proofs.Ytgpjgigmlgoiiaa
