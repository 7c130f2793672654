/- placeOf: slices.BinarySearchFunc at items, by their rows. Conditions: the sizes of the lengths. -/
import Derived.Test.YtdikkfhdogkniaaBagP
import Derived.Test.YtdikkfhdogkniaaBelowQ
namespace Go.Proofs.Ytdikkfhdogkniaa
open Go.RowKit
set_option maxRecDepth 100000 in

theorem placeOf1_any (x : It) (K B : Option Addr) (c d m : Nat) (row : List Int) (w : World) (hx : RdI w K x.r.length x.r) (hy : RdI w B m row) (hn : x.r.length ≤ 4294967296) (hm : m ≤ 4294967296) :
    Calls Try.prog 90 #[.agg #[.slice K x.r.length c, .int .i64 x.t], .slice B m d] w fun e w' => e = .returned (.int .i64 (cmpI x.r row)) ∧ Below w.heap.size w w' := by
  have C := Lib.hid (Compare_any K B x.r.length m c d x.r row (w.alloc (.cells #[.slice K x.r.length c, .int .i64 x.t] 54)) (RdI.alloc hx _) (RdI.alloc hy _) hn hm)
  clear hx hy
  go_enter Try.func90, Try.ntmps90
  go_wp2_with fail
  refine C.out.mono ?_
  rintro e w1 ⟨rfl, rfl⟩
  go_wp2
  go_ret
  exact ⟨rfl, below_alloc _ _⟩

/-- What the search leaves: the place, and whether the row is there. -/
def Placed (w : World) (ps : List It) (row : List Int) (e : Ending) (w' : World) : Prop :=
  ∃ (i : Nat) (b : Bool), e = .returned (.tuple #[.int .i64 i, .bool b]) ∧ i ≤ ps.length ∧ (∀ t (ht : t < ps.length), (t < i → cmpI ps[t].r row < 0) ∧ (i ≤ t → 0 ≤ cmpI ps[t].r row)) ∧ (b = true ↔ ∃ h : i < ps.length, cmpI ps[i].r row = 0) ∧ Below w.heap.size w w'
set_option maxRecDepth 100000 in
set_option maxHeartbeats 3200000 in
theorem BinarySearchB_any (A B : Option Addr) (c d m : Nat) (ps : List It) (row : List Int) (w : World) (hx : RdB w A ps) (hy : RdI w B m row) (hn : ps.length ≤ 1073741824) (hk : ∀ p ∈ ps, p.r.length ≤ 4294967296) (hm : m ≤ 4294967296) (ha : Asc ps) :
    Calls Try.prog 89 #[.slice A ps.length c, .slice B m d, .func (.func 90) #[] #[]] w (Placed w ps row) := by
  have HX := Lib.hid hx
  have HY := Lib.hid hy
  have HK := Lib.hid hk
  have HA := Lib.hid ha
  clear hx hy hk ha
  go_enter Try.func89, Try.ntmps89
  go_wp2
  go_loopw [9, 10] (fun v i wr => ∃ (a b : Nat), a ≤ b ∧ b ≤ ps.length ∧ v = .int .i64 a ∧ i = .int .i64 b ∧ Hid (∀ t (ht : t < ps.length), (t < a → cmpI ps[t].r row < 0) ∧ (b ≤ t → 0 ≤ cmpI ps[t].r row)) ∧ Below w.heap.size w wr) (fun v i _ => (intOf i).toNat - (intOf v).toNat)
  case atStart => exact ⟨0, ps.length, Nat.zero_le _, Nat.le_refl _, rfl, rfl, Lib.hid (fun t ht => ⟨fun h => by omega, fun h => by omega⟩), Below.refl _ _⟩
  case round =>
    obtain ⟨a, b, hab, hbn, rfl, rfl, HI, hb⟩ := hrel
    by_cases hlt : a < b
    · obtain ⟨h, hh⟩ : ∃ h : Nat, ((a : Int) + (b : Int)) / 2 = (h : Int) := ⟨((a : Int) + b).toNat / 2, by omega⟩
      have hah : a ≤ h := by omega
      have hhb : h < b := by omega
      have hhn : h < ps.length := by omega
      have k0 : (0 : Int) ≤ (h : Int) := by omega
      have k1 : (h : Int) < (ps.length : Int) := by omega
      obtain ⟨b2, o, Kk, ck, rfl, c0, c1, hrk⟩ := (HX.out.keep hb).at_ hhn
      have hel := HK.out _ (List.getElem_mem hhn)
      obtain ⟨y, hy⟩ : ∃ y, ps[h] = y := ⟨_, rfl⟩
      rw [hy] at c0 c1 hel hrk
      have HYY := Lib.hid hy
      have RY := Lib.hid (HY.out.below hb)
      have C := Lib.hid (fun (w' : World) (hw : Below wr.heap.size wr w') => placeOf1_any y Kk B ck d m row w' (RdI.below hrk hw) (RdI.below RY.out hw) hel hm)
      obtain ⟨r, hr⟩ : ∃ r, cmpI y.r row = r := ⟨_, rfl⟩
      rw [hr] at C
      have HR := Lib.hid hr
      obtain ⟨yr, yt⟩ := y
      simp only at c0 c1 C HR hel
      clear hr hy hrk
      go_wp2_with fail
      refine (C.out _ (Below.refl _ _)).mono ?_
      rintro e w5 ⟨rfl, kk⟩
      have hb5 := below_step hb kk
      clear c0 c1
      by_cases hr0 : r < 0
      · have d0 : decide (r < 0) = true := decide_eq_true hr0
        go_wp2
        go_roundw
        case rel =>
          refine ⟨h + 1, b, by omega, hbn, by go_num, rfl, Lib.hid (fun t ht => ⟨fun h2 => ?_, (HI.out t ht).2⟩), hb5⟩
          have hy : cmpI ps[h].r row < 0 := by rw [HYY.out]; simp only; rw [HR.out]; exact hr0
          rcases Nat.lt_or_ge t h with h3 | h3
          · exact cmpI_trans _ _ _ (List.pairwise_iff_getElem.1 HA.out t h ht hhn h3) hy
          · obtain rfl : t = h := by omega
            exact hy
        case measure => simp [intOf]; omega
      · have d0 : decide (r < 0) = false := decide_eq_false hr0
        go_wp2
        go_roundw
        case rel =>
          refine ⟨a, h, hah, by omega, rfl, by go_num, Lib.hid (fun t ht => ⟨(HI.out t ht).1, fun h2 => ?_⟩), hb5⟩
          have hy : 0 ≤ cmpI ps[h].r row := by rw [HYY.out]; simp only; rw [HR.out]; omega
          rcases Nat.lt_or_ge h t with h3 | h3
          · exact Int.not_lt.1 (fun h4 => absurd (cmpI_trans _ _ _ (List.pairwise_iff_getElem.1 HA.out h t hhn ht h3) h4) (Int.not_lt.2 hy))
          · obtain rfl : t = h := by omega
            exact hy
        case measure => simp [intOf]; omega
    · obtain rfl : a = b := by omega
      by_cases hhn : a < ps.length
      · have k0 : (0 : Int) ≤ (a : Int) := by omega
        have k1 : (a : Int) < (ps.length : Int) := by omega
        have k2 : decide ((a : Int) < (ps.length : Int)) = true := decide_eq_true k1
        have k3 : decide (a < ps.length) = true := decide_eq_true hhn
        obtain ⟨b2, o, Kk, ck, rfl, c0, c1, hrk⟩ := (HX.out.keep hb).at_ hhn
        have hel := HK.out _ (List.getElem_mem hhn)
        obtain ⟨y, hy⟩ : ∃ y, ps[a] = y := ⟨_, rfl⟩
        rw [hy] at c0 c1 hel hrk
        have HYY := Lib.hid hy
        have RY := Lib.hid (HY.out.below hb)
        have C := Lib.hid (fun (w' : World) (hw : Below wr.heap.size wr w') => placeOf1_any y Kk B ck d m row w' (RdI.below hrk hw) (RdI.below RY.out hw) hel hm)
        obtain ⟨r, hr⟩ : ∃ r, cmpI y.r row = r := ⟨_, rfl⟩
        rw [hr] at C
        have HR := Lib.hid hr
        obtain ⟨yr, yt⟩ := y
        simp only at c0 c1 C HR hel
        clear hr hy hrk
        go_wp2_with fail
        refine (C.out _ (Below.refl _ _)).mono ?_
        rintro e w5 ⟨rfl, kk⟩
        have hb5 := below_step hb kk
        clear c0 c1
        go_wp2
        go_ret2
        refine ⟨a, decide (r = 0), by simp [BEq.beq], by omega, HI.out, ?_, hb5⟩
        rw [decide_eq_true_eq, ← HR.out]
        constructor
        · intro h
          refine ⟨hhn, ?_⟩
          rw [HYY.out]
          exact h
        · rintro ⟨_, h⟩
          rw [HYY.out] at h
          exact h
      · have k2 : decide ((a : Int) < (ps.length : Int)) = false := decide_eq_false (by omega)
        have k3 : decide (a < ps.length) = false := decide_eq_false hhn
        go_wp2
        go_ret2
        exact ⟨a, false, rfl, by omega, HI.out, ⟨fun h => (by cases h), fun ⟨h, _⟩ => absurd h hhn⟩, hb⟩

set_option maxRecDepth 100000 in
theorem placeOf_any (A B : Option Addr) (c d m : Nat) (ps : List It) (row : List Int) (w : World) (hx : RdB w A ps) (hy : RdI w B m row) (hn : ps.length ≤ 1073741824) (hk : ∀ p ∈ ps, p.r.length ≤ 4294967296) (hm : m ≤ 4294967296) (ha : Asc ps) :
    Calls Try.prog 82 #[.slice A ps.length c, .slice B m d] w (Placed w ps row) := by
  have C := Lib.hid (BinarySearchB_any A B c d m ps row w hx hy hn hk hm ha)
  clear hx hy hk ha
  go_enter Try.func82, Try.ntmps82
  go_wp2_with fail
  refine C.out.mono ?_
  rintro e w1 ⟨i, b, rfl, h⟩
  have H := Lib.hid h
  clear h
  go_wp2
  go_ret2
  exact ⟨i, b, rfl, H.out⟩
end Go.Proofs.Ytdikkfhdogkniaa
