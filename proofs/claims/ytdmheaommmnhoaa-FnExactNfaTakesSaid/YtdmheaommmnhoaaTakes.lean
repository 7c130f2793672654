/- NfaTakes: the program's function. Conditions: the labels' range and the sizes of the lengths. -/
import Derived.Test.YtdmheaommmnhoaaMove
import Derived.Test.YtdmheaommmnhoaaNfaOk
namespace Go.Proofs.Ytdmheaommmnhoaa
open Go.RowKit

/-- The set of states behind some letters. -/
def runN (es : List Ed) (word : List UInt8) : Nat := word.foldl (fun S c => moveN es S (c.toNat : Int)) 1
theorem runN_next {es : List Ed} {l : List UInt8} {k : Nat} (h : k < l.length) : runN es (l.take (k + 1)) = moveN es (runN es (l.take k)) (l[k].toNat : Int) := by
  unfold runN
  rw [List.take_succ_eq_append_getElem h, List.foldl_append]
  rfl
theorem NOk.sm {s : Int} {es : List Ed} {bs : List Bool} (h : NOk s es bs) : ∀ e ∈ es, (0 ≤ e.f ∧ e.f < s) ∧ (0 ≤ e.t ∧ e.t < s) ∧ (97 ≤ e.l ∧ e.l ≤ 100) := by
  intro e he
  obtain ⟨i, hi, rfl⟩ := List.getElem_of_mem he
  obtain ⟨h1, h2, h3⟩ := (h.2.2 i hi hi).1
  simp only [vtxB, lblB, Bool.and_eq_true, decide_eq_true_eq] at h1 h2 h3
  exact ⟨h1, h2, h3⟩
theorem NOk.sm2 {s : Int} {es : List Ed} {bs : List Bool} (h : NOk s es bs) : ∀ e ∈ es, Sm e := fun e he => by
  obtain ⟨h1, h2, h3⟩ := h.sm e he
  have := h.1
  exact ⟨h1.1, by omega, by omega, by omega, h2.1, by omega⟩
theorem InS.move {es : List Ed} {S m : Nat} {l : Int} (h : ∀ e ∈ es, e.t.toNat < m) : InS (moveN es S l) m := fun i hi => by
  rw [moveN_bit, List.any_eq_true] at hi
  obtain ⟨e, he, h2⟩ := hi
  simp only [Bool.and_eq_true, decide_eq_true_eq] at h2
  rw [← h2.2]
  exact h e he
theorem InS.one {m : Nat} (h : 0 < m) : InS 1 m := fun i hi => by
  rcases Nat.eq_zero_or_pos i with h0 | h0
  · omega
  · rw [show (1 : Nat) = 2 ^ 0 by rfl, Nat.testBit_two_pow] at hi
    simp at hi
    omega
theorem NOk.inT {s : Int} {es : List Ed} {bs : List Bool} (h : NOk s es bs) : ∀ e ∈ es, e.t.toNat < bs.length := fun e he => by
  obtain ⟨h1, h2, h3⟩ := h.sm e he
  have := h.2.1
  omega
/-- Does the automaton take the word. -/
noncomputable def tkB (s : Int) (es : List Ed) (bs : List Bool) (word : ByteArray) : Bool := PP (word.size ≤ 12 ∧ NOk s es bs) && accB bs (runN es word.data.toList)
theorem tkB_no {s : Int} {es : List Ed} {bs : List Bool} {word : ByteArray} (h : ¬ (word.size ≤ 12 ∧ NOk s es bs)) : tkB s es bs word = false := by unfold tkB; rw [PP_no h]; rfl
theorem tkB_yes {s : Int} {es : List Ed} {bs : List Bool} {word : ByteArray} (h1 : word.size ≤ 12) (h2 : NOk s es bs) : tkB s es bs word = accB bs (runN es word.data.toList) := by unfold tkB; rw [PP_yes ⟨h1, h2⟩]; rfl

set_option maxRecDepth 100000 in
set_option maxHeartbeats 3200000 in
theorem impl_NfaTakes_any (s : Int) (A B : Option Addr) (c d : Nat) (es : List Ed) (bs : List Bool) (word : ByteArray) (w : World) (hx : RdE w A es) (hy : RdB w B bs.length bs) (hn : es.length ≤ 4294967296) (hm : bs.length ≤ 4294967296) (hl : ∀ e ∈ es, 0 ≤ e.l ∧ e.l ≤ 255) (hw : word.size ≤ maxLen) :
    Calls Try.prog 34 #[.agg #[.int .i64 s, .slice A es.length c, .slice B bs.length d], .string word] w fun e w' => e = .returned (.bool (tkB s es bs word)) ∧ Below w.heap.size w w' := by
  unfold maxLen at hw
  have HX := Lib.hid hx
  have HY := Lib.hid hy
  have C := Lib.hid (fun w hx => impl_NfaOk_any s A B c d es bs w hx hn hm hl)
  have p1 := heap_alloc_new w (.cells #[.int .i64 s, .slice A es.length c, .slice B bs.length d] 43)
  have hb1 := below_alloc w (.cells #[.int .i64 s, .slice A es.length c, .slice B bs.length d] 43)
  clear hx hy hl
  by_cases h12 : word.size ≤ 12
  · by_cases hok : NOk s es bs
    · rw [PP_yes hok] at C
      rw [tkB_yes h12 hok]
      have HOK := Lib.hid hok
      have hbs : 0 < bs.length := by have h1 := hok.1.1; have h2 := hok.2.1; omega
      have M := Lib.hid (fun S l w hx hS => move_any s A B bs.length c d es S l w hx hn hok.sm2 hS)
      clear hok
      have d12 : (12 : Int) < (word.size : Int) → False := by omega
      go_enter Try.func34, Try.ntmps34
      go_wp2_with fail
      refine (C.out _ (RdE.below HX.out hb1)).mono ?_
      rintro e w2 ⟨rfl, k2⟩
      have P2 := Lib.hid (blk_below k2 p1)
      have B2 := Lib.hid (below_step hb1 k2)
      clear p1 hb1 k2 d12
      go_wp2_with fail
      go_loopw [5, 6] (fun v i wr => ∃ k o : Nat, k ≤ word.size ∧ i = .int .i64 k ∧ v = .int .u32 o ∧ o < 16777216 ∧ InS o bs.length ∧ Hid (o = runN es (word.data.toList.take k)) ∧ wr.heap[w.heap.size]? = some (.cells #[.int .i64 s, .slice A es.length c, .slice B bs.length d] 43 (0, 0)) ∧ Below w.heap.size w wr) (fun _ i _ => word.size - (intOf i).toNat)
      case atStart => exact ⟨0, 1, Nat.zero_le _, rfl, rfl, by omega, InS.one hbs, rfl, P2.out, B2.out⟩
      case round =>
        obtain ⟨k, o, hk, rfl, rfl, ho, hin, HO, hbx, hb⟩ := hrel
        have HIN := Lib.hid hin
        clear hin
        by_cases hlt : k < word.size
        · have hkl : k < word.data.toList.length := by simpa using hlt
          have hnx := runN_next (es := es) hkl
          rw [← HO.out] at hnx
          have hlt8 := moveN_lt o (word[k].toNat : Int) HOK.out.sm2
          have hmv := InS.move (S := o) (l := (word[k].toNat : Int)) HOK.out.inT
          have he : word.data.toList[k] = word[k] := rfl
          rw [he] at hnx
          have HNX := Lib.hid hnx
          have M1 := Lib.hid (fun w hx => M.out o (word[k].toNat : Int) w hx ho)
          obtain ⟨q, hq⟩ : ∃ q, moveN es o (word[k].toNat : Int) = q := ⟨_, rfl⟩
          rw [hq] at HNX hlt8 hmv M1
          have HMV := Lib.hid hmv
          clear hq he hnx hmv
          have k0 : (0 : Int) ≤ (k : Int) := by omega
          have k1 : (k : Int) < (word.size : Int) := by omega
          have b0 := fun p => cellQ (blk_cell (o := 0) hbx rfl) p
          have b1 := fun p => cellQ (blk_cell (o := 1) hbx rfl) p
          have b2 := fun p => cellQ (blk_cell (o := 2) hbx rfl) p
          have HXr := Lib.hid (fun p : BelowOf wr => RdE.below (RdE.below HX.out hb) p.h)
          have HBX := Lib.hid hbx
          clear hbx
          go_wp2_with fail
          refine wp_region_below (by kernel_rfl) (by kernel_rfl) ?_
          repeat (first
            | go_big_quiet_step ((go_at_call 77; exact Calls.below_of (M1.out _ (HXr.out _))))
            | quiet_step ((go_at_call 77; exact Calls.below_of (M1.out _ (HXr.out _)))))
          refine wpQuiet_nil ?_
          intro _ hw'
          obtain ⟨⟨w5, kk⟩, hw''⟩ := hw'
          subst hw''
          have hb5 := below_step hb kk
          have hbx5 := blk_below kk HBX.out
          clear b0 b1 b2
          go_wp2
          go_roundw
          case rel => exact ⟨k + 1, q, by omega, by go_num, rfl, hlt8, HMV.out, by show _ = _; rw [HNX.out], hbx5, hb5⟩
          case measure => simp [intOf]; omega
        · obtain rfl : k = word.size := by omega
          have h := HO.out
          rw [List.take_of_length_le (by simp)] at h
          have HH := Lib.hid h
          clear h
          have b0 := blk_cell (o := 0) hbx rfl
          have b1 := blk_cell (o := 1) hbx rfl
          have b2 := blk_cell (o := 2) hbx rfl
          go_wp2_with fail
          refine (accepts_any s A B es.length c d bs o _ (RdB.below HY.out hb) (by omega) HIN.out).mono ?_
          rintro e w3 ⟨rfl, k3⟩
          go_wp2
          go_ret
          exact ⟨ret_b2 (by rw [HH.out]), below_step hb k3⟩
    · rw [PP_no hok] at C
      rw [tkB_no fun h => hok h.2]
      clear hok
      go_enter Try.func34, Try.ntmps34
      go_wp2_with fail
      refine (C.out _ (RdE.below HX.out hb1)).mono ?_
      rintro e w2 ⟨rfl, k2⟩
      go_wp2
      go_ret
      exact ⟨rfl, below_step hb1 k2⟩
  · rw [tkB_no fun h => h12 h.1]
    have h12' : (12 : Int) < (word.size : Int) := by omega
    go_enter Try.func34, Try.ntmps34
    go_wp2
    go_ret
    exact ⟨rfl, hb1⟩
end Go.Proofs.Ytdmheaommmnhoaa
