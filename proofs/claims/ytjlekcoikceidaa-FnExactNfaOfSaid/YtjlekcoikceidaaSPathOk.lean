/- PathOk: the reference's function. Conditions: the sizes of the lengths. -/
import Derived.Test.YtjlekcoikceidaaPathOk
import Derived.Test.YtjlekcoikceidaaIn
namespace Go.Proofs.Ytjlekcoikceidaa
open Go.RowKit

theorem PcOk.lbl {x : Pc} {j : Int} (h : PcOk x j) : (x.op = 1 ∧ 97 ≤ x.l ∧ x.l ≤ 100 ∧ x.k.length = 0) ∨ ((x.op = 2 ∨ x.op = 3) ∧ x.l = 0 ∧ 2 ≤ x.k.length) ∨ ((x.op = 4 ∨ x.op = 5 ∨ x.op = 6) ∧ x.l = 0 ∧ x.k.length = 1) := by
  rcases h with ⟨h, h2, h3⟩ | ⟨h, h2, h3, _⟩ | ⟨h, h2, h3, _⟩
  · simp only [lblB, Bool.and_eq_true, decide_eq_true_eq] at h2
    exact .inl ⟨h, h2.1, h2.2, h3⟩
  · exact .inr (.inl ⟨h, h3, h2⟩)
  · exact .inr (.inr ⟨h, h3, h2⟩)
theorem PcOk.kids {x : Pc} {j : Int} (h : PcOk x j) : KidsOk x.k j := by
  rcases h with ⟨h, h2, h3⟩ | ⟨h, h2, h3, h4⟩ | ⟨h, h2, h3, h4⟩
  · intro z hz
    rw [List.length_eq_zero_iff.1 h3] at hz
    cases hz
  · exact h4
  · exact h4
theorem PcOk.of {x : Pc} {j : Int} (h : (x.op = 1 ∧ 97 ≤ x.l ∧ x.l ≤ 100 ∧ x.k.length = 0) ∨ ((x.op = 2 ∨ x.op = 3) ∧ x.l = 0 ∧ 2 ≤ x.k.length) ∨ ((x.op = 4 ∨ x.op = 5 ∨ x.op = 6) ∧ x.l = 0 ∧ x.k.length = 1)) (hk : KidsOk x.k j) : PcOk x j := by
  rcases h with ⟨h, h2, h3, h4⟩ | ⟨h, h2, h3⟩ | ⟨h, h2, h3⟩
  · exact .inl ⟨h, by simp only [lblB, Bool.and_eq_true, decide_eq_true_eq]; exact ⟨h2, h3⟩, h4⟩
  · exact .inr (.inl ⟨h, h3, h2, hk⟩)
  · exact .inr (.inr ⟨h, h3, h2, hk⟩)

theorem pc_cases (op l : Int) (n : Nat) : ((op = 1 ∧ 97 ≤ l ∧ l ≤ 100 ∧ n = 0) ∨ (op = 2 ∧ l = 0 ∧ 2 ≤ n) ∨ (op = 3 ∧ l = 0 ∧ 2 ≤ n) ∨ (op = 4 ∧ l = 0 ∧ n = 1) ∨ (op = 5 ∧ l = 0 ∧ n = 1) ∨ (op = 6 ∧ l = 0 ∧ n = 1))
          ∨ ((op = 1 ∧ l < 97) ∨ (op = 1 ∧ 97 ≤ l ∧ 100 < l) ∨ (op = 1 ∧ 97 ≤ l ∧ l ≤ 100 ∧ n ≠ 0))
          ∨ ((op = 2 ∧ l ≠ 0) ∨ (op = 2 ∧ l = 0 ∧ n < 2) ∨ (op = 3 ∧ l ≠ 0) ∨ (op = 3 ∧ l = 0 ∧ n < 2))
          ∨ ((op = 4 ∧ l ≠ 0) ∨ (op = 4 ∧ l = 0 ∧ n ≠ 1) ∨ (op = 5 ∧ l ≠ 0) ∨ (op = 5 ∧ l = 0 ∧ n ≠ 1) ∨ (op = 6 ∧ l ≠ 0) ∨ (op = 6 ∧ l = 0 ∧ n ≠ 1))
          ∨ (op < 1 ∨ 6 < op) := by
  by_cases h : op < 1 ∨ 6 < op
  · exact .inr (.inr (.inr (.inr h)))
  by_cases l0 : l = 0
  · by_cases n1 : n = 1
    · rcases (by omega : op = 1 ∨ op = 2 ∨ op = 3 ∨ op = 4 ∨ op = 5 ∨ op = 6) with h | h | h | h | h | h <;> subst h l0 n1 <;> simp
    · by_cases n2 : n < 2
      · rcases (by omega : op = 1 ∨ op = 2 ∨ op = 3 ∨ op = 4 ∨ op = 5 ∨ op = 6) with h | h | h | h | h | h <;> subst h l0 <;> simp [n1, n2] <;> omega
      · rcases (by omega : op = 1 ∨ op = 2 ∨ op = 3 ∨ op = 4 ∨ op = 5 ∨ op = 6) with h | h | h | h | h | h <;> subst h l0 <;> simp [n1, n2] <;> omega
  · rcases (by omega : op = 1 ∨ op = 2 ∨ op = 3 ∨ op = 4 ∨ op = 5 ∨ op = 6) with h | h | h | h | h | h <;> subst h <;> simp [l0] <;> omega
set_option maxRecDepth 100000 in
set_option linter.unusedSimpArgs false in
set_option maxHeartbeats 12800000 in
theorem spec_PathOk_any (A : Option Addr) (c : Nat) (ps : List Pc) (w : World) (hx : RdP w A ps) (hn : ps.length ≤ 4294967296) (hk : ∀ p ∈ ps, p.k.length ≤ 4294967296) :
    Calls Try.prog 14 #[.agg #[.slice A ps.length c]] w fun e w' => e = .returned (.bool (PP (PaOk ps))) ∧ Below w.heap.size w w' := by
  have HX := Lib.hid hx
  have HK := Lib.hid hk
  have I0 := Lib.hid (fun w => spec_l01In_any (ps.length : Int) 1 60 w)
  clear hx hk
  obtain ⟨r0, hr0⟩ : ∃ r, (decide ((1 : Int) ≤ (ps.length : Int)) && decide ((ps.length : Int) ≤ 60)) = r := ⟨_, rfl⟩
  rw [hr0] at I0
  have HR0 := Lib.hid hr0
  clear hr0
  go_enter Try.func14, Try.ntmps14
  go_wp2
  go_loopw [3] (fun i wr => ∃ k : Nat, k ≤ ps.length ∧ i = .int .i64 k ∧ Hid (PaTo ps k) ∧ wr.heap[w.heap.size]? = some (.cells #[.slice A ps.length c] 34 (0, 0)) ∧ Below w.heap.size w wr) (fun i _ => ps.length - (intOf i).toNat)
  case atStart => exact ⟨0, Nat.zero_le _, rfl, Lib.hid (fun i _ h => absurd h (by omega)), heap_alloc_new _ _, below_alloc _ _⟩
  case round =>
    obtain ⟨k, hk, rfl, HP, hbx, hb⟩ := hrel
    obtain ⟨wo, rfl⟩ : ∃ wo : World, wo = wr := ⟨_, rfl⟩
    have HBX := Lib.hid hbx
    have b0 := blk_cell (o := 0) hbx rfl
    have hbl := blk_lt hbx
    clear hbx
    by_cases hlt : k < ps.length
    · obtain ⟨b, o, Kk, ck, rfl, c0, c1, c2, hrk⟩ := (RdP.keep HX.out hb).at_ hlt
      have hkl := HK.out ps[k] (List.getElem_mem hlt)
      obtain ⟨x, hxx⟩ : ∃ x, ps[k] = x := ⟨_, rfl⟩
      rw [hxx] at c0 c1 c2 hkl hrk
      have HNO : Hid (¬ PcOk x (k : Int) → PP (PaOk ps) = false) := Lib.hid (fun h => PP_no fun hh => h (by have := hh.2 k hlt; rwa [hxx] at this))
      have HYES : Hid (PcOk x (k : Int) → PaTo ps (k + 1)) := Lib.hid (fun h => HP.out.next hlt (by rw [hxx]; exact h))
      have k0 : (0 : Int) ≤ (k : Int) := by omega
      have k1 : (k : Int) < (ps.length : Int) := by omega
      clear hxx I0
      obtain ⟨op, l, ks⟩ := x
      simp only at c0 c1 c2 hkl hrk
      have HXA := Lib.hid (RdI.alloc hrk (.cells #[.int .i64 op, .int .u8 l, .slice Kk ks.length ck] 78))
      have HB3 := Lib.hid (hb.alloc hb.size (.cells #[.int .i64 op, .int .u8 l, .slice Kk ks.length ck] 78))
      have HBX3 := Lib.hid (blk_below (below_alloc wo (.cells #[.int .i64 op, .int .u8 l, .slice Kk ks.length ck] 78)) HBX.out)
      clear hrk hb
      have hcs : ((op = 1 ∧ 97 ≤ l ∧ l ≤ 100 ∧ ks.length = 0) ∨ (op = 2 ∧ l = 0 ∧ 2 ≤ ks.length) ∨ (op = 3 ∧ l = 0 ∧ 2 ≤ ks.length) ∨ (op = 4 ∧ l = 0 ∧ ks.length = 1) ∨ (op = 5 ∧ l = 0 ∧ ks.length = 1) ∨ (op = 6 ∧ l = 0 ∧ ks.length = 1))
          ∨ ((op = 1 ∧ l < 97) ∨ (op = 1 ∧ 97 ≤ l ∧ 100 < l) ∨ (op = 1 ∧ 97 ≤ l ∧ l ≤ 100 ∧ ks.length ≠ 0))
          ∨ ((op = 2 ∧ l ≠ 0) ∨ (op = 2 ∧ l = 0 ∧ ks.length < 2) ∨ (op = 3 ∧ l ≠ 0) ∨ (op = 3 ∧ l = 0 ∧ ks.length < 2))
          ∨ ((op = 4 ∧ l ≠ 0) ∨ (op = 4 ∧ l = 0 ∧ ks.length ≠ 1) ∨ (op = 5 ∧ l ≠ 0) ∨ (op = 5 ∧ l = 0 ∧ ks.length ≠ 1) ∨ (op = 6 ∧ l ≠ 0) ∨ (op = 6 ∧ l = 0 ∧ ks.length ≠ 1))
          ∨ (op < 1 ∨ 6 < op) := pc_cases op l ks.length
      rcases hcs with hg | hbad | hbad | hbad | hbad
      · have HFIN : Hid (KidsOk ks (k : Int) → PaTo ps (k + 1)) := Lib.hid (fun h => HYES.out (PcOk.of (by rcases hg with h | h | h | h | h | h <;> simp only <;> omega) h))
        have HBAD : Hid (¬ KidsOk ks (k : Int) → PP (PaOk ps) = false) := Lib.hid (fun h => HNO.out (fun hh => h hh.kids))
        clear HYES HNO
        rcases hg with ⟨rfl, h1, h2, h3⟩ | ⟨rfl, rfl, h3⟩ | ⟨rfl, rfl, h3⟩ | ⟨rfl, rfl, h3⟩ | ⟨rfl, rfl, h3⟩ | ⟨rfl, rfl, h3⟩
        all_goals
          first
            | (have d2 : ((ks.length : Int) != 0) = false := by rw [h3]; rfl)
            | (have d2 : ((ks.length : Int) != 1) = false := by rw [h3]; rfl)
            | (have d2 : ¬ ((ks.length : Int) < 2) := by omega)
          have H3 := Lib.hid h3
          clear h3
          go_wp2
          clear d2
          clear b0 c0 c1 c2 hbl
          go_loop [6] (fun i => ∃ q : Nat, q ≤ ks.length ∧ i = .int .i64 q ∧ Hid (∀ z ∈ ks.take q, 0 ≤ z ∧ z < (k : Int))) (fun i => ks.length - (intOf i).toNat)
          case atStart => exact ⟨0, Nat.zero_le _, rfl, Lib.hid (by simp)⟩
          case round =>
            obtain ⟨q, hq, rfl, HQ⟩ := hrel
            by_cases hlq : q < ks.length
            · obtain ⟨ad, rfl, hc⟩ := HXA.out.at_ hlq
              have he : ks.getD q 0 = ks[q] := by simp [List.getD, List.getElem?_eq_getElem hlq]
              rw [he] at hc
              obtain ⟨z, hz⟩ : ∃ z, ks[q] = z := ⟨_, rfl⟩
              rw [hz] at hc
              have HZ := Lib.hid hz
              have q0 : (0 : Int) ≤ (q : Int) := by omega
              have q1 : (q : Int) < (ks.length : Int) := by omega
              have w1 : IntKind.i64.wrap ((k : Int) - 1) = (k : Int) - 1 := IntWalk.i64_in _ (by omega)
              clear he hz
              have V := Lib.hid (fun w => spec_l01In_any z 0 ((k : Int) - 1) w)
              by_cases g : 0 ≤ z ∧ z < (k : Int)
              · rw [show (decide ((0 : Int) ≤ z) && decide (z ≤ (k : Int) - 1)) = true by simp; omega] at V
                have G := Lib.hid g
                clear g
                go_wp2_with fail
                refine (V.out _).mono ?_
                rintro e w1 ⟨rfl, rfl⟩
                go_wp2
                go_round
                case rel =>
                  refine ⟨q + 1, by omega, by go_num, Lib.hid fun y hy => ?_⟩
                  rw [List.take_succ_eq_append_getElem hlq] at hy
                  rcases List.mem_append.1 hy with hy | hy
                  · exact HQ.out y hy
                  · simp only [List.mem_cons, List.not_mem_nil, or_false] at hy
                    rw [hy, HZ.out]
                    exact G.out
                case measure => simp [intOf]; omega
              · rw [show (decide ((0 : Int) ≤ z) && decide (z ≤ (k : Int) - 1)) = false by simp; omega] at V
                have G := Lib.hid g
                clear g
                go_wp2_with fail
                refine (V.out _).mono ?_
                rintro e w1 ⟨rfl, rfl⟩
                go_wp2
                go_ret
                exact ⟨ret_b2 (HBAD.out fun h => G.out (by have := h ks[q] (List.getElem_mem hlq); rwa [HZ.out] at this)).symm, HB3.out⟩
            · obtain rfl : q = ks.length := by omega
              have hko : KidsOk ks (k : Int) := by
                have := HQ.out
                rw [List.take_of_length_le (Nat.le_refl _)] at this
                exact this
              have HKO := Lib.hid (HFIN.out hko)
              clear hko
              go_wp2
              go_roundw
              case rel => exact ⟨k + 1, by omega, by go_num, Lib.hid HKO.out, HBX3.out, HB3.out⟩
              case measure => simp [intOf]; omega
      · have HN := Lib.hid (HNO.out (fun h => by have := h.lbl; simp only at this; omega))
        clear HNO HYES
        rcases hbad with ⟨rfl, h1⟩ | ⟨rfl, h1, h2⟩ | ⟨rfl, h1, h2, h3⟩
        · go_wp2
          go_ret
          exact ⟨ret_b2 HN.out.symm, HB3.out⟩
        · go_wp2
          go_ret
          exact ⟨ret_b2 HN.out.symm, HB3.out⟩
        · have d1 : ((ks.length : Int) != 0) = true := by rw [bne_iff_ne]; omega
          go_wp2
          go_ret
          exact ⟨ret_b2 HN.out.symm, HB3.out⟩
      · have HN := Lib.hid (HNO.out (fun h => by have := h.lbl; simp only at this; omega))
        clear HNO HYES
        rcases hbad with ⟨rfl, h1⟩ | ⟨rfl, rfl, h2⟩ | ⟨rfl, h1⟩ | ⟨rfl, rfl, h2⟩
        all_goals
          first
            | (have d1 : (l != 0) = true := by rw [bne_iff_ne]; exact h1)
            | skip
          go_wp2
          go_ret
          exact ⟨ret_b2 HN.out.symm, HB3.out⟩
      · have HN := Lib.hid (HNO.out (fun h => by have := h.lbl; simp only at this; omega))
        clear HNO HYES
        rcases hbad with ⟨rfl, h1⟩ | ⟨rfl, rfl, h2⟩ | ⟨rfl, h1⟩ | ⟨rfl, rfl, h2⟩ | ⟨rfl, h1⟩ | ⟨rfl, rfl, h2⟩
        all_goals
          first
            | (have d1 : (l != 0) = true := by rw [bne_iff_ne]; exact h1)
            | skip
          first
            | (have d2 : ((ks.length : Int) != 1) = true := by rw [bne_iff_ne]; omega)
            | skip
          go_wp2
          go_ret
          exact ⟨ret_b2 HN.out.symm, HB3.out⟩
      · have HN := Lib.hid (HNO.out (fun h => by have := h.lbl; simp only at this; omega))
        clear HNO HYES
        have n1 : (op == 1) = false := by simp; omega
        have n2 : (op == 2) = false := by simp; omega
        have n3 : (op == 3) = false := by simp; omega
        have n4 : (op == 4) = false := by simp; omega
        have n5 : (op == 5) = false := by simp; omega
        have n6 : (op == 6) = false := by simp; omega
        clear hbad
        go_wp2
        go_ret
        exact ⟨ret_b2 HN.out.symm, HB3.out⟩
    · obtain rfl : k = ps.length := by omega
      go_wp2_with fail
      refine (I0.out _).mono ?_
      rintro e w1 ⟨rfl, rfl⟩
      go_wp2
      go_ret
      refine ⟨ret_b2 ?_, hb⟩
      have h0 := HR0.out
      cases r0
      · refine (PP_no fun h => ?_).symm
        simp at h0
        have := h.1
        omega
      · simp at h0
        exact (PP_yes ⟨by omega, fun i hi => HP.out i hi hi⟩).symm
end Go.Proofs.Ytjlekcoikceidaa
