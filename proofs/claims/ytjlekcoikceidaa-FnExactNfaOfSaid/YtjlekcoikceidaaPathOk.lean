/- PathOk: the program's function. Conditions: the sizes of the lengths. -/
import Derived.Test.YtjlekcoikceidaaPath
namespace Go.Proofs.Ytjlekcoikceidaa
open Go.RowKit

def KidsOk (ks : List Int) (j : Int) : Prop := ∀ z ∈ ks, 0 ≤ z ∧ z < j
/-- A valid piece at a place. -/
def PcOk (x : Pc) (j : Int) : Prop :=
  (x.op = 1 ∧ lblB x.l = true ∧ x.k.length = 0) ∨ ((x.op = 2 ∨ x.op = 3) ∧ 2 ≤ x.k.length ∧ x.l = 0 ∧ KidsOk x.k j) ∨ ((x.op = 4 ∨ x.op = 5 ∨ x.op = 6) ∧ x.k.length = 1 ∧ x.l = 0 ∧ KidsOk x.k j)
/-- A valid path. -/
def PaOk (ps : List Pc) : Prop := (1 ≤ ps.length ∧ ps.length ≤ 60) ∧ ∀ i (h : i < ps.length), PcOk ps[i] (i : Int)
theorem PcOk.mid {x : Pc} {j : Int} (h : PcOk x j) (h2 : x.op = 2 ∨ x.op = 3) : 2 ≤ x.k.length ∧ x.l = 0 ∧ KidsOk x.k j := by
  rcases h with ⟨h, _⟩ | ⟨_, h⟩ | ⟨h, _⟩
  · omega
  · exact h
  · omega
theorem PcOk.one {x : Pc} {j : Int} (h : PcOk x j) (h2 : x.op = 4 ∨ x.op = 5 ∨ x.op = 6) : x.k.length = 1 ∧ x.l = 0 ∧ KidsOk x.k j := by
  rcases h with ⟨h, _⟩ | ⟨h, _⟩ | ⟨_, h⟩
  · omega
  · omega
  · exact h
theorem PcOk.step {x : Pc} {j : Int} (h : PcOk x j) (h2 : x.op = 1) : lblB x.l = true ∧ x.k.length = 0 := by
  rcases h with ⟨_, h⟩ | ⟨h, _⟩ | ⟨h, _⟩
  · exact h
  · omega
  · omega
theorem PcOk.ops {x : Pc} {j : Int} (h : PcOk x j) : 1 ≤ x.op ∧ x.op ≤ 6 := by
  rcases h with ⟨h, _⟩ | ⟨h, _⟩ | ⟨h, _⟩ <;> omega

set_option maxRecDepth 100000 in
set_option maxHeartbeats 6400000 in
theorem pieceOk_any (x : Pc) (A : Option Addr) (c : Nat) (j : Int) (w : World) (hx : RdI w A x.k.length x.k) (hn : x.k.length ≤ 4294967296) :
    Calls Try.prog 39 #[.agg #[.int .i64 x.op, .int .u8 x.l, .slice A x.k.length c], .int .i64 j] w fun e w' => e = .returned (.bool (PP (PcOk x j))) ∧ Below w.heap.size w w' := by
  have HX := Lib.hid hx
  have CL := Lib.hid (fun w => isLabel_any x.l w)
  obtain ⟨P, hP⟩ : ∃ P : Prop, PcOk x j = P := ⟨_, rfl⟩
  have HP := Lib.hid hP
  have HYES := Lib.hid (fun h : PcOk x j => PP_yes (p := P) (hP ▸ h))
  have HNO := Lib.hid (fun h : ¬ PcOk x j => PP_no (p := P) (hP ▸ h))
  rw [hP]
  clear hP hx
  obtain ⟨op, l, ks⟩ := x
  simp only at HX CL hn ⊢
  by_cases h1 : op = 1
  · subst h1
    cases hq : lblB l with
    | false =>
      rw [hq] at CL
      rw [HNO.out (fun h => by have := (h.step rfl).1; simp only at this; rw [hq] at this; cases this)]
      clear hq
      go_enter Try.func39, Try.ntmps39
      go_wp2_with (go_at_call 49; refine (CL.out _).mono ?_; rintro e w1 ⟨rfl, rfl⟩)
      go_ret
      exact ⟨rfl, below_alloc _ _⟩
    | true =>
      rw [hq] at CL
      by_cases h0 : ks.length = 0
      · have hz : ((ks.length : Int) == 0) = true := by simp [h0]
        rw [HYES.out (.inl ⟨rfl, hq, h0⟩)]
        clear hq h0
        go_enter Try.func39, Try.ntmps39
        go_wp2_with (go_at_call 49; refine (CL.out _).mono ?_; rintro e w1 ⟨rfl, rfl⟩)
        go_ret
        exact ⟨by simp, below_alloc _ _⟩
      · have hz : ((ks.length : Int) == 0) = false := by simpa using h0
        rw [HNO.out (fun h => h0 (h.step rfl).2)]
        clear hq h0
        go_enter Try.func39, Try.ntmps39
        go_wp2_with (go_at_call 49; refine (CL.out _).mono ?_; rintro e w1 ⟨rfl, rfl⟩)
        go_ret
        exact ⟨by simp, below_alloc _ _⟩
  by_cases hop : 1 ≤ op ∧ op ≤ 6
  · have hcase : (op = 2 ∨ op = 3) ∨ (op = 4 ∨ op = 5 ∨ op = 6) := by omega
    have hgood : (((op = 2 ∨ op = 3) ∧ 2 ≤ ks.length) ∨ ((op = 4 ∨ op = 5 ∨ op = 6) ∧ ks.length = 1)) ∨ (((op = 2 ∨ op = 3) ∧ ks.length < 2) ∨ ((op = 4 ∨ op = 5 ∨ op = 6) ∧ ks.length ≠ 1)) := by omega
    clear h1 hop hcase
    rcases hgood with hgood | hbad
    · have HFIN : Hid (KidsOk ks j → l = 0 → PP P = true) := Lib.hid (fun hk hl => HYES.out (by
        rcases hgood with ⟨h, h2⟩ | ⟨h, h2⟩
        · exact .inr (.inl ⟨h, h2, hl, hk⟩)
        · exact .inr (.inr ⟨h, h2, hl, hk⟩)))
      have HBAD : Hid (¬ (KidsOk ks j ∧ l = 0) → PP P = false) := Lib.hid (fun hk => HNO.out (fun h => hk (by
        rcases hgood with ⟨h1, h2⟩ | ⟨h1, h2⟩
        · exact ⟨(h.mid h1).2.2, (h.mid h1).2.1⟩
        · exact ⟨(h.one h1).2.2, (h.one h1).2.1⟩)))
      have hcs : (op = 2 ∧ 2 ≤ ks.length) ∨ (op = 3 ∧ 2 ≤ ks.length) ∨ (op = 4 ∧ ks.length = 1) ∨ (op = 5 ∧ ks.length = 1) ∨ (op = 6 ∧ ks.length = 1) := by omega
      have HXA := Lib.hid (RdI.alloc HX.out (.cells #[.int .i64 op, .int .u8 l, .slice A ks.length c] 78))
      clear hgood HYES HNO HP CL
      rcases hcs with ⟨rfl, hlen⟩ | ⟨rfl, hlen⟩ | ⟨rfl, hlen⟩ | ⟨rfl, hlen⟩ | ⟨rfl, hlen⟩
      all_goals
        first
          | (have hl2 : ¬ ((ks.length : Int) < 2) := by omega)
          | skip
        first
          | (have hl1 : ((ks.length : Int) != 1) = false := by rw [hlen]; rfl)
          | skip
        have HLEN := Lib.hid hlen
        clear hlen
        go_enter Try.func39, Try.ntmps39
        go_wp2
        go_loop [38] (fun i => ∃ k : Nat, k ≤ ks.length ∧ i = .int .i64 k ∧ Hid (∀ z ∈ ks.take k, 0 ≤ z ∧ z < j)) (fun i => ks.length - (intOf i).toNat)
        case atStart => exact ⟨0, Nat.zero_le _, rfl, Lib.hid (by simp)⟩
        case round =>
          obtain ⟨k, hk, rfl, HK⟩ := hrel
          by_cases hlt : k < ks.length
          · obtain ⟨ad, rfl, hc⟩ := HXA.out.at_ hlt
            have he : ks.getD k 0 = ks[k] := by simp [List.getD, List.getElem?_eq_getElem hlt]
            rw [he] at hc
            obtain ⟨z, hz⟩ : ∃ z, ks[k] = z := ⟨_, rfl⟩
            rw [hz] at hc
            have HZ := Lib.hid hz
            have k0 : (0 : Int) ≤ (k : Int) := by omega
            have k1 : (k : Int) < (ks.length : Int) := by omega
            clear he hz
            by_cases g1 : z < 0
            · go_wp2
              go_ret
              exact ⟨by rw [HBAD.out (fun h => by have := (h.1 ks[k] (List.getElem_mem hlt)).1; rw [HZ.out] at this; omega)]; rfl, below_alloc _ _⟩
            by_cases g2 : j ≤ z
            · have g1' : 0 ≤ z := by omega
              go_wp2
              go_ret
              exact ⟨by rw [HBAD.out (fun h => by have := (h.1 ks[k] (List.getElem_mem hlt)).2; rw [HZ.out] at this; omega)]; rfl, below_alloc _ _⟩
            have g1' : 0 ≤ z := by omega
            have g2' : z < j := by omega
            go_wp2
            go_round
            case rel =>
              refine ⟨k + 1, by omega, by go_num, Lib.hid fun y hy => ?_⟩
              rw [List.take_succ_eq_append_getElem hlt] at hy
              rcases List.mem_append.1 hy with hy | hy
              · exact HK.out y hy
              · simp only [List.mem_cons, List.not_mem_nil, or_false] at hy
                rw [hy, HZ.out]
                exact ⟨g1', g2'⟩
            case measure => simp [intOf]; omega
          · obtain rfl : k = ks.length := by omega
            have hko : KidsOk ks j := by
              have := HK.out
              rw [List.take_of_length_le (Nat.le_refl _)] at this
              exact this
            have HKO := Lib.hid hko
            clear hko
            by_cases hl : l = 0
            · have hl0 : (l == 0) = true := by simp [hl]
              have HLL := Lib.hid hl
              clear hl
              go_wp2
              go_ret
              exact ⟨by rw [HFIN.out HKO.out HLL.out]; rfl, below_alloc _ _⟩
            · have hl0 : (l == 0) = false := by simpa using hl
              have HLL := Lib.hid hl
              clear hl
              go_wp2
              go_ret
              exact ⟨by rw [HBAD.out (fun h => HLL.out h.2)]; rfl, below_alloc _ _⟩
    · rw [HNO.out (fun h => by
        rcases hbad with ⟨h1, h2⟩ | ⟨h1, h2⟩
        · have := (h.mid h1).1; simp only at this; omega
        · exact h2 (h.one h1).1)]
      have hcs : (op = 2 ∧ ks.length < 2) ∨ (op = 3 ∧ ks.length < 2) ∨ (op = 4 ∧ ks.length ≠ 1) ∨ (op = 5 ∧ ks.length ≠ 1) ∨ (op = 6 ∧ ks.length ≠ 1) := by omega
      clear hbad
      rcases hcs with ⟨rfl, hlen⟩ | ⟨rfl, hlen⟩ | ⟨rfl, hlen⟩ | ⟨rfl, hlen⟩ | ⟨rfl, hlen⟩
      all_goals
        first
          | (have hl2 : (ks.length : Int) < 2 := by omega)
          | skip
        first
          | (have hl1 : ((ks.length : Int) != 1) = true := by rw [bne_iff_ne]; omega)
          | skip
        clear hlen
        go_enter Try.func39, Try.ntmps39
        go_wp2
        go_ret
        exact ⟨rfl, below_alloc _ _⟩
  · rw [HNO.out (fun h => hop h.ops)]
    have n1 : (op == 1) = false := by simp; omega
    have n2 : (op == 2) = false := by simp; omega
    have n3 : (op == 3) = false := by simp; omega
    have n4 : (op == 4) = false := by simp; omega
    have n5 : (op == 5) = false := by simp; omega
    have n6 : (op == 6) = false := by simp; omega
    clear hop h1
    go_enter Try.func39, Try.ntmps39
    go_wp2
    go_ret
    exact ⟨rfl, below_alloc _ _⟩

/-- The first k pieces are valid. -/
def PaTo (ps : List Pc) (k : Nat) : Prop := ∀ i (h : i < ps.length), i < k → PcOk ps[i] (i : Int)
theorem PaTo.next {ps : List Pc} {k : Nat} (h : PaTo ps k) (hk : k < ps.length) (hp : PcOk ps[k] (k : Int)) : PaTo ps (k + 1) := by
  intro i hi hlt
  by_cases e : i = k
  · subst e; exact hp
  · exact h i hi (by omega)

set_option maxRecDepth 100000 in
set_option maxHeartbeats 3200000 in
theorem impl_PathOk_any (A : Option Addr) (c : Nat) (ps : List Pc) (w : World) (hx : RdP w A ps) (hn : ps.length ≤ 4294967296) (hk : ∀ p ∈ ps, p.k.length ≤ 4294967296) :
    Calls Try.prog 19 #[.agg #[.slice A ps.length c]] w fun e w' => e = .returned (.bool (PP (PaOk ps))) ∧ Below w.heap.size w w' := by
  have HX := Lib.hid hx
  have HK := Lib.hid hk
  clear hx hk
  by_cases hg : 1 ≤ ps.length ∧ ps.length ≤ 60
  · obtain ⟨hg1, hg2⟩ := hg
    go_enter Try.func19, Try.ntmps19
    go_wp2
    go_loopw [18] (fun i wr => ∃ k : Nat, k ≤ ps.length ∧ i = .int .i64 k ∧ Hid (PaTo ps k) ∧ Below w.heap.size w wr) (fun i _ => ps.length - (intOf i).toNat)
    case atStart => exact ⟨0, Nat.zero_le _, rfl, Lib.hid (fun i _ h => absurd h (by omega)), below_alloc _ _⟩
    case round =>
      obtain ⟨k, hk, rfl, HP, hb⟩ := hrel
      by_cases hlt : k < ps.length
      · obtain ⟨b, o, Kk, ck, rfl, c0, c1, c2, hrk⟩ := (RdP.keep HX.out hb).at_ hlt
        have hkl := HK.out ps[k] (List.getElem_mem hlt)
        obtain ⟨x, hxx⟩ : ∃ x, ps[k] = x := ⟨_, rfl⟩
        rw [hxx] at c0 c1 c2 hkl hrk
        have EX := Lib.hid hxx
        have k0 : (0 : Int) ≤ (k : Int) := by omega
        have k1 : (k : Int) < (ps.length : Int) := by omega
        have T := Lib.hid (pieceOk_any x Kk ck (k : Int) (wr.alloc (.cells #[.int .i64 x.op, .int .u8 x.l, .slice Kk x.k.length ck] 78)) (hrk.alloc _) hkl)
        obtain ⟨r, hr⟩ : ∃ r, PP (PcOk x (k : Int)) = r := ⟨_, rfl⟩
        rw [hr] at T
        have HR := Lib.hid hr
        clear hxx hrk hr
        cases r
        · go_wp2_with fail
          refine T.out.mono ?_
          rintro e w1 ⟨rfl, hb1⟩
          go_wp2
          go_ret
          refine ⟨ret_b2 (PP_no fun h => ?_).symm, below_step (hb.alloc hb.size _) hb1⟩
          have h1 := h.2 k hlt
          rw [EX.out] at h1
          have h2 := HR.out
          rw [PP_yes h1] at h2
          cases h2
        · go_wp2_with fail
          refine T.out.mono ?_
          rintro e w1 ⟨rfl, hb1⟩
          go_wp2
          go_roundw
          case rel =>
            refine ⟨k + 1, by omega, by go_num, Lib.hid (HP.out.next hlt ?_), below_step (hb.alloc hb.size _) hb1⟩
            rw [EX.out]
            have h2 := HR.out
            unfold PP at h2
            exact @of_decide_eq_true _ (Classical.propDecidable _) h2
          case measure => simp [intOf]; omega
      · obtain rfl : k = ps.length := by omega
        go_wp2
        go_ret
        exact ⟨ret_b2 (PP_yes ⟨⟨hg1, hg2⟩, fun i hi => HP.out i hi hi⟩).symm, hb⟩
  · rw [PP_no (fun h => hg h.1)]
    rcases (by omega : ps.length < 1 ∨ (1 ≤ ps.length ∧ 60 < ps.length)) with h1 | ⟨h1, h2⟩
    all_goals
      clear hg
      go_enter Try.func19, Try.ntmps19
      go_wp2
      go_ret
      exact ⟨rfl, below_alloc _ _⟩
end Go.Proofs.Ytjlekcoikceidaa
