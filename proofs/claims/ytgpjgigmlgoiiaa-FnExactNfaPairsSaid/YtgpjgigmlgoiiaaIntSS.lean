/- Slices of slices of ints: in memory, compared. Conditions: the lengths. -/
import Derived.Test.YtgpjgigmlgoiiaaIntS
import Derived.Test.YtgpjgigmlgoiiaaBelowQ
import Derived.Test.YtgpjgigmlgoiiaaGraphOk
namespace Go.Proofs.Ytgpjgigmlgoiiaa
open Go.RowKit

/-- A row of ints with its place and capacity. -/
structure IrX where
  r : List Int
  K : Option Addr
  c : Nat
def IrX.v (x : IrX) : Value := .slice x.K x.r.length x.c
/-- A slice of slices of ints reads as rows. -/
def RdSS (w : World) (A : Option Addr) (rows : List (List Int)) : Prop := ∃ xs : List IrX, xs.map IrX.r = rows ∧ Rd w 1 A rows.length (xs.map IrX.v) ∧ ∀ x ∈ xs, RdI w x.K x.r.length x.r
theorem RdSS.keep {w w' : World} {A : Option Addr} {rows : List (List Int)} (h : RdSS w A rows) (hb : Below w.heap.size w w') : RdSS w' A rows := by
  obtain ⟨xs, h1, h2, h3⟩ := h
  exact ⟨xs, h1, Rd.below h2 hb, fun x hx => RdI.below (h3 x hx) hb⟩
theorem RdSS.at_ {w : World} {A : Option Addr} {rows : List (List Int)} {k : Nat} (h : RdSS w A rows) (hk : k < rows.length) :
    ∃ b o K c, A = some ⟨b, o, none⟩ ∧ w.cell? ⟨b, o + k, none⟩ = some (.slice K rows[k].length c) ∧ RdI w K rows[k].length rows[k] := by
  obtain ⟨xs, h1, h2, h3⟩ := h
  subst h1
  have hk' : k < xs.length := by simpa using hk
  obtain ⟨ad, e, hc⟩ := h2.2 (by omega)
  have d0 := hc k (xs[k].v) (by simp [hk'])
  have cz := hc 0 (xs[0].v) (by simp [show 0 < xs.length by omega])
  obtain ⟨b, off, spot⟩ := ad
  have hspot : spot = none := by simpa [Addr.add] using World.cell?_spot cz
  subst hspot
  have hp : ∀ j, (⟨b, off, none⟩ : Addr).add j = ⟨b, off + j, none⟩ := by intro j; unfold Addr.add; split <;> simp_all
  rw [hp] at d0
  refine ⟨b, off, xs[k].K, xs[k].c, e, by simpa [IrX.v] using d0, ?_⟩
  have := h3 xs[k] (List.getElem_mem hk')
  simpa using this

theorem eqIntS_bel (A B : Option Addr) (c d : Nat) (x y : List Int) (w : World) (hx : RdI w A x.length x) (hy : RdI w B y.length y) (hn : x.length ≤ 4294967296) :
    Calls Try.prog 34 #[.slice A x.length c, .slice B y.length d] w fun e w' => e = .returned (.bool (eqL x y)) ∧ Below w.heap.size w w' := by
  exact eqIntS_any A B x.length y.length c d x y w hx hy hn
set_option maxRecDepth 100000 in
set_option maxHeartbeats 3200000 in
theorem eqIntSS_any (A B : Option Addr) (c d : Nat) (ps qs : List (List Int)) (w : World) (hx : RdSS w A ps) (hy : RdSS w B qs) (hn : ps.length ≤ 4294967296) (hk : ∀ p ∈ ps, p.length ≤ 4294967296) :
    Calls Try.prog 22 #[.slice A ps.length c, .slice B qs.length d] w fun e w' => e = .returned (.bool (PP (ps = qs))) ∧ Below w.heap.size w w' := by
  have HX := Lib.hid hx
  have HY := Lib.hid hy
  have HK := Lib.hid hk
  clear hx hy hk
  by_cases hnm : ps.length = qs.length
  · have b1 : ((ps.length : Int) != (qs.length : Int)) = false := by rw [bne_eq_false_iff_eq]; omega
    have l1 : ps.length ≤ qs.length := by omega
    have l2 : qs.length ≤ ps.length := by omega
    clear hnm
    go_enter Try.func22, Try.ntmps22
    go_wp2
    go_loopw [5] (fun i wr => ∃ k : Nat, k ≤ ps.length ∧ i = .int .i64 k ∧ Hid (ps.take k = qs.take k) ∧ Below w.heap.size w wr) (fun i _ => ps.length - (intOf i).toNat)
    case atStart => exact ⟨0, Nat.zero_le _, rfl, by show _ = _; simp, Below.refl _ _⟩
    case round =>
      obtain ⟨k, hk, rfl, HE, hb⟩ := hrel
      by_cases hlt : k < ps.length
      · have hlt2 : k < qs.length := by omega
        obtain ⟨b, o, K1, d1, rfl, c0, r1⟩ := (RdSS.keep HX.out hb).at_ hlt
        obtain ⟨b', o', K2, d2, rfl, c0', r2⟩ := (RdSS.keep HY.out hb).at_ hlt2
        have hkl := HK.out ps[k] (List.getElem_mem hlt)
        obtain ⟨x, hxx⟩ : ∃ x, ps[k] = x := ⟨_, rfl⟩
        obtain ⟨y, hyy⟩ : ∃ y, qs[k] = y := ⟨_, rfl⟩
        rw [hxx] at c0 r1 hkl
        rw [hyy] at c0' r2
        have EX := Lib.hid hxx
        have EY := Lib.hid hyy
        clear hxx hyy
        have k0 : (0 : Int) ≤ (k : Int) := by omega
        have k1 : (k : Int) < (ps.length : Int) := by omega
        have k2 : (k : Int) < (qs.length : Int) := by omega
        have R1 := Lib.hid (fun p : BelowOf wr => RdI.below r1 p.h)
        have R2 := Lib.hid (fun p : BelowOf wr => RdI.below r2 p.h)
        have T := Lib.hid (fun w h1 h2 => eqIntS_bel K1 K2 d1 d2 x y w h1 h2 hkl)
        obtain ⟨r, hr⟩ : ∃ r, eqL x y = r := ⟨_, rfl⟩
        rw [hr] at T
        have HR := Lib.hid hr
        have c0 := fun p => cellQ c0 p
        have c0' := fun p => cellQ c0' p
        clear hr r1 r2
        go_wp2_with fail
        refine wp_region_below (by kernel_rfl) (by kernel_rfl) ?_
        repeat (first
          | go_big_quiet_step ((go_at_call 34; exact Calls.below_of (T.out _ (R1.out _) (R2.out _))))
          | quiet_step ((go_at_call 34; exact Calls.below_of (T.out _ (R1.out _) (R2.out _)))))
        refine wpQuiet_nil ?_
        intro w2 hw'
        obtain ⟨⟨w9, kk⟩, hw''⟩ := hw'
        subst hw''
        have hb5 := below_step hb kk
        clear c0 c0'
        cases r
        · go_wp2
          go_ret
          refine ⟨ret_b2 (PP_no fun h => ?_).symm, hb5⟩
          have h1 : ps[k] = qs[k] := by subst h; rfl
          rw [EX.out, EY.out] at h1
          have h2 := HR.out
          rw [eqL_yes h1] at h2
          cases h2
        · go_wp2
          go_roundw
          case rel =>
            refine ⟨k + 1, by omega, by go_num, ?_, hb5⟩
            show _ = _
            have h2 : x = y := by
              refine Classical.byContradiction fun h => ?_
              have h3 := HR.out
              rw [eqL_no h] at h3
              cases h3
            rw [List.take_succ_eq_append_getElem hlt, List.take_succ_eq_append_getElem hlt2, HE.out, EX.out, EY.out, h2]
          case measure => simp [intOf]; omega
      · obtain rfl : k = ps.length := by omega
        go_wp2
        go_ret
        refine ⟨ret_b2 (PP_yes ?_).symm, hb⟩
        have := HE.out
        rw [List.take_of_length_le (Nat.le_refl _), List.take_of_length_le l2] at this
        exact this
  · have b1 : ((ps.length : Int) != (qs.length : Int)) = true := by rw [bne_iff_ne]; omega
    rw [PP_no (fun h => hnm (by rw [h]))]
    clear hnm
    go_enter Try.func22, Try.ntmps22
    go_wp2
    go_ret
    exact ⟨rfl, Below.refl _ _⟩
end Go.Proofs.Ytgpjgigmlgoiiaa
