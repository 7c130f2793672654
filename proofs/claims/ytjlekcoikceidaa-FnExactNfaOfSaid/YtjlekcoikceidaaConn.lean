/- positions.connect: the row of who may follow whom. Conditions: the sets in their range. -/
import Derived.Test.YtjlekcoikceidaaVsP
import Derived.Test.YtjlekcoikceidaaMLkB
namespace Go.Proofs.Ytjlekcoikceidaa
open Go.RowKit

/-- What a walk over the path holds. -/
structure PosI (gm q : Nat) (P vl vf : Value) (labs : List Int) (fw : List Nat) (w : World) : Prop where
  box : w.heap[gm]? = some (.cells #[P, vl, vf] 57 (0, 0))
  lo : w.ownsRow q 5 1 vl labs.length (labs.map (Value.int .u8))
  fo : w.ownsRow q 58 1 vf fw.length (u32s fw)
def In32 (fw : List Nat) : Prop := ∀ i, fw.getD i 0 < 16777216
theorem conN_in {N : Nat} (hN : N < 16777216) (zs : List Int) {fw : List Nat} (h : In32 fw) : In32 (conN N fw zs) := by
  intro i
  by_cases hi : i < fw.length
  · rw [conN_at N zs fw i hi]
    split
    · have := h i
      rw [show 16777216 = 2 ^ 24 by rfl] at *
      exact Nat.or_lt_two_pow this hN
    · exact h i
  · have : (conN N fw zs).getD i 0 = 0 := by
      have hl := conN_len N zs fw
      simp [List.getD, show (conN N fw zs)[i]? = none from List.getElem?_eq_none (by omega)]
    rw [this]
    omega

set_option maxRecDepth 100000 in
set_option maxHeartbeats 6400000 in
theorem connect_any (gm q : Nat) (P vl vf : Value) (labs : List Int) (fw : List Nat) (S N : Nat) (w : World) (h : PosI gm q P vl vf labs fw w) (hS : S < 16777216) (hb : ∀ i, S.testBit i = true → i < fw.length) (hN : N < 16777216) (hfw : In32 fw) (hq : q ≤ w.heap.size) (hl : fw.length ≤ 24) :
    Calls Try.prog 40 #[.pointer (some ⟨gm, 0, none⟩), .int .u32 S, .int .u32 N] w
      (fun e w' => e = .returned (.tuple #[]) ∧ PosI gm q P vl vf labs (conN N fw (bitsTo S 32)) w' ∧ w.grownBy w' vf.ownBlock) := by
  have H := Lib.hid h
  have HB := Lib.hid hb
  have HFW := Lib.hid hfw
  have HQ := Lib.hid hq
  obtain ⟨F, cf, rfl, _, _⟩ := own_slice h.fo
  have HNB := Lib.hid (row_ne h.fo h.box (by decide))
  have HNL := Lib.hid (own_ne h.lo h.fo (by decide))
  clear h hb hfw hq
  have HZ : Hid (∀ k z, k < (bitsTo S 32).length → (bitsTo S 32).getD k 0 = z → ∃ j : Nat, z = j ∧ j < fw.length) := Lib.hid (fun k z hk hz => by
    have hm : (bitsTo S 32).getD k 0 ∈ bitsTo S 32 := by
      have e : (bitsTo S 32).getD k 0 = (bitsTo S 32)[k] := by simp [List.getD, hk]
      rw [e]; exact List.getElem_mem hk
    rw [hz] at hm
    obtain ⟨j, e, _, hbit⟩ := bitsTo_mem.1 hm
    exact ⟨j, e, HB.out j hbit⟩)
  have hzl := bitsTo_len S 32
  obtain ⟨zs, hzs⟩ : ∃ zs, bitsTo S 32 = zs := ⟨_, rfl⟩
  have BI := Lib.hid (bitsIn_any S w (by omega))
  rw [hzs] at HZ BI hzl ⊢
  clear hzs
  go_enter Try.func40, Try.ntmps40
  go_wp2_with fail
  refine BI.out.mono ?_
  rintro e w1 ⟨A, c, rfl, own1, k1⟩
  have OWN1 := Lib.hid own1
  have K1 := Lib.hid k1
  have I0 : PosI gm q P vl (.slice F fw.length cf) labs (conN N fw (zs.take 0)) w1 := ⟨blk_below k1 H.out.box, own_below H.out.lo k1, own_below H.out.fo k1⟩
  have HI0 := Lib.hid I0
  have HZD := Lib.hid (Rd.of_own own1)
  have hne : (Value.slice A zs.length c).ownBlock = none ∨ (Value.slice A zs.length c).ownBlock ≠ (Value.slice F fw.length cf).ownBlock := own_ne own1 (own_below H.out.fo k1) (by decide)
  have HNE := Lib.hid hne
  clear own1 k1 I0 hne
  go_wp2
  go_loopw [11] (fun i wr => ∃ (k : Nat), k ≤ zs.length ∧ i = .int .i64 k ∧ PosI gm q P vl (.slice F fw.length cf) labs (conN N fw (zs.take k)) wr ∧ w1.grownBy wr (Value.slice F fw.length cf).ownBlock) (fun i _ => zs.length - (intOf i).toNat)
  case atStart => exact ⟨0, Nat.zero_le _, rfl, HI0.out, World.grownBy.refl w1 _⟩
  case round =>
    clear HI0
    obtain ⟨k, hk, rfl, hI, hg⟩ := hrel
    have HI := Lib.hid hI
    have HG := Lib.hid hg
    by_cases hlt : k < zs.length
    · have ro := Rd.of_own (OWN1.out.kept hg HNE.out)
      obtain ⟨ad, rfl, cz⟩ := RdI.at_ ro hlt
      obtain ⟨z, hz⟩ : ∃ z, zs.getD k 0 = z := ⟨_, rfl⟩
      obtain ⟨j, rfl, hj⟩ := HZ.out k z hlt hz
      rw [hz] at cz
      have hcl := conN_len N (zs.take k) fw
      have hfo := hI.fo
      rw [hcl] at hfo
      obtain ⟨g, cap, hv, _, _⟩ := hfo.form (by omega)
      injection hv with e1 e2 e3
      subst e1 e3
      have hco := hfo.cellAt j (by omega)
      rw [u32s_at (by rw [hcl]; exact hj)] at hco
      have hfr := hfo.frozenAt j
      have hin := conN_in hN (zs.take k) HFW.out j
      have hst := conN_take (N := N) (fw := fw) hlt
      rw [hz] at hst
      obtain ⟨fk, hfk⟩ : ∃ fk, conN N fw (zs.take k) = fk := ⟨_, rfl⟩
      rw [hfk] at HI hco hin hst hfo hcl
      obtain ⟨x, hx⟩ : ∃ x, fk.getD j 0 = x := ⟨_, rfl⟩
      rw [hx] at hco hin
      have hor := u32_or_nat x N (by omega) (by omega)
      have HX := Lib.hid hx
      have HST := Lib.hid hst
      have HCL := Lib.hid hcl
      have HFO := Lib.hid hfo
      have b2 : wr.cell? ⟨gm, 2, none⟩ = some (.slice (some ⟨g, 0, none⟩) fw.length cf) := blk_cell (o := 2) HI.out.box rfl
      have k0 : (0 : Int) ≤ (k : Int) := by omega
      have k1 : (k : Int) < (zs.length : Int) := by omega
      have j0 : (0 : Int) ≤ (j : Int) := by omega
      have j1 : (j : Int) < (fw.length : Int) := by omega
      clear hI hg ro hz hfk hx hst hfo hcl
      have HS := Lib.hid (HFO.out.stored j (.int .u32 ((x ||| N : Nat) : Int)))
      go_wp2
      go_roundw
      case rel =>
        refine ⟨k + 1, by omega, by go_num, ?_, by first | exact HG.out.trans HS.out.2 | simpa using HG.out.trans HS.out.2⟩
        have h1 := HS.out.1
        have h2 := HS.out.2
        rw [u32s_set] at h1
        have e : fk.set j (x ||| N) = conN N fw (zs.take (k + 1)) := by
          rw [HST.out]
          show _ = fk.set (j : Int).toNat (fk.getD (j : Int).toNat 0 ||| N)
          simp only [Int.toNat_natCast]
          rw [HX.out]
        rw [e] at h1
        have hl2 := conN_len N (zs.take (k + 1)) fw
        have hM := HI.out
        have h4 : (wr.setCell ⟨g, j, none⟩ (.int .u32 ((x ||| N : Nat) : Int))).ownsRow q 58 1 (.slice (some ⟨g, 0, none⟩) fw.length cf) (conN N fw (zs.take (k + 1))).length (u32s (conN N fw (zs.take (k + 1)))) := by rw [hl2]; exact h1
        have hb2 := (h2.block gm (blk_lt hM.box) (fun e => HNB.out e.symm)).trans hM.box
        have hl3 := hM.lo.kept h2 HNL.out
        first
          | exact ⟨hb2, hl3, h4⟩
          | exact ⟨by simpa using hb2, by simpa using hl3, by simpa using h4⟩
      case measure => simp [intOf]; omega
    · obtain rfl : k = zs.length := by omega
      have HE : Hid (zs.take zs.length = zs) := Lib.hid (List.take_of_length_le (Nat.le_refl _))
      clear hI hg
      go_wp2
      go_end0
      refine ⟨rfl, ?_, ?_⟩
      · have := HI.out
        rw [HE.out] at this
        exact this
      · have hb1 := K1.out
        exact ⟨HG.out.os.trans hb1.os, HG.out.tape.trans hb1.tape, HG.out.output.trans hb1.output, Nat.le_trans hb1.size HG.out.size, fun i hi hn => (HG.out.block i (Nat.lt_of_lt_of_le hi hb1.size) hn).trans (hb1.block i hi)⟩
end Go.Proofs.Ytjlekcoikceidaa
