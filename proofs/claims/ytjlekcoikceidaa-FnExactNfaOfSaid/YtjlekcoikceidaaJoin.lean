/- l07Make.join: arcs from each of some states to each of some others. Conditions: the lengths, the states and the labels in their range. -/
import Derived.Test.YtjlekcoikceidaaAPut
import Derived.Test.YtjlekcoikceidaaLkP
import Derived.Deep.RegionLaw
import Derived.Deep.DeepCutAuto
namespace Go.Proofs.Ytjlekcoikceidaa
open Go.RowKit

def nI (xs : List Nat) : List Int := xs.map (fun (x : Nat) => (x : Int))
theorem nI_len (xs : List Nat) : (nI xs).length = xs.length := by simp [nI]
theorem nI_at {xs : List Nat} {k : Nat} (h : k < xs.length) : (nI xs).getD k 0 = ((xs.getD k 0 : Nat) : Int) := by simp [nI, List.getD, h]
theorem nI_app (xs ys : List Nat) : nI (xs ++ ys) = nI xs ++ nI ys := by simp [nI]
/-- A row of numbers of the call's own. -/
def OwnN (w : World) (b : Nat) (v : Value) (xs : List Nat) : Prop := w.ownsRow b 3 1 v xs.length ((nI xs).map (Value.int .i64))
/-- What l07Make holds. -/
structure MkI (gm q : Nat) (P vl va : Value) (labs : List Int) (es : List Ed) (bad : Bool) (w : World) : Prop where
  box : w.heap[gm]? = some (.cells #[P, vl, va, .bool bad] 46 (0, 0))
  lo : w.ownsRow q 5 1 vl labs.length (labs.map (Value.int .u8))
  ao : w.ownsRow q 64 3 va es.length (edCells es)
/-- Arcs in their range, in order. -/
structure GoA (labs : List Int) (es : List Ed) : Prop where
  asc : Asc es
  ok : ∀ e ∈ es, ArOk labs.length e
theorem GoA.from {labs : List Int} {es : List Ed} {prs : List (Nat × Nat)} (h : GoA labs es) (hl : ∀ l ∈ labs, 97 ≤ l ∧ l ≤ 100) (hp : ∀ p ∈ prs, p.1 ≤ labs.length ∧ 1 ≤ p.2 ∧ p.2 ≤ labs.length) : GoA labs (arcsFrom labs es prs) := by
  refine ⟨asc_arcsFrom _ _ h.asc, fun e he => ?_⟩
  rcases (mem_arcsFrom _ _).1 he with he | ⟨p, h1, rfl⟩
  · exact h.ok e he
  · exact arOk_of hl (hp p h1).1 (hp p h1).2
theorem prsOf_take {fs ts : List Nat} {k : Nat} (h : k < fs.length) : prsOf (fs.take (k + 1)) ts = prsOf (fs.take k) ts ++ ts.map (fun y => (fs.getD k 0, y)) := by
  unfold prsOf
  rw [List.take_succ_eq_append_getElem h, List.flatMap_append]
  simp [List.getD, h]
theorem getD_mem {xs : List Nat} {k : Nat} (h : k < xs.length) : xs.getD k 0 ∈ xs := by
  have e : xs.getD k 0 = xs[k] := by simp [List.getD, h]
  rw [e]; exact List.getElem_mem h
theorem map_take {x : Nat} {ts : List Nat} {j : Nat} (h : j < ts.length) : (ts.take (j + 1)).map (fun y => (x, y)) = (ts.take j).map (fun y => (x, y)) ++ [(x, ts.getD j 0)] := by
  rw [List.take_succ_eq_append_getElem h, List.map_append]
  simp [List.getD, h]

set_option maxRecDepth 100000 in
set_option maxHeartbeats 6400000 in
theorem join_any (gm q b1 b2 : Nat) (P : Value) (labs : List Int) (es : List Ed) (bad : Bool) (vl va : Value) (F T : Option Addr) (cf ct : Nat) (fs ts : List Nat) (w : World)
    (hm : MkI gm q P vl va labs es bad w) (hq : q ≤ w.heap.size) (hf : OwnN w b1 (.slice F fs.length cf) fs) (ht : OwnN w b2 (.slice T ts.length ct) ts) (hll : labs.length ≤ 24) (hlab : ∀ l ∈ labs, 97 ≤ l ∧ l ≤ 100) (hga : GoA labs es)
    (hfr : ∀ x ∈ fs, x ≤ labs.length) (hto : ∀ y ∈ ts, 1 ≤ y ∧ y ≤ labs.length) (hfl : fs.length ≤ 24) (htl : ts.length ≤ 24) :
    Calls Try.prog 16 #[.pointer (some ⟨gm, 0, none⟩), .slice F fs.length cf, .slice T ts.length ct] w
      (fun e w' => e = .returned (.tuple #[]) ∧ ∃ va', MkI gm q P vl va' labs (arcsFrom labs es (prsOf fs ts)) bad w' ∧ w.grownBy w' (some gm)) := by
  have HF := Lib.hid hf
  have HT := Lib.hid ht
  have HM := Lib.hid hm
  have NF := Lib.hid (row_ne hf hm.box (by decide))
  have NT := Lib.hid (row_ne ht hm.box (by decide))
  have HQ := Lib.hid hq
  have HGM := Lib.hid (blk_lt hm.box)
  have HG : Hid (∀ k (x : Nat) j, k ≤ fs.length → x ≤ labs.length → j ≤ ts.length → GoA labs (arcsFrom labs es (prsOf (fs.take k) ts ++ (ts.take j).map (fun y => (x, y))))) := Lib.hid (fun k x j _ hx _ => hga.from hlab (fun p hp => by
    rcases List.mem_append.1 hp with hp | hp
    · obtain ⟨a, b⟩ := p
      obtain ⟨h1, h2⟩ := prsOf_mem.1 hp
      exact ⟨hfr a (List.mem_of_mem_take h1), hto b h2⟩
    · obtain ⟨y, hy, rfl⟩ := List.mem_map.1 hp
      exact ⟨hx, hto y (List.mem_of_mem_take hy)⟩))
  have HFR := Lib.hid hfr
  have HTO := Lib.hid hto
  clear hf ht hm hga hfr hto hq
  obtain ⟨n, hn⟩ : ∃ n, fs.length = n := ⟨_, rfl⟩
  obtain ⟨m, hmm⟩ : ∃ m, ts.length = m := ⟨_, rfl⟩
  have HN := Lib.hid hn
  have HMM := Lib.hid hmm
  rw [hn] at hfl ⊢
  rw [hmm] at htl ⊢
  clear hn hmm
  go_enter Try.func16, Try.ntmps16
  go_wp2
  go_loopw [6] (fun i wr => ∃ (k : Nat) (va' : Value), k ≤ n ∧ i = .int .i64 k ∧ MkI gm q P vl va' labs (arcsFrom labs es (prsOf (fs.take k) ts)) bad wr ∧ w.grownBy wr (some gm)) (fun i _ => n - (intOf i).toNat)
  case atStart => exact ⟨0, va, Nat.zero_le _, rfl, HM.out, World.grownBy.refl _ _⟩
  case round =>
    clear HM
    obtain ⟨k, v1, hk, rfl, hm, hg⟩ := hrel
    have HM := Lib.hid hm
    have HGR := Lib.hid hg
    clear hm hg
    by_cases hlt : k < n
    · obtain ⟨x, hx⟩ : ∃ x, fs.getD k 0 = x := ⟨_, rfl⟩
      have HX := Lib.hid hx
      have hxr : x ≤ labs.length := by rw [← hx]; exact HFR.out _ (getD_mem (by have := HN.out; omega))
      clear hx
      go_wp2
      go_loopw [7] (fun i wr => ∃ (j : Nat) (va' : Value), j ≤ m ∧ i = .int .i64 j ∧ MkI gm q P vl va' labs (arcsFrom labs es (prsOf (fs.take k) ts ++ (ts.take j).map (fun y => (x, y)))) bad wr ∧ w.grownBy wr (some gm)) (fun i _ => m - (intOf i).toNat)
      case atStart => exact ⟨0, v1, Nat.zero_le _, rfl, by simpa using HM.out, HGR.out⟩
      case round =>
        clear HM HGR
        obtain ⟨j, v2, hj, rfl, hm, hg⟩ := hrel
        by_cases hlt2 : j < m
        · obtain ⟨y, hy⟩ : ∃ y, ts.getD j 0 = y := ⟨_, rfl⟩
          have HY := Lib.hid hy
          have hyr : 1 ≤ y ∧ y ≤ labs.length := by rw [← hy]; exact HTO.out _ (getD_mem (by have := HMM.out; omega))
          have HS := Lib.hid ((map_take (x := x) (ts := ts) (j := j) (by have := HMM.out; omega)).trans (by rw [hy]))
          clear hy
          obtain ⟨hy1, hy2⟩ := hyr
          obtain ⟨z, hz⟩ : ∃ z, y - 1 = z := ⟨_, rfl⟩
          have hzl : z < labs.length := by omega
          have hyz : IntKind.i64.wrap ((y : Int) - 1) = (z : Int) := (IntWalk.i64_in _ (by omega)).trans (by omega)
          obtain ⟨es2, hes⟩ : ∃ es2, arcsFrom labs es (prsOf (fs.take k) ts ++ (ts.take j).map (fun y => (x, y))) = es2 := ⟨_, rfl⟩
          have hga := HG.out k x j (by have := HN.out; omega) hxr (by have := HMM.out; omega)
          rw [hes] at hm hga
          have hlen := arcs_len hll hga.asc hga.ok
          have HES := Lib.hid hes
          have rf : RdI wr F n (nI fs) := by have := Rd.of_own (HF.out.kept hg (.inr NF.out)); rw [HN.out] at this; exact this
          have rt : RdI wr T m (nI ts) := by have := Rd.of_own (HT.out.kept hg (.inr NT.out)); rw [HMM.out] at this; exact this
          obtain ⟨fa, rfl, cF⟩ := rf.at_ hlt
          obtain ⟨ta, rfl, cT⟩ := rt.at_ hlt2
          rw [nI_at (by have := HN.out; omega), HX.out] at cF
          rw [nI_at (by have := HMM.out; omega), HY.out] at cT
          obtain ⟨L, cL, rfl, _, _⟩ := own_slice hm.lo
          obtain ⟨A, cA, rfl, _, _⟩ := own_slice hm.ao
          obtain ⟨la, rfl, hcl⟩ := (Rd.of_own hm.lo).2 (by omega)
          obtain ⟨l, hl⟩ : ∃ l, labs.getD z 0 = l := ⟨_, rfl⟩
          have cLz := hcl z (.int .u8 l) (by rw [← hl]; simp [List.getD, hzl])
          have HL := Lib.hid hl
          have HZ := Lib.hid hz
          have HLO := Lib.hid hm.lo
          have HAO := Lib.hid hm.ao
          have HB := Lib.hid hm.box
          have HG2 := Lib.hid hg
          have m1 := blk_cell (o := 1) HB.out rfl
          have m2 := blk_cell (o := 2) HB.out rfl
          have j0 : (0 : Int) ≤ (j : Int) := by omega
          have j1 : (j : Int) < (m : Int) := by omega
          have k0 : (0 : Int) ≤ (k : Int) := by omega
          have k1 : (k : Int) < (n : Int) := by omega
          have z0 : (0 : Int) ≤ (z : Int) := by omega
          have z1 : (z : Int) < (labs.length : Int) := by omega
          have RA : Hid (RdE wr.drew A es2) := Lib.hid (Rd.of_own HAO.out)
          have HB1 : Hid (wr.drew.heap[gm]? = _) := Lib.hid HB.out
          have HLO1 : Hid (wr.drew.ownsRow q 5 1 _ _ _) := Lib.hid HLO.out
          have HG3 := Lib.hid (only_drewN HG2.out 1)
          have nF : fa.block ≠ gm := fun e => NF.out (by rw [← e]; rfl)
          have nT : ta.block ≠ gm := fun e => NT.out (by rw [← e]; rfl)
          have nL : la.block ≠ gm := fun e => row_ne HLO.out HB.out (by decide) (by rw [← e]; rfl)
          have NFh := Lib.hid nF
          have NTh := Lib.hid nT
          have NLh := Lib.hid nL
          have HQ2 := Lib.hid (Nat.le_trans HQ.out HG2.out.size)
          clear nF nT nL hl hz hes hga rf rt hcl hm hg
          go_wp2_with fail
          refine wp_region_held_drew (S := fun w' => w'.cell? (fa.add k) = some (.int .i64 x) ∧ w'.cell? (ta.add j) = some (.int .i64 y) ∧ w'.cell? ⟨gm, 1, none⟩ = some (.slice (some la) labs.length cL) ∧ w'.cell? (la.add z) = some (.int .u8 l)) (by kernel_rfl) ⟨cF, cT, m1, cLz⟩ (fun hHeld => ?_)
          refine wpAnyH_take (i := 0) (oi := _) (v := ?_) rfl (by kernel_rfl) (by kernel_rfl) (by kernel_rfl) (fun _ _ _ h => h) (Or.inl ⟨by rfl, ?_⟩) (by assumption) ?_
          rotate_left 1
          · intro w hSw; (try dsimp only at hSw); go_simp; try with_reducible rfl
          simp only [Act.put, List.setIfInBounds_toArray]
          refine wpAnyH_take (i := 1) (oi := _) (v := ?_) rfl (by kernel_rfl) (by kernel_rfl) (by kernel_rfl) (fun _ _ _ h => h) (Or.inl ⟨by rfl, ?_⟩) (by assumption) ?_
          rotate_left 1
          · intro w hSw; (try dsimp only at hSw); go_simp; try with_reducible rfl
          simp only [Act.put]
          refine wpAnyH_take (i := 2) (oi := _) (v := ?_) rfl (by kernel_rfl) (by kernel_rfl) (by kernel_rfl) (fun _ _ _ h => h) (Or.inl ⟨by rfl, ?_⟩) (by assumption) ?_
          rotate_left 1
          · intro w hSw; (try dsimp only at hSw); go_simp; try with_reducible rfl
          simp only [Act.put]
          refine wpAnyH_take (i := 3) (oi := _) (v := ?_) rfl (by kernel_rfl) (by kernel_rfl) (by kernel_rfl) (fun _ _ _ h => h) (Or.inl ⟨by rfl, ?_⟩) (by assumption) ?_
          rotate_left 1
          · intro w hSw; (try dsimp only at hSw); go_simp; try with_reducible rfl
          simp only [Act.put]
          refine wpAnyH_take (i := 5) (oi := _) (v := ?_) rfl (by kernel_rfl) (by kernel_rfl) (by kernel_rfl) (fun _ _ _ h => h) (Or.inl ⟨by rfl, ?_⟩) (by assumption) ?_
          rotate_left 1
          · intro w hSw; (try dsimp only at hSw); go_simp; try with_reducible rfl
          simp only [Act.put]
          refine wpAnyH_take (i := 6) (oi := _) (v := ?_) rfl (by kernel_rfl) (by kernel_rfl) (by kernel_rfl) (fun _ _ _ h => h) (Or.inl ⟨by rfl, ?_⟩) (by assumption) ?_
          rotate_left 1
          · intro w hSw; (try dsimp only at hSw); go_simp; try with_reducible rfl
          simp only [Act.put]
          refine wpAnyH_take (i := 7) (oi := _) (v := ?_) rfl (by kernel_rfl) (by kernel_rfl) (by kernel_rfl) (fun _ _ _ h => h) (Or.inl ⟨by rfl, ?_⟩) (by assumption) ?_
          rotate_left 1
          · intro w hSw; (try dsimp only at hSw); go_simp; try with_reducible rfl
          simp only [Act.put]
          refine wpAnyH_take (i := 8) (oi := _) (v := ?_) rfl (by kernel_rfl) (by kernel_rfl) (by kernel_rfl) (fun _ _ _ h => h) (Or.inl ⟨by rfl, ?_⟩) (by assumption) ?_
          rotate_left 1
          · intro w hSw; (try dsimp only at hSw); go_simp; try with_reducible rfl
          simp only [Act.put]
          refine wpAnyH_take (i := 9) (oi := _) (v := ?_) rfl (by kernel_rfl) (by kernel_rfl) (by kernel_rfl) (fun _ _ _ h => h) (Or.inl ⟨by rfl, ?_⟩) (by assumption) ?_
          rotate_left 1
          · intro w hSw; (try dsimp only at hSw); go_simp; try with_reducible rfl
          simp only [Act.put]
          refine wpAnyH_take (i := 10) (oi := _) (v := ?_) rfl (by kernel_rfl) (by kernel_rfl) (by kernel_rfl) (fun _ _ _ h => h) (Or.inl ⟨by rfl, ?_⟩) (by assumption) ?_
          rotate_left 1
          · intro w hSw; (try dsimp only at hSw); go_simp; try with_reducible rfl
          simp only [Act.put]
          refine wpAnyH_take (i := 11) (oi := _) (v := ?_) rfl (by kernel_rfl) (by kernel_rfl) (by kernel_rfl) (fun _ _ _ h => h) (Or.inl ⟨by rfl, ?_⟩) (by assumption) ?_
          rotate_left 1
          · intro w hSw; (try dsimp only at hSw); go_simp; try with_reducible rfl
          simp only [Act.put]
          refine wpAnyH_take (i := 12) (oi := _) (v := ?_) rfl (by kernel_rfl) (by kernel_rfl) (by kernel_rfl) (fun _ _ _ h => h) (Or.inl ⟨by rfl, ?_⟩) (by assumption) ?_
          rotate_left 1
          · intro w hSw; (try dsimp only at hSw); go_simp; try with_reducible rfl
          simp only [Act.put]
          refine wpAnyH_take (i := 13) (oi := _) (v := ?_) rfl (by kernel_rfl) (by kernel_rfl) (by kernel_rfl) (fun _ _ _ h => h) (Or.inl ⟨by rfl, ?_⟩) (by assumption) ?_
          rotate_left 1
          · intro w hSw; (try dsimp only at hSw); go_simp; try with_reducible rfl
          simp only [Act.put]
          refine wpAnyH_take (i := 14) (oi := _) (v := ?_) rfl (by kernel_rfl) (by kernel_rfl) (by kernel_rfl) (fun _ _ _ h => h) (Or.inl ⟨by rfl, ?_⟩) (by assumption) ?_
          rotate_left 1
          · intro w hSw; (try dsimp only at hSw); go_simp; try with_reducible rfl
          simp only [Act.put]
          refine wpAnyH_take (i := 15) (oi := _) (v := ?_) rfl (by kernel_rfl) (by kernel_rfl) (by kernel_rfl) (fun _ _ _ h => h) (Or.inl ⟨by rfl, ?_⟩) (by assumption) ?_
          rotate_left 1
          · intro w hSw; (try dsimp only at hSw); go_simp; try with_reducible rfl
          simp only [Act.put]
          refine wpAnyH_take (i := 16) (oi := _) (v := ?_) rfl (by kernel_rfl) (by kernel_rfl) (by kernel_rfl) (fun _ _ _ h => h) (Or.inl ⟨by rfl, ?_⟩) (by assumption) ?_
          rotate_left 1
          · intro w hSw; (try dsimp only at hSw); go_simp; try with_reducible rfl
          simp only [Act.put]
          refine wpAnyH_take (i := 17) (oi := _) (v := ?_) rfl (by kernel_rfl) (by kernel_rfl) (by kernel_rfl) (fun _ _ _ h => h) (Or.inl ⟨by rfl, ?_⟩) (by assumption) ?_
          rotate_left 1
          · intro w hSw; (try dsimp only at hSw); go_simp; try with_reducible rfl
          simp only [Act.put]
          refine wpAnyH_take (i := 18) (oi := _) (v := ?_) rfl (by kernel_rfl) (by kernel_rfl) (by kernel_rfl) (fun _ _ _ h => h) (Or.inl ⟨by rfl, ?_⟩) (by assumption) ?_
          rotate_left 1
          · intro w hSw; (try dsimp only at hSw); go_simp; try with_reducible rfl
          simp only [Act.put]
          refine wpAnyH_take (i := 19) (oi := _) (v := ?_) rfl (by kernel_rfl) (by kernel_rfl) (by kernel_rfl) (fun _ _ _ h => h) (Or.inl ⟨by rfl, ?_⟩) (by assumption) ?_
          rotate_left 1
          · intro w hSw; (try dsimp only at hSw); go_simp; try with_reducible rfl
          simp only [Act.put]
          refine wpAnyH_take (i := 20) (oi := _) (v := ?_) rfl (by kernel_rfl) (by kernel_rfl) (by kernel_rfl) (fun _ _ _ h => h) (Or.inl ⟨by rfl, ?_⟩) (by assumption) ?_
          rotate_left 1
          · intro w hSw; (try dsimp only at hSw); go_simp; try with_reducible rfl
          simp only [Act.put]
          refine wpAnyH_take (i := 21) (oi := _) (v := ?_) rfl (by kernel_rfl) (by kernel_rfl) (by kernel_rfl) (fun _ _ _ h => h) (Or.inl ⟨by rfl, ?_⟩) (by assumption) ?_
          rotate_left 1
          · intro w hSw; (try dsimp only at hSw); go_simp; try with_reducible rfl
          simp only [Act.put]
          refine wpAnyH_take (i := 22) (oi := _) (v := ?_) rfl (by kernel_rfl) (by kernel_rfl) (by kernel_rfl) (fun _ _ _ h => h) (Or.inl ⟨by rfl, ?_⟩) (by assumption) ?_
          rotate_left 1
          · intro w hSw; (try dsimp only at hSw); go_simp; try with_reducible rfl
          simp only [Act.put]
          refine wpAnyH_take (i := 23) (oi := _) (v := ?_) rfl (by kernel_rfl) (by kernel_rfl) (by kernel_rfl) (fun _ _ _ h => h) (Or.inl ⟨by rfl, ?_⟩) (by assumption) ?_
          rotate_left 1
          · intro w hSw; (try dsimp only at hSw); go_simp; try with_reducible rfl
          simp only [Act.put]
          refine wpAnyH_take (i := 24) (oi := _) (v := ?_) rfl (by kernel_rfl) (by kernel_rfl) (by kernel_rfl) (fun _ _ _ h => h) (Or.inl ⟨by rfl, ?_⟩) (by assumption) ?_
          rotate_left 1
          · intro w hSw; (try dsimp only at hSw); go_simp; try with_reducible rfl
          simp only [Act.put]
          refine wpAnyH_ready (rs := [4]) (by kernel_rfl) (by simp) ?_
          refine AllReadyH.cons (o := _) rfl (fun K hK => ?_) AllReadyH.nil
          go_simp
          refine hK.out _ _ hHeld (fun hHeld => ?_)
          clear hK K
          try simp only [Act.put]
          refine wpAnyH_ready (rs := [25]) (by kernel_rfl) (by simp) ?_
          refine AllReadyH.cons (o := _) rfl (fun K hK => ?_) AllReadyH.nil
          go_simp
          go_at_call 36
          refine (l07Put_any A cA es2 ⟨x, l, y⟩ wr.drew RA.out (by omega)).mono ?_
          rintro e w6 ⟨A2, c2, rfl, own6, k6⟩
          have m26 := held_step k6 (show wr.drew.cell? ⟨gm, 2, none⟩ = _ from m2)
          have hB6 := blk_below k6 HB1.out
          have f26 : w6.frozen? ⟨gm, 2, none⟩ = false := frozen_of_row w6 _ 2 _ _ hB6
          have HB6 := Lib.hid hB6
          have OWN6 := Lib.hid own6
          have K6 := Lib.hid k6
          clear hB6 own6
          try go_wp2_with fail
          refine hK.out _ _ ⟨held_step K6.out hHeld.1, held_step K6.out hHeld.2.1, held_step K6.out hHeld.2.2.1, held_step K6.out hHeld.2.2.2⟩ (fun hHeld => ?_)
          clear hK K
          try simp only [Act.put]
          refine wpAnyH_take (i := 26) (oi := _) (v := ?_) rfl (by kernel_rfl) (by kernel_rfl) (by kernel_rfl) (fun _ _ _ h => h) (Or.inl ⟨by rfl, ?_⟩) (by assumption) ?_
          rotate_left 1
          · intro w hSw; (try dsimp only at hSw); go_simp; try with_reducible rfl
          simp only [Act.put, List.setIfInBounds_toArray]
          refine wpAnyH_take (i := 27) (oi := _) (v := ?_) rfl (by kernel_rfl) (by kernel_rfl) (by kernel_rfl) (fun _ _ _ h => h) (Or.inl ⟨by rfl, ?_⟩) (by assumption) ?_
          rotate_left 1
          · intro w hSw; (try dsimp only at hSw); go_simp; try with_reducible rfl
          simp only [Act.put]
          refine wpAnyH_ready (rs := [28]) (by kernel_rfl) (by simp) ?_
          refine AllReadyH.cons (o := _) rfl (fun K hK => ?_) AllReadyH.nil
          go_simp
          refine hK.out _ _ ⟨(World.cell?_of_block (Below.heap_setCell _ _ _ _ (by rw [block_of_add]; exact NFh.out))).trans hHeld.1, (World.cell?_of_block (Below.heap_setCell _ _ _ _ (by rw [block_of_add]; exact NTh.out))).trans hHeld.2.1, ((World.cell?_setCell_other _ ⟨gm, 2, none⟩ ⟨gm, 1, none⟩ _ (by simp)).trans hHeld.2.2.1), (World.cell?_of_block (Below.heap_setCell _ _ _ _ (by rw [block_of_add]; exact NLh.out))).trans hHeld.2.2.2⟩ (fun hHeld => ?_)
          clear hK K
          try simp only [Act.put]
          refine wpAnyH_done (by kernel_rfl) ?_ _
          obtain ⟨V, hV⟩ : ∃ V, Value.slice A2 (putE es2 ⟨x, l, y⟩).length c2 = V := ⟨_, rfl⟩
          rw [hV] at OWN6
          try simp only [hV]
          have MK : Hid (MkI gm q P (.slice (some la) labs.length cL) V labs (putE es2 ⟨x, l, y⟩) bad (w6.setCell ⟨gm, 2, none⟩ V) ∧ w.grownBy (w6.setCell ⟨gm, 2, none⟩ V) (some gm)) := Lib.hid ⟨⟨by simp [World.setCell, Array.getElem?_modify, HB6.out], own_setCell_other (own_below HLO1.out K6.out) (row_ne (own_below HLO1.out K6.out) HB6.out (by decide)) _, own_setCell_other (own_mono OWN6.out HQ2.out) (row_ne OWN6.out HB6.out (by decide)) _⟩, only_setCell (only_below (b := wr.drew) HG3.out K6.out) _ _⟩
          have HNX : Hid (arcsFrom labs es (prsOf (fs.take k) ts ++ (ts.take (j + 1)).map (fun y => (x, y))) = putE es2 ⟨x, l, y⟩) := Lib.hid (by
            rw [HS.out, ← List.append_assoc, arcsFrom_app, HES.out]
            show putE es2 (arcOf labs (x, y)) = _
            unfold arcOf
            rw [← HL.out, ← HZ.out])
          clear hHeld cF cT cLz m1 m2 m26 f26
          go_wp2
          go_roundw
          case rel => exact ⟨j + 1, V, by omega, by go_num, by rw [HNX.out]; exact MK.out.1, MK.out.2⟩
          case measure => simp [intOf]; omega
        · obtain rfl : j = m := by omega
          have HE : Hid (prsOf (fs.take k) ts ++ (ts.take j).map (fun y => (x, y)) = prsOf (fs.take (k + 1)) ts) := Lib.hid (by
            rw [prsOf_take (by rw [HN.out]; exact hlt), HX.out, List.take_of_length_le (l := ts) (Nat.le_of_eq HMM.out)])
          have M2 := Lib.hid hm
          have G2 := Lib.hid hg
          clear hm hg
          go_wp2
          go_roundw
          case rel => exact ⟨k + 1, v2, by omega, by go_num, by rw [← HE.out]; exact M2.out, G2.out⟩
          case measure => simp [intOf]; omega
    · obtain rfl : k = n := by omega
      have HE : Hid (fs.take k = fs) := Lib.hid (List.take_of_length_le (by have := HN.out; omega))
      go_wp2
      go_end0
      exact ⟨rfl, v1, by have := HM.out; rw [HE.out] at this; exact this, HGR.out⟩
end Go.Proofs.Ytjlekcoikceidaa
