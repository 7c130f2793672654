/- PathPairs: program and reference make the same list of pairs. Conditions: the lengths, the labels in their range. -/
import Derived.Test.YtgpjgigmlgoiiaaSEnds
import Derived.Test.YtgpjgigmlgoiiaaMarkSS
namespace Go.Proofs.Ytgpjgigmlgoiiaa
open Go.RowKit

/-- The pairs of a vertex. -/
def prs (v : Nat) (zs : List Int) : List (List Int) := zs.map (fun z => [(v : Int), z])
/-- The pairs of the vertices below k. -/
noncomputable def ppTo (R : Rl) (n k : Nat) : List (List Int) := (List.range k).flatMap (fun v => prs v (endsTo R v n))
theorem ppTo_succ (R : Rl) (n k : Nat) : ppTo R n (k + 1) = ppTo R n k ++ prs k (endsTo R k n) := by simp [ppTo, List.range_succ]
theorem prs_len (v : Nat) (zs : List Int) : (prs v zs).length = zs.length := by simp [prs]
theorem prs_take (v : Nat) (zs : List Int) (j : Nat) (h : j < zs.length) : prs v (zs.take (j + 1)) = prs v (zs.take j) ++ [[(v : Int), zs.getD j 0]] := by
  unfold prs
  have e : zs.getD j 0 = zs[j] := by simp [List.getD, h]
  rw [List.take_succ_eq_append_getElem h, List.map_append, e]
  rfl
theorem ppTo_len (R : Rl) (n : Nat) : ∀ k, (ppTo R n k).length ≤ k * n
  | 0 => by simp [ppTo]
  | k + 1 => by
    rw [ppTo_succ, List.length_append, prs_len, Nat.add_mul]
    have := ppTo_len R n k
    have := endsTo_len R k n
    omega
theorem ppTo_row (R : Rl) (n k : Nat) : ∀ p ∈ ppTo R n k, p.length = 2 := by
  intro p hp
  obtain ⟨v, _, hv⟩ := List.mem_flatMap.1 hp
  obtain ⟨z, _, rfl⟩ := List.mem_map.1 hv
  rfl
noncomputable def ppL (s : Int) (es : List Ed) (ps : List Pc) : List (List Int) := if PP (GOk s es ∧ PaOk ps) = true then ppTo (meanG s.toNat es ps) s.toNat s.toNat else []
theorem ppL_no {s : Int} {es : List Ed} {ps : List Pc} (h : ¬ (GOk s es ∧ PaOk ps)) : ppL s es ps = [] := by
  unfold ppL
  rw [PP_no h]
  simp
theorem ppL_yes {n : Nat} {es : List Ed} {ps : List Pc} (h1 : GOk n es) (h2 : PaOk ps) : ppL n es ps = ppTo (meanG n es ps) n n := by
  unfold ppL
  rw [PP_yes ⟨h1, h2⟩, if_pos rfl]
  simp
theorem ppL_len (s : Int) (es : List Ed) (ps : List Pc) : (ppL s es ps).length ≤ 144 ∧ ∀ p ∈ ppL s es ps, p.length = 2 := by
  unfold ppL
  split
  · rename_i h
    have h1 := (PP_inv h).1.1
    have h2 := ppTo_len (meanG s.toNat es ps) s.toNat s.toNat
    have h3 : s.toNat * s.toNat ≤ 12 * 12 := Nat.mul_le_mul (by omega) (by omega)
    exact ⟨by omega, ppTo_row _ _ _⟩
  · simp
theorem cntR_two {ps : List (List Int)} (h : ∀ p ∈ ps, p.length = 2) : cntR ps = 2 * ps.length := by
  induction ps with
  | nil => rfl
  | cons p ps ih =>
    have h1 := ih (fun q hq => h q (by simp [hq]))
    have h2 := h p (by simp)
    simp only [cntR, List.map_cons, List.sum_cons, List.length_cons] at h1 ⊢
    omega
/-- The pairs while they are made. -/
structure PrI (B : Nat) (v : Value) (rs : List (List Int)) (xs : List IrX) (wr : World) : Prop where
  eq : xs.map IrX.r = rs
  row : wr.ownsRow B 63 1 v rs.length (xs.map IrX.v)
  kids : ∀ x ∈ xs, wr.ownsRow B 3 1 x.v x.r.length (x.r.map (Value.int .i64))
  apart : xs.Pairwise ApartI
theorem PrI.keep {B : Nat} {v : Value} {rs : List (List Int)} {xs : List IrX} {wr w' : World} (h : PrI B v rs xs wr) (hb : Below wr.heap.size wr w') : PrI B v rs xs w' := ⟨h.eq, own_below h.row hb, fun x hx => own_below (h.kids x hx) hb, h.apart⟩
theorem PrI.xlen {B : Nat} {v : Value} {rs : List (List Int)} {xs : List IrX} {wr : World} (h : PrI B v rs xs wr) : xs.length = rs.length := by have := congrArg List.length h.eq; simpa using this
theorem PrI.ss {B : Nat} {A : Option Addr} {c : Nat} {rs : List (List Int)} {xs : List IrX} {wr : World} (h : PrI B (.slice A rs.length c) rs xs wr) : OwnSS wr B A c rs :=
  ⟨xs, h.eq, by rw [h.xlen]; exact h.row, h.kids, h.apart⟩
/-- One pair more: the pair's block, then the appended cell. -/
theorem PrI.push {B : Nat} {v v1 : Value} {rs : List (List Int)} {xs : List IrX} {wr w3 : World} {a b : Int} {Wa : World} {gq : Nat} (h : PrI B v rs xs wr) (hB : B ≤ gq) (hWa : wr.alloc (.cells #[.int .i64 a, .int .i64 b] 3) = Wa) (hq : wr.heap.size = gq)
    (ho : w3.ownsRow B 63 1 v1 (rs.length + 1) (xs.map IrX.v ++ [.slice (some ⟨gq, 0, none⟩) 2 2])) {o : Obj}
    (hg : (Wa.alloc o).grownBy w3 v.ownBlock) :
    PrI B v1 (rs ++ [[a, b]]) (xs ++ [⟨[a, b], some ⟨gq, 0, none⟩, 2⟩]) w3 := by
  subst hWa hq
  have k1 := below_alloc wr (.cells #[.int .i64 a, .int .i64 b] 3)
  have k2 := below_alloc (wr.alloc (.cells #[.int .i64 a, .int .i64 b] 3)) o
  have hr := own_below (own_below h.row k1) k2
  have hnew : (wr.alloc (.cells #[.int .i64 a, .int .i64 b] 3)).ownsRow B 3 1 (.slice (some ⟨wr.heap.size, 0, none⟩) 2 2) 2 [.int .i64 a, .int .i64 b] :=
    ⟨rfl, .inr ⟨wr.heap.size, 2, #[.int .i64 a, .int .i64 b], rfl, hB, heap_alloc_new wr _, Nat.le_refl _, by unfold maxLen; omega, rfl, rfl⟩⟩
  refine ⟨by rw [List.map_append, h.eq]; rfl, by rw [List.length_append, List.map_append]; exact ho, fun x hx => ?_, ?_⟩
  · rcases List.mem_append.1 hx with hx | hx
    · have h1 := own_below (own_below (h.kids x hx) k1) k2
      exact h1.kept hg (own_ne h1 hr (by decide))
    · simp only [List.mem_cons, List.not_mem_nil, or_false] at hx
      subst hx
      have h1 := own_below hnew k2
      exact h1.kept hg (own_ne h1 hr (by decide))
  · rw [List.pairwise_append]
    refine ⟨h.apart, List.pairwise_singleton _ _, fun x hx y hy => ?_⟩
    simp only [List.mem_cons, List.not_mem_nil, or_false] at hy
    subst hy
    unfold ApartI
    cases hv : x.v.ownBlock with
    | none => exact .inl rfl
    | some r =>
      refine .inr fun e => ?_
      have h3 := ((h.kids x hx).lt r hv).2
      have h4 : some r = some wr.heap.size := e
      injection h4 with h4
      omega
/-- What a call that makes a list of rows leaves. -/
def MadeSS (w : World) (zs : List (List Int)) (e : Ending) (w' : World) : Prop := ∃ A c, e = .returned (.slice A zs.length c) ∧ OwnSS w' w.heap.size A c zs ∧ Below w.heap.size w w'
theorem MadeSS.nil {w w' : World} (h : Below w.heap.size w w') : MadeSS w [] (.returned (.slice none 0 0)) w' := ⟨none, 0, rfl, ⟨[], rfl, World.ownsRow_nil _ _ _ _, by simp, List.Pairwise.nil⟩, h⟩
theorem Try.infoIntS : (Try.prog.info? 63).map (fun i => (i.zero, i.size, i.bytes)) = some (some (.slice none 0 0), 1, 24) := by kernel_rfl

set_option maxRecDepth 100000 in
set_option maxHeartbeats 3200000 in
theorem impl_PathPairs_any (s : Int) (Ag A : Option Addr) (cg c : Nat) (es : List Ed) (ps : List Pc) (w : World) (he : RdE w Ag es) (hel : es.length ≤ 1048576) (hl : ∀ e ∈ es, 0 ≤ e.l ∧ e.l ≤ 255) (hx : RdP w A ps) (hpl : ps.length ≤ 1048576) (hkl : ∀ p ∈ ps, p.k.length ≤ 4294967296) :
    Calls Try.prog 39 #[.agg #[.int .i64 s, .slice Ag es.length cg], .agg #[.slice A ps.length c]] w (MadeSS w (ppL s es ps)) := by
  obtain ⟨i0, hi, hz0, hz1, hz2⟩ := info_parts Try.infoIntS
  have ka := below_alloc w (.cells #[.int .i64 s, .slice Ag es.length cg] 45)
  have p0 := heap_alloc_new w (.cells #[.int .i64 s, .slice Ag es.length cg] 45)
  obtain ⟨W1, hW1⟩ : ∃ W, w.alloc (.cells #[.int .i64 s, .slice Ag es.length cg] 45) = W := ⟨_, rfl⟩
  obtain ⟨g0, hg0⟩ : ∃ g, w.heap.size = g := ⟨_, rfl⟩
  rw [hW1] at p0 ka
  rw [hg0] at p0
  have kb := below_alloc W1 (.cells #[.slice A ps.length c] 59)
  have p1 := heap_alloc_new W1 (.cells #[.slice A ps.length c] 59)
  have p02 := blk_below kb p0
  have hb2 := below_step ka kb
  have he2 := (he.below ka).below kb
  have hx2 := (hx.keep ka).keep kb
  obtain ⟨W2, hW2⟩ : ∃ W, W1.alloc (.cells #[.slice A ps.length c] 59) = W := ⟨_, rfl⟩
  obtain ⟨g1, hg1⟩ : ∃ g, W1.heap.size = g := ⟨_, rfl⟩
  rw [hW2] at p1 p02 hb2 he2 hx2
  rw [hg1] at p1
  have P0 := Lib.hid p02
  have P1 := Lib.hid p1
  have HB2 := Lib.hid hb2
  have HE := Lib.hid he2
  have HX := Lib.hid hx2
  have HK := Lib.hid hkl
  have b00 := blk_cell (o := 0) p02 rfl
  have b01 := blk_cell (o := 1) p02 rfl
  have b10 := blk_cell (o := 0) p1 rfl
  have GO := Lib.hid (impl_GraphOk_any s Ag cg es W2 he2 (by omega) hl)
  have PO := Lib.hid (fun W (h : Below W2.heap.size W2 W) => impl_PathOk_any A c ps W (hx2.keep h) (by omega) hkl)
  have HNO := Lib.hid (fun (h : ¬ (GOk s es ∧ PaOk ps)) => ppL_no h)
  clear he hl hx hkl ka kb p0 p1 p02 hb2 he2 hx2
  go_enter Try.func39, Try.ntmps39
  go_wp2_with fail
  clear hW1 hW2 hg0 hg1
  refine GO.out.mono ?_
  by_cases hgo : GOk s es
  · rw [PP_yes hgo]
    rintro e w3 ⟨rfl, k3⟩
    have b00 := blk_cell (o := 0) (blk_below k3 P0.out) rfl
    have b01 := blk_cell (o := 1) (blk_below k3 P0.out) rfl
    have b10 := blk_cell (o := 0) (blk_below k3 P1.out) rfl
    go_wp2_with fail
    refine (PO.out w3 k3).mono ?_
    by_cases hpo : PaOk ps
    · rw [PP_yes hpo]
      rintro e w5 ⟨rfl, k4⟩
      have k35 := below_step k3 k4
      have b00 := blk_cell (o := 0) (blk_below k35 P0.out) rfl
      have b01 := blk_cell (o := 1) (blk_below k35 P0.out) rfl
      have b10 := blk_cell (o := 0) (blk_below k35 P1.out) rfl
      have HGO := Lib.hid hgo
      have HPO := Lib.hid hpo
      have h12 := hgo.1
      obtain ⟨n, rfl⟩ : ∃ n : Nat, s = n := ⟨s.toNat, by omega⟩
      have hn12 : n ≤ 12 := by omega
      have HPL := Lib.hid (ppL_yes hgo hpo)
      have RC := Lib.hid (reached_any n Ag A cg c es ps w5 (by omega) (HE.out.below k35) hel (gOk_er HGO.out) (HX.out.keep k35) HPO.out HK.out)
      have K35 := Lib.hid k35
      clear k3 k4 hgo hpo h12 k35
      go_wp2_with fail
      refine RC.out.mono ?_
      rintro e w6 ⟨A1, c1, rs, rfl, h1, h2, h3⟩
      obtain ⟨R, hR⟩ : ∃ R, meanG n es ps = R := ⟨_, rfl⟩
      have h2' : IsU n rs R := by rw [← hR]; exact h2
      have HR := Lib.hid hR
      have R1 := Lib.hid h1
      have U1 := Lib.hid h2'
      have K6 := Lib.hid (below_step K35.out h3)
      clear b00 b01 b10 h1 h2 h2' h3 hR RC
      go_wp2_with fail
      go_loopw [5, 22] (fun v i wr => ∃ (k : Nat) (xs : List IrX), k ≤ n ∧ i = .int .i64 k ∧ PrI w6.heap.size v (ppTo R n k) xs wr ∧ Below w6.heap.size w6 wr) (fun _ i _ => n - (intOf i).toNat)
      case atStart => exact ⟨0, [], Nat.zero_le _, rfl, ⟨rfl, World.ownsRow_nil _ _ _ _, by simp, List.Pairwise.nil⟩, Below.refl _ _⟩
      case round =>
        obtain ⟨k, xs, hk, rfl, hp, hb⟩ := hrel
        obtain ⟨wo, rfl⟩ : ∃ wo : World, wo = wr := ⟨_, rfl⟩
        have HP := Lib.hid hp
        have HB := Lib.hid hb
        by_cases hlt : k < n
        · obtain ⟨ad, rfl, z0⟩ := (R1.out.below hb).at_ (k := k) (by rw [U1.out.len]; exact hlt)
          have hlo := U1.out.lo k
          have HBE := Lib.hid (bits_ends U1.out hlt (by omega))
          obtain ⟨x, hxx⟩ : ∃ x, rs.getD k 0 = x := ⟨_, rfl⟩
          rw [hxx] at z0 hlo HBE
          have hel2 := endsTo_len R k n
          have HSC := Lib.hid (ppTo_succ R n k)
          have hpl3 := ppTo_len R n k
          have hkn : k * n ≤ 12 * 12 := Nat.mul_le_mul (by omega) hn12
          obtain ⟨rk, hrk⟩ : ∃ rk, ppTo R n k = rk := ⟨_, rfl⟩
          rw [hrk] at HP HSC hpl3
          have k0 : (0 : Int) ≤ (k : Int) := by omega
          have k1 : (k : Int) < (n : Int) := by omega
          clear hxx hrk hp hb
          go_wp2_with fail
          refine (bitsIn_any x wo hlo).mono ?_
          rw [HBE.out]
          obtain ⟨zs, hzs⟩ : ∃ zs, endsTo R k n = zs := ⟨_, rfl⟩
          rw [hzs] at hel2 HSC ⊢
          rintro e w7 ⟨A7, c7, rfl, h7, k7⟩
          have O7 := Lib.hid (own_mono h7 HB.out.size)
          have P7 := Lib.hid (HP.out.keep k7)
          have K7 := Lib.hid (below_step HB.out k7)
          clear hzs h7 k7 z0
          go_wp2_with fail
          go_loopw [5, 30] (fun v i wr => ∃ (j : Nat) (xs : List IrX), j ≤ zs.length ∧ i = .int .i64 j ∧ PrI w6.heap.size v (rk ++ prs k (zs.take j)) xs wr ∧ wr.ownsRow w6.heap.size 3 1 (.slice A7 zs.length c7) zs.length (zs.map (Value.int .i64)) ∧ Below w6.heap.size w6 wr) (fun _ i _ => zs.length - (intOf i).toNat)
          case atStart => exact ⟨0, xs, Nat.zero_le _, rfl, by simpa [prs] using P7.out, O7.out, K7.out⟩
          case round =>
            clear P7 O7 K7 HP HB
            obtain ⟨j, xs, hj, rfl, hp, ho, hb⟩ := hrel
            obtain ⟨wq, rfl⟩ : ∃ wq : World, wq = wr := ⟨_, rfl⟩
            have HP := Lib.hid hp
            have HB := Lib.hid hb
            have HO := Lib.hid ho
            by_cases hjl : j < zs.length
            · obtain ⟨ad2, rfl, z1⟩ := RdI.at_ (show RdI wq A7 zs.length zs from Rd.of_own ho) hjl
              have HTK := Lib.hid (prs_take k zs j hjl)
              obtain ⟨z, hzz⟩ : ∃ z, zs.getD j 0 = z := ⟨_, rfl⟩
              rw [hzz] at z1 HTK
              have hxl := hp.xlen
              have hrl : (rk ++ prs k (zs.take j)).length ≤ 12 * 12 + 12 := by
                rw [List.length_append, prs_len, List.length_take]; omega
              obtain ⟨rj, hrj⟩ : ∃ rj, rk ++ prs k (zs.take j) = rj := ⟨_, rfl⟩
              rw [hrj] at HP hrl
              have HRJ := Lib.hid hrj
              have hwq := hb.size
              have ka := below_alloc wq (.cells #[.int .i64 k, .int .i64 z] 3)
              have pa := HP.out.keep ka
              have oa := own_below ho ka
              have ba := below_step hb ka
              have hza : wq.heap.size < (wq.alloc (.cells #[.int .i64 k, .int .i64 z] 3)).heap.size := by simp
              obtain ⟨gq, hgq⟩ : ∃ g, wq.heap.size = g := ⟨_, rfl⟩
              obtain ⟨Wa, hWa⟩ : ∃ W, wq.alloc (.cells #[.int .i64 k, .int .i64 z] 3) = W := ⟨_, rfl⟩
              rw [hWa] at pa oa ba hza
              rw [hgq] at hza hwq
              have HWA := Lib.hid hWa
              have HGQ := Lib.hid hgq
              have PA := Lib.hid pa
              have OA := Lib.hid oa
              have BA := Lib.hid ba
              have j0 : (0 : Int) ≤ (j : Int) := by omega
              have j1 : (j : Int) < (zs.length : Int) := by omega
              clear hzz hrj hp ho hb ka pa oa ba hxl
              go_wp2_with (first
                | (at_builtin
                   refine wpList_append_any _ rfl (.tmp 34) (.tmp 38) 41 rfl w6.heap.size 63 i0 _ 1 24 Try.underlying41 hi hz0 hz1 hz2 rfl (by decide) _ rj.length (xs.map IrX.v) rfl (own_below PA.out.row (below_alloc _ _)) (some ⟨Wa.heap.size, 0, none⟩) 1 1 [.slice (some ⟨gq, 0, none⟩) 2 2] rfl (Rd.new1 Wa _ _) (by intro u hu; simp at hu; subst hu; rfl) (by unfold maxLen; omega) (by omega) (by have := BA.out.size; simp; omega) ?_
                   intro v10 w10 hown hg hob
                   have D10 := Lib.hid (HP.out.push (by omega) HWA.out HGQ.out hown hg)
                   have O10 := Lib.hid ((own_below OA.out (below_alloc Wa (.cells #[.slice (some ⟨gq, 0, none⟩) 2 2] 63))).kept hg (own_ne (own_below OA.out (below_alloc Wa (.cells #[.slice (some ⟨gq, 0, none⟩) 2 2] 63))) (own_below PA.out.row (below_alloc Wa (.cells #[.slice (some ⟨gq, 0, none⟩) 2 2] 63))) (by decide)))
                   have B10 := Lib.hid ((below_step BA.out (below_alloc Wa (.cells #[.slice (some ⟨gq, 0, none⟩) 2 2] 63))).grown hg (by have := BA.out.size; simp; omega) (fun r hr => (PA.out.row.lt r hr).1))))
              clear hWa hgq
              go_roundw
              case rel =>
                refine ⟨j + 1, xs ++ [⟨[(k : Int), z], some ⟨gq, 0, none⟩, 2⟩], by omega, by go_num, ?_, O10.out, B10.out⟩
                rw [HTK.out, ← List.append_assoc, HRJ.out]
                exact D10.out
              case measure => simp [intOf]; omega
            · obtain rfl : j = zs.length := by omega
              rw [List.take_of_length_le (Nat.le_refl _), ← HSC.out] at hp
              have HP2 := Lib.hid hp
              clear hp ho hb
              go_wp2
              go_roundw
              case rel => exact ⟨k + 1, xs, by omega, by go_num, HP2.out, HB.out⟩
              case measure => simp [intOf]; omega
        · obtain rfl : k = n := by omega
          obtain ⟨A9, c9, rfl, _, _⟩ := own_slice hp.row
          clear hp hb
          go_wp2
          go_ret
          rw [HPL.out, HR.out]
          exact ⟨A9, c9, rfl, HP.out.ss.mono (Nat.le_trans HB2.out.size K6.out.size), below_step HB2.out (below_step K6.out HB.out)⟩
    · rw [PP_no hpo]
      rintro e w4 ⟨rfl, k4⟩
      have HN := Lib.hid hpo
      clear hpo
      go_wp2
      go_ret
      rw [HNO.out (fun h => HN.out h.2)]
      exact MadeSS.nil (below_step HB2.out (below_step k3 k4))
  · rw [PP_no hgo]
    rintro e w3 ⟨rfl, k3⟩
    have HN := Lib.hid hgo
    clear hgo
    go_wp2
    go_ret
    rw [HNO.out (fun h => HN.out h.1)]
    exact MadeSS.nil (below_step HB2.out k3)
end Go.Proofs.Ytgpjgigmlgoiiaa
