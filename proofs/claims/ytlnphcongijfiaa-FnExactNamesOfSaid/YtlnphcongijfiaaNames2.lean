/- NamesOf: the two walks. No conditions but the lengths. Printed by xnames2.py. -/
import Derived.Test.YtlnphcongijfiaaNames
namespace Go.Proofs.Ytlnphcongijfiaa
open Go.RowKit
set_option maxRecDepth 100000 in

set_option maxHeartbeats 6400000 in
theorem spec_NamesOf_any (ea : Bool) (A B C : Option Addr) (c d f : Nat) (os : List ByteArray) (as_ : List At) (fs : List Fl) (w : World) (hx : RdQ w A B C os as_ fs) (hm : as_.length ≤ 1048576) :
    Calls Try.prog 13 #[.agg #[.bool ea, .slice A os.length c, .slice B as_.length d, .slice C fs.length f]] w (MadeT_ w (namesL as_)) := by
  obtain ⟨i0, hi, hz0, hz1, hz2⟩ := info_parts Try.infoStr
  have p0 := heap_alloc_new w (.cells #[.bool ea, .slice A os.length c, .slice B as_.length d, .slice C fs.length f] 32)
  obtain ⟨W, hW⟩ : ∃ W, w.alloc (.cells #[.bool ea, .slice A os.length c, .slice B as_.length d, .slice C fs.length f] 32) = W := ⟨_, rfl⟩
  have hb0 := below_alloc w (.cells #[.bool ea, .slice A os.length c, .slice B as_.length d, .slice C fs.length f] 32)
  rw [hW] at p0 hb0
  have HX := Lib.hid (hx.below hb0)
  have HB0 := Lib.hid hb0
  have P0 := Lib.hid p0
  clear hx hb0
  have N0 := Lib.hid (show NameI W (.slice (some ⟨W.heap.size, 0, none⟩) 0 0) [] (W.alloc (.cells #[] 9)) from ⟨World.ownsRow_made W #[] 0 (Nat.le_refl _) (by unfold maxLen; omega) rfl, below_alloc _ _⟩)
  clear p0
  go_enter Try.func13, Try.ntmps13
  go_wp2_with fail
  clear hW
  go_loopw [3, 4] (fun v i wr => ∃ (k : Nat) (vs : List ByteArray), k ≤ as_.length ∧ i = .int .i64 k ∧ Hid (vs = namesL (as_.take k)) ∧ NameI W v vs wr) (fun _ i _ => as_.length - (intOf i).toNat)
  case atStart => exact ⟨0, [], Nat.zero_le _, rfl, Lib.hid (by simp [namesL]), N0.out⟩
  case round =>
    clear N0
    obtain ⟨k, vs, hk, rfl, HV, hni⟩ := hrel
    by_cases hlt : k < as_.length
    · obtain ⟨b, o, hE, c0, c1', c2⟩ := (HX.out.a.below hni.bel).at_ hlt
      subst hE
      have hnx := namesL_next hlt
      rw [← HV.out] at hnx
      have hvl : vs.length ≤ 2097152 := by
        have := namesL_len (as_.take k)
        rw [← HV.out, List.length_take] at this
        omega
      obtain ⟨x, hxx⟩ : ∃ x, as_[k] = x := ⟨_, rfl⟩
      rw [hxx] at c0 c1' c2 hnx
      have HXX := Lib.hid hxx
      clear hxx
      obtain ⟨xf, xp, xt⟩ := x
      simp only at c0 c1' c2 hnx
      have HNX := Lib.hid hnx
      have NI := Lib.hid hni
      have k0 : (0 : Int) ≤ (k : Int) := by omega
      have k1 : (k : Int) < (as_.length : Int) := by omega
      clear hnx hni
      have z2 := blk_cell (o := 2) (blk_below NI.out.bel P0.out) rfl
      have L1 := Lib.hid (l08In_own vs xf wr NI.out.own (by omega))
      obtain ⟨r1, hr1⟩ : ∃ r, inB vs xf = r := ⟨_, rfl⟩
      rw [hr1] at L1
      have HR1 := Lib.hid hr1
      clear hr1 c1'
      go_wp2_with fail
      refine L1.out.mono ?_
      rintro e w1 ⟨rfl, rfl⟩
      clear L1
      cases r1
      · go_wp2_with (first
          | (at_builtin
             refine wpList_append_any _ rfl (.tmp 22) (.tmp 29) 22 rfl W.heap.size 9 i0 (.string ⟨#[]⟩) 1 16 Try.underlying22 hi hz0 hz1 hz2 rfl (by decide) _ (vs).length _ rfl (own_below NI.out.own (below_alloc _ _)) (some ⟨wr.heap.size, 0, none⟩) 1 1 [.string xf] rfl (Rd.new wr #[.string xf] 9 rfl rfl) (by intro v hv; simp at hv; subst hv; rfl) (by unfold maxLen; first | omega | (simp; omega)) (by first | omega | (simp; omega)) (by have := NI.out.bel.size; simp; omega) ?_
             intro v8 w8 hown hg hob
             have N8 := Lib.hid (NI.out.push hown hg)
             have z2 := blk_cell (o := 2) (blk_below N8.out.bel P0.out) rfl
             obtain ⟨b', o', hE, _, _, c2⟩ := (HX.out.a.below N8.out.bel).at_ hlt
             cases hE
             rw [HXX.out] at c2
             simp only at c2
             clear hown hg hob
             refine Hid.out ?_))
        refine Lib.hid ?_
        have L2 := Lib.hid (l08In_own (vs ++ [xf]) xt w8 N8.out.own (by first | omega | (simp; omega)))
        obtain ⟨r2, hr2⟩ : ∃ r, inB (vs ++ [xf]) xt = r := ⟨_, rfl⟩
        rw [hr2] at L2
        have HR2 := Lib.hid hr2
        clear hr2
        go_wp2_with fail
        refine L2.out.mono ?_
        rintro e w2 ⟨rfl, rfl⟩
        clear L2
        cases r2
        · go_wp2_with (first
            | (at_builtin
               refine wpList_append_any _ rfl (.tmp 40) (.tmp 47) 22 rfl W.heap.size 9 i0 (.string ⟨#[]⟩) 1 16 Try.underlying22 hi hz0 hz1 hz2 rfl (by decide) _ (vs ++ [xf]).length _ rfl (own_below N8.out.own (below_alloc _ _)) (some ⟨w8.heap.size, 0, none⟩) 1 1 [.string xt] rfl (Rd.new w8 #[.string xt] 9 rfl rfl) (by intro v hv; simp at hv; subst hv; rfl) (by unfold maxLen; first | omega | (simp; omega)) (by first | omega | (simp; omega)) (by have := N8.out.bel.size; simp; omega) ?_
               intro v9 w9 hown hg hob
               have N9 := Lib.hid (N8.out.push hown hg)))
          go_roundw
          case rel => exact ⟨k + 1, _, by omega, by go_num, Lib.hid (by rw [HNX.out, addN_no HR1.out, addN_no HR2.out]), N9.out⟩
          case measure => simp [intOf]; omega
        · go_wp2
          go_roundw
          case rel => exact ⟨k + 1, _, by omega, by go_num, Lib.hid (by rw [HNX.out, addN_no HR1.out, addN_yes HR2.out]), N8.out⟩
          case measure => simp [intOf]; omega
      · skip
        have L2 := Lib.hid (l08In_own (vs) xt wr NI.out.own (by first | omega | (simp; omega)))
        obtain ⟨r2, hr2⟩ : ∃ r, inB (vs) xt = r := ⟨_, rfl⟩
        rw [hr2] at L2
        have HR2 := Lib.hid hr2
        clear hr2
        go_wp2_with fail
        refine L2.out.mono ?_
        rintro e w2 ⟨rfl, rfl⟩
        clear L2
        cases r2
        · go_wp2_with (first
            | (at_builtin
               refine wpList_append_any _ rfl (.tmp 40) (.tmp 47) 22 rfl W.heap.size 9 i0 (.string ⟨#[]⟩) 1 16 Try.underlying22 hi hz0 hz1 hz2 rfl (by decide) _ (vs).length _ rfl (own_below NI.out.own (below_alloc _ _)) (some ⟨wr.heap.size, 0, none⟩) 1 1 [.string xt] rfl (Rd.new wr #[.string xt] 9 rfl rfl) (by intro v hv; simp at hv; subst hv; rfl) (by unfold maxLen; first | omega | (simp; omega)) (by first | omega | (simp; omega)) (by have := NI.out.bel.size; simp; omega) ?_
               intro v9 w9 hown hg hob
               have N9 := Lib.hid (NI.out.push hown hg)))
          go_roundw
          case rel => exact ⟨k + 1, _, by omega, by go_num, Lib.hid (by rw [HNX.out, addN_yes HR1.out, addN_no HR2.out]), N9.out⟩
          case measure => simp [intOf]; omega
        · go_wp2
          go_roundw
          case rel => exact ⟨k + 1, _, by omega, by go_num, Lib.hid (by rw [HNX.out, addN_yes HR1.out, addN_yes HR2.out]), NI.out⟩
          case measure => simp [intOf]; omega
    · obtain rfl : k = as_.length := by omega
      have h := HV.out
      rw [List.take_of_length_le (Nat.le_refl _)] at h
      have HH := Lib.hid h
      have NI := Lib.hid hni
      have z2 := blk_cell (o := 2) (blk_below NI.out.bel P0.out) rfl
      clear hni h
      go_wp2
      go_ret
      exact MadeT_.of HH.out NI.out HB0.out

set_option maxRecDepth 100000 in
set_option maxHeartbeats 6400000 in
theorem impl_NamesOf_any (ea : Bool) (A B C : Option Addr) (c d f : Nat) (os : List ByteArray) (as_ : List At) (fs : List Fl) (w : World) (hx : RdQ w A B C os as_ fs) (hm : as_.length ≤ 1048576) :
    Calls Try.prog 14 #[.agg #[.bool ea, .slice A os.length c, .slice B as_.length d, .slice C fs.length f]] w (MadeT_ w (namesL as_)) := by
  obtain ⟨i0, hi, hz0, hz1, hz2⟩ := info_parts Try.infoStr
  have p0 := heap_alloc_new w (.cells #[.bool ea, .slice A os.length c, .slice B as_.length d, .slice C fs.length f] 32)
  obtain ⟨W, hW⟩ : ∃ W, w.alloc (.cells #[.bool ea, .slice A os.length c, .slice B as_.length d, .slice C fs.length f] 32) = W := ⟨_, rfl⟩
  have hb0 := below_alloc w (.cells #[.bool ea, .slice A os.length c, .slice B as_.length d, .slice C fs.length f] 32)
  rw [hW] at p0 hb0
  have HX := Lib.hid (hx.below hb0)
  have HB0 := Lib.hid hb0
  have P0 := Lib.hid p0
  clear hx hb0
  have N0 := Lib.hid (show NameI W (.slice none 0 0) [] W from ⟨World.ownsRow_nil _ _ _ _, Below.refl _ _⟩)
  have z2 := blk_cell (o := 2) p0 rfl
  clear p0
  go_enter Try.func14, Try.ntmps14
  go_wp2_with fail
  clear hW z2
  go_loopw [3, 11] (fun v i wr => ∃ (k : Nat) (vs : List ByteArray), k ≤ as_.length ∧ i = .int .i64 k ∧ Hid (vs = namesL (as_.take k)) ∧ NameI W v vs wr) (fun _ i _ => as_.length - (intOf i).toNat)
  case atStart => exact ⟨0, [], Nat.zero_le _, rfl, Lib.hid (by simp [namesL]), N0.out⟩
  case round =>
    clear N0
    obtain ⟨k, vs, hk, rfl, HV, hni⟩ := hrel
    by_cases hlt : k < as_.length
    · obtain ⟨b, o, hE, c0, c1', c2⟩ := (HX.out.a.below hni.bel).at_ hlt
      subst hE
      have hnx := namesL_next hlt
      rw [← HV.out] at hnx
      have hvl : vs.length ≤ 2097152 := by
        have := namesL_len (as_.take k)
        rw [← HV.out, List.length_take] at this
        omega
      obtain ⟨x, hxx⟩ : ∃ x, as_[k] = x := ⟨_, rfl⟩
      rw [hxx] at c0 c1' c2 hnx
      have HXX := Lib.hid hxx
      clear hxx
      obtain ⟨xf, xp, xt⟩ := x
      simp only at c0 c1' c2 hnx
      have HNX := Lib.hid hnx
      have NI := Lib.hid hni
      have k0 : (0 : Int) ≤ (k : Int) := by omega
      have k1 : (k : Int) < (as_.length : Int) := by omega
      clear hnx hni
      obtain ⟨wo, rfl⟩ : ∃ wo : World, wo = wr := ⟨_, rfl⟩
      obtain ⟨vo, rfl⟩ : ∃ vo : Value, vo = u3 := ⟨_, rfl⟩
      have pa := heap_alloc_new wo (.cells #[.string xf, .string xp, .string xt] 86)
      have pb := heap_alloc_new (wo.alloc (.cells #[.string xf, .string xp, .string xt] 86)) (.cells #[.string xf, .string xt] 9)
      have hba := below_alloc wo (.cells #[.string xf, .string xp, .string xt] 86)
      have hbb := below_alloc (wo.alloc (.cells #[.string xf, .string xp, .string xt] 86)) (.cells #[.string xf, .string xt] 9)
      rw [show (wo.alloc (.cells #[.string xf, .string xp, .string xt] 86)).heap.size = wo.heap.size + 1 by simp] at pb
      have ND := Lib.hid ((NI.out.keep hba).keep hbb)
      have HNB : Hid (vo.ownBlock ≠ some (wo.heap.size + 1)) := Lib.hid (fun e => by have := (NI.out.own.lt _ e).2; omega)
      have a0 := blk_cell (o := 0) pa rfl
      have a2 := blk_cell (o := 2) pa rfl
      have PB := Lib.hid pb
      clear pa pb hba hbb
      go_wp2_with fail
      clear a0 a2
      go_loopw [3, 21] (fun v i wy => ∃ (m : Nat) (ys : List ByteArray), m ≤ 2 ∧ i = .int .i64 m ∧ Hid (ys = ([xf, xt].take m).foldl addN vs) ∧ ys.length ≤ 2097152 + m ∧ Hid (v.ownBlock ≠ some (wo.heap.size + 1)) ∧ wy.heap[wo.heap.size + 1]? = some (.cells #[.string xf, .string xt] 9 (0, 0)) ∧ NameI W v ys wy) (fun _ i _ => 2 - (intOf i).toNat)
      case atStart => exact ⟨0, vs, by omega, rfl, Lib.hid rfl, by omega, HNB, PB.out, ND.out⟩
      case round =>
        clear ND HNB PB NI
        obtain ⟨m, ys, hm2, rfl, HY, hyl, HNB, hq, hni⟩ := hrel
        obtain ⟨wy, rfl⟩ : ∃ wy : World, wy = wr := ⟨_, rfl⟩
        have NI := Lib.hid hni
        have HQ := Lib.hid hq
        have hlq := blk_lt hq
        by_cases hm1 : m < 2
        · have e0 : ∃ u, wy.cell? ⟨wo.heap.size + 1, m, none⟩ = some (.string u) ∧ ([xf, xt].take (m + 1)).foldl addN vs = addN ys u := by
            rcases (by omega : m = 0 ∨ m = 1) with rfl | rfl
            · exact ⟨xf, blk_cell (o := 0) hq rfl, by rw [HY.out]; rfl⟩
            · exact ⟨xt, blk_cell (o := 1) hq rfl, by rw [HY.out]; rfl⟩
          obtain ⟨u, e0, hstep⟩ := e0
          have HST := Lib.hid hstep
          have L1 := Lib.hid (ContainsS_own ys u wy NI.out.own (by omega))
          obtain ⟨r1, hr1⟩ : ∃ r, inB ys u = r := ⟨_, rfl⟩
          rw [hr1] at L1
          have HR1 := Lib.hid hr1
          have m0 : (0 : Int) ≤ (m : Int) := by omega
          have m1 : (m : Int) < 2 := by omega
          clear hr1 hq hni hstep hlq
          go_wp2_with fail
          refine L1.out.mono ?_
          rintro e w1 ⟨rfl, rfl⟩
          clear L1
          cases r1
          · go_wp2_with (first
              | (at_builtin
                 refine wpList_append_any _ rfl (.tmp 29) (.tmp 31) 22 rfl W.heap.size 9 i0 (.string ⟨#[]⟩) 1 16 Try.underlying22 hi hz0 hz1 hz2 rfl (by decide) _ (ys).length _ rfl (own_below NI.out.own (below_alloc _ _)) (some ⟨wy.heap.size, 0, none⟩) 1 1 [.string u] rfl (Rd.new wy #[.string u] 9 rfl rfl) (by intro v hv; simp at hv; subst hv; rfl) (by unfold maxLen; first | omega | (simp; omega)) (by first | omega | (simp; omega)) (by have := NI.out.bel.size; simp; omega) ?_
                 intro v8 w8 hown hg hob
                 have N8 := Lib.hid (NI.out.push hown hg)
                 have q8 := (hg.block _ (by have := blk_lt HQ.out; simp; omega) (fun e => HNB.out e.symm)).trans (blk_below (below_alloc wy (.cells #[.string u] 9)) HQ.out)
                 have h8 : Hid (v8.ownBlock ≠ some (wo.heap.size + 1)) := Lib.hid (fun e => by rcases hob with h | h <;> rw [h] at e <;> first | exact HNB.out e | (have := blk_lt HQ.out; simp at e; omega))
                 have Q8 := Lib.hid q8
                 clear hown hg hob q8))
            go_roundw
            case rel => exact ⟨m + 1, _, by omega, by go_num, Lib.hid (by rw [HST.out, addN_no HR1.out]), by first | omega | (simp; omega), h8, Q8.out, N8.out⟩
            case measure => simp [intOf]; omega
          · go_wp2
            go_roundw
            case rel => exact ⟨m + 1, _, by omega, by go_num, Lib.hid (by rw [HST.out, addN_yes HR1.out]), by omega, HNB, HQ.out, NI.out⟩
            case measure => simp [intOf]; omega
        · obtain rfl : m = 2 := by omega
          have hfin : ys = namesL (as_.take (k + 1)) := by rw [HNX.out, HY.out]; rfl
          have HF := Lib.hid hfin
          clear hfin hq hni
          go_wp2
          go_roundw
          case rel => exact ⟨k + 1, ys, by omega, by go_num, HF, NI.out⟩
          case measure => simp [intOf]; omega
    · obtain rfl : k = as_.length := by omega
      have h := HV.out
      rw [List.take_of_length_le (Nat.le_refl _)] at h
      have HH := Lib.hid h
      have NI := Lib.hid hni
      have z2 := blk_cell (o := 2) (blk_below NI.out.bel P0.out) rfl
      clear hni h
      go_wp2
      go_ret
      exact MadeT_.of HH.out NI.out HB0.out
end Go.Proofs.Ytlnphcongijfiaa
