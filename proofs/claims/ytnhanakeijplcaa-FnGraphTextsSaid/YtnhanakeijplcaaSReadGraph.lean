/- ReadGraph: the reference's function. Conditions: the text's length. -/
import Derived.Test.YtnhanakeijplcaaRgLaw
namespace Go.Proofs.Ytnhanakeijplcaa
open Go.RowKit
section
variable {T : TypeId} {w wr wr' : World} {gS gG : Nat} {s : ByteArray} {s0 : Int} {st st' : Option Nat} {v : Value} {ks : List Ed}
theorem RG.other (h : RG T w gS gG s s0 st v ks wr) {q : Nat} (hg : wr.grownBy wr' (some q)) (hq : gG < q) (hv : ∀ r, v.ownBlock = some r → r ≠ q) : RG T w gS gG s s0 st v ks wr' where
  sc := h.sc.grown hg (fun e => by have := h.lt2; injection e with e; omega)
  gr := (hg.block gG (blk_lt h.gr) (fun e => by injection e with e; omega)).trans h.gr
  res := (hg.block _ (blk_lt h.res) (fun e => by have := h.lt1; have := h.lt2; injection e with e; omega)).trans h.res
  own := h.own.kept hg (.inr fun e => hv _ e rfl)
  bel := h.bel.grown hg h.bel.size (fun k hk => by injection hk with hk; have := h.lt1; have := h.lt2; omega)
  lt1 := h.lt1
  lt2 := h.lt2
end
theorem gtVal_yes {s : Int} {es : List Ed} (h : GOk s es) : gtVal s es = .tuple #[.string (strOfNums (gText s es)), .bool true] := by
  unfold gtVal
  rw [PP_yes h]
  rfl
theorem gtVal_no {s : Int} {es : List Ed} (h : ¬ GOk s es) : gtVal s es = .tuple #[.string ⟨#[]⟩, .bool false] := by
  unfold gtVal
  rw [PP_no h]
  rfl

set_option maxRecDepth 100000 in
set_option maxHeartbeats 6400000 in
theorem spec_ReadGraph_any (s : ByteArray) (hs : s.size ≤ 4294967296) (w : World) :
    Calls Try.prog 34 #[.string s] w (MadeGB w (rgOut s)) := by
  obtain ⟨i0, hi, hz0, hz1, hz2⟩ := info_parts Try.infoEdge
  have hb1 := scVal_bd (s := s) (st := some 0)
  obtain ⟨r0, hr0⟩ : ∃ r, rgSize s = r := ⟨_, rfl⟩
  have hr0' : scNum s (some 0) = r0 := hr0
  rw [hr0'] at hb1
  obtain ⟨r1, hr1⟩ : ∃ r, rgCount s = r := ⟨_, rfl⟩
  have hr1' : scNum s (r0.map Prod.snd) = r1 := by rw [← hr0]; exact hr1
  have hb2 := scVal_bd (s := s) (st := r0.map Prod.snd)
  rw [hr1'] at hb2
  have H0 := Lib.hid hr0
  have H1 := Lib.hid hr1
  have C0 := Lib.hid (fun g w => l03Var_any g s hs (some 0) w)
  rw [hr0'] at C0
  have C1 := Lib.hid (fun g w => l03Var_any g s hs (r0.map Prod.snd) w)
  rw [hr1'] at C1
  clear hr0 hr0' hr1 hr1'
  obtain ⟨n0, hn0⟩ : ∃ n, scVal r0 = n := ⟨_, rfl⟩
  obtain ⟨n1, hn1⟩ : ∃ n, scVal r1 = n := ⟨_, rfl⟩
  rw [hn0] at hb1
  rw [hn1] at hb2
  unfold Scans at C0 C1
  rw [hn0] at C0
  rw [hn1] at C1
  have N0 := Lib.hid hn0
  have N1 := Lib.hid hn1
  clear hn0 hn1
  have q1 := Lib.hid (heap_alloc_new w (.cells #[.int .i64 0, .slice none 0 0] 26))
  have q2 := Lib.hid (blk_below (below_alloc _ (.cells #[.string s, .int .i64 0, .bool false] 95)) q1.out)
  have D0 : ScAt 95 (w.heap.size + 1) s (some 0) ((w.alloc (.cells #[.int .i64 0, .slice none 0 0] 26)).alloc (.cells #[.string s, .int .i64 0, .bool false] 95)) := by
    refine ⟨0, false, ?_, Nat.zero_le _, rfl, fun x hx => by injection hx⟩
    have := heap_alloc_new (w.alloc (.cells #[.int .i64 0, .slice none 0 0] 26)) (.cells #[.string s, .int .i64 0, .bool false] 95)
    simpa using this
  have B0 : Below w.heap.size w ((w.alloc (.cells #[.int .i64 0, .slice none 0 0] 26)).alloc (.cells #[.string s, .int .i64 0, .bool false] 95)) := below_step (below_alloc _ _) (below_alloc _ _)
  clear q1
  go_enter Try.func34, Try.ntmps34
  go_wp2_with fail
  refine (C0.out _ _ D0).mono ?_
  rintro e w1 ⟨rfl, D1, g1⟩
  have B1 := B0.grown g1 B0.size (fun k hk => by injection hk; omega)
  have q3 := Lib.hid ((g1.block _ (blk_lt q2.out) (fun e => by injection e; omega)).trans q2.out)
  have hlt := D1.lt
  clear D0 B0 g1 q2 C0
  have k2 := below_alloc w1 (.cells #[.int .i64 n0, .slice none 0 0] 26)
  have q4 := Lib.hid (blk_below k2 q3.out)
  have p4 := Lib.hid (heap_alloc_new w1 (.cells #[.int .i64 n0, .slice none 0 0] 26))
  have D2 := D1.below k2
  have B2 := below_step B1 k2
  have R2 : RG 95 w (w.heap.size + 1) w1.heap.size s n0 (r0.map Prod.snd) (.slice none 0 0) [] (w1.alloc (.cells #[.int .i64 n0, .slice none 0 0] 26)) := ⟨D2, p4.out, q4.out, World.ownsRow_nil _ _ _ _, B2, by omega, hlt⟩
  clear D1 B1 q3 q4 p4 D2 B2 k2
  obtain ⟨gG, hgG⟩ : ∃ g, w1.heap.size = g := ⟨_, rfl⟩
  rw [hgG] at R2 hlt
  go_wp2_with fail
  refine (C1.out _ _ R2.sc).mono ?_
  clear hgG
  rintro e w2 ⟨rfl, D3, g3⟩
  have R3 := R2.scan D3 g3
  clear R2 D3 g3 C1
  have HF : Hid (([] : List Ed) ++ (rdEds s (min n1 50) (r1.map Prod.snd)).1 = (rgEds s 50).1 ∧ (rdEds s (min n1 50) (r1.map Prod.snd)).2 = (rgEds s 50).2) := by
    show _ ∧ _
    unfold rgEds
    rw [H1.out, N1.out]
    exact ⟨rfl, rfl⟩
  have hF : Hid ((([] : List Ed) ++ (rdEds s (min n1 50) (r1.map Prod.snd)).1, (rdEds s (min n1 50) (r1.map Prod.snd)).2) = rgEds s 50) := by
    show _ = _
    rw [HF.out.1, HF.out.2]
  clear HF
  have R3H := Lib.hid R3
  clear R3
  go_wp2
  go_loopw [7] (fun i wr => ∃ (k : Nat) (v : Value) (ks : List Ed) (st : Option Nat), k ≤ min n1 50 ∧ i = .int .i64 k ∧ ks.length ≤ k ∧ k ≤ ks.length ∧ Hid ((ks ++ (rdEds s (min n1 50 - k) st).1, (rdEds s (min n1 50 - k) st).2) = rgEds s 50) ∧ RG 95 w (w.heap.size + 1) gG s n0 st v ks wr) (fun i _ => 50 - (intOf i).toNat)
  case atStart => exact ⟨0, _, [], _, Nat.zero_le _, rfl, Nat.le_refl _, Nat.le_refl _, hF.out, R3H.out⟩
  case round =>
    clear R3H hF
    obtain ⟨k, v, ks, st, hk, rfl, hk1, hk2, HF, hR⟩ := hrel
    have hn1 : n1 ≤ 1000000000 := by omega
    by_cases hgo : k < n1 ∧ k < 50 ∧ st ≠ none
    · obtain ⟨hk3, hk4, hne⟩ := hgo
      obtain ⟨a, rfl⟩ : ∃ a, st = some a := by
        cases st with
        | none => exact absurd rfl hne
        | some a => exact ⟨a, rfl⟩
      clear hne
      obtain ⟨ra, hra⟩ : ∃ r, scNum s (some a) = r := ⟨_, rfl⟩
      obtain ⟨rb, hrb⟩ : ∃ r, scByte s (ra.map Prod.snd) = r := ⟨_, rfl⟩
      obtain ⟨rc, hrc⟩ : ∃ r, scNum s (rb.map Prod.snd) = r := ⟨_, rfl⟩
      have A0 := Lib.hid (fun g w => l03Var_any g s hs (some a) w)
      have A1 := Lib.hid (fun g w => l03Byte_any g s hs (ra.map Prod.snd) w)
      have A2 := Lib.hid (fun g w => l03Var_any g s hs (rb.map Prod.snd) w)
      unfold Scans at A0 A1 A2
      rw [hra] at A0
      rw [hrb] at A1
      rw [hrc] at A2
      have hba := scVal_bd (s := s) (st := some a)
      have hbc := scVal_bd (s := s) (st := rb.map Prod.snd)
      have hbl := scByte_bd (s := s) (st := ra.map Prod.snd)
      rw [hra] at hba
      rw [hrc] at hbc
      rw [hrb] at hbl
      have HE : Hid (rdEd s (some a) = (⟨(scVal ra : Nat), (scVal rb : Nat), (scVal rc : Nat)⟩, rc.map Prod.snd)) := by
        show _ = _
        unfold rdEd
        rw [hra, hrb, hrc]
      clear hra hrb hrc
      obtain ⟨f, hf⟩ : ∃ n, scVal ra = n := ⟨_, rfl⟩
      obtain ⟨l, hl⟩ : ∃ n, scVal rb = n := ⟨_, rfl⟩
      obtain ⟨t, ht⟩ : ∃ n, scVal rc = n := ⟨_, rfl⟩
      rw [hf] at hba A0 HE
      rw [hl] at hbl A1 HE
      rw [ht] at hbc A2 HE
      clear hf hl ht
      obtain ⟨a', bb, hsb, _, hbb, _⟩ := hR.sc
      obtain rfl : bb = false := hbb
      have b2 := cell_of_row wr _ 2 _ _ (0, 0) hsb
      simp at b2
      clear hsb
      have k40 : (k : Int) < 50 := by omega
      have k30 : (k : Int) < (n1 : Int) := by omega
      go_wp2_with fail
      refine (A0.out _ _ hR.sc).mono ?_
      rintro e w3 ⟨rfl, D3, g3⟩
      have R3 := hR.scan D3 g3
      clear hR D3 g3 A0 b2
      have R4 := R3.keep (below_alloc w3 (.cells #[.int .i64 f, .int .u8 0, .int .i64 0] 31))
      have p4 := Lib.hid (heap_alloc_new w3 (.cells #[.int .i64 f, .int .u8 0, .int .i64 0] 31))
      have hv : ∀ r, v.ownBlock = some r → r < w3.heap.size := fun r h => (R3.own.lt r h).2
      have hgl := blk_lt R3.gr
      obtain ⟨ge, hge⟩ : ∃ g, w3.heap.size = g := ⟨_, rfl⟩
      rw [hge] at p4 hv hgl
      have HV := Lib.hid hv
      clear R3 hv
      go_wp2_with fail
      refine (A1.out _ _ R4.sc).mono ?_
      rintro e w4 ⟨rfl, D5, g5⟩
      have R5 := R4.scan D5 g5
      have hlts := R5.lt2
      have p5 := Lib.hid ((g5.block ge (blk_lt p4.out) (fun e => by injection e; omega)).trans p4.out)
      clear hge R4 D5 g5 A1 p4
      have e1 := blk_cell (o := 1) p5.out rfl
      have ef1 : w4.frozen? ⟨ge, 1, none⟩ = false := frozen_of_row w4 _ 1 _ _ p5.out
      have R6 := R5.other (only_setCell (World.grownBy.refl w4 (some ge)) 1 (.int .u8 l)) hgl (fun r h => by have := HV.out r h; omega)
      have p6 : Hid ((w4.setCell ⟨ge, 1, none⟩ (.int .u8 l)).heap[ge]? = some (.cells #[.int .i64 f, .int .u8 l, .int .i64 0] 31 (0, 0))) := heap_setCell_same w4 ge 1 _ _ _ p5.out
      clear R5 p5
      have ll : IntKind.u8.wrap (l : Int) = (l : Int) := by rw [IntKind.wrap_u8]; omega
      go_wp2_with fail
      refine (A2.out _ _ R6.sc).mono ?_
      rintro e w5 ⟨rfl, D7, g7⟩
      have R7 := R6.scan D7 g7
      have p7 := Lib.hid ((g7.block ge (blk_lt p6.out) (fun e => by injection e; omega)).trans p6.out)
      clear R6 D7 g7 A2 p6 e1 ef1
      have e2 := blk_cell (o := 2) p7.out rfl
      have ef2 : w5.frozen? ⟨ge, 2, none⟩ = false := frozen_of_row w5 _ 2 _ _ p7.out
      have R8 := R7.other (only_setCell (World.grownBy.refl w5 (some ge)) 2 (.int .i64 t)) hgl (fun r h => by have := HV.out r h; omega)
      have p8 : Hid ((w5.setCell ⟨ge, 2, none⟩ (.int .i64 t)).heap[ge]? = some (.cells #[.int .i64 f, .int .u8 l, .int .i64 t] 31 (0, 0))) := heap_setCell_same w5 ge 2 _ _ _ p7.out
      clear R7 p7
      have v8 := blk_cell (o := 1) R8.gr rfl
      have x0 := blk_cell (o := 0) p8.out rfl
      have x1 := blk_cell (o := 1) p8.out rfl
      have x2 := blk_cell (o := 2) p8.out rfl
      have hsz : (w5.setCell ⟨ge, 2, none⟩ (.int .i64 t)).heap.size = w5.heap.size := by simp
      have hnew := Rd.new3 (w5.setCell ⟨ge, 2, none⟩ (.int .i64 t)) (.int .i64 f) (.int .u8 l) (.int .i64 t) 31
      rw [hsz] at hnew
      have HN := Lib.hid hnew
      have hg8 := blk_lt R8.gr
      rw [hsz] at hg8
      clear hnew hsz
      go_wp2_with (first
        | (at_builtin
           refine wpList_append_any _ rfl (.tmp 46) (.tmp 48) 24 rfl (gG + 1) 31 i0 _ 3 24 Try.underlying24 hi hz0 hz1 hz2 rfl (by decide) v ks.length (edCells ks) rfl (R8.own.alloc _) (some ⟨w5.heap.size, 0, none⟩) 1 1 [.int .i64 f, .int .u8 l, .int .i64 t] rfl HN.out (by intro u hu; simp at hu; rcases hu with rfl | rfl | rfl <;> rfl) (by unfold maxLen; omega) (by omega) (by simp; omega) ?_
           intro v1' w7 hown7 hg7 _
           obtain ⟨A1', c1', rfl, _, _⟩ := own_slice hown7
           have R9 := Lib.hid (R8.put (x := ⟨f, l, t⟩) hown7 hg7)
           have gr7 := (hg7.block gG (by simp; omega) (fun e => by have := (R8.own.lt _ e.symm).1; omega)).trans (blk_below (below_alloc _ _) R8.gr)
           have d7 := blk_cell (o := 1) gr7 rfl
           have f7 : w7.frozen? ⟨gG, 1, none⟩ = false := frozen_of_row w7 gG 1 _ _ gr7
           clear gr7))
      go_roundw
      case rel =>
        refine ⟨k + 1, _, ks ++ [⟨f, l, t⟩], rc.map Prod.snd, by omega, by go_num, by simp; omega, by simp; omega, ?_, by simpa using R9.out⟩
        show _ = _
        have := HF.out
        rw [show min n1 50 - k = (min n1 50 - (k + 1)) + 1 by omega] at this
        have := rg_next this
        rw [HE.out] at this
        exact this
      case measure => simp [intOf]; omega
    · have hgo' := hgo
      have HX : Hid ((ks, st) = rgEds s 50) := by
        show _ = _
        have h1 := HF.out
        cases st with
        | none => rw [rdEds_none] at h1; simpa using h1
        | some a =>
          have : min n1 50 - k = 0 := by
            have : ¬ (k < n1 ∧ k < 50) := fun h => hgo ⟨h.1, h.2, by simp⟩
            omega
          rw [this] at h1
          simpa [rdEds] using h1
      have E1 : (rgEds s 50).1 = ks := by rw [← HX.out]
      have E2 : (rgEds s 50).2 = st := by rw [← HX.out]
      have hlab : ∀ e ∈ ks, 0 ≤ e.l ∧ e.l ≤ 255 := by rw [← E1]; exact rgEds_lab s 50
      have HO : Hid (rgOut s = (open Classical in if st ≠ none ∧ GOk n0 ks ∧ strOfNums (gText n0 ks) = s then some ((n0 : Int), ks) else none)) := by
        show _ = _
        rw [← rgOut2_eq]
        unfold rgOut2
        rw [E1, E2, H0.out, N0.out]
      have HL := Lib.hid hlab
      clear E1 E2 HX HF hlab hgo
      obtain ⟨A, c, rfl, _, _⟩ := own_slice hR.own
      have P := Lib.hid (fun w hx => spec_GraphText_any n0 A c ks w hx (by omega) HL.out)
      have hexit : n1 ≤ k ∨ (k < n1 ∧ 50 ≤ k) ∨ (k < n1 ∧ k < 50 ∧ st = none) := by
        by_cases q1 : k < n1
        · by_cases q2 : k < 50
          · right
            right
            refine ⟨q1, q2, ?_⟩
            cases st with
            | none => rfl
            | some a => exact absurd ⟨q1, q2, by simp⟩ hgo'
          · right
            left
            exact ⟨q1, by omega⟩
        · left
          omega
      clear hgo'
      obtain ⟨a', bb, hsb, _, hbb, _⟩ := hR.sc
      have b2 := cell_of_row wr _ 2 _ _ (0, 0) hsb
      simp at b2
      have HSB := Lib.hid hsb
      clear hsb
      have c0 := blk_cell (o := 0) hR.gr rfl
      have c1 := blk_cell (o := 1) hR.gr rfl
      by_cases hT : st ≠ none ∧ GOk n0 ks ∧ strOfNums (gText n0 ks) = s
      · have hO : rgOut s = some ((n0 : Int), ks) := by rw [HO.out]; exact if_pos hT
        have HQ := Lib.hid hO
        clear hO HO
        obtain ⟨hT1, hT2, hT3⟩ := hT
        rw [gtVal_yes hT2, hT3] at P
        obtain rfl : bb = false := by
          rw [hbb]
          cases st with
          | none => exact absurd rfl hT1
          | some a => rfl
        have hexit2 : n1 ≤ k ∨ (k < n1 ∧ 50 ≤ k) := by
          rcases hexit with h | h | ⟨_, _, h⟩
          · exact .inl h
          · exact .inr h
          · exact absurd h hT1
        clear hexit hT1 hT2 hT3 hbb
        have tt : (s.toList == s.toList) = true := by simp
        rcases hexit2 with h1 | ⟨h1, h2⟩
        all_goals
          go_wp2_with fail
          refine (P.out _ (Rd.of_own hR.own)).mono ?_
          rintro e w4 ⟨rfl, k4⟩
          have R4 := hR.keep k4
          have c0 := blk_cell (o := 0) R4.gr rfl
          have c1 := blk_cell (o := 1) R4.gr rfl
          have d0 := blk_cell (o := 0) R4.res rfl
          have d1 := blk_cell (o := 1) R4.res rfl
          have b2 := held_step k4 b2
          have f0 : w4.frozen? ⟨w.heap.size, 0, none⟩ = false := frozen_of_row w4 _ 0 _ _ R4.res
          have f1 : w4.frozen? ⟨w.heap.size, 1, none⟩ = false := frozen_of_row w4 _ 1 _ _ R4.res
          have hlw : w.heap.size < gG := by have := R4.lt1; have := R4.lt2; omega
          clear hR k4
          go_wp2
          refine bodyPost_ret (v := .tuple #[.agg #[.int .i64 n0, .slice A ks.length c], .bool true]) (by simp [results, Try.results34, go_sem, d0, d1]) rfl (MadeGB.of HQ.out ⟨A, c, rfl, ?_, ?_⟩)
          · exact own_mono (ownsRow_setCell_below (ownsRow_setCell_below R4.own (a := ⟨w.heap.size, 0, none⟩) (by simp; omega) _) (a := ⟨w.heap.size, 1, none⟩) (by simp; omega) _) (by omega)
          · exact (R4.bel.setCell (Nat.le_refl _) _).setCell (Nat.le_refl _) _
      · have hO : rgOut s = none := by rw [HO.out]; exact if_neg hT
        have HQ := Lib.hid hO
        clear hO HO
        have hcase : (∃ y r, gtVal n0 ks = .tuple #[.string y, .bool r] ∧ (bb = true ∨ (bb = false ∧ r = false) ∨ (bb = false ∧ r = true ∧ (y.toList == s.toList) = false))) := by
          by_cases hg : GOk n0 ks
          · refine ⟨_, _, gtVal_yes hg, ?_⟩
            cases st with
            | none => exact .inl hbb
            | some a =>
              refine .inr (.inr ⟨hbb, rfl, ?_⟩)
              rw [beq_eq_false_iff_ne]
              intro h
              rw [ByteArray.toList_eq, ByteArray.toList_eq] at h
              exact hT ⟨by simp, hg, ByteArray.ext (Array.toList_inj.1 h)⟩
          · refine ⟨_, _, gtVal_no hg, ?_⟩
            cases st with
            | none => exact .inl hbb
            | some a => exact .inr (.inl ⟨hbb, rfl⟩)
        obtain ⟨y, r, hy, hcase⟩ := hcase
        rw [hy] at P
        clear hy hT
        have hexit2 : n1 ≤ k ∨ (k < n1 ∧ 50 ≤ k) ∨ (k < n1 ∧ k < 50 ∧ bb = true) := by
          rcases hexit with h | h | ⟨h1, h2, h⟩
          · exact .inl h
          · exact .inr (.inl h)
          · exact .inr (.inr ⟨h1, h2, by rw [hbb, h]; rfl⟩)
        clear hexit hbb
        rcases hcase with rfl | ⟨rfl, rfl⟩ | ⟨rfl, rfl, hyt⟩
        all_goals
          rcases hexit2 with h1 | ⟨h1, h2⟩ | ⟨h1, h2, h3⟩
          all_goals first
            | (cases h3; done)
            | (try clear h3
               go_wp2_with fail
               refine (P.out _ (Rd.of_own hR.own)).mono ?_
               rintro e w4 ⟨rfl, k4⟩
               have R4 := hR.keep k4
               have d0 := blk_cell (o := 0) R4.res rfl
               have d1 := blk_cell (o := 1) R4.res rfl
               have b2 := held_step k4 b2
               have f0 : w4.frozen? ⟨w.heap.size, 0, none⟩ = false := frozen_of_row w4 _ 0 _ _ R4.res
               have f1 : w4.frozen? ⟨w.heap.size, 1, none⟩ = false := frozen_of_row w4 _ 1 _ _ R4.res
               clear hR k4 c0 c1
               go_wp2
               refine bodyPost_ret (v := .tuple #[.agg #[.int .i64 0, .slice none 0 0], .bool false]) (by simp [results, Try.results34, go_sem, d0, d1]) rfl (MadeGB.of HQ.out ⟨none, 0, rfl, World.ownsRow_nil _ _ _ _, ?_⟩)
               exact (R4.bel.setCell (Nat.le_refl _) _).setCell (Nat.le_refl _) _)
end Go.Proofs.Ytnhanakeijplcaa
