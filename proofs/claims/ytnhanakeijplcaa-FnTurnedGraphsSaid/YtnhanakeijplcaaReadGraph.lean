/- ReadGraph: the program's function, against a plain reading of the text. Conditions: the text's length. -/
import Derived.Test.YtnhanakeijplcaaScanS
import Derived.Test.YtnhanakeijplcaaBlk
import Derived.Test.YtnhanakeijplcaaGraphText
import Derived.Test.YtnhanakeijplcaaApp
import Derived.Test.YtnhanakeijplcaaPartOf
namespace Go.Proofs.Ytnhanakeijplcaa
open Go.RowKit

/-- One edge is read. -/
def rdEd (s : ByteArray) (st : Option Nat) : Ed × Option Nat :=
  (⟨scVal (scNum s st), scVal (scByte s ((scNum s st).map Prod.snd)), scVal (scNum s ((scByte s ((scNum s st).map Prod.snd)).map Prod.snd))⟩, (scNum s ((scByte s ((scNum s st).map Prod.snd)).map Prod.snd)).map Prod.snd)
/-- At most k edges are read, till the text is bad. -/
def rdEds (s : ByteArray) : Nat → Option Nat → List Ed × Option Nat
  | 0, st => ([], st)
  | _ + 1, none => ([], none)
  | k + 1, some a => ((rdEd s (some a)).1 :: (rdEds s k (rdEd s (some a)).2).1, (rdEds s k (rdEd s (some a)).2).2)
theorem rdEds_none (s : ByteArray) (k : Nat) : rdEds s k none = ([], none) := by cases k <;> rfl
theorem rdEds_len (s : ByteArray) : ∀ (k : Nat) (st : Option Nat), (rdEds s k st).1.length ≤ k
  | 0, _ => by simp [rdEds]
  | k + 1, none => by simp [rdEds]
  | k + 1, some a => by
    have := rdEds_len s k (rdEd s (some a)).2
    simp only [rdEds, List.length_cons]
    omega
def rgSize (s : ByteArray) : Option (Nat × Nat) := scNum s (some 0)
def rgCount (s : ByteArray) : Option (Nat × Nat) := scNum s ((rgSize s).map Prod.snd)
/-- What is read with at most m edges. -/
def rgEds (s : ByteArray) (m : Nat) : List Ed × Option Nat := rdEds s (min (scVal (rgCount s)) m) ((rgCount s).map Prod.snd)
open Classical in
noncomputable def rgOut (s : ByteArray) : Option (Int × List Ed) :=
  if (rgEds s 41).2 = some s.size ∧ (rgEds s 41).1.length = scVal (rgCount s) ∧ GOk (scVal (rgSize s) : Nat) (rgEds s 41).1 then some ((scVal (rgSize s) : Nat), (rgEds s 41).1) else none
def oS (o : Option (Int × List Ed)) : Int := (o.map Prod.fst).getD 0
def oE (o : Option (Int × List Ed)) : List Ed := (o.map Prod.snd).getD []
/-- What a call that makes a graph and a bool leaves. -/
def MadeGB (w : World) (o : Option (Int × List Ed)) (e : Ending) (w' : World) : Prop :=
  ∃ A c, e = .returned (.tuple #[.agg #[.int .i64 (oS o), .slice A (oE o).length c], .bool o.isSome]) ∧ w'.ownsRow w.heap.size 31 3 (.slice A (oE o).length c) (oE o).length (edCells (oE o)) ∧ Below w.heap.size w w'

theorem MadeGB.of {w w' : World} {o o' : Option (Int × List Ed)} {e : Ending} (h : o = o') (hm : MadeGB w o' e w') : MadeGB w o e w' := h ▸ hm
/-- What the loops of ReadGraph keep. -/
structure RG (T : TypeId) (w : World) (gS gG : Nat) (s : ByteArray) (s0 : Int) (st : Option Nat) (v : Value) (ks : List Ed) (wr : World) : Prop where
  sc : ScAt T gS s st wr
  gr : wr.heap[gG]? = some (.cells #[.int .i64 s0, v] 26 (0, 0))
  res : wr.heap[w.heap.size]? = some (.cells #[.int .i64 0, .slice none 0 0] 26 (0, 0))
  own : wr.ownsRow (gG + 1) 31 3 v ks.length (edCells ks)
  bel : Below w.heap.size w wr
  lt1 : w.heap.size < gS
  lt2 : gS < gG
section
variable {T : TypeId} {w wr wr' : World} {gS gG : Nat} {s : ByteArray} {s0 : Int} {st st' : Option Nat} {v : Value} {ks : List Ed}
theorem RG.scan (h : RG T w gS gG s s0 st v ks wr) (hs : ScAt T gS s st' wr') (hg : wr.grownBy wr' (some gS)) : RG T w gS gG s s0 st' v ks wr' where
  sc := hs
  gr := (hg.block gG (blk_lt h.gr) (fun e => by have := h.lt2; injection e with e; omega)).trans h.gr
  res := (hg.block _ (blk_lt h.res) (fun e => by have := h.lt1; injection e with e; omega)).trans h.res
  own := h.own.kept hg (.inr fun e => by have := (h.own.lt _ e).1; have := h.lt2; omega)
  bel := h.bel.grown hg h.bel.size (fun k hk => by injection hk with hk; have := h.lt1; omega)
  lt1 := h.lt1
  lt2 := h.lt2
theorem RG.keep (h : RG T w gS gG s s0 st v ks wr) (hb : Below wr.heap.size wr wr') : RG T w gS gG s s0 st v ks wr' where
  sc := h.sc.below hb
  gr := blk_below hb h.gr
  res := blk_below hb h.res
  own := own_below h.own hb
  bel := below_step h.bel hb
  lt1 := h.lt1
  lt2 := h.lt2
theorem RG.put (h : RG T w gS gG s s0 st v ks wr) {x : Ed} {o : Obj} {v1 : Value} {w3 : World} (ho : w3.ownsRow (gG + 1) 31 3 v1 (ks.length + 1) (edCells ks ++ [.int .i64 x.f, .int .u8 x.l, .int .i64 x.t])) (hg : (wr.alloc o).grownBy w3 v.ownBlock) :
    RG T w gS gG s s0 st v1 (ks ++ [x]) (w3.setCell ⟨gG, 1, none⟩ v1) where
  sc := by
    have hlt := h.sc.lt
    refine ((h.sc.below (below_alloc wr o)).grown hg (fun e => by have := (h.own.lt _ e.symm).1; have := h.lt2; omega)).of_block (Below.heap_setCell w3 ⟨gG, 1, none⟩ v1 _ (by have := h.lt2; simp; omega))
  gr := heap_setCell_same w3 gG 1 _ _ _ ((hg.block gG (Nat.lt_of_lt_of_le (blk_lt h.gr) (by simp)) (fun e => by have := (h.own.lt _ e.symm).1; omega)).trans (blk_below (below_alloc wr o) h.gr))
  res := (Below.heap_setCell w3 ⟨gG, 1, none⟩ v1 _ (by have := h.lt1; have := h.lt2; simp; omega)).trans ((hg.block _ (Nat.lt_of_lt_of_le (blk_lt h.res) (by simp)) (fun e => by have := (h.own.lt _ e.symm).1; have := h.lt1; have := h.lt2; omega)).trans (blk_below (below_alloc wr o) h.res))
  own := by
    have := ownsRow_setCell_below ho (a := ⟨gG, 1, none⟩) (by simp) v1
    simpa [edCells_append, edCells] using this
  bel := ((h.bel.alloc h.bel.size o).grown hg (by have := h.bel.size; simp; omega) (fun k hk => by have := (h.own.lt k hk).1; have := h.lt1; have := h.lt2; omega)).setCell (by have := h.lt1; have := h.lt2; simp; omega) _
  lt1 := h.lt1
  lt2 := h.lt2
end
theorem scByte_bd {s : ByteArray} {st : Option Nat} : scVal (scByte s st) ≤ 255 := by
  cases st with
  | none => simp [scByte, scVal]
  | some a =>
    unfold scVal scByte
    simp only
    split
    · have := byteAt_lt s a; simp; omega
    · simp
theorem rdEds_lab (s : ByteArray) : ∀ (k : Nat) (st : Option Nat), ∀ e ∈ (rdEds s k st).1, 0 ≤ e.l ∧ e.l ≤ 255
  | 0, _ => by simp [rdEds]
  | k + 1, none => by simp [rdEds]
  | k + 1, some a => by
    intro e he
    simp only [rdEds, List.mem_cons] at he
    rcases he with rfl | he
    · have := scByte_bd (s := s) (st := (scNum s (some a)).map Prod.snd)
      unfold rdEd
      simp only
      omega
    · exact rdEds_lab s k _ e he
theorem rgEds_lab (s : ByteArray) (m : Nat) : ∀ e ∈ (rgEds s m).1, 0 ≤ e.l ∧ e.l ≤ 255 := rdEds_lab s _ _
theorem rg_next {s : ByteArray} {k : Nat} {a : Nat} {ks : List Ed} {F : List Ed × Option Nat} (h : (ks ++ (rdEds s (k + 1) (some a)).1, (rdEds s (k + 1) (some a)).2) = F) :
    ((ks ++ [(rdEd s (some a)).1]) ++ (rdEds s k (rdEd s (some a)).2).1, (rdEds s k (rdEd s (some a)).2).2) = F := by
  rw [← h]
  simp [rdEds]

set_option maxRecDepth 100000 in
set_option maxHeartbeats 6400000 in
theorem impl_ReadGraph_any (s : ByteArray) (hs : s.size ≤ 4294967296) (w : World) :
    Calls Try.prog 35 #[.string s] w (MadeGB w (rgOut s)) := by
  obtain ⟨i0, hi, hz0, hz1, hz2⟩ := info_parts Try.infoEdge
  have hb1 := scVal_bd (s := s) (st := some 0)
  obtain ⟨r0, hr0⟩ : ∃ r, rgSize s = r := ⟨_, rfl⟩
  have hr0' : scNum s (some 0) = r0 := hr0
  rw [hr0'] at hb1
  obtain ⟨r1, hr1⟩ : ∃ r, rgCount s = r := ⟨_, rfl⟩
  have hr1' : scNum s (r0.map Prod.snd) = r1 := by rw [← hr0]; exact hr1
  have hb2 := scVal_bd (s := s) (st := r0.map Prod.snd)
  rw [hr1'] at hb2
  have H0 := Lib.hid hr0
  have H1 := Lib.hid hr1
  have C0 := Lib.hid (fun g w => number_any g s hs (some 0) w)
  rw [hr0'] at C0
  have C1 := Lib.hid (fun g w => number_any g s hs (r0.map Prod.snd) w)
  rw [hr1'] at C1
  clear hr0 hr0' hr1 hr1'
  obtain ⟨n0, hn0⟩ : ∃ n, scVal r0 = n := ⟨_, rfl⟩
  obtain ⟨n1, hn1⟩ : ∃ n, scVal r1 = n := ⟨_, rfl⟩
  rw [hn0] at hb1
  rw [hn1] at hb2
  unfold Scans at C0 C1
  rw [hn0] at C0
  rw [hn1] at C1
  have N0 := Lib.hid hn0
  have N1 := Lib.hid hn1
  clear hn0 hn1
  have q1 := Lib.hid (heap_alloc_new w (.cells #[.int .i64 0, .slice none 0 0] 26))
  have q2 := Lib.hid (blk_below (below_alloc _ (.cells #[.string s, .int .i64 0, .bool false] 98)) q1.out)
  have D0 : ScAt 98 (w.heap.size + 1) s (some 0) ((w.alloc (.cells #[.int .i64 0, .slice none 0 0] 26)).alloc (.cells #[.string s, .int .i64 0, .bool false] 98)) := by
    refine ⟨0, false, ?_, Nat.zero_le _, rfl, fun x hx => by injection hx⟩
    have := heap_alloc_new (w.alloc (.cells #[.int .i64 0, .slice none 0 0] 26)) (.cells #[.string s, .int .i64 0, .bool false] 98)
    simpa using this
  have B0 : Below w.heap.size w ((w.alloc (.cells #[.int .i64 0, .slice none 0 0] 26)).alloc (.cells #[.string s, .int .i64 0, .bool false] 98)) := below_step (below_alloc _ _) (below_alloc _ _)
  clear q1
  go_enter Try.func35, Try.ntmps35
  go_wp2_with fail
  refine (C0.out _ _ D0).mono ?_
  rintro e w1 ⟨rfl, D1, g1⟩
  have B1 := B0.grown g1 B0.size (fun k hk => by injection hk; omega)
  have q3 := Lib.hid ((g1.block _ (blk_lt q2.out) (fun e => by injection e; omega)).trans q2.out)
  have hlt := D1.lt
  clear D0 B0 g1 q2 C0
  have k2 := below_alloc w1 (.cells #[.int .i64 n0, .slice none 0 0] 26)
  have q4 := Lib.hid (blk_below k2 q3.out)
  have p4 := Lib.hid (heap_alloc_new w1 (.cells #[.int .i64 n0, .slice none 0 0] 26))
  have D2 := D1.below k2
  have B2 := below_step B1 k2
  have R2 : RG 98 w (w.heap.size + 1) w1.heap.size s n0 (r0.map Prod.snd) (.slice none 0 0) [] (w1.alloc (.cells #[.int .i64 n0, .slice none 0 0] 26)) := ⟨D2, p4.out, q4.out, World.ownsRow_nil _ _ _ _, B2, by omega, hlt⟩
  clear D1 B1 q3 q4 p4 D2 B2 k2
  obtain ⟨gG, hgG⟩ : ∃ g, w1.heap.size = g := ⟨_, rfl⟩
  rw [hgG] at R2 hlt
  go_wp2_with fail
  refine (C1.out _ _ R2.sc).mono ?_
  clear hgG
  rintro e w2 ⟨rfl, D3, g3⟩
  have R3 := R2.scan D3 g3
  clear R2 D3 g3 C1
  have HF : Hid (([] : List Ed) ++ (rdEds s (min n1 41) (r1.map Prod.snd)).1 = (rgEds s 41).1 ∧ (rdEds s (min n1 41) (r1.map Prod.snd)).2 = (rgEds s 41).2) := by
    show _ ∧ _
    unfold rgEds
    rw [H1.out, N1.out]
    exact ⟨rfl, rfl⟩
  have hF : Hid ((([] : List Ed) ++ (rdEds s (min n1 41) (r1.map Prod.snd)).1, (rdEds s (min n1 41) (r1.map Prod.snd)).2) = rgEds s 41) := by
    show _ = _
    rw [HF.out.1, HF.out.2]
  clear HF
  have R3H := Lib.hid R3
  clear R3
  go_wp2
  go_loopw [7] (fun i wr => ∃ (k : Nat) (v : Value) (ks : List Ed) (st : Option Nat), k ≤ min n1 41 ∧ i = .int .i64 k ∧ ks.length ≤ k ∧ k ≤ ks.length ∧ Hid ((ks ++ (rdEds s (min n1 41 - k) st).1, (rdEds s (min n1 41 - k) st).2) = rgEds s 41) ∧ RG 98 w (w.heap.size + 1) gG s n0 st v ks wr) (fun i _ => 41 - (intOf i).toNat)
  case atStart => exact ⟨0, _, [], _, Nat.zero_le _, rfl, Nat.le_refl _, Nat.le_refl _, hF.out, R3H.out⟩
  case round =>
    clear R3H hF
    obtain ⟨k, v, ks, st, hk, rfl, hk1, hk2, HF, hR⟩ := hrel
    have hn1 : n1 ≤ 1000000000 := by omega
    by_cases hgo : k < n1 ∧ k < 41 ∧ st ≠ none
    · obtain ⟨hk3, hk4, hne⟩ := hgo
      obtain ⟨a, rfl⟩ : ∃ a, st = some a := by
        cases st with
        | none => exact absurd rfl hne
        | some a => exact ⟨a, rfl⟩
      clear hne
      obtain ⟨ra, hra⟩ : ∃ r, scNum s (some a) = r := ⟨_, rfl⟩
      obtain ⟨rb, hrb⟩ : ∃ r, scByte s (ra.map Prod.snd) = r := ⟨_, rfl⟩
      obtain ⟨rc, hrc⟩ : ∃ r, scNum s (rb.map Prod.snd) = r := ⟨_, rfl⟩
      have A0 := Lib.hid (fun g w => number_any g s hs (some a) w)
      have A1 := Lib.hid (fun g w => octet_any g s hs (ra.map Prod.snd) w)
      have A2 := Lib.hid (fun g w => number_any g s hs (rb.map Prod.snd) w)
      unfold Scans at A0 A1 A2
      rw [hra] at A0
      rw [hrb] at A1
      rw [hrc] at A2
      have hba := scVal_bd (s := s) (st := some a)
      have hbc := scVal_bd (s := s) (st := rb.map Prod.snd)
      have hbl := scByte_bd (s := s) (st := ra.map Prod.snd)
      rw [hra] at hba
      rw [hrc] at hbc
      rw [hrb] at hbl
      have HE : Hid (rdEd s (some a) = (⟨(scVal ra : Nat), (scVal rb : Nat), (scVal rc : Nat)⟩, rc.map Prod.snd)) := by
        show _ = _
        unfold rdEd
        rw [hra, hrb, hrc]
      clear hra hrb hrc
      obtain ⟨f, hf⟩ : ∃ n, scVal ra = n := ⟨_, rfl⟩
      obtain ⟨l, hl⟩ : ∃ n, scVal rb = n := ⟨_, rfl⟩
      obtain ⟨t, ht⟩ : ∃ n, scVal rc = n := ⟨_, rfl⟩
      rw [hf] at hba A0 HE
      rw [hl] at hbl A1 HE
      rw [ht] at hbc A2 HE
      clear hf hl ht
      obtain ⟨a', bb, hsb, _, hbb, _⟩ := hR.sc
      obtain rfl : bb = false := hbb
      have b2 := cell_of_row wr _ 2 _ _ (0, 0) hsb
      simp at b2
      clear hsb
      have k40 : (k : Int) ≤ 40 := by omega
      have k30 : (k : Int) < (n1 : Int) := by omega
      go_wp2_with fail
      refine (A0.out _ _ hR.sc).mono ?_
      rintro e w3 ⟨rfl, D3, g3⟩
      have R3 := hR.scan D3 g3
      clear hR D3 g3 A0 b2
      go_wp2_with fail
      refine (A1.out _ _ R3.sc).mono ?_
      rintro e w4 ⟨rfl, D4, g4⟩
      have R4 := R3.scan D4 g4
      clear R3 D4 g4 A1
      have R5 := R4.keep (Below.refl _ _).drew
      have v1 := blk_cell (o := 1) R5.gr rfl
      clear R4
      go_wp2_with fail
      go_region_law (first
        | (go_simp
           go_at_call 82
           refine (A2.out _ _ R5.sc).mono ?_
           rintro e w6 ⟨rfl, D6, g6⟩
           have R6 := R5.scan D6 g6
           have v6 := blk_cell (o := 1) R6.gr rfl
           have l6 := blk_lt R6.gr)
        | (refine step_append_any _ rfl (.tmp 32) (.tmp 37) 24 rfl (gG + 1) 31 i0 _ 3 24 Try.underlying24 hi hz0 hz1 hz2 rfl (by decide) v ks.length (edCells ks) rfl (R6.own.alloc _) (some ⟨w6.heap.size, 0, none⟩) 1 1 [.int .i64 f, .int .u8 l, .int .i64 t] rfl (Rd.new3 w6 _ _ _ _) (by intro u hu; simp at hu; rcases hu with rfl | rfl | rfl <;> rfl) (by unfold maxLen; omega) (by omega) (by have := blk_lt R6.gr; simp; omega) ?_
           intro v1' w7 hown7 hg7 _
           obtain ⟨A1', c1', rfl, _, _⟩ := own_slice hown7
           have R7 := Lib.hid (R6.put (x := ⟨f, l, t⟩) hown7 hg7)
           have gr7 := (hg7.block gG (Nat.lt_of_lt_of_le (blk_lt R6.gr) (by simp)) (fun e => by have := (R6.own.lt _ e.symm).1; omega)).trans (blk_below (below_alloc w6 _) R6.gr)
           have d7 := blk_cell (o := 1) gr7 rfl
           have f7 : w7.frozen? ⟨gG, 1, none⟩ = false := frozen_of_row w7 gG 1 _ _ gr7
           clear gr7))
      all_goals
        go_wp2
        go_roundw
        case rel =>
          refine ⟨k + 1, _, ks ++ [⟨f, l, t⟩], rc.map Prod.snd, by omega, by go_num, by simp; omega, by simp; omega, ?_, by simpa using R7.out⟩
          show _ = _
          have := HF.out
          rw [show min n1 41 - k = (min n1 41 - (k + 1)) + 1 by omega] at this
          have := rg_next this
          rw [HE.out] at this
          exact this
        case measure => simp [intOf]; omega
    · have hgo' := hgo
      have HX : Hid ((ks, st) = rgEds s 41) := by
        show _ = _
        have h1 := HF.out
        cases st with
        | none => rw [rdEds_none] at h1; simpa using h1
        | some a =>
          have : min n1 41 - k = 0 := by
            have : ¬ (k < n1 ∧ k < 41) := fun h => hgo ⟨h.1, h.2, by simp⟩
            omega
          rw [this] at h1
          simpa [rdEds] using h1
      have E1 : (rgEds s 41).1 = ks := by rw [← HX.out]
      have E2 : (rgEds s 41).2 = st := by rw [← HX.out]
      have hlab : ∀ e ∈ ks, 0 ≤ e.l ∧ e.l ≤ 255 := by rw [← E1]; exact rgEds_lab s 41
      have HO : Hid (rgOut s = (open Classical in if st = some s.size ∧ ks.length = n1 ∧ GOk n0 ks then some ((n0 : Int), ks) else none)) := by
        show _ = _
        unfold rgOut
        rw [E1, E2, H0.out, H1.out, N0.out, N1.out]
      have HL := Lib.hid hlab
      clear E1 E2 HX HF hlab
      obtain ⟨A, c, rfl, _, _⟩ := own_slice hR.own
      have hexit : n1 ≤ k ∨ (k < n1 ∧ 41 ≤ k) ∨ (k < n1 ∧ k < 41 ∧ st = none) := by
        by_cases q1 : k < n1
        · by_cases q2 : k < 41
          · right
            right
            refine ⟨q1, q2, ?_⟩
            cases st with
            | none => rfl
            | some a => exact absurd ⟨q1, q2, by simp⟩ hgo'
          · right
            left
            exact ⟨q1, by omega⟩
        · left
          omega
      clear hgo'
      have hx0 : RdE wr A ks := Rd.of_own hR.own
      by_cases hT : st = some s.size ∧ ks.length = n1
      · obtain ⟨rfl, hT2⟩ := hT
        have HS := Lib.hid hR.gr
        by_cases hok : GOk n0 ks
        · have hO : rgOut s = some ((n0 : Int), ks) := by rw [HO.out]; exact if_pos ⟨rfl, hT2, hok⟩
          have HQ := Lib.hid hO
          clear hO HO
          have hpp := PP_yes hok
          have P := Lib.hid (fun w hx => impl_GraphOk_any n0 A c ks w hx (by omega) HL.out)
          rw [hpp] at P
          clear hok hpp
          have t1 : ((ks.length : Int) != (n1 : Int)) = false := by rw [bne_eq_false_iff_eq]; omega
          have hexit2 : n1 ≤ k ∨ (k < n1 ∧ 41 ≤ k) := by
            rcases hexit with h | h | ⟨_, _, h⟩
            · exact .inl h
            · exact .inr h
            · cases h
          clear hexit HS hT2
          rcases hexit2 with h1 | ⟨h1, h2⟩
          all_goals
            go_wp2_with fail
            refine (done_any _ s (some s.size) wr hR.sc).mono ?_
            rw [show decide (some s.size = some s.size) = true by simp]
            rintro e w3 ⟨rfl, k3⟩
            have R3 := hR.keep k3
            have c0 := blk_cell (o := 0) R3.gr rfl
            have c1 := blk_cell (o := 1) R3.gr rfl
            clear hR k3
            go_wp2_with fail
            refine (P.out _ (Rd.of_own R3.own)).mono ?_
            rintro e w4 ⟨rfl, k4⟩
            have R4 := R3.keep k4
            have c0 := blk_cell (o := 0) R4.gr rfl
            have c1 := blk_cell (o := 1) R4.gr rfl
            have d0 := blk_cell (o := 0) R4.res rfl
            have d1 := blk_cell (o := 1) R4.res rfl
            have f0 : w4.frozen? ⟨w.heap.size, 0, none⟩ = false := frozen_of_row w4 _ 0 _ _ R4.res
            have f1 : w4.frozen? ⟨w.heap.size, 1, none⟩ = false := frozen_of_row w4 _ 1 _ _ R4.res
            have hlw : w.heap.size < gG := by have := R4.lt1; have := R4.lt2; omega
            clear R3 k4
            go_wp2
            refine bodyPost_ret (v := .tuple #[.agg #[.int .i64 n0, .slice A ks.length c], .bool true]) (by simp [results, Try.results35, go_sem, d0, d1]) rfl (MadeGB.of HQ.out ⟨A, c, rfl, ?_, ?_⟩)
            · exact own_mono (ownsRow_setCell_below (ownsRow_setCell_below R4.own (a := ⟨w.heap.size, 0, none⟩) (by simp; omega) _) (a := ⟨w.heap.size, 1, none⟩) (by simp; omega) _) (by omega)
            · exact (R4.bel.setCell (Nat.le_refl _) _).setCell (Nat.le_refl _) _
        · have hO : rgOut s = none := by rw [HO.out]; exact if_neg fun h => hok h.2.2
          have HQ := Lib.hid hO
          clear hO HO
          have hpp := PP_no hok
          have P := Lib.hid (fun w hx => impl_GraphOk_any n0 A c ks w hx (by omega) HL.out)
          rw [hpp] at P
          clear hok hpp
          have t1 : ((ks.length : Int) != (n1 : Int)) = false := by rw [bne_eq_false_iff_eq]; omega
          have hexit2 : n1 ≤ k ∨ (k < n1 ∧ 41 ≤ k) := by
            rcases hexit with h | h | ⟨_, _, h⟩
            · exact .inl h
            · exact .inr h
            · cases h
          clear hexit HS hT2
          rcases hexit2 with h1 | ⟨h1, h2⟩
          all_goals
            go_wp2_with fail
            refine (done_any _ s (some s.size) wr hR.sc).mono ?_
            rw [show decide (some s.size = some s.size) = true by simp]
            rintro e w3 ⟨rfl, k3⟩
            have R3 := hR.keep k3
            have c0 := blk_cell (o := 0) R3.gr rfl
            have c1 := blk_cell (o := 1) R3.gr rfl
            clear hR k3
            go_wp2_with fail
            refine (P.out _ (Rd.of_own R3.own)).mono ?_
            rintro e w4 ⟨rfl, k4⟩
            have R4 := R3.keep k4
            have d0 := blk_cell (o := 0) R4.res rfl
            have d1 := blk_cell (o := 1) R4.res rfl
            have f0 : w4.frozen? ⟨w.heap.size, 0, none⟩ = false := frozen_of_row w4 _ 0 _ _ R4.res
            have f1 : w4.frozen? ⟨w.heap.size, 1, none⟩ = false := frozen_of_row w4 _ 1 _ _ R4.res
            clear R3 k4 c0 c1
            go_wp2
            refine bodyPost_ret (v := .tuple #[.agg #[.int .i64 0, .slice none 0 0], .bool false]) (by simp [results, Try.results35, go_sem, d0, d1]) rfl (MadeGB.of HQ.out ⟨none, 0, rfl, World.ownsRow_nil _ _ _ _, ?_⟩)
            exact (R4.bel.setCell (Nat.le_refl _) _).setCell (Nat.le_refl _) _
      · have hO : rgOut s = none := by rw [HO.out]; exact if_neg fun h => hT ⟨h.1, h.2.1⟩
        have HQ := Lib.hid hO
        clear hO HO
        obtain ⟨a', bb, hsb, _, hbb, _⟩ := hR.sc
        have b2 := cell_of_row wr _ 2 _ _ (0, 0) hsb
        simp at b2
        clear hsb
        obtain ⟨d, hd⟩ : ∃ d, decide (st = some s.size) = d := ⟨_, rfl⟩
        have hd2 : d = true → ¬ ks.length = n1 := fun h => by
          subst h
          intro h2
          exact hT ⟨of_decide_eq_true hd, h2⟩
        have D := Lib.hid (fun g w h => done_any g s st w h)
        rw [hd] at D
        have hd3 : st = none → d = false := fun h => by rw [← hd, h]; simp
        clear hd hT
        have hexit2 : (n1 ≤ k ∧ (d = false ∨ d = true ∧ ¬ ks.length = n1)) ∨ (k < n1 ∧ 41 ≤ k ∧ (d = false ∨ d = true ∧ ¬ ks.length = n1)) ∨ (k < n1 ∧ k < 41 ∧ bb = true ∧ d = false) := by
          have hdd : d = false ∨ d = true ∧ ¬ ks.length = n1 := by
            cases d with
            | false => exact .inl rfl
            | true => exact .inr ⟨rfl, hd2 rfl⟩
          rcases hexit with h | ⟨h, h'⟩ | ⟨h1, h2, h3⟩
          · exact .inl ⟨h, hdd⟩
          · exact .inr (.inl ⟨h, h', hdd⟩)
          · exact .inr (.inr ⟨h1, h2, by rw [hbb, h3]; rfl, hd3 h3⟩)
        clear hexit hd2 hd3 hbb
        rcases hexit2 with ⟨h1, rfl | ⟨rfl, h4⟩⟩ | ⟨h1, h2, rfl | ⟨rfl, h4⟩⟩ | ⟨h1, h2, rfl, rfl⟩
        all_goals
          try have t1 : ((ks.length : Int) != (n1 : Int)) = true := by rw [bne_iff_ne]; omega
          try clear h4
          go_wp2_with fail
          refine (D.out _ wr hR.sc).mono ?_
          rintro e w3 ⟨rfl, k3⟩
          have R3 := hR.keep k3
          have c1 := blk_cell (o := 1) R3.gr rfl
          have d0 := blk_cell (o := 0) R3.res rfl
          have d1 := blk_cell (o := 1) R3.res rfl
          have f0 : w3.frozen? ⟨w.heap.size, 0, none⟩ = false := frozen_of_row w3 _ 0 _ _ R3.res
          have f1 : w3.frozen? ⟨w.heap.size, 1, none⟩ = false := frozen_of_row w3 _ 1 _ _ R3.res
          clear hR k3
          go_wp2
          refine bodyPost_ret (v := .tuple #[.agg #[.int .i64 0, .slice none 0 0], .bool false]) (by simp [results, Try.results35, go_sem, d0, d1]) rfl (MadeGB.of HQ.out ⟨none, 0, rfl, World.ownsRow_nil _ _ _ _, ?_⟩)
          exact (R3.bel.setCell (Nat.le_refl _) _).setCell (Nat.le_refl _) _
end Go.Proofs.Ytnhanakeijplcaa
