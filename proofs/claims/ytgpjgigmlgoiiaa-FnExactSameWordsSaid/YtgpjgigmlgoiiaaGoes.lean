/- SameWords: impl.SameWords and spec.l07Goes. Conditions: the labels' range and the sizes of the lengths. -/
import Derived.Test.YtgpjgigmlgoiiaaSameF
import Derived.Deep.RegionLaw
import Derived.Deep.DeepCutAuto
namespace Go.Proofs.Ytgpjgigmlgoiiaa
open Go.RowKit
set_option maxRecDepth 100000 in

set_option maxHeartbeats 3200000 in
theorem impl_SameWords_any (s t : Int) (A B A' B' : Option Addr) (c d c' d' : Nat) (es es' : List Ed) (bs bs' : List Bool) (w : World) (hn : es.length ≤ 4294967296) (hn' : es'.length ≤ 4294967296) (hm : bs.length ≤ 4294967296) (hm' : bs'.length ≤ 4294967296)
    (hl : ∀ e ∈ es, 0 ≤ e.l ∧ e.l ≤ 255) (hl' : ∀ e ∈ es', 0 ≤ e.l ∧ e.l ≤ 255) (ra : RdE w A es) (rb : RdB w B bs.length bs) (ra' : RdE w A' es') (rb' : RdB w B' bs'.length bs') :
    Calls Try.prog 17 #[.agg #[.int .i64 s, .slice A es.length c, .slice B bs.length d], .agg #[.int .i64 t, .slice A' es'.length c', .slice B' bs'.length d']] w fun e w' => e = .returned (.bool (swB s t es es' bs bs')) ∧ Below w.heap.size w w' := by
  obtain ⟨W, hW, p1, p2, bW, hs⟩ := new_two w (.cells #[.int .i64 s, .slice A es.length c, .slice B bs.length d] 29) (.cells #[.int .i64 t, .slice A' es'.length c', .slice B' bs'.length d'] 29)
  have RA := Lib.hid ra
  have RB := Lib.hid rb
  have RA' := Lib.hid ra'
  have RB' := Lib.hid rb'
  have P1 := Lib.hid p1
  have P2 := Lib.hid p2
  have BW := Lib.hid bW
  have C1 := Lib.hid (fun w hx => impl_NfaOk_any s A B c d es bs w hx hn hm hl)
  have C2 := Lib.hid (fun w hx => impl_NfaOk_any t A' B' c' d' es' bs' w hx hn' hm' hl')
  clear hs ra rb ra' rb' p1 p2 bW hl hl'
  have b0 := blk_cell (o := 0) P1.out rfl
  have b1 := blk_cell (o := 1) P1.out rfl
  have b2 := blk_cell (o := 2) P1.out rfl
  by_cases h1 : NOk s es bs
  · rw [PP_yes h1] at C1
    by_cases h2 : NOk t es' bs'
    · rw [PP_yes h2] at C2
      rw [swB_yes h1 h2]
      have SF := Lib.hid (fun w => sameFrom_any s t A B A' B' c d c' d' es es' bs bs' hn hn' h1 h2 6 6 rfl (by omega) 1 1 w (by omega) (by omega) (InS.one (by have := h1.1; have := h1.2.1; omega)) (InS.one (by have := h2.1; have := h2.2.1; omega)))
      obtain ⟨R, hR⟩ : ∃ R, sameF es es' bs bs' 6 1 1 = R := ⟨_, rfl⟩
      rw [hR] at SF ⊢
      clear hR h1 h2
      go_enter Try.func17, Try.ntmps17
      go_wp2_with fail
      clear hW b0 b1 b2
      refine (C1.out _ (RdE.below RA.out BW.out)).mono ?_
      rintro e w2 ⟨rfl, k2⟩
      have B2 := Lib.hid (below_step BW.out k2)
      have Q1 := Lib.hid (blk_below k2 P1.out)
      have Q2 := Lib.hid (blk_below k2 P2.out)
      clear k2
      have b0 := blk_cell (o := 0) Q2.out rfl
      have b1 := blk_cell (o := 1) Q2.out rfl
      have b2 := blk_cell (o := 2) Q2.out rfl
      go_wp2_with fail
      refine (C2.out _ (RdE.below RA'.out B2.out)).mono ?_
      rintro e w3 ⟨rfl, k3⟩
      have B3 := Lib.hid (below_step B2.out k3)
      have q1 := blk_below k3 Q1.out
      have q2 := blk_below k3 Q2.out
      clear k3 b0 b1 b2
      have b0 := blk_cell (o := 0) q1 rfl
      have b1 := blk_cell (o := 1) q1 rfl
      have b2 := blk_cell (o := 2) q1 rfl
      have c0 := blk_cell (o := 0) q2 rfl
      have c1 := blk_cell (o := 1) q2 rfl
      have c2 := blk_cell (o := 2) q2 rfl
      clear q1 q2
      go_wp2_with fail
      refine (SF.out _ (RdE.below RA.out B3.out) (RdB.below RB.out B3.out) (RdE.below RA'.out B3.out) (RdB.below RB'.out B3.out)).mono ?_
      rintro e w4 ⟨rfl, k4⟩
      go_wp2
      go_ret
      exact ⟨rfl, below_step B3.out k4⟩
    · rw [PP_no h2] at C2
      rw [swB_no fun h => h2 h.2]
      clear h1 h2
      go_enter Try.func17, Try.ntmps17
      go_wp2_with fail
      clear hW b0 b1 b2
      refine (C1.out _ (RdE.below RA.out BW.out)).mono ?_
      rintro e w2 ⟨rfl, k2⟩
      have B2 := Lib.hid (below_step BW.out k2)
      have Q2 := Lib.hid (blk_below k2 P2.out)
      clear k2
      have b0 := blk_cell (o := 0) Q2.out rfl
      have b1 := blk_cell (o := 1) Q2.out rfl
      have b2 := blk_cell (o := 2) Q2.out rfl
      go_wp2_with fail
      refine (C2.out _ (RdE.below RA'.out B2.out)).mono ?_
      rintro e w3 ⟨rfl, k3⟩
      go_wp2
      go_ret
      exact ⟨rfl, below_step B2.out k3⟩
  · rw [PP_no h1] at C1
    rw [swB_no fun h => h1 h.1]
    clear h1
    go_enter Try.func17, Try.ntmps17
    go_wp2_with fail
    clear hW b0 b1 b2
    refine (C1.out _ (RdE.below RA.out BW.out)).mono ?_
    rintro e w2 ⟨rfl, k2⟩
    go_wp2
    go_ret
    exact ⟨rfl, below_step BW.out k2⟩

theorem run_make_rowN {P : Program} (t e : TypeId) (i : TypeInfo) (z : Value) (ht : P.underlying t = some (.slice e)) (hi : P.info? e = some i) (hz : i.zero = some z)
    (kl kc : IntKind) (n c : Nat) (hnc : n ≤ c) (hbytes : i.bytes * c ≤ 281474976710656) (h63 : c ≤ 9223372036854775807) (w : World) :
    (Instr.makeSlice t (.int kl (n : Int)) (.int kc (c : Int))).run P w = .ok (.slice (some ⟨w.heap.size, 0, none⟩) n c) (w.alloc (.cells (madeCells z.cells (c * i.size)) e)) := by
  have hb : (i.bytes : Int) * (c : Int) ≤ 281474976710656 := by
    have h : ((i.bytes * c : Nat) : Int) ≤ 281474976710656 := by omega
    rwa [Int.natCast_mul] at h
  have hr := run_make (P := P) w t e i z ht hi hz kl kc n c (by omega) (by omega) hb (by omega)
  simp only [Int.toNat_natCast] at hr
  exact hr

/-- The ends that are set so far. -/
def goL (k m : Nat) : List Bool := List.replicate k true ++ List.replicate (m - k) false
theorem goL_len {k m : Nat} (h : k ≤ m) : (goL k m).length = m := by simp [goL]; omega
theorem goL_set {k m : Nat} (h : k < m) : (goL k m).set k true = goL (k + 1) m := by
  unfold goL
  rw [List.set_append_right _ _ (by simp), List.length_replicate, Nat.sub_self, show m - k = (m - (k + 1)) + 1 by omega, List.replicate_succ, List.set_cons_zero, List.replicate_succ', List.append_assoc]
  rfl
/-- An automaton in the making. -/
def GoesAt (w : World) (A : Option Addr) (n c m k : Nat) (bx : Array Value) (v : Value) (wx : World) : Prop :=
  ∃ g q, v = .pointer (some ⟨g, 0, none⟩) ∧ wx.heap[g]? = some (.cells #[.int .i64 m, .slice A n c, .slice (some ⟨q, 0, none⟩) m m] 29 (0, 0)) ∧ w.heap.size ≤ g ∧
    wx.ownsRow w.heap.size 4 1 (.slice (some ⟨q, 0, none⟩) m m) m ((goL k m).map Value.bool) ∧ wx.heap[w.heap.size]? = some (.cells bx 29 (0, 0)) ∧ Below w.heap.size w wx

theorem own_new (w : World) {base n : Nat} {e : TypeId} {size : Nat} {cur : Array Value} {xs : List Value} (hb : base ≤ w.heap.size) (hm : n ≤ maxLen) (hx : xs.length = n * size) (hc : cur.toList = xs) :
    (w.alloc (.cells cur e)).ownsRow base e size (.slice (some ⟨w.heap.size, 0, none⟩) n n) n xs :=
  ⟨hx, .inr ⟨w.heap.size, n, cur, rfl, hb, heap_alloc_new w _, Nat.le_refl _, hm, by rw [← hx, ← hc]; simp, by rw [hc, ← hx, List.take_length]⟩⟩
theorem goL_made (m : Nat) : (madeCells #[Value.bool false] m).toList = (goL 0 m).map Value.bool := by
  have := made_bools m
  rw [Nat.mul_one, setL_zero] at this
  simpa [goL, Value.cells] using this
theorem goes1 {w : World} {A : Option Addr} {n c m : Nat} {bx : Array Value} {W : World} (hq : W.heap[w.heap.size]? = some (.cells bx 29 (0, 0))) (hb : Below w.heap.size w W) (hm : m ≤ maxLen) {q : Nat} (hqq : W.heap.size = q) {v : Value} (hv : v = .pointer (some ⟨q + 1, 0, none⟩)) :
    GoesAt w A n c m 0 bx v ((W.alloc (.cells (madeCells #[Value.bool false] m) 4)).alloc (.cells #[.int .i64 m, .slice A n c, .slice (some ⟨q, 0, none⟩) m m] 29)).drew := by
  subst hqq hv
  have h1 := own_new W (base := w.heap.size) (e := 4) (size := 1) hb.size hm (by simp [goL_len (Nat.zero_le m)]) (goL_made m)
  have b2 := below_alloc (W.alloc (.cells (madeCells #[Value.bool false] m) 4)) (.cells #[.int .i64 m, .slice A n c, .slice (some ⟨W.heap.size, 0, none⟩) m m] 29)
  refine ⟨_, _, rfl, ?_, ?_, own_below h1 b2.drew, blk_below b2.drew (blk_below (below_alloc _ _) hq), (below_step (below_step hb (below_alloc _ _)) b2).drew⟩
  · have := heap_alloc_new (W.alloc (.cells (madeCells #[Value.bool false] m) 4)) (.cells #[.int .i64 m, .slice A n c, .slice (some ⟨W.heap.size, 0, none⟩) m m] 29)
    rw [show (W.alloc (.cells (madeCells #[Value.bool false] m) 4)).heap.size = W.heap.size + 1 by simp] at this
    exact this
  · have := hb.size; omega
theorem goes2 {w : World} {A : Option Addr} {n c m : Nat} {bx : Array Value} {W : World} (hq : W.heap[w.heap.size]? = some (.cells bx 29 (0, 0))) (hb : Below w.heap.size w W) (hm : m ≤ maxLen) {q : Nat} (hqq : W.heap.size = q) {v : Value} (hv : v = .pointer (some ⟨q, 0, none⟩)) :
    GoesAt w A n c m 0 bx v ((W.alloc (.cells #[.int .i64 m, .slice A n c, .slice (some ⟨q + 1, 0, none⟩) m m] 29)).alloc (.cells (madeCells #[Value.bool false] m) 4)).drew := by
  subst hqq hv
  have h1 := own_new (W.alloc (.cells #[.int .i64 m, .slice A n c, .slice (some ⟨W.heap.size + 1, 0, none⟩) m m] 29)) (base := w.heap.size) (e := 4) (size := 1) (by have := hb.size; simp; omega) hm (by simp [goL_len (Nat.zero_le m)]) (goL_made m)
  rw [show (W.alloc (.cells #[.int .i64 m, .slice A n c, .slice (some ⟨W.heap.size + 1, 0, none⟩) m m] 29)).heap.size = W.heap.size + 1 by simp] at h1
  have b1 := below_alloc W (.cells #[.int .i64 m, .slice A n c, .slice (some ⟨W.heap.size + 1, 0, none⟩) m m] 29)
  refine ⟨_, _, rfl, blk_below (below_alloc _ _).drew (heap_alloc_new W _), hb.size, h1, blk_below (below_alloc _ _).drew (blk_below b1 hq), (below_step (below_step hb b1) (below_alloc _ _)).drew⟩

set_option maxRecDepth 100000 in
set_option maxHeartbeats 3200000 in
theorem l07Goes_any (A B : Option Addr) (c d m : Nat) (es : List Ed) (word : ByteArray) (w : World) (hx : RdE w A es) (hn : es.length ≤ 4294967296) (hm : m ≤ 24) (hl : ∀ e ∈ es, 0 ≤ e.l ∧ e.l ≤ 255) (hw : word.size ≤ maxLen) :
    Calls Try.prog 57 #[.agg #[.int .i64 m, .slice A es.length c, .slice B m d], .string word] w fun e w' => e = .returned (.bool (gB m es word)) ∧ Below w.heap.size w w' := by
  obtain ⟨i0, hi, hz0, hz1, hz2⟩ := info_parts Try.infoBool
  have hmk := fun w => run_make_rowN (P := Try.prog) 23 4 i0 (.bool false) Try.underlying23 hi hz0 .i64 .i64 m m (Nat.le_refl _) (by rw [hz2]; omega) (by omega) w
  rw [hz1] at hmk
  obtain ⟨bx, hbx⟩ : ∃ bx : Array Value, bx = #[.int .i64 m, .slice A es.length c, .slice B m d] := ⟨_, rfl⟩
  have p1 := heap_alloc_new w (.cells #[.int .i64 m, .slice A es.length c, .slice B m d] 29)
  have b0 := blk_cell (o := 0) p1 rfl
  have b1 := blk_cell (o := 1) p1 rfl
  have HX := Lib.hid hx
  clear p1 hx hi hz0 hz1 hz2
  go_enter Try.func57, Try.ntmps57
  go_upto_region 1 with fail
  go_cut [5] (fun v wx => GoesAt w A es.length c m 0 #[.int .i64 m, .slice A es.length c, .slice B m d] v wx)
  case first =>
    have P1 := Lib.hid (heap_alloc_new w (.cells #[.int .i64 m, .slice A es.length c, .slice B m d] 29))
    have BW := Lib.hid (below_alloc w (.cells #[.int .i64 m, .slice A es.length c, .slice B m d] 29))
    obtain ⟨W, hW⟩ : ∃ W, w.alloc (.cells #[.int .i64 m, .slice A es.length c, .slice B m d] 29) = W := ⟨_, rfl⟩
    rw [hW] at b0 b1 P1 BW ⊢
    clear hW
    have MK := Lib.hid (fun (w' : World) (hB : Below W.heap.size W w') => (⟨held_step hB b0, held_step hB b1, hB⟩ : w'.cell? ⟨w.heap.size, 0, none⟩ = some (.int .i64 m) ∧ w'.cell? ⟨w.heap.size, 1, none⟩ = some (.slice A es.length c) ∧ Below W.heap.size W w'))
    have B0 : Below W.heap.size W W.drew := (Below.refl _ _).drew
    have hs1 : ∀ o, (W.alloc o).heap.size = W.heap.size + 1 := fun o => by simp
    go_region_held3 (fun w' => w'.cell? ⟨w.heap.size, 0, none⟩ = some (.int .i64 m) ∧ w'.cell? ⟨w.heap.size, 1, none⟩ = some (.slice A es.length c) ∧ Below W.heap.size W w')
      ((first
        | (exact MK.out _ B0)
        | assumption
        | (exact MK.out _ (below_step B0 (below_alloc _ _)))
        | (exact MK.out _ (below_step (below_step B0 (below_alloc _ _)) (below_alloc _ _)))))
      (fail)
    all_goals
      go_wp2_with fail
      go_meet
      first
        | exact goes1 P1.out BW.out (by unfold maxLen; omega) rfl rfl
        | exact goes2 P1.out BW.out (by unfold maxLen; omega) rfl rfl
  case rest =>
    obtain ⟨g, q, rfl, qg, hge, ho, qb, hb⟩ := hcut
    obtain ⟨W1, hW1⟩ : ∃ w, wc = w := ⟨_, rfl⟩
    rw [hW1] at qg ho qb hb ⊢
    have QG := Lib.hid qg
    have HO := Lib.hid ho
    have QB := Lib.hid qb
    have HB := Lib.hid hb
    have NT := Lib.hid (fun W h1 h2 => by have := spec_NfaTakes_any (m : Int) A (some ⟨q, 0, none⟩) c m es (List.replicate m true) word W h1; rw [List.length_replicate] at this; exact this h2 hn (by omega) hl hw)
    clear hW1 qg ho qb hb b0 b1 hmk hbx
    go_wp2_with fail
    go_loopw [6] (fun i wr => ∃ k : Nat, k ≤ m ∧ i = .int .i64 k ∧ wr.heap[g]? = some (.cells #[.int .i64 m, .slice A es.length c, .slice (some ⟨q, 0, none⟩) m m] 29 (0, 0)) ∧ wr.heap[w.heap.size]? = some (.cells #[.int .i64 m, .slice A es.length c, .slice B m d] 29 (0, 0)) ∧ wr.ownsRow w.heap.size 4 1 (.slice (some ⟨q, 0, none⟩) m m) m ((goL k m).map Value.bool) ∧ Below w.heap.size w wr) (fun i _ => m - (intOf i).toNat)
    case atStart => exact ⟨0, Nat.zero_le _, rfl, QG.out, QB.out, HO.out, HB.out⟩
    case round =>
      clear QG HO QB HB
      obtain ⟨k, hk, rfl, qg, qb, ho, hb⟩ := hrel
      have n1 := row_ne ho qg (by decide)
      have n2 := row_ne ho qb (by decide)
      have N1 : q ≠ g := fun h => n1 (by simp [Value.ownBlock, h])
      have N2 : q ≠ w.heap.size := fun h => n2 (by simp [Value.ownBlock, h])
      have b0 := blk_cell (o := 0) qb rfl
      clear n1 n2
      by_cases hlt : k < m
      · have hst := own_bool_set ho k
        rw [goL_set hlt] at hst
        have hco := ho.cellAt k (by simp; omega)
        have hcs : ∃ u, wr.cell? ⟨q, k, none⟩ = some u := by
          have hlen := ho.1
          rw [hco, List.getElem?_eq_getElem (by omega)]
          exact ⟨_, rfl⟩
        obtain ⟨u, hu⟩ := hcs
        have hfo := ho.frozenAt k
        have z2 := blk_cell (o := 2) qg rfl
        have k0 : (0 : Int) ≤ (k : Int) := by omega
        have k1 : (k : Int) < (m : Int) := by omega
        have HST := Lib.hid hst
        have HB := Lib.hid hb
        have QG := Lib.hid qg
        have QB := Lib.hid qb
        have HQ := Lib.hid (ho.lt q rfl)
        clear hst hco hb ho qg qb
        go_wp2
        go_roundw
        case rel => exact ⟨k + 1, by omega, by go_num, (Below.heap_setCell _ _ _ _ (fun h => N1 h.symm)).trans QG.out, (Below.heap_setCell _ _ _ _ (fun h => N2 h.symm)).trans QB.out, HST.out.1, HB.out.setCell HQ.out.1 _⟩
        case measure => simp [intOf]; omega
      · obtain rfl : k = m := by omega
        rw [show goL k k = List.replicate k true by simp [goL]] at ho
        have hr : RdB wr (some ⟨q, 0, none⟩) k (List.replicate k true) := RdB.own ho
        have c0 := blk_cell (o := 0) qg rfl
        have c1 := blk_cell (o := 1) qg rfl
        have c2 := blk_cell (o := 2) qg rfl
        have HR := Lib.hid hr
        have HB := Lib.hid hb
        clear hr ho hb qg qb
        go_wp2_with fail
        refine (NT.out _ (HX.out.below HB.out) HR.out).mono ?_
        rintro e w3 ⟨rfl, k3⟩
        go_wp2
        go_ret
        exact ⟨rfl, below_step HB.out k3⟩
end Go.Proofs.Ytgpjgigmlgoiiaa
