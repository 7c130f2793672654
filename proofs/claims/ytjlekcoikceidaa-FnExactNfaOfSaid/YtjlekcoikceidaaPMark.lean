/- Marks in a path's pieces and their kids. Conditions: the lengths' and the counter's bounds. -/
import Derived.Test.YtjlekcoikceidaaPath
import Derived.Test.YtjlekcoikceidaaTouch
namespace Go.Proofs.Ytjlekcoikceidaa
open Go.RowKit

/-- A path's pieces that lie in blocks from lo up to hi. -/
structure OwnIn (w : World) (lo hi : Nat) (A : Option Addr) (c : Nat) (xs : List PcX) : Prop where
  own : OwnPx w lo A c xs
  up : ∀ r, (Value.slice A xs.length c).ownBlock = some r → r < hi
  ups : ∀ x ∈ xs, ∀ r, x.v.ownBlock = some r → r < hi
def OwnPI (w : World) (lo hi : Nat) (A : Option Addr) (c : Nat) (ps : List Pc) : Prop := ∃ xs, xs.map PcX.p = ps ∧ OwnIn w lo hi A c xs
theorem OwnPI.of {w : World} {lo c : Nat} {A : Option Addr} {ps : List Pc} (h : OwnP w lo A c ps) : OwnPI w lo w.heap.size A c ps := by
  obtain ⟨xs, h1, h2⟩ := h
  exact ⟨xs, h1, h2, fun r hr => (h2.row.lt r hr).2, fun x hx r hr => ((h2.kids x hx).lt r hr).2⟩
theorem OwnPI.p {w : World} {lo hi c : Nat} {A : Option Addr} {ps : List Pc} (h : OwnPI w lo hi A c ps) : OwnP w lo A c ps := by
  obtain ⟨xs, h1, h2⟩ := h
  exact ⟨xs, h1, h2.own⟩
theorem OwnPI.keep {w w' : World} {lo hi c : Nat} {A : Option Addr} {ps : List Pc} (h : OwnPI w lo hi A c ps) (hb : Below w.heap.size w w') : OwnPI w' lo hi A c ps := by
  obtain ⟨xs, h1, h2⟩ := h
  exact ⟨xs, h1, ⟨own_below h2.own.row hb, fun x hx => own_below (h2.own.kids x hx) hb, h2.own.apart⟩, h2.up, h2.ups⟩
theorem OwnPI.touch {w w' : World} {lo hi lo' hi' c : Nat} {A : Option Addr} {ps : List Pc} (h : OwnPI w lo hi A c ps) (ht : Touch lo' hi' w w') (hb : hi' ≤ lo) : OwnPI w' lo hi A c ps := by
  obtain ⟨xs, h1, h2⟩ := h
  exact ⟨xs, h1, ⟨ht.own h2.own.row hb, fun x hx => ht.own (h2.own.kids x hx) hb, h2.own.apart⟩, h2.up, h2.ups⟩

/-- A marked piece. -/
def mkPc (z : Int) (p : Pc) : Pc := ⟨z, (z + 1) % 256, marksI (z + 1 + 1) p.k.length⟩
def cntP (ps : List Pc) : Nat := (ps.map fun p => 2 + p.k.length).sum
def markP : Int → List Pc → List Pc
  | _, [] => []
  | z, p :: ps => mkPc z p :: markP (z + (2 + p.k.length : Nat)) ps
theorem markP_len : ∀ (z : Int) (ps : List Pc), (markP z ps).length = ps.length
  | _, [] => rfl
  | z, p :: ps => by simp [markP, markP_len]
theorem cntP_next {ps : List Pc} {k : Nat} (h : k < ps.length) : cntP (ps.take (k + 1)) = cntP (ps.take k) + (2 + ps[k].k.length) := by
  unfold cntP
  rw [List.take_succ_eq_append_getElem h, List.map_append, List.sum_append]
  simp
theorem cntP_le (ps : List Pc) (k : Nat) : cntP (ps.take k) ≤ cntP ps := by
  have h : cntP ps = cntP (ps.take k) + cntP (ps.drop k) := by
    unfold cntP
    rw [← List.sum_append, ← List.map_append, List.take_append_drop]
  omega
theorem cntP_eq (ps : List Pc) : cntP ps = 2 * ps.length + sumK ps := by
  induction ps with
  | nil => rfl
  | cons p ps ih =>
    simp only [cntP, sumK, List.map_cons, List.sum_cons, List.length_cons] at ih ⊢
    omega
theorem markP_at : ∀ (z : Int) (ps : List Pc) (j : Nat) (h : j < ps.length) (h' : j < (markP z ps).length), (markP z ps)[j] = mkPc (z + cntP (ps.take j)) ps[j]
  | _, [], j, h, _ => absurd h (by simp)
  | z, p :: ps, 0, _, _ => by simp [markP, cntP]
  | z, p :: ps, j + 1, h, h' => by
    have ih := markP_at (z + (2 + p.k.length : Nat)) ps j (by simpa using h) (by rw [markP_len]; simpa using h)
    simp only [markP, List.getElem_cons_succ, List.take_succ_cons]
    rw [ih]
    congr 1
    simp only [cntP, List.map_cons, List.sum_cons]
    omega

theorem pxCells_set (xs : List PcX) (j : Nat) (x : PcX) (h : j < xs.length) (hv : x.v = xs[j].v) : ((pxCells xs).set (j * 3) (.int .i64 x.p.op)).set (j * 3 + 1) (.int .u8 x.p.l) = pxCells (xs.set j x) := by
  induction xs generalizing j with
  | nil => exact absurd h (by simp)
  | cons y ys ih =>
    cases j with
    | zero =>
      simp only [List.getElem_cons_zero] at hv
      simp [pxCells, PcX.cells, hv]
    | succ j =>
      have := ih j (by simpa using h) (by simpa using hv)
      rw [show (j + 1) * 3 = j * 3 + 3 by omega, show j * 3 + 3 + 1 = j * 3 + 1 + 3 by omega]
      simp only [pxCells, List.flatMap_cons, PcX.cells, List.cons_append, List.nil_append, List.set_cons_succ] at this ⊢
      rw [this]
/-- The marking of one piece whose parts are the call's own. -/
theorem mark_piece {w w1 : World} {lo hi : Nat} {g c cc : Nat} {K : Option Addr} {xs : List PcX} {p : Pc} (z : Int) (h : OwnIn w lo hi (some ⟨g, 0, none⟩) cc xs) (j : Nat) (hj : j < xs.length) (hx : xs[j] = ⟨p, K, c⟩)
    (ho : w1.ownsRow lo 3 1 (.slice K p.k.length c) p.k.length ((marksI (z + 1 + 1) p.k.length).map (Value.int .i64)))
    (hg : ((w.setCell ⟨g, j * 3, none⟩ (.int .i64 z)).setCell ⟨g, j * 3 + 1, none⟩ (.int .u8 ((z + 1) % 256))).grownBy w1 (Value.slice K p.k.length c).ownBlock) :
    OwnIn w1 lo hi (some ⟨g, 0, none⟩) cc (xs.set j ⟨mkPc z p, K, c⟩) ∧ Touch lo hi w w1 := by
  have hv : (⟨mkPc z p, K, c⟩ : PcX).v = xs[j].v := by rw [hx]; simp [PcX.v, mkPc, marksI_len]
  have hf : (⟨mkPc z p, K, c⟩ : PcX).v.ownBlock = xs[j].v.ownBlock := by rw [hv]
  have hr := h.own.row
  have hs1 := hr.stored (j * 3) (.int .i64 z)
  have hs2 := hs1.1.stored (j * 3 + 1) (.int .u8 ((z + 1) % 256))
  have hkj : (Value.slice K p.k.length c).ownBlock = xs[j].v.ownBlock := by rw [hx]; rfl
  have hkid : ∀ x ∈ xs, ((w.setCell ⟨g, j * 3, none⟩ (.int .i64 z)).setCell ⟨g, j * 3 + 1, none⟩ (.int .u8 ((z + 1) % 256))).ownsRow lo 3 1 x.v x.p.k.length (x.p.k.map (Value.int .i64)) := fun x hx =>
    own_set_row (own_set_row (h.own.kids x hx) hr (by decide) (j * 3) _) hs1.1 (by decide) (j * 3 + 1) _
  have hup : ∀ r, (Value.slice K p.k.length c).ownBlock = some r → lo ≤ r ∧ r < hi := fun r hr => by
    rw [hkj] at hr
    exact ⟨((h.own.kids _ (List.getElem_mem hj)).lt r hr).1, h.ups _ (List.getElem_mem hj) r hr⟩
  have hgl : lo ≤ g ∧ g < hi := ⟨(hr.lt g rfl).1, h.up g rfl⟩
  refine ⟨⟨⟨?_, ?_, ?_⟩, ?_, ?_⟩, ?_⟩
  · rw [List.length_set, ← pxCells_set xs j ⟨mkPc z p, K, c⟩ hj hv]
    refine hs2.1.kept hg ?_
    have := own_ne hs2.1 (hkid _ (List.getElem_mem hj)) (by decide)
    rw [hkj]
    exact this
  · intro y hy
    obtain ⟨i, hi, rfl⟩ := List.getElem_of_mem hy
    have hi' : i < xs.length := by simpa using hi
    rw [List.getElem_set]
    split
    · rename_i e
      simp only [PcX.v, mkPc, marksI_len]
      exact ho
    · rename_i e
      refine (hkid _ (List.getElem_mem hi')).kept hg ?_
      rw [hkj]
      rcases (by omega : i < j ∨ j < i) with hlt | hlt
      · exact List.pairwise_iff_getElem.1 h.own.apart i j hi' hj hlt
      · rcases List.pairwise_iff_getElem.1 h.own.apart j i hj hi' hlt with h1 | h1
        · rw [h1]
          cases xs[i].v.ownBlock <;> simp
        · exact .inr (fun e => h1 e.symm)
  · have h1 : ∀ x y : PcX, Apart x y ↔ (fun a b : Option Nat => a = none ∨ a ≠ b) (x.v.ownBlock) (y.v.ownBlock) := fun _ _ => Iff.rfl
    have h2 : (xs.map (fun x => x.v.ownBlock)).Pairwise (fun a b : Option Nat => a = none ∨ a ≠ b) := List.pairwise_map.2 h.own.apart
    have h3 : (xs.set j ⟨mkPc z p, K, c⟩).map (fun x => x.v.ownBlock) = xs.map (fun x => x.v.ownBlock) := by
      rw [List.map_set, hf]
      apply List.ext_getElem (by simp)
      intro i h4 h5
      rw [List.getElem_set]
      split
      · rename_i e; subst e; simp
      · rfl
    rw [← h3] at h2
    rw [List.pairwise_map] at h2
    exact h2
  · intro r hr
    exact h.up r (by simpa [Value.ownBlock] using hr)
  · intro y hy r hr
    obtain ⟨i, hi, rfl⟩ := List.getElem_of_mem hy
    have hi' : i < xs.length := by simpa using hi
    rw [List.getElem_set] at hr
    split at hr
    · rw [hf] at hr; exact h.ups _ (List.getElem_mem hj) r hr
    · exact h.ups _ (List.getElem_mem hi') r hr
  · exact (((Touch.refl lo hi w).grown hs1.2 (fun k hk => by cases hk; exact hgl)).grown hs2.2 (fun k hk => by cases hk; exact hgl)).grown hg hup

theorem markP_take (z : Int) (ps : List Pc) (j : Nat) (h : j < ps.length) : markP z (ps.take (j + 1)) = markP z (ps.take j) ++ [mkPc (z + cntP (ps.take j)) ps[j]] := by
  apply List.ext_getElem
  · simp [markP_len]; omega
  · intro i h1 h2
    rw [markP_len, List.length_take] at h1
    rw [markP_at _ _ _ (by rw [List.length_take]; omega)]
    simp only [List.getElem_take, List.take_take]
    by_cases e : i = j
    · subst e
      rw [List.getElem_append_right (by simp [markP_len]; omega)]
      simp [markP_len, Nat.min_eq_left (Nat.le_of_lt h)]
    · rw [List.getElem_append_left (by simp [markP_len]; omega), markP_at _ _ _ (by rw [List.length_take]; omega)]
      simp only [List.getElem_take, List.take_take]
      rw [show min i (j + 1) = min i j by omega]
/-- What a marking of a path's pieces leaves. -/
def MarkedP (w : World) (lo hi : Nat) (A : Option Addr) (c : Nat) (ps : List Pc) (k : Int) (e : Ending) (w' : World) : Prop :=
  e = .returned (.int .i64 (k + cntP ps)) ∧ OwnPI w' lo hi A c (markP k ps) ∧ Touch lo hi w w'

set_option maxRecDepth 100000 in
set_option maxHeartbeats 3200000 in
theorem markPieceS_any (lo hi : Nat) (A : Option Addr) (c : Nat) (ps : List Pc) (k : Int) (w : World) (hown : OwnPI w lo hi A c ps) (hk : 0 ≤ k ∧ k + cntP ps ≤ 4294967296) :
    Calls Try.prog 29 #[.slice A ps.length c, .int .i64 k] w (MarkedP w lo hi A c ps k) := by
  have H0 := Lib.hid hown
  clear hown
  obtain ⟨hk0, hk1⟩ := hk
  have hlen : 2 * ps.length + sumK ps = cntP ps := (cntP_eq ps).symm
  have hn : ps.length ≤ 4294967296 := by omega
  have HLEN := Lib.hid hlen
  clear hlen
  go_enter Try.func29, Try.ntmps29
  go_wp2
  go_loopw [1, 5] (fun v i wr => ∃ (j q : Nat), j ≤ ps.length ∧ v = .int .i64 (k + q) ∧ Hid (q = cntP (ps.take j)) ∧ i = .int .i64 j ∧ Hid (OwnPI wr lo hi A c (markP k (ps.take j) ++ ps.drop j)) ∧ Touch lo hi w wr) (fun _ i _ => ps.length - (intOf i).toNat)
  case atStart => exact ⟨0, 0, Nat.zero_le _, by simp, Lib.hid rfl, rfl, Lib.hid (by simpa [markP] using H0.out), Touch.refl _ _ _⟩
  case round =>
    obtain ⟨j, q, hj, rfl, HQ, rfl, HO, hb⟩ := hrel
    by_cases hlt : j < ps.length
    · obtain ⟨xs, hxs, hin⟩ := HO.out
      have hxl : xs.length = ps.length := by
        have := congrArg List.length hxs
        rw [List.length_map, List.length_append, markP_len, List.length_take, List.length_drop] at this
        omega
      have hjx : j < xs.length := by omega
      have hxj : xs[j].p = ps[j] := by
        have : (xs.map PcX.p)[j]'(by simpa using hjx) = ps[j] := by
          simp only [hxs]
          rw [List.getElem_append_right (by simp [markP_len]; omega)]
          simp [markP_len, Nat.min_eq_left (Nat.le_of_lt hlt)]
        simpa using this
      have hqn := cntP_next hlt
      have hql := cntP_le ps (j + 1)
      rw [← HQ.out] at hqn
      obtain ⟨g, cap, hv, _, _⟩ := hin.own.row.form (by omega)
      injection hv with e1 e2 e3
      subst e1 e3
      have hkid := hin.own.kids _ (List.getElem_mem hjx)
      have c2 := hin.own.row.cellAt (j * 3 + 2) (by omega)
      rw [(pxCells_at xs j hjx).2.2] at c2
      obtain ⟨u0, u1, u2, d0, d1, d2, f0, f1, f2⟩ := own3 hin.own.row hjx
      clear d2
      have hr := hin.own.row
      obtain ⟨x, hx⟩ : ∃ x, xs[j] = x := ⟨_, rfl⟩
      obtain ⟨y, hy⟩ : ∃ y, ps[j] = y := ⟨_, rfl⟩
      rw [hx] at hkid c2 hxj
      rw [hy] at hxj hqn
      obtain ⟨xp, K, xc⟩ := x
      simp only at hxj
      subst hxj
      obtain ⟨z, hz⟩ : ∃ z, k + (q : Int) = z := ⟨_, rfl⟩
      have hz0 : 0 ≤ z := by omega
      have hz1 : z + 1 + 1 + xp.k.length ≤ 4294967296 := by omega
      have hs1 := hr.stored (j * 3) (.int .i64 z)
      have HKID := Lib.hid (own_set_row (own_set_row hkid hr (by decide) (j * 3) (.int .i64 z)) hs1.1 (by decide) (j * 3 + 1) (.int .u8 ((z + 1) % 256)))
      simp only [PcX.v] at HKID c2
      have M := Lib.hid (markIntS_any lo K xp.k.length xc _ (z + 1 + 1) _ HKID.out (by omega) (by omega))
      have HIN := Lib.hid hin
      have HXS := Lib.hid hxs
      have HX := Lib.hid hx
      have HY := Lib.hid hy
      have HZ := Lib.hid hz
      have HB := Lib.hid hb
      have k0 : (0 : Int) ≤ (j : Int) := by omega
      have k1 : (j : Int) < (ps.length : Int) := by omega
      have HQN := Lib.hid hqn
      rw [hz]
      clear hkid hr hs1 hin hxs hx hy hz hb hqn
      go_wp2_with fail
      refine M.out.mono ?_
      rintro e w1 ⟨rfl, ho1, hg1⟩
      have HM := Lib.hid (mark_piece z HIN.out j hjx HX.out ho1 hg1)
      clear ho1 hg1
      go_wp2
      go_roundw
      case rel =>
        refine ⟨j + 1, q + (2 + xp.k.length), by omega, ?_, ?_, by go_num, Lib.hid ?_, HB.out.trans HM.out.2⟩
        · have := HZ.out
          rw [← this]
          congr 1
          push_cast
          omega
        · show _ = _
          rw [cntP_next hlt, HY.out, HQ.out]
        · refine ⟨_, ?_, HM.out.1⟩
          rw [List.map_set, HXS.out, markP_take k ps j hlt, HY.out, ← HQ.out, HZ.out, List.set_append_right _ _ (by simp [markP_len]; omega)]
          simp only [markP_len, List.length_take, Nat.min_eq_left (Nat.le_of_lt hlt), Nat.sub_self]
          rw [List.drop_eq_getElem_cons hlt]
          simp only [List.set_cons_zero, List.append_assoc, List.singleton_append]
      case measure => simp [intOf]; omega
    · obtain rfl : j = ps.length := by omega
      have h1 := HO.out
      rw [List.take_of_length_le (Nat.le_refl _), List.drop_of_length_le (Nat.le_refl _), List.append_nil] at h1
      have h2 := HQ.out
      rw [List.take_of_length_le (Nat.le_refl _)] at h2
      subst h2
      have HF := Lib.hid h1
      clear h1
      go_wp2
      go_ret
      exact ⟨rfl, HF.out, hb⟩

set_option maxRecDepth 100000 in
theorem markPath_any (lo hi : Nat) (A : Option Addr) (c : Nat) (ps : List Pc) (k : Int) (w : World) (hown : OwnPI w lo hi A c ps) (hk : 0 ≤ k ∧ k + cntP ps ≤ 4294967296) :
    Calls Try.prog 10 #[.agg #[.slice A ps.length c], .int .i64 k] w (MarkedP w lo hi A c ps k) := by
  have M := Lib.hid (markPieceS_any lo hi A c ps k (w.alloc (.cells #[.slice A ps.length c] 34)) (hown.keep (below_alloc _ _)) hk)
  have TA : Touch lo hi w (w.alloc (.cells #[.slice A ps.length c] 34)) := ⟨rfl, rfl, rfl, by simp, fun i hi _ => Below.heap_alloc _ _ _ hi⟩
  have HT := Lib.hid TA
  clear TA
  clear hown
  obtain ⟨hk0, hk1⟩ := hk
  go_enter Try.func10, Try.ntmps10
  go_wp2_with fail
  refine M.out.mono ?_
  rintro e w1 ⟨rfl, ho, ht⟩
  have HO := Lib.hid ho
  clear ho
  go_wp2
  go_ret
  exact ⟨rfl, HO.out, HT.out.trans ht⟩
end Go.Proofs.Ytjlekcoikceidaa
