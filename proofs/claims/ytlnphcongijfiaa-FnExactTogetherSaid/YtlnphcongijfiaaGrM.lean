/- Marks in a slice of graphs and their edges. Conditions: the lengths' and the counter's bounds. Printed by xgrm.py. -/
import Derived.Test.YtlnphcongijfiaaGrS
namespace Go.Proofs.Ytlnphcongijfiaa
open Go.RowKit

/-- Graphs that lie in blocks from lo up to hi. -/
structure OwnGn (w : World) (lo hi : Nat) (A : Option Addr) (c : Nat) (xs : List GrX) : Prop where
  own : OwnGx w lo A c xs
  up : ∀ r, (Value.slice A xs.length c).ownBlock = some r → r < hi
  ups : ∀ x ∈ xs, ∀ r, x.v.ownBlock = some r → r < hi
def OwnGI (w : World) (lo hi : Nat) (A : Option Addr) (c : Nat) (ps : List Gr) : Prop := ∃ xs, xs.map GrX.p = ps ∧ OwnGn w lo hi A c xs
theorem OwnGI.of {w : World} {lo c : Nat} {A : Option Addr} {ps : List Gr} (h : OwnG w lo A c ps) : OwnGI w lo w.heap.size A c ps := by
  obtain ⟨xs, h1, h2⟩ := h
  exact ⟨xs, h1, h2, fun r hr => (h2.row.lt r hr).2, fun x hx r hr => ((h2.kids x hx).lt r hr).2⟩
theorem OwnGI.p {w : World} {lo hi c : Nat} {A : Option Addr} {ps : List Gr} (h : OwnGI w lo hi A c ps) : OwnG w lo A c ps := by
  obtain ⟨xs, h1, h2⟩ := h
  exact ⟨xs, h1, h2.own⟩
theorem OwnGI.keep {w w' : World} {lo hi c : Nat} {A : Option Addr} {ps : List Gr} (h : OwnGI w lo hi A c ps) (hb : Below w.heap.size w w') : OwnGI w' lo hi A c ps := by
  obtain ⟨xs, h1, h2⟩ := h
  exact ⟨xs, h1, ⟨own_below h2.own.row hb, fun x hx => own_below (h2.own.kids x hx) hb, h2.own.apart⟩, h2.up, h2.ups⟩
theorem OwnGI.touch {w w' : World} {lo hi lo' hi' c : Nat} {A : Option Addr} {ps : List Gr} (h : OwnGI w lo hi A c ps) (ht : Touch lo' hi' w w') (hb : hi' ≤ lo) : OwnGI w' lo hi A c ps := by
  obtain ⟨xs, h1, h2⟩ := h
  exact ⟨xs, h1, ⟨ht.own h2.own.row hb, fun x hx => ht.own (h2.own.kids x hx) hb, h2.own.apart⟩, h2.up, h2.ups⟩

/-- A marked piece. -/
def mkGr (z : Int) (p : Gr) : Gr := ⟨z, marksE (z + 1) p.e.length⟩
def cntG (ps : List Gr) : Nat := (ps.map fun p => 1 + 3 * p.e.length).sum
def markG : Int → List Gr → List Gr
  | _, [] => []
  | z, p :: ps => mkGr z p :: markG (z + (1 + 3 * p.e.length : Nat)) ps
theorem markG_len : ∀ (z : Int) (ps : List Gr), (markG z ps).length = ps.length
  | _, [] => rfl
  | z, p :: ps => by simp [markG, markG_len]
theorem cntG_next {ps : List Gr} {k : Nat} (h : k < ps.length) : cntG (ps.take (k + 1)) = cntG (ps.take k) + (1 + 3 * ps[k].e.length) := by
  unfold cntG
  rw [List.take_succ_eq_append_getElem h, List.map_append, List.sum_append]
  simp
theorem cntG_le (ps : List Gr) (k : Nat) : cntG (ps.take k) ≤ cntG ps := by
  have h : cntG ps = cntG (ps.take k) + cntG (ps.drop k) := by
    unfold cntG
    rw [← List.sum_append, ← List.map_append, List.take_append_drop]
  omega
theorem cntG_eq (ps : List Gr) : cntG ps = ps.length + 3 * sumG ps := by
  induction ps with
  | nil => rfl
  | cons p ps ih =>
    simp only [cntG, sumG, List.map_cons, List.sum_cons, List.length_cons] at ih ⊢
    omega
theorem markG_at : ∀ (z : Int) (ps : List Gr) (j : Nat) (h : j < ps.length) (h' : j < (markG z ps).length), (markG z ps)[j] = mkGr (z + cntG (ps.take j)) ps[j]
  | _, [], j, h, _ => absurd h (by simp)
  | z, p :: ps, 0, _, _ => by simp [markG, cntG]
  | z, p :: ps, j + 1, h, h' => by
    have ih := markG_at (z + (1 + 3 * p.e.length : Nat)) ps j (by simpa using h) (by rw [markG_len]; simpa using h)
    simp only [markG, List.getElem_cons_succ, List.take_succ_cons]
    rw [ih]
    congr 1
    simp only [cntG, List.map_cons, List.sum_cons]
    omega

theorem gxCells_set (xs : List GrX) (j : Nat) (x : GrX) (h : j < xs.length) (hv : x.v = xs[j].v) : (gxCells xs).set (j * 2) (.int .i64 x.p.s) = gxCells (xs.set j x) := by
  induction xs generalizing j with
  | nil => exact absurd h (by simp)
  | cons y ys ih =>
    cases j with
    | zero =>
      simp only [List.getElem_cons_zero] at hv
      simp [gxCells, GrX.cells, hv]
    | succ j =>
      have := ih j (by simpa using h) (by simpa using hv)
      rw [show (j + 1) * 2 = j * 2 + 2 by omega]
      simp only [gxCells, List.flatMap_cons, GrX.cells, List.cons_append, List.nil_append, List.set_cons_succ] at this ⊢
      rw [this]
/-- The marking of one piece whose parts are the call's own. -/
theorem mark_graph {w w1 : World} {lo hi : Nat} {g c cc : Nat} {K : Option Addr} {xs : List GrX} {p : Gr} (z : Int) (h : OwnGn w lo hi (some ⟨g, 0, none⟩) cc xs) (j : Nat) (hj : j < xs.length) (hx : xs[j] = ⟨p, K, c⟩)
    (ho : w1.ownsRow lo 62 3 (.slice K p.e.length c) p.e.length (edCells (marksE (z + 1) p.e.length)))
    (hg : (w.setCell ⟨g, j * 2, none⟩ (.int .i64 z)).grownBy w1 (Value.slice K p.e.length c).ownBlock) :
    OwnGn w1 lo hi (some ⟨g, 0, none⟩) cc (xs.set j ⟨mkGr z p, K, c⟩) ∧ Touch lo hi w w1 := by
  have hv : (⟨mkGr z p, K, c⟩ : GrX).v = xs[j].v := by rw [hx]; simp [GrX.v, mkGr, marksE_len]
  have hf : (⟨mkGr z p, K, c⟩ : GrX).v.ownBlock = xs[j].v.ownBlock := by rw [hv]
  have hr := h.own.row
  have hs2 := hr.stored (j * 2) (.int .i64 z)
  have hkj : (Value.slice K p.e.length c).ownBlock = xs[j].v.ownBlock := by rw [hx]; rfl
  have hkid : ∀ x ∈ xs, (w.setCell ⟨g, j * 2, none⟩ (.int .i64 z)).ownsRow lo 62 3 x.v x.p.e.length (edCells x.p.e) := fun x hx =>
    own_set_row (h.own.kids x hx) hr (by decide) (j * 2) _
  have hup : ∀ r, (Value.slice K p.e.length c).ownBlock = some r → lo ≤ r ∧ r < hi := fun r hr => by
    rw [hkj] at hr
    exact ⟨((h.own.kids _ (List.getElem_mem hj)).lt r hr).1, h.ups _ (List.getElem_mem hj) r hr⟩
  have hgl : lo ≤ g ∧ g < hi := ⟨(hr.lt g rfl).1, h.up g rfl⟩
  refine ⟨⟨⟨?_, ?_, ?_⟩, ?_, ?_⟩, ?_⟩
  · rw [List.length_set, ← gxCells_set xs j ⟨mkGr z p, K, c⟩ hj hv]
    refine hs2.1.kept hg ?_
    have := own_ne hs2.1 (hkid _ (List.getElem_mem hj)) (by decide)
    rw [hkj]
    exact this
  · intro y hy
    obtain ⟨i, hi, rfl⟩ := List.getElem_of_mem hy
    have hi' : i < xs.length := by simpa using hi
    rw [List.getElem_set]
    split
    · rename_i e
      simp only [GrX.v, mkGr, marksE_len]
      exact ho
    · rename_i e
      refine (hkid _ (List.getElem_mem hi')).kept hg ?_
      rw [hkj]
      rcases (by omega : i < j ∨ j < i) with hlt | hlt
      · exact List.pairwise_iff_getElem.1 h.own.apart i j hi' hj hlt
      · rcases List.pairwise_iff_getElem.1 h.own.apart j i hj hi' hlt with h1 | h1
        · rw [h1]
          cases xs[i].v.ownBlock <;> simp
        · exact .inr (fun e => h1 e.symm)
  · have h1 : ∀ x y : GrX, ApartG x y ↔ (fun a b : Option Nat => a = none ∨ a ≠ b) (x.v.ownBlock) (y.v.ownBlock) := fun _ _ => Iff.rfl
    have h2 : (xs.map (fun x => x.v.ownBlock)).Pairwise (fun a b : Option Nat => a = none ∨ a ≠ b) := List.pairwise_map.2 h.own.apart
    have h3 : (xs.set j ⟨mkGr z p, K, c⟩).map (fun x => x.v.ownBlock) = xs.map (fun x => x.v.ownBlock) := by
      rw [List.map_set, hf]
      apply List.ext_getElem (by simp)
      intro i h4 h5
      rw [List.getElem_set]
      split
      · rename_i e; subst e; simp
      · rfl
    rw [← h3] at h2
    rw [List.pairwise_map] at h2
    exact h2
  · intro r hr
    exact h.up r (by simpa [Value.ownBlock] using hr)
  · intro y hy r hr
    obtain ⟨i, hi, rfl⟩ := List.getElem_of_mem hy
    have hi' : i < xs.length := by simpa using hi
    rw [List.getElem_set] at hr
    split at hr
    · rw [hf] at hr; exact h.ups _ (List.getElem_mem hj) r hr
    · exact h.ups _ (List.getElem_mem hi') r hr
  · exact ((Touch.refl lo hi w).grown hs2.2 (fun k hk => by cases hk; exact hgl)).grown hg hup

theorem markG_take (z : Int) (ps : List Gr) (j : Nat) (h : j < ps.length) : markG z (ps.take (j + 1)) = markG z (ps.take j) ++ [mkGr (z + cntG (ps.take j)) ps[j]] := by
  apply List.ext_getElem
  · simp [markG_len]; omega
  · intro i h1 h2
    rw [markG_len, List.length_take] at h1
    rw [markG_at _ _ _ (by rw [List.length_take]; omega)]
    simp only [List.getElem_take, List.take_take]
    by_cases e : i = j
    · subst e
      rw [List.getElem_append_right (by simp [markG_len]; omega)]
      simp [markG_len, Nat.min_eq_left (Nat.le_of_lt h)]
    · rw [List.getElem_append_left (by simp [markG_len]; omega), markG_at _ _ _ (by rw [List.length_take]; omega)]
      simp only [List.getElem_take, List.take_take]
      rw [show min i (j + 1) = min i j by omega]
/-- What a marking of a path's pieces leaves. -/
def MarkedGS (w : World) (lo hi : Nat) (A : Option Addr) (c : Nat) (ps : List Gr) (k : Int) (e : Ending) (w' : World) : Prop :=
  e = .returned (.int .i64 (k + cntG ps)) ∧ OwnGI w' lo hi A c (markG k ps) ∧ Touch lo hi w w'

set_option maxRecDepth 100000 in
set_option maxHeartbeats 3200000 in
theorem markGraphS_any (lo hi : Nat) (A : Option Addr) (c : Nat) (ps : List Gr) (k : Int) (w : World) (hown : OwnGI w lo hi A c ps) (hk : 0 ≤ k ∧ k + cntG ps ≤ 4294967296) :
    Calls Try.prog 25 #[.slice A ps.length c, .int .i64 k] w (MarkedGS w lo hi A c ps k) := by
  have H0 := Lib.hid hown
  clear hown
  obtain ⟨hk0, hk1⟩ := hk
  have hlen : ps.length + 3 * sumG ps = cntG ps := (cntG_eq ps).symm
  have hn : ps.length ≤ 4294967296 := by omega
  have HLEN := Lib.hid hlen
  clear hlen
  go_enter Try.func25, Try.ntmps25
  go_wp2
  go_loopw [1, 5] (fun v i wr => ∃ (j q : Nat), j ≤ ps.length ∧ v = .int .i64 (k + q) ∧ Hid (q = cntG (ps.take j)) ∧ i = .int .i64 j ∧ Hid (OwnGI wr lo hi A c (markG k (ps.take j) ++ ps.drop j)) ∧ Touch lo hi w wr) (fun _ i _ => ps.length - (intOf i).toNat)
  case atStart => exact ⟨0, 0, Nat.zero_le _, by simp, Lib.hid rfl, rfl, Lib.hid (by simpa [markG] using H0.out), Touch.refl _ _ _⟩
  case round =>
    obtain ⟨j, q, hj, rfl, HQ, rfl, HO, hb⟩ := hrel
    by_cases hlt : j < ps.length
    · obtain ⟨xs, hxs, hin⟩ := HO.out
      have hxl : xs.length = ps.length := by
        have := congrArg List.length hxs
        rw [List.length_map, List.length_append, markG_len, List.length_take, List.length_drop] at this
        omega
      have hjx : j < xs.length := by omega
      have hxj : xs[j].p = ps[j] := by
        have : (xs.map GrX.p)[j]'(by simpa using hjx) = ps[j] := by
          simp only [hxs]
          rw [List.getElem_append_right (by simp [markG_len]; omega)]
          simp [markG_len, Nat.min_eq_left (Nat.le_of_lt hlt)]
        simpa using this
      have hqn := cntG_next hlt
      have hql := cntG_le ps (j + 1)
      rw [← HQ.out] at hqn
      obtain ⟨g, cap, hv, _, _⟩ := hin.own.row.form (by omega)
      injection hv with e1 e2 e3
      subst e1 e3
      have hkid := hin.own.kids _ (List.getElem_mem hjx)
      have c2 := hin.own.row.cellAt (j * 2 + 1) (by omega)
      rw [(gxCells_at xs j hjx).2] at c2
      obtain ⟨u0, u1, d0, d1, f0, f1⟩ := own2 hin.own.row hjx
      clear d1 f1
      have hr := hin.own.row
      obtain ⟨x, hx⟩ : ∃ x, xs[j] = x := ⟨_, rfl⟩
      obtain ⟨y, hy⟩ : ∃ y, ps[j] = y := ⟨_, rfl⟩
      rw [hx] at hkid c2 hxj
      rw [hy] at hxj hqn
      obtain ⟨xp, K, xc⟩ := x
      simp only at hxj
      subst hxj
      obtain ⟨z, hz⟩ : ∃ z, k + (q : Int) = z := ⟨_, rfl⟩
      have hz0 : 0 ≤ z := by omega
      have hz1 : z + 1 + 3 * xp.e.length ≤ 4294967296 := by omega
      have HKID := Lib.hid (own_set_row hkid hr (by decide) (j * 2) (.int .i64 z))
      simp only [GrX.v] at HKID c2
      have M := Lib.hid (markEdgeS_any lo K xp.e.length xc _ (z + 1) _ HKID.out (by omega) (by omega))
      have HIN := Lib.hid hin
      have HXS := Lib.hid hxs
      have HX := Lib.hid hx
      have HY := Lib.hid hy
      have HZ := Lib.hid hz
      have HB := Lib.hid hb
      have k0 : (0 : Int) ≤ (j : Int) := by omega
      have k1 : (j : Int) < (ps.length : Int) := by omega
      have HQN := Lib.hid hqn
      rw [hz]
      clear hkid hr hin hxs hx hy hz hb hqn
      go_wp2_with fail
      refine M.out.mono ?_
      rintro e w1 ⟨rfl, ho1, hg1⟩
      have HM := Lib.hid (mark_graph z HIN.out j hjx HX.out ho1 hg1)
      clear ho1 hg1
      go_wp2
      go_roundw
      case rel =>
        refine ⟨j + 1, q + (1 + 3 * xp.e.length), by omega, ?_, ?_, by go_num, Lib.hid ?_, HB.out.trans HM.out.2⟩
        · have := HZ.out
          rw [← this]
          congr 1
          push_cast
          omega
        · show _ = _
          rw [cntG_next hlt, HY.out, HQ.out]
        · refine ⟨_, ?_, HM.out.1⟩
          rw [List.map_set, HXS.out, markG_take k ps j hlt, HY.out, ← HQ.out, HZ.out, List.set_append_right _ _ (by simp [markG_len]; omega)]
          simp only [markG_len, List.length_take, Nat.min_eq_left (Nat.le_of_lt hlt), Nat.sub_self]
          rw [List.drop_eq_getElem_cons hlt]
          simp only [List.set_cons_zero, List.append_assoc, List.singleton_append]
      case measure => simp [intOf]; omega
    · obtain rfl : j = ps.length := by omega
      have h1 := HO.out
      rw [List.take_of_length_le (Nat.le_refl _), List.drop_of_length_le (Nat.le_refl _), List.append_nil] at h1
      have h2 := HQ.out
      rw [List.take_of_length_le (Nat.le_refl _)] at h2
      subst h2
      have HF := Lib.hid h1
      clear h1
      go_wp2
      go_ret
      exact ⟨rfl, HF.out, hb⟩

end Go.Proofs.Ytlnphcongijfiaa
