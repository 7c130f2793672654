/- Marks in a bag's items and their rows. Conditions: the lengths' and the counter's bounds. -/
import Derived.Test.YtdikkfhdogkniaaBagM
import Derived.Test.YtdikkfhdogkniaaMarkI
import Derived.Test.YtdikkfhdogkniaaTouch
namespace Go.Proofs.Ytdikkfhdogkniaa
open Go.RowKit

/-- A path's pieces that lie in blocks from lo up to hi. -/
structure OwnIn (w : World) (lo hi : Nat) (A : Option Addr) (c : Nat) (xs : List ItX) : Prop where
  own : OwnBx w lo A c xs
  up : ∀ r, (Value.slice A xs.length c).ownBlock = some r → r < hi
  ups : ∀ x ∈ xs, ∀ r, x.v.ownBlock = some r → r < hi
def OwnBI (w : World) (lo hi : Nat) (A : Option Addr) (c : Nat) (ps : List It) : Prop := ∃ xs, xs.map ItX.p = ps ∧ OwnIn w lo hi A c xs
theorem OwnBI.of {w : World} {lo c : Nat} {A : Option Addr} {ps : List It} (h : OwnB w lo A c ps) : OwnBI w lo w.heap.size A c ps := by
  obtain ⟨xs, h1, h2⟩ := h
  exact ⟨xs, h1, h2, fun r hr => (h2.row.lt r hr).2, fun x hx r hr => ((h2.kids x hx).lt r hr).2⟩
theorem OwnBI.p {w : World} {lo hi c : Nat} {A : Option Addr} {ps : List It} (h : OwnBI w lo hi A c ps) : OwnB w lo A c ps := by
  obtain ⟨xs, h1, h2⟩ := h
  exact ⟨xs, h1, h2.own⟩
theorem OwnBI.keep {w w' : World} {lo hi c : Nat} {A : Option Addr} {ps : List It} (h : OwnBI w lo hi A c ps) (hb : Below w.heap.size w w') : OwnBI w' lo hi A c ps := by
  obtain ⟨xs, h1, h2⟩ := h
  exact ⟨xs, h1, ⟨own_below h2.own.row hb, fun x hx => own_below (h2.own.kids x hx) hb, h2.own.apart⟩, h2.up, h2.ups⟩
theorem OwnBI.touch {w w' : World} {lo hi lo' hi' c : Nat} {A : Option Addr} {ps : List It} (h : OwnBI w lo hi A c ps) (ht : Touch lo' hi' w w') (hb : hi' ≤ lo) : OwnBI w' lo hi A c ps := by
  obtain ⟨xs, h1, h2⟩ := h
  exact ⟨xs, h1, ⟨ht.own h2.own.row hb, fun x hx => ht.own (h2.own.kids x hx) hb, h2.own.apart⟩, h2.up, h2.ups⟩

/-- A marked item. -/
def mkIt (z : Int) (p : It) : It := ⟨marksI z p.r.length, z + p.r.length⟩
def cntB (ps : List It) : Nat := (ps.map fun p => p.r.length + 1).sum
def markB : Int → List It → List It
  | _, [] => []
  | z, p :: ps => mkIt z p :: markB (z + (p.r.length + 1 : Nat)) ps
theorem markB_len : ∀ (z : Int) (ps : List It), (markB z ps).length = ps.length
  | _, [] => rfl
  | z, p :: ps => by simp [markB, markB_len]
theorem cntB_next {ps : List It} {k : Nat} (h : k < ps.length) : cntB (ps.take (k + 1)) = cntB (ps.take k) + (ps[k].r.length + 1) := by
  unfold cntB
  rw [List.take_succ_eq_append_getElem h, List.map_append, List.sum_append]
  simp
theorem cntB_le (ps : List It) (k : Nat) : cntB (ps.take k) ≤ cntB ps := by
  have h : cntB ps = cntB (ps.take k) + cntB (ps.drop k) := by
    unfold cntB
    rw [← List.sum_append, ← List.map_append, List.take_append_drop]
  omega
theorem cntB_eq (ps : List It) : cntB ps = ps.length + sumR ps := by
  induction ps with
  | nil => rfl
  | cons p ps ih =>
    simp only [cntB, sumR, List.map_cons, List.sum_cons, List.length_cons] at ih ⊢
    omega
theorem markB_at : ∀ (z : Int) (ps : List It) (j : Nat) (h : j < ps.length) (h' : j < (markB z ps).length), (markB z ps)[j] = mkIt (z + cntB (ps.take j)) ps[j]
  | _, [], j, h, _ => absurd h (by simp)
  | z, p :: ps, 0, _, _ => by simp [markB, cntB]
  | z, p :: ps, j + 1, h, h' => by
    have ih := markB_at (z + (p.r.length + 1 : Nat)) ps j (by simpa using h) (by rw [markB_len]; simpa using h)
    simp only [markB, List.getElem_cons_succ, List.take_succ_cons]
    rw [ih]
    congr 1
    simp only [cntB, List.map_cons, List.sum_cons]
    omega

theorem ixCells_set (xs : List ItX) (j : Nat) (x : ItX) (h : j < xs.length) (hv : x.v = xs[j].v) : (ixCells xs).set (j * 2 + 1) (.int .i64 x.p.t) = ixCells (xs.set j x) := by
  induction xs generalizing j with
  | nil => exact absurd h (by simp)
  | cons y ys ih =>
    cases j with
    | zero =>
      simp only [List.getElem_cons_zero] at hv
      simp [ixCells, ItX.cells, hv]
    | succ j =>
      have := ih j (by simpa using h) (by simpa using hv)
      rw [show (j + 1) * 2 + 1 = j * 2 + 1 + 2 by omega]
      simp only [ixCells, List.flatMap_cons, ItX.cells, List.cons_append, List.nil_append, List.set_cons_succ] at this ⊢
      rw [this]
/-- The marking of one item whose parts are the call's own. -/
theorem mark_item {w w1 : World} {lo hi : Nat} {g c cc : Nat} {K : Option Addr} {xs : List ItX} {p : It} (z : Int) (h : OwnIn w lo hi (some ⟨g, 0, none⟩) cc xs) (j : Nat) (hj : j < xs.length) (hx : xs[j] = ⟨p, K, c⟩)
    (ho : w1.ownsRow lo 3 1 (.slice K p.r.length c) p.r.length ((marksI z p.r.length).map (Value.int .i64)))
    (hg : w.grownBy w1 (Value.slice K p.r.length c).ownBlock) :
    OwnIn (w1.setCell ⟨g, j * 2 + 1, none⟩ (.int .i64 (z + p.r.length))) lo hi (some ⟨g, 0, none⟩) cc (xs.set j ⟨mkIt z p, K, c⟩) ∧ Touch lo hi w (w1.setCell ⟨g, j * 2 + 1, none⟩ (.int .i64 (z + p.r.length))) := by
  have hv : (⟨mkIt z p, K, c⟩ : ItX).v = xs[j].v := by rw [hx]; simp [ItX.v, mkIt, marksI_len]
  have hf : (⟨mkIt z p, K, c⟩ : ItX).v.ownBlock = xs[j].v.ownBlock := by rw [hv]
  have hr := h.own.row
  have hkj : (Value.slice K p.r.length c).ownBlock = xs[j].v.ownBlock := by rw [hx]; rfl
  have hr1 : w1.ownsRow lo 54 2 (.slice (some ⟨g, 0, none⟩) xs.length cc) xs.length (ixCells xs) := by
    refine hr.kept hg ?_
    rw [hkj]
    exact own_ne hr (h.own.kids _ (List.getElem_mem hj)) (by decide)
  have hs1 := hr1.stored (j * 2 + 1) (.int .i64 (z + p.r.length))
  have hup : ∀ r, (Value.slice K p.r.length c).ownBlock = some r → lo ≤ r ∧ r < hi := fun r hr => by
    rw [hkj] at hr
    exact ⟨((h.own.kids _ (List.getElem_mem hj)).lt r hr).1, h.ups _ (List.getElem_mem hj) r hr⟩
  have hgl : lo ≤ g ∧ g < hi := ⟨(hr.lt g rfl).1, h.up g rfl⟩
  refine ⟨⟨⟨?_, ?_, ?_⟩, ?_, ?_⟩, ?_⟩
  · rw [List.length_set, ← ixCells_set xs j ⟨mkIt z p, K, c⟩ hj hv]
    exact hs1.1
  · intro y hy
    obtain ⟨i, hi, rfl⟩ := List.getElem_of_mem hy
    have hi' : i < xs.length := by simpa using hi
    rw [List.getElem_set]
    split
    · rename_i e
      simp only [ItX.v, mkIt, marksI_len]
      exact own_set_row ho hr1 (by decide) (j * 2 + 1) _
    · rename_i e
      refine own_set_row ((h.own.kids _ (List.getElem_mem hi')).kept hg ?_) hr1 (by decide) (j * 2 + 1) _
      rw [hkj]
      rcases (by omega : i < j ∨ j < i) with hlt | hlt
      · exact List.pairwise_iff_getElem.1 h.own.apart i j hi' hj hlt
      · rcases List.pairwise_iff_getElem.1 h.own.apart j i hj hi' hlt with h1 | h1
        · rw [h1]
          cases xs[i].v.ownBlock <;> simp
        · exact .inr (fun e => h1 e.symm)
  · have h2 : (xs.map (fun x => x.v.ownBlock)).Pairwise (fun a b : Option Nat => a = none ∨ a ≠ b) := List.pairwise_map.2 h.own.apart
    have h3 : (xs.set j ⟨mkIt z p, K, c⟩).map (fun x => x.v.ownBlock) = xs.map (fun x => x.v.ownBlock) := by
      rw [List.map_set, hf]
      apply List.ext_getElem (by simp)
      intro i h4 h5
      rw [List.getElem_set]
      split
      · rename_i e; subst e; simp
      · rfl
    rw [← h3] at h2
    rw [List.pairwise_map] at h2
    exact h2
  · intro r hr
    exact h.up r (by simpa [Value.ownBlock] using hr)
  · intro y hy r hr
    obtain ⟨i, hi, rfl⟩ := List.getElem_of_mem hy
    have hi' : i < xs.length := by simpa using hi
    rw [List.getElem_set] at hr
    split at hr
    · rw [hf] at hr; exact h.ups _ (List.getElem_mem hj) r hr
    · exact h.ups _ (List.getElem_mem hi') r hr
  · exact ((Touch.refl lo hi w).grown hg hup).grown hs1.2 (fun k hk => by cases hk; exact hgl)

theorem markB_take (z : Int) (ps : List It) (j : Nat) (h : j < ps.length) : markB z (ps.take (j + 1)) = markB z (ps.take j) ++ [mkIt (z + cntB (ps.take j)) ps[j]] := by
  apply List.ext_getElem
  · simp [markB_len]; omega
  · intro i h1 h2
    rw [markB_len, List.length_take] at h1
    rw [markB_at _ _ _ (by rw [List.length_take]; omega)]
    simp only [List.getElem_take, List.take_take]
    by_cases e : i = j
    · subst e
      rw [List.getElem_append_right (by simp [markB_len]; omega)]
      simp [markB_len, Nat.min_eq_left (Nat.le_of_lt h)]
    · rw [List.getElem_append_left (by simp [markB_len]; omega), markB_at _ _ _ (by rw [List.length_take]; omega)]
      simp only [List.getElem_take, List.take_take]
      rw [show min i (j + 1) = min i j by omega]
/-- What a marking of a path's pieces leaves. -/
def MarkedB (w : World) (lo hi : Nat) (A : Option Addr) (c : Nat) (ps : List It) (k : Int) (e : Ending) (w' : World) : Prop :=
  e = .returned (.int .i64 (k + cntB ps)) ∧ OwnBI w' lo hi A c (markB k ps) ∧ Touch lo hi w w'

set_option maxRecDepth 100000 in
set_option maxHeartbeats 3200000 in
theorem markItemS_any (lo hi : Nat) (A : Option Addr) (c : Nat) (ps : List It) (k : Int) (w : World) (hown : OwnBI w lo hi A c ps) (hk : 0 ≤ k ∧ k + cntB ps ≤ 4294967296) :
    Calls Try.prog 58 #[.slice A ps.length c, .int .i64 k] w (MarkedB w lo hi A c ps k) := by
  have H0 := Lib.hid hown
  clear hown
  obtain ⟨hk0, hk1⟩ := hk
  have hlen : ps.length + sumR ps = cntB ps := (cntB_eq ps).symm
  have hn : ps.length ≤ 4294967296 := by omega
  have HLEN := Lib.hid hlen
  clear hlen
  go_enter Try.func58, Try.ntmps58
  go_wp2
  go_loopw [1, 5] (fun v i wr => ∃ (j q : Nat), j ≤ ps.length ∧ v = .int .i64 (k + q) ∧ Hid (q = cntB (ps.take j)) ∧ i = .int .i64 j ∧ Hid (OwnBI wr lo hi A c (markB k (ps.take j) ++ ps.drop j)) ∧ Touch lo hi w wr) (fun _ i _ => ps.length - (intOf i).toNat)
  case atStart => exact ⟨0, 0, Nat.zero_le _, by simp, Lib.hid rfl, rfl, Lib.hid (by simpa [markB] using H0.out), Touch.refl _ _ _⟩
  case round =>
    obtain ⟨j, q, hj, rfl, HQ, rfl, HO, hb⟩ := hrel
    by_cases hlt : j < ps.length
    · obtain ⟨xs, hxs, hin⟩ := HO.out
      have hxl : xs.length = ps.length := by
        have := congrArg List.length hxs
        rw [List.length_map, List.length_append, markB_len, List.length_take, List.length_drop] at this
        omega
      have hjx : j < xs.length := by omega
      have hxj : xs[j].p = ps[j] := by
        have : (xs.map ItX.p)[j]'(by simpa using hjx) = ps[j] := by
          simp only [hxs]
          rw [List.getElem_append_right (by simp [markB_len]; omega)]
          simp [markB_len, Nat.min_eq_left (Nat.le_of_lt hlt)]
        simpa using this
      have hqn := cntB_next hlt
      have hql := cntB_le ps (j + 1)
      rw [← HQ.out] at hqn
      obtain ⟨g, cap, hv, _, _⟩ := hin.own.row.form (by omega)
      injection hv with e1 e2 e3
      subst e1 e3
      have hkid := hin.own.kids _ (List.getElem_mem hjx)
      have c0 := hin.own.row.cellAt (j * 2) (by omega)
      rw [(ixCells_at xs j hjx).1] at c0
      obtain ⟨x, hx⟩ : ∃ x, xs[j] = x := ⟨_, rfl⟩
      obtain ⟨y, hy⟩ : ∃ y, ps[j] = y := ⟨_, rfl⟩
      rw [hx] at hkid c0 hxj
      rw [hy] at hxj hqn
      obtain ⟨xp, K, xc⟩ := x
      simp only at hxj
      subst hxj
      obtain ⟨z, hz⟩ : ∃ z, k + (q : Int) = z := ⟨_, rfl⟩
      have hz0 : 0 ≤ z := by omega
      have hz1 : z + 1 + xp.r.length ≤ 4294967296 := by omega
      simp only [ItX.v] at hkid c0
      have M := Lib.hid (markIntS_any lo K xp.r.length xc _ z wr hkid (by omega) (by omega))
      have HIN := Lib.hid hin
      have HXS := Lib.hid hxs
      have HX := Lib.hid hx
      have HY := Lib.hid hy
      have HZ := Lib.hid hz
      have HB := Lib.hid hb
      have k0 : (0 : Int) ≤ (j : Int) := by omega
      have k1 : (j : Int) < (ps.length : Int) := by omega
      have HQN := Lib.hid hqn
      rw [hz]
      clear hkid hin hxs hx hy hz hb hqn
      go_wp2_with fail
      refine M.out.mono ?_
      rintro e w1 ⟨rfl, ho1, hg1⟩
      have HM := Lib.hid (mark_item z HIN.out j hjx HX.out ho1 hg1)
      have hr1 : w1.ownsRow lo 54 2 (.slice (some ⟨g, 0, none⟩) xs.length c) xs.length (ixCells xs) := by
        refine HIN.out.own.row.kept hg1 ?_
        have h1 := own_ne HIN.out.own.row (HIN.out.own.kids _ (List.getElem_mem hjx)) (by decide)
        rw [HX.out] at h1
        exact h1
      obtain ⟨u0, u1, d0, d1, f0, f1⟩ := own2 hr1 hjx
      clear ho1 hg1 hr1
      go_wp2
      go_roundw
      case rel =>
        refine ⟨j + 1, q + (xp.r.length + 1), by omega, ?_, ?_, by go_num, Lib.hid ?_, HB.out.trans HM.out.2⟩
        · have := HZ.out
          rw [← this]
          congr 1
          push_cast
          omega
        · show _ = _
          rw [cntB_next hlt, HY.out, HQ.out]
        · refine ⟨_, ?_, HM.out.1⟩
          rw [List.map_set, HXS.out, markB_take k ps j hlt, HY.out, ← HQ.out, HZ.out, List.set_append_right _ _ (by simp [markB_len]; omega)]
          simp only [markB_len, List.length_take, Nat.min_eq_left (Nat.le_of_lt hlt), Nat.sub_self]
          rw [List.drop_eq_getElem_cons hlt]
          simp only [List.set_cons_zero, List.append_assoc, List.singleton_append]
      case measure => simp [intOf]; omega
    · obtain rfl : j = ps.length := by omega
      have h1 := HO.out
      rw [List.take_of_length_le (Nat.le_refl _), List.drop_of_length_le (Nat.le_refl _), List.append_nil] at h1
      have h2 := HQ.out
      rw [List.take_of_length_le (Nat.le_refl _)] at h2
      subst h2
      have HF := Lib.hid h1
      clear h1
      go_wp2
      go_ret
      exact ⟨rfl, HF.out, hb⟩

set_option maxRecDepth 100000 in
set_option maxHeartbeats 3200000 in
theorem heldItemS_any (A : Option Addr) (c : Nat) (ps : List It) (k : Int) (w : World) (hx : RdB w A (markB k ps)) (hk : 0 ≤ k ∧ k + cntB ps ≤ 4294967296) :
    Calls Try.prog 59 #[.slice A ps.length c, .int .i64 k] w fun e w' => e = .returned (.int .i64 (k + cntB ps)) ∧ w = w' := by
  have HX := Lib.hid hx
  clear hx
  obtain ⟨hk0, hk1⟩ := hk
  have hlen : ps.length + sumR ps = cntB ps := (cntB_eq ps).symm
  have hn : ps.length ≤ 4294967296 := by omega
  have HLEN := Lib.hid hlen
  clear hlen
  go_enter Try.func59, Try.ntmps59
  go_wp2
  go_loop [1, 5] (fun v i => ∃ (j q : Nat), j ≤ ps.length ∧ v = .int .i64 (k + q) ∧ Hid (q = cntB (ps.take j)) ∧ i = .int .i64 j) (fun _ i => ps.length - (intOf i).toNat)
  case atStart => exact ⟨0, 0, Nat.zero_le _, by simp, Lib.hid rfl, rfl⟩
  case round =>
    obtain ⟨j, q, hj, rfl, HQ, rfl⟩ := hrel
    by_cases hlt : j < ps.length
    · obtain ⟨b, o, Kk, ck, rfl, c0, c1, hrk⟩ := HX.out.at_ (show j < (markB k ps).length by rw [markB_len]; exact hlt)
      have hqn := cntB_next hlt
      have hql := cntB_le ps (j + 1)
      rw [markB_at k ps j hlt] at c0 c1 hrk
      rw [← HQ.out] at hqn c0 c1 hrk
      obtain ⟨y, hy⟩ : ∃ y, ps[j] = y := ⟨_, rfl⟩
      rw [hy] at hqn c0 c1 hrk
      simp only [mkIt, marksI_len] at c0 c1 hrk
      obtain ⟨z, hz⟩ : ∃ z, k + (q : Int) = z := ⟨_, rfl⟩
      have hz0 : 0 ≤ z := by omega
      have hz1 : z + 1 + y.r.length ≤ 4294967296 := by omega
      rw [hz] at c1 hrk ⊢
      have HZ := Lib.hid hz
      have HY := Lib.hid hy
      have HQN := Lib.hid hqn
      have T := Lib.hid (heldIntS_any Kk y.r.length ck z w hrk (by omega) (by omega))
      have k0 : (0 : Int) ≤ (j : Int) := by omega
      have k1 : (j : Int) < (ps.length : Int) := by omega
      have n0 : (z + (y.r.length : Int) != z + (y.r.length : Int)) = false := by simp
      clear hz hy hqn hrk
      go_wp2_with fail
      refine T.out.mono ?_
      rintro e w1 ⟨rfl, rfl⟩
      go_wp2
      go_round
      case rel =>
        refine ⟨j + 1, q + (y.r.length + 1), by omega, ?_, ?_, by go_num⟩
        · have := HZ.out
          rw [← this]
          congr 1
          push_cast
          omega
        · show _ = _
          rw [cntB_next hlt, HY.out, HQ.out]
      case measure => simp [intOf]; omega
    · obtain rfl : j = ps.length := by omega
      have h2 := HQ.out
      rw [List.take_of_length_le (Nat.le_refl _)] at h2
      subst h2
      go_wp2
      go_ret
      exact ⟨rfl, rfl⟩

set_option maxRecDepth 100000 in
theorem markBag_any (lo hi : Nat) (A : Option Addr) (c : Nat) (ps : List It) (k : Int) (w : World) (hown : OwnBI w lo hi A c ps) (hk : 0 ≤ k ∧ k + cntB ps ≤ 4294967296) :
    Calls Try.prog 23 #[.agg #[.slice A ps.length c], .int .i64 k] w (MarkedB w lo hi A c ps k) := by
  have M := Lib.hid (markItemS_any lo hi A c ps k (w.alloc (.cells #[.slice A ps.length c] 29)) (hown.keep (below_alloc _ _)) hk)
  have TA : Touch lo hi w (w.alloc (.cells #[.slice A ps.length c] 29)) := ⟨rfl, rfl, rfl, by simp, fun i hi _ => Below.heap_alloc _ _ _ hi⟩
  have HT := Lib.hid TA
  clear TA
  clear hown
  obtain ⟨hk0, hk1⟩ := hk
  go_enter Try.func23, Try.ntmps23
  go_wp2_with fail
  refine M.out.mono ?_
  rintro e w1 ⟨rfl, ho, ht⟩
  have HO := Lib.hid ho
  clear ho
  go_wp2
  go_ret
  exact ⟨rfl, HO.out, HT.out.trans ht⟩
set_option maxRecDepth 100000 in
theorem heldBag_any (A : Option Addr) (c : Nat) (ps : List It) (k : Int) (w : World) (hx : RdB w A (markB k ps)) (hk : 0 ≤ k ∧ k + cntB ps ≤ 4294967296) :
    Calls Try.prog 24 #[.agg #[.slice A ps.length c], .int .i64 k] w fun e w' => e = .returned (.int .i64 (k + cntB ps)) ∧ Below w.heap.size w w' := by
  have M := Lib.hid (heldItemS_any A c ps k (w.alloc (.cells #[.slice A ps.length c] 29)) (hx.alloc _) hk)
  clear hx
  obtain ⟨hk0, hk1⟩ := hk
  go_enter Try.func24, Try.ntmps24
  go_wp2_with fail
  refine M.out.mono ?_
  rintro e w1 ⟨rfl, rfl⟩
  go_wp2
  go_ret
  exact ⟨rfl, below_alloc _ _⟩
end Go.Proofs.Ytdikkfhdogkniaa
