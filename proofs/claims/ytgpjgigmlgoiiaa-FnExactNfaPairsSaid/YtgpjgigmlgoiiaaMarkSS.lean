/- Rows of rows of ints of the call's own; their marks. Conditions: the counter's bounds. -/
import Derived.Test.YtgpjgigmlgoiiaaHeldSS
import Derived.Test.YtgpjgigmlgoiiaaMark
import Derived.Test.YtgpjgigmlgoiiaaTouch
namespace Go.Proofs.Ytgpjgigmlgoiiaa
open Go.RowKit

def ApartI (x y : IrX) : Prop := x.v.ownBlock = none ∨ x.v.ownBlock ≠ y.v.ownBlock
/-- A slice of slices of ints is the call's own, rows and all. -/
structure OwnSx (w : World) (base : Nat) (A : Option Addr) (c : Nat) (xs : List IrX) : Prop where
  row : w.ownsRow base 63 1 (.slice A xs.length c) xs.length (xs.map IrX.v)
  kids : ∀ x ∈ xs, w.ownsRow base 3 1 x.v x.r.length (x.r.map (Value.int .i64))
  apart : xs.Pairwise ApartI
def OwnSS (w : World) (base : Nat) (A : Option Addr) (c : Nat) (rs : List (List Int)) : Prop := ∃ xs, xs.map IrX.r = rs ∧ OwnSx w base A c xs
theorem OwnSS.mono {w : World} {base base' c : Nat} {A : Option Addr} {ps : List (List Int)} (h : OwnSS w base A c ps) (hb : base' ≤ base) : OwnSS w base' A c ps := by
  obtain ⟨xs, h1, h2⟩ := h
  exact ⟨xs, h1, own_mono h2.row hb, fun x hx => own_mono (h2.kids x hx) hb, h2.apart⟩
/-- .. in blocks from lo up to hi. -/
structure OwnSJ (w : World) (lo hi : Nat) (A : Option Addr) (c : Nat) (xs : List IrX) : Prop where
  own : OwnSx w lo A c xs
  up : ∀ r, (Value.slice A xs.length c).ownBlock = some r → r < hi
  ups : ∀ x ∈ xs, ∀ r, x.v.ownBlock = some r → r < hi
def OwnSI (w : World) (lo hi : Nat) (A : Option Addr) (c : Nat) (ps : List (List Int)) : Prop := ∃ xs, xs.map IrX.r = ps ∧ OwnSJ w lo hi A c xs
theorem OwnSI.of {w : World} {lo c : Nat} {A : Option Addr} {ps : List (List Int)} (h : OwnSS w lo A c ps) : OwnSI w lo w.heap.size A c ps := by
  obtain ⟨xs, h1, h2⟩ := h
  exact ⟨xs, h1, h2, fun r hr => (h2.row.lt r hr).2, fun x hx r hr => ((h2.kids x hx).lt r hr).2⟩
theorem OwnSI.rd {w : World} {lo hi c : Nat} {A : Option Addr} {ps : List (List Int)} (h : OwnSI w lo hi A c ps) : RdSS w A ps := by
  obtain ⟨xs, h1, h2⟩ := h
  subst h1
  exact ⟨xs, rfl, by rw [List.length_map]; exact Rd.of_own h2.own.row, fun x hx => Rd.of_own (h2.own.kids x hx)⟩
theorem OwnSI.keep {w w' : World} {lo hi c : Nat} {A : Option Addr} {ps : List (List Int)} (h : OwnSI w lo hi A c ps) (hb : Below w.heap.size w w') : OwnSI w' lo hi A c ps := by
  obtain ⟨xs, h1, h2⟩ := h
  exact ⟨xs, h1, ⟨own_below h2.own.row hb, fun x hx => own_below (h2.own.kids x hx) hb, h2.own.apart⟩, h2.up, h2.ups⟩
theorem OwnSI.touch {w w' : World} {lo hi lo' hi' c : Nat} {A : Option Addr} {ps : List (List Int)} (h : OwnSI w lo hi A c ps) (ht : Touch lo' hi' w w') (hb : hi' ≤ lo) : OwnSI w' lo hi A c ps := by
  obtain ⟨xs, h1, h2⟩ := h
  exact ⟨xs, h1, ⟨ht.own h2.own.row hb, fun x hx => ht.own (h2.own.kids x hx) hb, h2.own.apart⟩, h2.up, h2.ups⟩
/-- The marking of one row whose parts are the call's own. -/
theorem mark_ir {w w1 : World} {lo hi : Nat} {c cc : Nat} {A K : Option Addr} {xs : List IrX} {p : List Int} (z : Int) (h : OwnSJ w lo hi A cc xs) (j : Nat) (hj : j < xs.length) (hx : xs[j] = ⟨p, K, c⟩)
    (ho : w1.ownsRow lo 3 1 (.slice K p.length c) p.length ((marksI z p.length).map (Value.int .i64)))
    (hg : w.grownBy w1 (Value.slice K p.length c).ownBlock) :
    OwnSJ w1 lo hi A cc (xs.set j ⟨marksI z p.length, K, c⟩) ∧ Touch lo hi w w1 := by
  have hv : (⟨marksI z p.length, K, c⟩ : IrX).v = xs[j].v := by rw [hx]; simp [IrX.v, marksI_len]
  have hf : (⟨marksI z p.length, K, c⟩ : IrX).v.ownBlock = xs[j].v.ownBlock := by rw [hv]
  have hr := h.own.row
  have hkj : (Value.slice K p.length c).ownBlock = xs[j].v.ownBlock := by rw [hx]; rfl
  have hkid := h.own.kids
  have hup : ∀ r, (Value.slice K p.length c).ownBlock = some r → lo ≤ r ∧ r < hi := fun r hr => by
    rw [hkj] at hr
    exact ⟨((h.own.kids _ (List.getElem_mem hj)).lt r hr).1, h.ups _ (List.getElem_mem hj) r hr⟩
  refine ⟨⟨⟨?_, ?_, ?_⟩, ?_, ?_⟩, ?_⟩
  · have e : (xs.set j ⟨marksI z p.length, K, c⟩).map IrX.v = xs.map IrX.v := by
      rw [List.map_set, hv]
      apply List.ext_getElem (by simp)
      intro i h4 h5
      rw [List.getElem_set]
      split
      · rename_i e; subst e; simp
      · rfl
    rw [List.length_set, e]
    refine hr.kept hg ?_
    have := own_ne hr (hkid _ (List.getElem_mem hj)) (by decide)
    rw [hkj]
    exact this
  · intro y hy
    obtain ⟨i, hi, rfl⟩ := List.getElem_of_mem hy
    have hi' : i < xs.length := by simpa using hi
    rw [List.getElem_set]
    split
    · rename_i e
      simp only [IrX.v, marksI_len]
      exact ho
    · rename_i e
      refine (hkid _ (List.getElem_mem hi')).kept hg ?_
      rw [hkj]
      rcases (by omega : i < j ∨ j < i) with hlt | hlt
      · exact List.pairwise_iff_getElem.1 h.own.apart i j hi' hj hlt
      · rcases List.pairwise_iff_getElem.1 h.own.apart j i hj hi' hlt with h1 | h1
        · rw [h1]
          cases xs[i].v.ownBlock <;> simp
        · exact .inr (fun e => h1 e.symm)
  · have h2 : (xs.map (fun x => x.v.ownBlock)).Pairwise (fun a b : Option Nat => a = none ∨ a ≠ b) := List.pairwise_map.2 h.own.apart
    have h3 : (xs.set j ⟨marksI z p.length, K, c⟩).map (fun x => x.v.ownBlock) = xs.map (fun x => x.v.ownBlock) := by
      rw [List.map_set, hf]
      apply List.ext_getElem (by simp)
      intro i h4 h5
      rw [List.getElem_set]
      split
      · rename_i e; subst e; simp
      · rfl
    rw [← h3] at h2
    rw [List.pairwise_map] at h2
    exact h2
  · intro r hr
    exact h.up r (by simpa using hr)
  · intro y hy r hr
    obtain ⟨i, hi, rfl⟩ := List.getElem_of_mem hy
    have hi' : i < xs.length := by simpa using hi
    rw [List.getElem_set] at hr
    split at hr
    · rw [hf] at hr; exact h.ups _ (List.getElem_mem hj) r hr
    · exact h.ups _ (List.getElem_mem hi') r hr
  · exact (Touch.refl lo hi w).grown hg hup
theorem markR_take (z : Int) (ps : List (List Int)) (j : Nat) (h : j < ps.length) : markR z (ps.take (j + 1)) = markR z (ps.take j) ++ [marksI (z + cntR (ps.take j)) ps[j].length] := by
  apply List.ext_getElem
  · simp [markR_len]; omega
  · intro i h1 h2
    rw [markR_len, List.length_take] at h1
    rw [markR_at _ _ _ (by rw [List.length_take]; omega)]
    simp only [List.getElem_take, List.take_take]
    by_cases e : i = j
    · subst e
      rw [List.getElem_append_right (by simp [markR_len]; omega)]
      simp [markR_len, Nat.min_eq_left (Nat.le_of_lt h)]
    · rw [List.getElem_append_left (by simp [markR_len]; omega), markR_at _ _ _ (by rw [List.length_take]; omega)]
      simp only [List.getElem_take, List.take_take]
      rw [show min i (j + 1) = min i j by omega]
def MarkedSS (w : World) (lo hi : Nat) (A : Option Addr) (c : Nat) (ps : List (List Int)) (k : Int) (e : Ending) (w' : World) : Prop :=
  e = .returned (.int .i64 (k + cntR ps)) ∧ OwnSI w' lo hi A c (markR k ps) ∧ Touch lo hi w w'

set_option maxRecDepth 100000 in
set_option maxHeartbeats 3200000 in
theorem markIntSS_any (lo hi : Nat) (A : Option Addr) (c : Nat) (ps : List (List Int)) (k : Int) (w : World) (hown : OwnSI w lo hi A c ps) (hk : 0 ≤ k ∧ k + cntR ps ≤ 4294967296) (hn : ps.length ≤ 4294967296) :
    Calls Try.prog 25 #[.slice A ps.length c, .int .i64 k] w (MarkedSS w lo hi A c ps k) := by
  have H0 := Lib.hid hown
  clear hown
  obtain ⟨hk0, hk1⟩ := hk
  go_enter Try.func25, Try.ntmps25
  go_wp2
  go_loopw [1, 5] (fun v i wr => ∃ (j q : Nat), j ≤ ps.length ∧ v = .int .i64 (k + q) ∧ Hid (q = cntR (ps.take j)) ∧ i = .int .i64 j ∧ Hid (OwnSI wr lo hi A c (markR k (ps.take j) ++ ps.drop j)) ∧ Touch lo hi w wr) (fun _ i _ => ps.length - (intOf i).toNat)
  case atStart => exact ⟨0, 0, Nat.zero_le _, by simp, Lib.hid rfl, rfl, Lib.hid (by simpa [markR] using H0.out), Touch.refl _ _ _⟩
  case round =>
    obtain ⟨j, q, hj, rfl, HQ, rfl, HO, hb⟩ := hrel
    by_cases hlt : j < ps.length
    · obtain ⟨xs, hxs, hin⟩ := HO.out
      have hxl : xs.length = ps.length := by
        have := congrArg List.length hxs
        rw [List.length_map, List.length_append, markR_len, List.length_take, List.length_drop] at this
        omega
      have hjx : j < xs.length := by omega
      have hxj : xs[j].r = ps[j] := by
        have : (xs.map IrX.r)[j]'(by simpa using hjx) = ps[j] := by
          simp only [hxs]
          rw [List.getElem_append_right (by simp [markR_len]; omega)]
          simp [markR_len, Nat.min_eq_left (Nat.le_of_lt hlt)]
        simpa using this
      have hqn := cntR_next hlt
      have hql := cntR_le ps (j + 1)
      rw [← HQ.out] at hqn
      obtain ⟨g, cap, hv, _, _⟩ := hin.own.row.form (by omega)
      injection hv with e1 e2 e3
      subst e1 e3
      have hkid := hin.own.kids _ (List.getElem_mem hjx)
      have c2 := hin.own.row.cellAt j (by omega)
      rw [show (xs.map IrX.v)[j]? = some xs[j].v by simp [hjx]] at c2
      obtain ⟨x, hx⟩ : ∃ x, xs[j] = x := ⟨_, rfl⟩
      obtain ⟨y, hy⟩ : ∃ y, ps[j] = y := ⟨_, rfl⟩
      rw [hx] at hkid c2 hxj
      rw [hy] at hxj hqn
      obtain ⟨xp, K, xc⟩ := x
      simp only at hxj
      subst hxj
      obtain ⟨z, hz⟩ : ∃ z, k + (q : Int) = z := ⟨_, rfl⟩
      have hz0 : 0 ≤ z := by omega
      have hz1 : z + xp.length ≤ 4294967296 := by omega
      have HKID := Lib.hid hkid
      simp only [IrX.v] at HKID c2
      have M := Lib.hid (markIntS_any lo K xp.length xc _ z _ HKID.out (by omega) (by omega))
      have HIN := Lib.hid hin
      have HXS := Lib.hid hxs
      have HX := Lib.hid hx
      have HY := Lib.hid hy
      have HZ := Lib.hid hz
      have HB := Lib.hid hb
      have k0 : (0 : Int) ≤ (j : Int) := by omega
      have k1 : (j : Int) < (ps.length : Int) := by omega
      have HQN := Lib.hid hqn
      rw [hz]
      clear hkid hin hxs hx hy hz hb hqn
      go_wp2_with fail
      refine M.out.mono ?_
      rintro e w1 ⟨rfl, ho1, hg1⟩
      have HM := Lib.hid (mark_ir z HIN.out j hjx HX.out ho1 hg1)
      clear ho1 hg1
      go_wp2
      go_roundw
      case rel =>
        refine ⟨j + 1, q + xp.length, by omega, ?_, ?_, by go_num, Lib.hid ?_, HB.out.trans HM.out.2⟩
        · have := HZ.out
          rw [← this]
          congr 1
          push_cast
          omega
        · show _ = _
          rw [cntR_next hlt, HY.out, HQ.out]
        · refine ⟨_, ?_, HM.out.1⟩
          rw [List.map_set, HXS.out, markR_take k ps j hlt, HY.out, ← HQ.out, HZ.out, List.set_append_right _ _ (by simp [markR_len]; omega)]
          simp only [markR_len, List.length_take, Nat.min_eq_left (Nat.le_of_lt hlt), Nat.sub_self]
          rw [List.drop_eq_getElem_cons hlt]
          simp only [List.set_cons_zero, List.append_assoc, List.singleton_append]
      case measure => simp [intOf]; omega
    · obtain rfl : j = ps.length := by omega
      have h1 := HO.out
      rw [List.take_of_length_le (Nat.le_refl _), List.drop_of_length_le (Nat.le_refl _), List.append_nil] at h1
      have h2 := HQ.out
      rw [List.take_of_length_le (Nat.le_refl _)] at h2
      subst h2
      have HF := Lib.hid h1
      clear h1
      go_wp2
      go_ret
      exact ⟨rfl, HF.out, hb⟩
theorem heldIntSS_one (A : Option Addr) (c : Nat) (ps : List (List Int)) (w : World) (hx : RdSS w A (markR 1 ps)) (hk : cntR ps ≤ 4194304) (hn : ps.length ≤ 4294967296) :
    Calls Try.prog 26 #[.slice A ps.length c, .int .i64 1] w fun e w' => e = .returned (.int .i64 (1 + cntR ps)) ∧ Below w.heap.size w w' :=
  (heldIntSS_any A c ps 1 w hx (by omega) hn).mono (fun e w' ⟨h1, h2⟩ => by subst h2; exact ⟨h1, Below.refl _ _⟩)
theorem eqIntSS_sameK (A B : Option Addr) (c d : Nat) (xs : List (List Int)) (w : World) (hx : RdSS w A xs) (hy : RdSS w B xs) (hn : xs.length ≤ 4294967296) (hk : ∀ p ∈ xs, p.length ≤ 4294967296) :
    Calls Try.prog 22 #[.slice A xs.length c, .slice B xs.length d] w fun e w' => e = .returned (.bool true) ∧ Below w.heap.size w w' := by
  have h := eqIntSS_any A B c d xs xs w hx hy hn hk
  rw [PP_yes rfl] at h
  exact h
end Go.Proofs.Ytgpjgigmlgoiiaa
