/- spec.l06Full: the matrices that the pieces of a path mean over a graph. Conditions: a valid path, the edges in their range. -/
import Derived.Test.YtgpjgigmlgoiiaaMean
import Derived.Test.YtgpjgigmlgoiiaaBeh
import Derived.Test.YtgpjgigmlgoiiaaGMem
import Derived.Test.YtgpjgigmlgoiiaaBelowQ
import Derived.Test.YtgpjgigmlgoiiaaStG
namespace Go.Proofs.Ytgpjgigmlgoiiaa
open Go.RowKit

theorem Rd.new1 (w : World) (a : Value) (e : TypeId) : Rd (w.alloc (.cells #[a] e)) 1 (some ⟨w.heap.size, 0, none⟩) 1 [a] := by
  refine ⟨rfl, fun _ => ⟨_, rfl, fun j u hu => ?_⟩⟩
  have hadd : (⟨w.heap.size, 0, none⟩ : Addr).add j = ⟨w.heap.size, j, none⟩ := by unfold Addr.add; split <;> simp_all
  rw [hadd, cell_of_row _ w.heap.size j #[a] e (0, 0) (heap_alloc_new w _)]
  simpa using hu
theorem Try.infoBoolS : (Try.prog.info? 23).map (fun i => (i.zero, i.size, i.bytes)) = some (some (.slice none 0 0), 1, 24) := by kernel_rfl
/-- The matrices so far. -/
structure MaI (q n nn : Nat) (S : Nat → Rl) (k : Nat) (v : Value) (vs : List Value) (wr : World) : Prop where
  row : wr.ownsRow q 23 1 v k vs
  kids : ∀ j, j < k → ∃ A c bs, vs[j]? = some (.slice A nn c) ∧ wr.ownsRow q 4 1 (.slice A nn c) nn (bls bs) ∧ IsB n bs (S j)
theorem MaI.keep {q n nn : Nat} {S : Nat → Rl} {k : Nat} {v : Value} {vs : List Value} {wr w' : World} (h : MaI q n nn S k v vs wr) (hb : Below wr.heap.size wr w') : MaI q n nn S k v vs w' :=
  ⟨own_below h.row hb, fun j hj => by obtain ⟨A, c, bs, h1, h2, h3⟩ := h.kids j hj; exact ⟨A, c, bs, h1, own_below h2 hb, h3⟩⟩
theorem MaI.at_ {q n nn : Nat} {S : Nat → Rl} {k : Nat} {A : Option Addr} {c : Nat} {vs : List Value} {wr : World} (h : MaI q n nn S k (.slice A k c) vs wr) {j : Nat} (hj : j < k) :
    ∃ ad A1 c1 bs, A = some ad ∧ wr.cell? (ad.add j) = some (.slice A1 nn c1) ∧ RdB wr A1 nn bs ∧ IsB n bs (S j) := by
  obtain ⟨A1, c1, bs, h1, h2, h3⟩ := h.kids j hj
  obtain ⟨ad, e, hc⟩ := (Rd.of_own h.row).2 (by omega)
  exact ⟨ad, A1, c1, bs, e, hc _ _ h1, Rd.of_own h2, h3⟩
theorem MaI.push {q n nn : Nat} {S : Nat → Rl} {k : Nat} {v v1 : Value} {vs : List Value} {w9 w10 : World} {o : Obj} {A : Option Addr} {c : Nat} {bs : List Bool} {R : Rl} {b : Nat} (h : MaI q n nn S k v vs w9) (hk : w9.ownsRow b 4 1 (.slice A nn c) nn (bls bs)) (hq : q ≤ b) (hu : IsB n bs R)
    (ho : w10.ownsRow q 23 1 v1 (k + 1) (vs ++ [.slice A nn c])) (hg : (w9.alloc o).grownBy w10 v.ownBlock) : MaI q n nn (upd S k R) (k + 1) v1 (vs ++ [.slice A nn c]) w10 := by
  have hr := own_below h.row (below_alloc w9 o)
  have hl : vs.length = k := by have := h.row.1; omega
  refine ⟨ho, fun j hj => ?_⟩
  by_cases e : j = k
  · subst e
    have h1 := own_below hk (below_alloc w9 o)
    exact ⟨A, c, bs, by simp [hl], own_mono (h1.kept hg (own_ne h1 hr (by decide))) hq, by rw [upd_self]; exact hu⟩
  · obtain ⟨A', c', bs', h3, h4, h5⟩ := h.kids j (by omega)
    have h1 := own_below h4 (below_alloc w9 o)
    exact ⟨A', c', bs', by rw [List.getElem?_append_left (by omega)]; exact h3, h1.kept hg (own_ne h1 hr (by decide)), by rw [upd_ne e]; exact h5⟩
theorem l06OrN_any (n nn base : Nat) (hnn : n * n = nn) (A B : Option Addr) (c d : Nat) (as_ bs : List Bool) (R S : Rl) (w : World) (hn : n ≤ 32) (ha : IsB n as_ R) (hb : IsB n bs S) (hown : w.ownsRow base 4 1 (.slice A nn c) nn (bls as_)) (hy : ∀ w', w.grownBy w' (Value.slice A nn c).ownBlock → RdB w' B nn bs) :
    Calls Try.prog 93 #[.slice A nn c, .slice B nn d] w fun e w' => e = .returned (.tuple #[]) ∧ w.grownBy w' (Value.slice A nn c).ownBlock ∧ ∃ bs', IsB n bs' (orR R S) ∧ w'.ownsRow base 4 1 (.slice A nn c) nn (bls bs') := by
  subst hnn
  exact l06OrR_any n base A B c d as_ bs R S w hn ha hb hown hy
theorem l06BehindN_any (n nn : Nat) (hnn : n * n = nn) (A B : Option Addr) (c d : Nat) (as_ bs : List Bool) (R S : Rl) (w : World) (hn : n ≤ 32) (ha : IsB n as_ R) (hb : IsB n bs S) (hx : RdB w A nn as_) (hy : RdB w B nn bs) :
    Calls Try.prog 92 #[.slice A nn c, .slice B nn d, .int .i64 n] w fun e w' => ∃ A c bs, e = .returned (.slice A nn c) ∧ IsB n bs (cmpR n R S) ∧ w'.ownsRow w.heap.size 4 1 (.slice A nn c) nn (bls bs) ∧ Below w.heap.size w w' := by
  subst hnn
  exact l06Behind_any n A B c d as_ bs R S w hn ha hb hx hy
theorem IsB.set {n : Nat} {bs : List Bool} {R : Rl} (h : IsB n bs R) {i j : Nat} (hi : i < n) (hj : j < n) : IsB n (bs.set (i * n + j) true) (fun a b => R a b ∨ (a = i ∧ b = j)) := by
  refine ⟨by simp [h.len], fun a b ha hb => ?_⟩
  rw [gd_setB _ _ _ _ (by rw [h.len]; exact ij_lt hi hj)]
  by_cases e : i * n + j = a * n + b
  · obtain ⟨rfl, rfl⟩ := (cell_ij hj hb).1 e
    rw [if_pos rfl]
    exact ⟨fun _ => .inr ⟨rfl, rfl⟩, fun _ => rfl⟩
  · rw [if_neg e, h.bit a b ha hb]
    constructor
    · exact .inl
    · rintro (h1 | ⟨rfl, rfl⟩)
      · exact h1
      · exact absurd rfl e
theorem IsB.none (n : Nat) : IsB n (List.replicate (n * n) false) noR := by
  refine ⟨by simp, fun i j hi hj => ?_⟩
  simp only [List.getD, List.getElem?_replicate, noR]
  split <;> simp
/-- The rounds of the closure. -/
def rndP (n : Nat) (R : Rl) : Nat → Rl
  | 0 => R
  | r + 1 => orR (rndP n R r) (cmpR n (rndP n R r) R)
open Classical in
theorem rndP_rnd (n : Nat) (R : Rl) (i : Nat) : ∀ r j, rndP n R r i j ↔ rnd n (fun x y => decide (R x y)) (fun y => decide (R i y)) r j = true
  | 0, j => by simp [rndP, rnd]
  | r + 1, j => by
    rw [rnd, stp_iff, rndP]
    unfold orR cmpR
    rw [rndP_rnd n R i r j]
    constructor
    · rintro (h | ⟨k, h1, h2, h3⟩)
      · exact .inl h
      · exact .inr ⟨k, h1, (rndP_rnd n R i r k).1 h2, by simpa using h3⟩
    · rintro (h | ⟨k, h1, h2, h3⟩)
      · exact .inl h
      · exact .inr ⟨k, h1, (rndP_rnd n R i r k).2 h2, by simpa using h3⟩
theorem pth_congr {n : Nat} {R S : Rl} (h : ∀ i j, R i j ↔ S i j) {i j : Nat} (hp : Pth R n i j) : Pth S n i j := by
  induction hp with
  | one h1 => exact .one ((h _ _).1 h1)
  | cat _ hm _ ih1 ih2 => exact .cat ih1 hm ih2
open Classical in
theorem rndP_pth (n : Nat) (R : Rl) : AsR n (rndP n R n) (Pth R n) := by
  intro i j _ hj
  rw [rndP_rnd]
  have h := rnd_pth (n := n) (b := fun x y => decide (R x y)) (i := i) hj
  rw [h]
  exact ⟨pth_congr (fun i j => by simp), pth_congr (fun i j => by simp)⟩
/-- The diagonal as far as its first k places. -/
def diaR (R : Rl) (k : Nat) : Rl := fun a b => R a b ∨ (a = b ∧ a < k)
theorem diaR_zero (n : Nat) (R : Rl) : AsR n R (diaR R 0) := fun a b _ _ => ⟨.inl, fun h => by rcases h with h | ⟨_, h⟩; exact h; omega⟩
theorem diaR_next (n : Nat) (R : Rl) (k : Nat) : AsR n (fun a b => diaR R k a b ∨ (a = k ∧ b = k)) (diaR R (k + 1)) := by
  intro a b _ _
  unfold diaR
  constructor
  · rintro ((h | ⟨h1, h2⟩) | ⟨rfl, rfl⟩)
    · exact .inl h
    · exact .inr ⟨h1, by omega⟩
    · exact .inr ⟨rfl, by omega⟩
  · rintro (h | ⟨h1, h2⟩)
    · exact .inl (.inl h)
    · subst h1
      by_cases e : a = k
      · subst e; exact .inr ⟨rfl, rfl⟩
      · exact .inl (.inr ⟨rfl, by omega⟩)
theorem diaR_end (n : Nat) (R : Rl) : AsR n (diaR R n) (orR R idR) := by
  intro a b ha _
  unfold diaR orR idR
  exact ⟨fun h => by rcases h with h | ⟨h, _⟩; exact .inl h; exact .inr h, fun h => by rcases h with h | h; exact .inl h; exact .inr ⟨h, ha⟩⟩
/-- What l06Full leaves. -/
def FullOut (w : World) (n : Nat) (S : Nat → Rl) (m : Nat) (e : Ending) (w' : World) : Prop :=
  ∃ A1 c1 vs q, e = .returned (.slice A1 m c1) ∧ MaI q n (n * n) S m (.slice A1 m c1) vs w' ∧ Below w.heap.size w w'

set_option maxRecDepth 100000 in
set_option maxHeartbeats 12800000 in
theorem l06Full_any (n : Nat) (Ag A : Option Addr) (cg c : Nat) (es : List Ed) (ps : List Pc) (w : World) (hn0 : 0 < n) (hn : n ≤ 32) (he : RdE w Ag es) (hel : es.length ≤ 1048576) (her : ∀ e ∈ es, (0 ≤ e.f ∧ e.f < n) ∧ (0 ≤ e.t ∧ e.t < n)) (hx : RdP w A ps) (hok : PaOk ps) (hkl : ∀ p ∈ ps, p.k.length ≤ 4294967296) :
    Calls Try.prog 70 #[.agg #[.int .i64 n, .slice Ag es.length cg], .agg #[.slice A ps.length c]] w (FullOut w n (semT n (stG es) ps ps.length) ps.length) := by
  obtain ⟨i0, hi, hz0, hz1, hz2⟩ := info_parts Try.infoBoolS
  obtain ⟨j0, hj, hy0, hy1, hy2⟩ := info_parts Try.infoBool
  have hmul : n * n ≤ 32 * 32 := Nat.mul_le_mul hn hn
  have hno := bls_no (n * n)
  have HNO := Lib.hid (IsB.none n)
  have wnn : IntKind.i64.wrap ((n : Int) * (n : Int)) = ((n * n : Nat) : Int) := by rw [← Int.natCast_mul]; exact IntWalk.i64_in _ (by omega)
  have HWR := Lib.hid (fun i (hi : i < n) => show IntKind.i64.wrap ((i : Int) * (n : Int)) = ((i * n : Nat) : Int) by
    rw [← Int.natCast_mul]
    have : i * n ≤ 32 * 32 := Nat.mul_le_mul (by omega) hn
    exact IntWalk.i64_in _ (by omega))
  have HIJ := Lib.hid (fun i j (hi : i < n) (hj : j < n) => ij_lt hi hj)
  have HER := Lib.hid her
  have HOK := Lib.hid hok
  have HKL := Lib.hid hkl
  have hlen := hok.1
  have hFO : ∀ e w', (∃ A1 c1 vs q, e = .returned (.slice A1 ps.length c1) ∧ MaI q n (n * n) (semT n (stG es) ps ps.length) ps.length (.slice A1 ps.length c1) vs w' ∧ Below w.heap.size w w') → FullOut w n (semT n (stG es) ps ps.length) ps.length e w' := fun e w' h => h
  obtain ⟨nn, hnn⟩ : ∃ nn, n * n = nn := ⟨_, rfl⟩
  rw [hnn] at hmul hno wnn HNO hFO
  have HN := Lib.hid hnn
  have n00 : (0 : Int) < (n : Int) := by omega
  have HFO := Lib.hid hFO
  have ka := below_alloc w (.cells #[.int .i64 n, .slice Ag es.length cg] 45)
  have p0 := heap_alloc_new w (.cells #[.int .i64 n, .slice Ag es.length cg] 45)
  obtain ⟨W1, hW1⟩ : ∃ W, w.alloc (.cells #[.int .i64 n, .slice Ag es.length cg] 45) = W := ⟨_, rfl⟩
  obtain ⟨g0, hg0⟩ : ∃ g, w.heap.size = g := ⟨_, rfl⟩
  rw [hW1] at p0 ka
  rw [hg0] at p0
  have kb := below_alloc W1 (.cells #[.slice A ps.length c] 59)
  have p1 := heap_alloc_new W1 (.cells #[.slice A ps.length c] 59)
  have p02 := blk_below kb p0
  have HB2 := Lib.hid (below_step ka kb)
  have he2 := (he.below ka).below kb
  have hx2 := (hx.keep ka).keep kb
  obtain ⟨W2, hW2⟩ : ∃ W, W1.alloc (.cells #[.slice A ps.length c] 59) = W := ⟨_, rfl⟩
  obtain ⟨g1, hg1⟩ : ∃ g, W1.heap.size = g := ⟨_, rfl⟩
  rw [hW2] at p1 p02 HB2 he2 hx2
  rw [hg1] at p1
  have P0 := Lib.hid p02
  have P1 := Lib.hid p1
  have HE := Lib.hid he2
  have HX := Lib.hid hx2
  have b00 := blk_cell (o := 0) p02 rfl
  have b01 := blk_cell (o := 1) p02 rfl
  have b10 := blk_cell (o := 0) p1 rfl
  have hM0 : MaI W2.heap.size n nn (semT n (stG es) ps 0) 0 (.slice (some ⟨W2.heap.size, 0, none⟩) 0 0) [] (W2.alloc (.cells #[] 23)) := ⟨World.ownsRow_made W2 #[] 0 (Nat.le_refl _) (by unfold maxLen; omega) rfl, fun j hj => absurd hj (by omega)⟩
  have hb0 := below_alloc W2 (.cells #[] 23)
  obtain ⟨q, hq⟩ : ∃ q, W2.heap.size = q := ⟨_, rfl⟩
  rw [hq] at hM0
  have M0 := Lib.hid hM0
  have HQ := Lib.hid hq
  clear hx hok hkl he her ka kb p0 p1 p02 he2 hx2 hM0 hnn hFO
  refine Calls.mono (R := fun e w' => ∃ A1 c1 vs q, e = .returned (.slice A1 ps.length c1) ∧ MaI q n nn (semT n (stG es) ps ps.length) ps.length (.slice A1 ps.length c1) vs w' ∧ Below w.heap.size w w') ?_ HFO.out
  go_enter Try.func70, Try.ntmps70
  go_wp2_with fail
  clear hW1 hW2 hg0 hg1 hq b00 b01 b10
  go_loopw [6, 7] (fun v i wr => ∃ (k : Nat) (vs : List Value), k ≤ ps.length ∧ i = .int .i64 k ∧ MaI q n nn (semT n (stG es) ps k) k v vs wr ∧ Below W2.heap.size W2 wr) (fun _ i _ => ps.length - (intOf i).toNat)
  case atStart => exact ⟨0, [], Nat.zero_le _, rfl, M0.out, hb0⟩
  case round =>
    clear M0 hb0
    obtain ⟨k, vs, hk, rfl, hm, hb⟩ := hrel
    obtain ⟨wo, rfl⟩ : ∃ wo : World, wo = wr := ⟨_, rfl⟩
    obtain ⟨Av, cv, rfl, _, _⟩ := own_slice hm.row
    by_cases hlt : k < ps.length
    · obtain ⟨b, o, K, ck, rfl, c0, c1, c2, hrk⟩ := HX.out.at_ hlt
      have hpc := HOK.out.2 k hlt
      have hkl1 := HKL.out _ (List.getElem_mem hlt)
      have hsem := semT_upd (n := n) (st := stG es) hlt rfl
      obtain ⟨S, hS⟩ : ∃ S, semT n (stG es) ps k = S := ⟨_, rfl⟩
      rw [hS] at hm hsem
      obtain ⟨p, hp⟩ : ∃ p, ps[k] = p := ⟨_, rfl⟩
      rw [hp] at c0 c1 c2 hrk hpc hsem hkl1
      obtain ⟨op, l, ks⟩ := p
      simp only at c0 c1 c2 hrk hkl1
      have d0 := held_step hb c0
      have d1 := held_step hb c1
      have d2 := held_step hb c2
      have b10 := blk_cell (o := 0) (blk_below hb P1.out) rfl
      have HRK := Lib.hid hrk
      have HSEM := Lib.hid hsem
      have k0 : (0 : Int) ≤ (k : Int) := by omega
      have k1 : (k : Int) < (ps.length : Int) := by omega
      have ka := below_alloc wo (.cells #[.int .i64 op, .int .u8 l, .slice K ks.length ck] 126)
      have p6 := heap_alloc_new wo (.cells #[.int .i64 op, .int .u8 l, .slice K ks.length ck] 126)
      have m6 := hm.keep ka
      have hb6 := below_step hb ka
      have hq6 : q ≤ (wo.alloc (.cells #[.int .i64 op, .int .u8 l, .slice K ks.length ck] 126)).heap.size := by have := hb6.size; rw [HQ.out] at this; exact this
      obtain ⟨g6, hg6⟩ : ∃ g, wo.heap.size = g := ⟨_, rfl⟩
      obtain ⟨W6, hW6⟩ : ∃ W, wo.alloc (.cells #[.int .i64 op, .int .u8 l, .slice K ks.length ck] 126) = W := ⟨_, rfl⟩
      rw [hW6] at p6 m6 hb6 hq6
      rw [hg6] at p6
      have P6 := Lib.hid p6
      have M6 := Lib.hid m6
      have B6 := Lib.hid hb6
      have a0 := blk_cell (o := 0) p6 rfl
      have bb0 := blk_cell (o := 0) (blk_below hb6 P0.out) rfl
      have AT6 := Lib.hid (fun j (hj : j < k) => m6.at_ hj)
      have K6 := Lib.hid (HRK.out.below hb6)
      clear hp hS hsem hrk hm hb c0 c1 c2 ka p6 m6 hb6
      have hop : op = 1 ∨ op = 2 ∨ op = 3 ∨ op = 4 ∨ op = 5 ∨ op = 6 := by
        rcases hpc with ⟨h, _⟩ | ⟨h, _⟩ | ⟨h, _⟩
        all_goals simp only at h; omega
      have HPC := Lib.hid hpc
      clear hpc
      rcases hop with rfl | rfl | rfl | rfl | rfl | rfl
      · go_wp2_with (first
          | (at_make
             refine wpList_make_full _ rfl _ _ 23 rfl W6.heap.size 4 j0 (.bool false) 1 Try.underlying23 hj hy0 hy1 .i64 .i64 (nn : Int) (nn : Int) nn rfl rfl rfl rfl (by rw [hy2]; omega) (by unfold maxLen; omega) (Nat.le_refl _) ?_
             intro w7 own7 gr7
             rw [Nat.mul_one] at own7
             have own7 : w7.ownsRow W6.heap.size 4 1 (.slice (some ⟨W6.heap.size, 0, none⟩) nn nn) nn (bls (List.replicate nn false)) := by rw [← hno]; exact own7
             have k7 := (Below.refl W6.heap.size W6).grown gr7 (Nat.le_refl _) (fun g hg => by cases hg)
             have a7 := blk_cell (o := 0) (blk_below k7 P6.out) rfl
             have bg1 := blk_cell (o := 1) (blk_below (below_step B6.out k7) P0.out) rfl))
        clear hW6 hg6
        go_loopw [10] (fun i wr => ∃ (t : Nat) (bs : List Bool), t ≤ es.length ∧ i = .int .i64 t ∧ Hid (IsB n bs (stG (es.take t) l)) ∧ wr.ownsRow W6.heap.size 4 1 (.slice (some ⟨W6.heap.size, 0, none⟩) nn nn) nn (bls bs) ∧ Below W6.heap.size W6 wr) (fun i _ => es.length - (intOf i).toNat)
        case atStart => exact ⟨0, _, Nat.zero_le _, rfl, Lib.hid (HNO.out.as (fun i j _ _ => ⟨fun h => h.elim, fun h => by obtain ⟨e, he, _⟩ := h; simp at he⟩)), own7, k7⟩
        case round =>
          clear own7 gr7 k7 a7 bg1 a0 bb0 d0 d1 d2
          obtain ⟨t, bs, ht, rfl, HI, hown, hb⟩ := hrel
          obtain ⟨wq, rfl⟩ : ∃ wq : World, wq = wr := ⟨_, rfl⟩
          have bg1 := blk_cell (o := 1) (blk_below (below_step B6.out hb) P0.out) rfl
          have al := blk_cell (o := 1) (blk_below hb P6.out) rfl
          have HO := Lib.hid hown
          have HB := Lib.hid hb
          by_cases htl : t < es.length
          · obtain ⟨b2, o2, rfl, y0, y1, y2⟩ := (HE.out.below (below_step B6.out hb)).at_ htl
            have hr := HER.out _ (List.getElem_mem htl)
            have hnx := fun (h : es[t].l = l) f t' hf ht' => stG_next (n := n) htl h (f := f) (t := t') hf ht'
            have hsk := fun (h : es[t].l ≠ l) => stG_skip (n := n) htl h
            obtain ⟨y, hyy⟩ : ∃ y, es[t] = y := ⟨_, rfl⟩
            rw [hyy] at y0 y1 y2 hr hnx hsk
            obtain ⟨yf, yl, yt⟩ := y
            simp only at y0 y1 y2 hr hnx hsk
            obtain ⟨⟨hf0, hf1⟩, ht0, ht1⟩ := hr
            obtain ⟨f, rfl⟩ : ∃ f : Nat, yf = f := ⟨yf.toNat, by omega⟩
            obtain ⟨t', rfl⟩ : ∃ t : Nat, yt = t := ⟨yt.toNat, by omega⟩
            have HNX := Lib.hid hnx
            have HSK := Lib.hid hsk
            have t0 : (0 : Int) ≤ (t : Int) := by omega
            have t1 : (t : Int) < (es.length : Int) := by omega
            have cb1 := fun p => cellQ bg1 p
            have cal := fun p => cellQ al p
            have cy1 := fun p => cellQ y1 p
            clear hyy hown hb hnx hsk
            by_cases hll : yl = l
            · have n1 : (yl == l) = true := by rw [beq_iff_eq]; exact hll
              have HLL := Lib.hid hll
              clear hll
              have hfn : f < n := by omega
              have htn : t' < n := by omega
              have HW1 := HWR.out f hfn
              have h1 := HIJ.out f t' hfn htn
              have hst := HI.out.set hfn htn
              have hyl := HI.out.len
              rw [HN.out] at h1 hyl
              obtain ⟨z, hz⟩ : ∃ z, f * n = z := ⟨_, rfl⟩
              rw [hz] at HW1 h1 hst
              obtain ⟨x1, hx1⟩ : ∃ x, z + t' = x := ⟨_, rfl⟩
              rw [hx1] at h1 hst
              have w1 : IntKind.i64.wrap ((z : Int) + (t' : Int)) = (x1 : Int) := by rw [← hx1]; push_cast; exact IntWalk.i64_in _ (by omega)
              have bb1 : (0 : Int) ≤ (x1 : Int) := by omega
              have bb2 : (x1 : Int) < (nn : Int) := by omega
              have HST := Lib.hid hst
              clear hst hz hx1
              go_wp2_with fail
              refine wp_region_below (by kernel_rfl) (by kernel_rfl) ?_
              repeat (first | go_big_quiet_step (fail) | quiet_step (fail))
              refine wpQuiet_nil ?_
              intro w4 hw'
              obtain ⟨⟨w4, kk⟩, hw''⟩ := hw'
              subst hw''
              have O4 := Lib.hid (own_below HO.out kk)
              have K4 := Lib.hid (below_step HB.out kk)
              have hco := O4.out.cellAt x1 (by omega)
              rw [bls_at (by omega)] at hco
              have hfo := O4.out.frozenAt x1
              obtain ⟨u, hu⟩ : ∃ u, bs.getD x1 false = u := ⟨_, rfl⟩
              rw [hu] at hco
              have bg14 := held_step kk bg1
              have y04 := held_step kk y0
              have y24 := held_step kk y2
              clear hu cb1 cal cy1 bg1 al y0 y1 y2 kk
              go_wp2_with fail
              go_region_law fail
              all_goals
                have HS := Lib.hid ((own_below O4.out (Below.refl _ _).drew).stored x1 (.bool true))
                have HBD := Lib.hid (K4.out.drew)
                go_wp2
                go_roundw
                case rel =>
                  have h5 := HS.out.1
                  rw [bls_set] at h5
                  exact ⟨t + 1, _, by omega, by go_num, Lib.hid (HST.out.as (HNX.out HLL.out f t' rfl rfl)), h5, HBD.out.grown HS.out.2 HBD.out.size (fun g hg => by cases hg; exact Nat.le_refl _)⟩
                case measure => simp [intOf]; omega
            · have n1 : (yl == l) = false := by rw [beq_eq_false_iff_ne]; exact hll
              have HLL := Lib.hid hll
              clear hll
              go_wp2_with fail
              refine wp_region_below (by kernel_rfl) (by kernel_rfl) ?_
              repeat (first | go_big_quiet_step (fail) | quiet_step (fail))
              refine wpQuiet_nil ?_
              intro w4 hw'
              obtain ⟨⟨w4, kk⟩, hw''⟩ := hw'
              subst hw''
              have O4 := Lib.hid (own_below HO.out kk)
              have K4 := Lib.hid (below_step HB.out kk)
              clear cb1 cal cy1 bg1 al y0 y1 y2 kk
              go_wp2
              go_roundw
              case rel => exact ⟨t + 1, _, by omega, by go_num, Lib.hid (HI.out.as (HSK.out HLL.out)), O4.out, K4.out⟩
              case measure => simp [intOf]; omega
          · obtain rfl : t = es.length := by omega
            have HI2 := Lib.hid (show IsB n bs (stG es l) by have := HI.out; rw [List.take_of_length_le (Nat.le_refl _)] at this; exact this)
            clear hown hb
            go_wp2_with (first
              | (at_builtin
                 refine wpList_append_any _ rfl (.tmp 167) (.tmp 169) 74 rfl q 23 i0 _ 1 24 Try.underlying74 hi hz0 hz1 hz2 rfl (by decide) _ k vs rfl (own_below (M6.out.keep HB.out).row (below_alloc _ _)) (some ⟨wq.heap.size, 0, none⟩) 1 1 [.slice (some ⟨W6.heap.size, 0, none⟩) nn nn] rfl (Rd.new1 wq _ _) (by intro u hu; simp at hu; subst hu; rfl) (by unfold maxLen; omega) (by omega) (by have := (HB.out).size; simp; omega) ?_
                 intro v10 w10 hown hg hob
                 have D10 := Lib.hid ((M6.out.keep HB.out).push HO.out hq6 HI2.out hown hg)
                 have G10 := Lib.hid (((below_step B6.out (below_step HB.out (below_alloc wq (.cells #[.slice (some ⟨W6.heap.size, 0, none⟩) nn nn] 23)))).grown hg (by have := B6.out.size; have := (HB.out).size; simp; omega) (fun g hgg => by have := (M6.out.row.lt g hgg).1; have := HQ.out; omega)))))
            go_roundw
            case rel =>
              refine ⟨k + 1, vs ++ [.slice (some ⟨W6.heap.size, 0, none⟩) nn nn], by omega, by go_num, ?_, G10.out⟩
              rw [← HSEM.out]
              exact D10.out
            case measure => simp [intOf]; omega
      · have hzk : KidsOk ks (k : Int) := (HPC.out.mid (by simp)).2.2
        have h2k := (HPC.out.mid (by simp)).1
        have hzm := hzk (ks.getD 0 0) (by simp [List.getD, show 0 < ks.length by simp only at h2k; omega])
        have l0 : (0 : Int) < (ks.length : Int) := by simp only at h2k; omega
        have l00 : 0 < ks.length := by simp only at h2k; omega
        obtain ⟨ad, rfl, z0⟩ := K6.out.at_ l00
        obtain ⟨z, hzz⟩ : ∃ z, ks.getD 0 0 = z := ⟨_, rfl⟩
        rw [hzz] at z0 hzm
        rw [addr_add0] at z0
        have EZ := Lib.hid hzz
        obtain ⟨j, rfl⟩ : ∃ j : Nat, z = j := ⟨z.toNat, by omega⟩
        have hjk : j < k := by omega
        obtain ⟨adv, A1, d1', bs1, rfl, e1, r1, u1⟩ := AT6.out j hjk
        have j0' : (0 : Int) ≤ (j : Int) := by omega
        have j1' : (j : Int) < (k : Int) := by omega
        have U1 := Lib.hid u1
        have R1 := Lib.hid r1
        clear hzk hzm hzz u1 r1
        go_wp2_with (first
          | (at_make
             refine wpList_make_full _ rfl _ _ 23 rfl W6.heap.size 4 j0 (.bool false) 1 Try.underlying23 hj hy0 hy1 .i64 .i64 (nn : Int) (nn : Int) nn rfl rfl rfl rfl (by rw [hy2]; omega) (by unfold maxLen; omega) (Nat.le_refl _) ?_
             intro w7 own7 gr7
             rw [Nat.mul_one] at own7
             have own7 : w7.ownsRow W6.heap.size 4 1 (.slice (some ⟨W6.heap.size, 0, none⟩) nn nn) nn (bls (List.replicate nn false)) := by rw [← hno]; exact own7
             have k7 := (Below.refl W6.heap.size W6).grown gr7 (Nat.le_refl _) (fun g hg => by cases hg)
             have a7 := blk_cell (o := 0) (blk_below k7 P6.out) rfl
             have k8 := below_alloc w7 (.cells #[] 4)
             have hc8 : (w7.alloc (.cells #[] 4)).ownsRow W6.heap.size 4 1 (.slice (some ⟨w7.heap.size, 0, none⟩) 0 0) 0 [] := World.ownsRow_made w7 #[] 0 k7.size (by unfold maxLen; omega) rfl
             have k78 := below_step k7 k8
             obtain ⟨W8, hW8⟩ : ∃ W, w7.alloc (.cells #[] 4) = W := ⟨_, rfl⟩
             rw [hW8] at hc8 k78
             have a72 := blk_cell (o := 2) (blk_below k78 P6.out) rfl
             have z07 := held_step k78 z0
             have e17 := held_step k78 e1
             have HC8 := Lib.hid hc8
             have R18 := Lib.hid (R1.out.below k78)
             have K8 := Lib.hid k78
             clear hc8 k8 k78)
          | (at_builtin
             refine wpList_append_any _ rfl (.tmp 121) (.tmp 128) 23 rfl W6.heap.size 4 j0 _ 1 1 Try.underlying23 hj hy0 hy1 hy2 rfl (by decide) _ 0 [] rfl HC8.out A1 nn d1' (bls bs1) rfl R18.out (by intro u hu; obtain ⟨x, _, rfl⟩ := List.mem_map.1 hu; rfl) (by unfold maxLen; omega) (by omega) (by have := K8.out.size; simp; omega) ?_
             intro v9 w9 hown9 hg9 _
             rw [Nat.zero_add, List.nil_append] at hown9
             obtain ⟨A9, c9, rfl, _, _⟩ := own_slice hown9
             have K9 := Lib.hid (K8.out.grown hg9 (by have := K8.out.size; simp at this ⊢; omega) (fun r hr => (HC8.out.lt r hr).1))
             have a92 := blk_cell (o := 2) (blk_below K9.out P6.out) rfl))
        clear hW6 hg6
        go_loopw [9, 11] (fun v i wr => ∃ (t : Nat) (bs : List Bool) (A9 : Option Addr) (c9 : Nat), 1 ≤ t ∧ t ≤ ks.length ∧ i = .int .i64 t ∧ v = .slice A9 nn c9 ∧ Hid (IsB n bs (rowR n S (ks.take t))) ∧ wr.ownsRow W6.heap.size 4 1 (.slice A9 nn c9) nn (bls bs) ∧ Below W6.heap.size W6 wr) (fun _ i _ => ks.length - (intOf i).toNat)
        case atStart =>
          refine ⟨1, bs1, A9, c9, Nat.le_refl _, by omega, rfl, rfl, Lib.hid ?_, hown9, K9.out⟩
          rw [take_nextD l00, EZ.out]
          exact U1.out
        case round =>
          clear own7 gr7 k7 a7 a72 z07 e17 HC8 R18 K8 hW8 hown9 hg9 K9 a92 a0 bb0 d0 d1 d2 z0 e1 R1 U1 EZ
          obtain ⟨t, bs, A9, c9, ht1, ht, rfl, rfl, HI, hown, hb⟩ := hrel
          obtain ⟨wq, rfl⟩ : ∃ wq : World, wq = wr := ⟨_, rfl⟩
          have a92 := blk_cell (o := 2) (blk_below hb P6.out) rfl
          have HO := Lib.hid hown
          have HB := Lib.hid hb
          by_cases htl : t < ks.length
          · obtain ⟨ad2, hea, z0⟩ := (K6.out.below hb).at_ htl
            injection hea with hea
            subst hea
            have hzk : KidsOk ks (k : Int) := (HPC.out.mid (by simp)).2.2
            have hzm := hzk (ks.getD t 0) (by simp [List.getD, htl])
            have htn := take_nextD htl
            obtain ⟨z, hzz⟩ : ∃ z, ks.getD t 0 = z := ⟨_, rfl⟩
            rw [hzz] at z0 hzm htn
            obtain ⟨j2, rfl⟩ : ∃ j : Nat, z = j := ⟨z.toNat, by omega⟩
            have HTN := Lib.hid htn
            have hjk2 : j2 < k := by omega
            obtain ⟨adv2, A2, d2', bs2, hea, e2, r2, u2⟩ := AT6.out j2 hjk2
            injection hea with hea
            subst hea
            have e2 := held_step hb e2
            have C := Lib.hid (l06BehindN_any n nn HN.out A9 A2 c9 d2' bs bs2 _ _ wq hn HI.out u2 (Rd.of_own hown) (r2.below hb))
            have t0 : (0 : Int) ≤ (t : Int) := by omega
            have t1 : (t : Int) < (ks.length : Int) := by omega
            have j0 : (0 : Int) ≤ (j2 : Int) := by omega
            have j1 : (j2 : Int) < (k : Int) := by omega
            clear hzz hzk hzm htn u2 r2 hown hb
            go_wp2_with fail
            refine C.out.mono ?_
            rintro e w8 ⟨A8, c8, bs8, rfl, u8, own8, k8⟩
            have O8 := Lib.hid (own_mono own8 HB.out.size)
            have K8 := Lib.hid (below_step HB.out k8)
            clear own8 k8 a92 z0 e2
            go_wp2
            go_roundw
            case rel =>
              refine ⟨t + 1, bs8, A8, c8, by omega, by omega, by go_num, rfl, Lib.hid ?_, O8.out, K8.out⟩
              rw [HTN.out]
              exact u8.as (rowR_next n S (ks.take t) (j2 : Int))
            case measure => simp [intOf]; omega
          · obtain rfl : t = ks.length := by omega
            have HI2 := Lib.hid (show IsB n bs (rowR n S ks) by have := HI.out; rw [List.take_of_length_le (Nat.le_refl _)] at this; exact this)
            clear hown hb
            go_wp2_with (first
              | (at_builtin
                 refine wpList_append_any _ rfl (.tmp 167) (.tmp 169) 74 rfl q 23 i0 _ 1 24 Try.underlying74 hi hz0 hz1 hz2 rfl (by decide) _ k vs rfl (own_below (M6.out.keep HB.out).row (below_alloc _ _)) (some ⟨wq.heap.size, 0, none⟩) 1 1 [.slice A9 nn c9] rfl (Rd.new1 wq _ _) (by intro u hu; simp at hu; subst hu; rfl) (by unfold maxLen; omega) (by omega) (by have := (HB.out).size; simp; omega) ?_
                 intro v10 w10 hown hg hob
                 have D10 := Lib.hid ((M6.out.keep HB.out).push HO.out hq6 HI2.out hown hg)
                 have G10 := Lib.hid (((below_step B6.out (below_step HB.out (below_alloc wq (.cells #[.slice A9 nn c9] 23)))).grown hg (by have := B6.out.size; have := (HB.out).size; simp; omega) (fun g hgg => by have := (M6.out.row.lt g hgg).1; have := HQ.out; omega)))))
            go_roundw
            case rel =>
              refine ⟨k + 1, vs ++ [.slice A9 nn c9], by omega, by go_num, ?_, G10.out⟩
              rw [← HSEM.out]
              exact D10.out
            case measure => simp [intOf]; omega
      · go_wp2_with (first
          | (at_make
             refine wpList_make_full _ rfl _ _ 23 rfl W6.heap.size 4 j0 (.bool false) 1 Try.underlying23 hj hy0 hy1 .i64 .i64 (nn : Int) (nn : Int) nn rfl rfl rfl rfl (by rw [hy2]; omega) (by unfold maxLen; omega) (Nat.le_refl _) ?_
             intro w7 own7 gr7
             rw [Nat.mul_one] at own7
             have own7 : w7.ownsRow W6.heap.size 4 1 (.slice (some ⟨W6.heap.size, 0, none⟩) nn nn) nn (bls (List.replicate nn false)) := by rw [← hno]; exact own7
             have k7 := (Below.refl W6.heap.size W6).grown gr7 (Nat.le_refl _) (fun g hg => by cases hg)
             have a7 := blk_cell (o := 0) (blk_below k7 P6.out) rfl
             have a72 := blk_cell (o := 2) (blk_below k7 P6.out) rfl))
        clear hW6 hg6
        go_loopw [12] (fun i wr => ∃ (t : Nat) (bs : List Bool), t ≤ ks.length ∧ i = .int .i64 t ∧ Hid (IsB n bs (altR S (ks.take t))) ∧ wr.ownsRow W6.heap.size 4 1 (.slice (some ⟨W6.heap.size, 0, none⟩) nn nn) nn (bls bs) ∧ Below W6.heap.size W6 wr) (fun i _ => ks.length - (intOf i).toNat)
        case atStart => exact ⟨0, _, Nat.zero_le _, rfl, Lib.hid (HNO.out.as (fun i j _ _ => ⟨fun h => h.elim, fun h => by obtain ⟨e, he, _⟩ := h; simp at he⟩)), own7, k7⟩
        case round =>
          clear own7 gr7 k7 a7 a72 a0 bb0 d0 d1 d2
          obtain ⟨t, bs, ht, rfl, HI, hown, hb⟩ := hrel
          obtain ⟨wq, rfl⟩ : ∃ wq : World, wq = wr := ⟨_, rfl⟩
          have a92 := blk_cell (o := 2) (blk_below hb P6.out) rfl
          have HO := Lib.hid hown
          have HB := Lib.hid hb
          by_cases htl : t < ks.length
          · obtain ⟨ad, rfl, z0⟩ := (K6.out.below hb).at_ htl
            have hzk : KidsOk ks (k : Int) := (HPC.out.mid (by simp)).2.2
            have hzm := hzk (ks.getD t 0) (by simp [List.getD, htl])
            have htn := take_nextD htl
            obtain ⟨z, hzz⟩ : ∃ z, ks.getD t 0 = z := ⟨_, rfl⟩
            rw [hzz] at z0 hzm htn
            obtain ⟨j2, rfl⟩ : ∃ j : Nat, z = j := ⟨z.toNat, by omega⟩
            have HTN := Lib.hid htn
            have hjk2 : j2 < k := by omega
            obtain ⟨adv2, A2, d2', bs2, rfl, e2, r2, u2⟩ := AT6.out j2 hjk2
            have e2 := held_step hb e2
            have hlt2 := hown.lt W6.heap.size rfl
            have C := Lib.hid (l06OrN_any n nn W6.heap.size HN.out (some ⟨W6.heap.size, 0, none⟩) A2 nn d2' bs bs2 _ _ wq hn HI.out u2 hown (fun w' hg => r2.below (hb.grown hg hb.size (fun g hgg => by cases hgg; exact Nat.le_refl _))))
            have t0 : (0 : Int) ≤ (t : Int) := by omega
            have t1 : (t : Int) < (ks.length : Int) := by omega
            have j0 : (0 : Int) ≤ (j2 : Int) := by omega
            have j1 : (j2 : Int) < (k : Int) := by omega
            clear hzz hzk hzm htn u2 r2 hown hb
            go_wp2_with fail
            refine C.out.mono ?_
            rintro e w8 ⟨rfl, k8, bs8, u8, own8⟩
            have K8 := Lib.hid (HB.out.grown k8 HB.out.size (fun g hgg => by cases hgg; exact Nat.le_refl _))
            have O8 := Lib.hid own8
            clear own8 k8 a92 z0 e2
            go_wp2
            go_roundw
            case rel =>
              refine ⟨t + 1, bs8, by omega, by go_num, Lib.hid ?_, O8.out, K8.out⟩
              rw [HTN.out]
              exact u8.as (altR_next n S (ks.take t) (j2 : Int))
            case measure => simp [intOf]; omega
          · obtain rfl : t = ks.length := by omega
            have HI2 := Lib.hid (show IsB n bs (altR S ks) by have := HI.out; rw [List.take_of_length_le (Nat.le_refl _)] at this; exact this)
            clear hown hb
            go_wp2_with (first
              | (at_builtin
                 refine wpList_append_any _ rfl (.tmp 167) (.tmp 169) 74 rfl q 23 i0 _ 1 24 Try.underlying74 hi hz0 hz1 hz2 rfl (by decide) _ k vs rfl (own_below (M6.out.keep HB.out).row (below_alloc _ _)) (some ⟨wq.heap.size, 0, none⟩) 1 1 [.slice (some ⟨W6.heap.size, 0, none⟩) nn nn] rfl (Rd.new1 wq _ _) (by intro u hu; simp at hu; subst hu; rfl) (by unfold maxLen; omega) (by omega) (by have := (HB.out).size; simp; omega) ?_
                 intro v10 w10 hown hg hob
                 have D10 := Lib.hid ((M6.out.keep HB.out).push HO.out hq6 HI2.out hown hg)
                 have G10 := Lib.hid (((below_step B6.out (below_step HB.out (below_alloc wq (.cells #[.slice (some ⟨W6.heap.size, 0, none⟩) nn nn] 23)))).grown hg (by have := B6.out.size; have := (HB.out).size; simp; omega) (fun g hgg => by have := (M6.out.row.lt g hgg).1; have := HQ.out; omega)))))
            go_roundw
            case rel =>
              refine ⟨k + 1, vs ++ [.slice (some ⟨W6.heap.size, 0, none⟩) nn nn], by omega, by go_num, ?_, G10.out⟩
              rw [← HSEM.out]
              exact D10.out
            case measure => simp [intOf]; omega
      · have hzk := HPC.out.one (by simp)
        have hk1 : ks.length = 1 := hzk.1
        have hzm := hzk.2.2 (ks.getD 0 0) (by simp [List.getD, hk1])
        have l0 : (0 : Int) < (ks.length : Int) := by omega
        have l00 : 0 < ks.length := by omega
        obtain ⟨ad, rfl, z0⟩ := K6.out.at_ l00
        obtain ⟨z, hzz⟩ : ∃ z, ks.getD 0 0 = z := ⟨_, rfl⟩
        rw [hzz] at z0 hzm
        rw [addr_add0] at z0
        have EZ := Lib.hid hzz
        obtain ⟨j, rfl⟩ : ∃ j : Nat, z = j := ⟨z.toNat, by omega⟩
        have hjk : j < k := by omega
        obtain ⟨adv, A1, d1', bs1, rfl, e1, r1, u1⟩ := AT6.out j hjk
        have j0' : (0 : Int) ≤ (j : Int) := by omega
        have j1' : (j : Int) < (k : Int) := by omega
        have U1 := Lib.hid u1
        have R1 := Lib.hid r1
        clear hzk hk1 hzm hzz u1 r1
        go_wp2_with (first
          | (at_make
             refine wpList_make_full _ rfl _ _ 23 rfl W6.heap.size 4 j0 (.bool false) 1 Try.underlying23 hj hy0 hy1 .i64 .i64 (nn : Int) (nn : Int) nn rfl rfl rfl rfl (by rw [hy2]; omega) (by unfold maxLen; omega) (Nat.le_refl _) ?_
             intro w7 own7 gr7
             rw [Nat.mul_one] at own7
             have own7 : w7.ownsRow W6.heap.size 4 1 (.slice (some ⟨W6.heap.size, 0, none⟩) nn nn) nn (bls (List.replicate nn false)) := by rw [← hno]; exact own7
             have k7 := (Below.refl W6.heap.size W6).grown gr7 (Nat.le_refl _) (fun g hg => by cases hg)
             have a7 := blk_cell (o := 0) (blk_below k7 P6.out) rfl
             have a72 := blk_cell (o := 2) (blk_below k7 P6.out) rfl
             have z07 := held_step k7 z0
             have e17 := held_step k7 e1
             have C7 := Lib.hid (l06OrN_any n nn W6.heap.size HN.out (some ⟨W6.heap.size, 0, none⟩) A1 nn d1' (List.replicate nn false) bs1 _ _ w7 hn HNO.out U1.out own7 (fun w' hg => R1.out.below (k7.grown hg k7.size (fun g hgg => by cases hgg; exact Nat.le_refl _))))))
        clear hW6 hg6
        refine C7.out.mono ?_
        rintro e w8 ⟨rfl, k8, bs8, u8, own8⟩
        have K8 := Lib.hid (k7.grown k8 k7.size (fun g hgg => by cases hgg; exact Nat.le_refl _))
        have O8 := Lib.hid own8
        have U8 := Lib.hid (show IsB n bs8 (rndP n (S j) 0) from u8.as (fun a b _ _ => ⟨fun h => h.elim (fun h => h.elim) id, fun h => .inr h⟩))
        have ao := blk_cell (o := 0) (blk_below K8.out P6.out) rfl
        clear own7 gr7 k7 a7 a72 z07 e17 C7 own8 k8 u8 a0 bb0 d0 d1 d2
        go_wp2_with fail
        go_loopw [13] (fun i wr => ∃ (t : Nat) (bs : List Bool), t ≤ n ∧ i = .int .i64 t ∧ Hid (IsB n bs (rndP n (S j) t)) ∧ wr.ownsRow W6.heap.size 4 1 (.slice (some ⟨W6.heap.size, 0, none⟩) nn nn) nn (bls bs) ∧ Below W6.heap.size W6 wr) (fun i _ => n - (intOf i).toNat)
        case atStart => exact ⟨0, _, Nat.zero_le _, rfl, U8, O8.out, K8.out⟩
        case round =>
          clear O8 K8 U8 ao
          obtain ⟨t, bs, ht, rfl, HI, hown, hb⟩ := hrel
          obtain ⟨wq, rfl⟩ : ∃ wq : World, wq = wr := ⟨_, rfl⟩
          have ao := blk_cell (o := 0) (blk_below hb P6.out) rfl
          have a92 := blk_cell (o := 2) (blk_below hb P6.out) rfl
          have z0q := held_step hb z0
          have e1q := held_step hb e1
          have HO := Lib.hid hown
          have HB := Lib.hid hb
          by_cases htl : t < n
          · have C := Lib.hid (l06BehindN_any n nn HN.out (some ⟨W6.heap.size, 0, none⟩) A1 nn d1' bs bs1 _ _ wq hn HI.out U1.out (Rd.of_own hown) (R1.out.below hb))
            clear hown hb
            go_wp2_with fail
            refine C.out.mono ?_
            rintro e w8 ⟨A8, c8, bs8, rfl, u8, own8, k8⟩
            have O8 := Lib.hid (own_below HO.out k8)
            have K8 := Lib.hid (below_step HB.out k8)
            have hz8 := (HO.out.lt W6.heap.size rfl).2
            have D := Lib.hid (l06OrN_any n nn W6.heap.size HN.out (some ⟨W6.heap.size, 0, none⟩) A8 nn c8 bs bs8 _ _ w8 hn HI.out u8 O8.out (fun w' hg => Rd.of_own (own8.kept hg (.inr fun he => by have h1 : wq.heap.size ≤ W6.heap.size := (own8.lt _ he).1; omega))))
            clear own8 k8 ao a92 z0q e1q u8 C
            go_wp2_with fail
            refine D.out.mono ?_
            rintro e w9 ⟨rfl, k9, bs9, u9, own9⟩
            have K9 := Lib.hid (K8.out.grown k9 K8.out.size (fun g hgg => by cases hgg; exact Nat.le_refl _))
            have O9 := Lib.hid own9
            clear own9 k9 D
            go_wp2
            go_roundw
            case rel => exact ⟨t + 1, bs9, by omega, by go_num, Lib.hid u9, O9.out, K9.out⟩
            case measure => simp [intOf]; omega
          · obtain rfl : t = n := by omega
            have U8 := Lib.hid (HI.out.as (rndP_pth t (S j)))
            have O8 := HO
            have K8 := HB
            clear hown hb a92 z0q e1q HI HO HB
            go_wp2_with fail
            go_loopw [14] (fun i wr => ∃ (t' : Nat) (bs : List Bool), t' ≤ t ∧ i = .int .i64 t' ∧ Hid (IsB t bs (diaR (Pth (S j) t) t')) ∧ wr.ownsRow W6.heap.size 4 1 (.slice (some ⟨W6.heap.size, 0, none⟩) nn nn) nn (bls bs) ∧ Below W6.heap.size W6 wr) (fun i _ => t - (intOf i).toNat)
            case atStart => exact ⟨0, _, Nat.zero_le _, rfl, Lib.hid (U8.out.as (diaR_zero t _)), O8.out, K8.out⟩
            case round =>
              clear O8 K8 U8 ao
              obtain ⟨t', bs', ht', rfl, HI, hown, hb⟩ := hrel
              obtain ⟨wp, rfl⟩ : ∃ wp : World, wp = wr := ⟨_, rfl⟩
              have ao := blk_cell (o := 0) (blk_below hb P6.out) rfl
              have HO := Lib.hid hown
              have HB := Lib.hid hb
              by_cases htl' : t' < t
              · have HW1 := HWR.out t' htl'
                have h1 := HIJ.out t' t' htl' htl'
                have hst := HI.out.set htl' htl'
                have hyl := HI.out.len
                rw [HN.out] at h1 hyl
                obtain ⟨z, hz⟩ : ∃ z, t' * t = z := ⟨_, rfl⟩
                rw [hz] at HW1 h1 hst
                obtain ⟨x1, hx1⟩ : ∃ x, z + t' = x := ⟨_, rfl⟩
                rw [hx1] at h1 hst
                have w1 : IntKind.i64.wrap ((z : Int) + (t' : Int)) = (x1 : Int) := by rw [← hx1]; push_cast; exact IntWalk.i64_in _ (by omega)
                have bb1 : (0 : Int) ≤ (x1 : Int) := by omega
                have bb2 : (x1 : Int) < (nn : Int) := by omega
                have hco := HO.out.cellAt x1 (by omega)
                rw [bls_at (by omega)] at hco
                have hfo := HO.out.frozenAt x1
                obtain ⟨u, hu⟩ : ∃ u, bs'.getD x1 false = u := ⟨_, rfl⟩
                rw [hu] at hco
                have HST := Lib.hid hst
                have HS := Lib.hid (HO.out.stored x1 (.bool true))
                clear hst hz hx1 hu hown hb
                go_wp2
                go_roundw
                case rel =>
                  have h5 := HS.out.1
                  rw [bls_set] at h5
                  exact ⟨t' + 1, _, by omega, by go_num, Lib.hid (HST.out.as (diaR_next t _ t')), h5, HB.out.grown HS.out.2 HB.out.size (fun g hg => by cases hg; exact Nat.le_refl _)⟩
                case measure => simp [intOf]; omega
              · obtain rfl : t' = t := by omega
                have HI2 := Lib.hid (HI.out.as (diaR_end t' _))
                clear hown hb
                go_wp2_with (first
                  | (at_builtin
                     refine wpList_append_any _ rfl (.tmp 167) (.tmp 169) 74 rfl q 23 i0 _ 1 24 Try.underlying74 hi hz0 hz1 hz2 rfl (by decide) _ k vs rfl (own_below (M6.out.keep HB.out).row (below_alloc _ _)) (some ⟨wp.heap.size, 0, none⟩) 1 1 [.slice (some ⟨W6.heap.size, 0, none⟩) nn nn] rfl (Rd.new1 wp _ _) (by intro u hu; simp at hu; subst hu; rfl) (by unfold maxLen; omega) (by omega) (by have := (HB.out).size; simp; omega) ?_
                     intro v10 w10 hown hg hob
                     have D10 := Lib.hid ((M6.out.keep HB.out).push HO.out hq6 HI2.out hown hg)
                     have G10 := Lib.hid (((below_step B6.out (below_step HB.out (below_alloc wp (.cells #[.slice (some ⟨W6.heap.size, 0, none⟩) nn nn] 23)))).grown hg (by have := B6.out.size; have := (HB.out).size; simp; omega) (fun g hgg => by have := (M6.out.row.lt g hgg).1; have := HQ.out; omega)))))
                go_roundw
                case rel =>
                  refine ⟨k + 1, vs ++ [.slice (some ⟨W6.heap.size, 0, none⟩) nn nn], by omega, by go_num, ?_, G10.out⟩
                  rw [← HSEM.out]
                  simp only [pcR, EZ.out, Int.toNat_natCast]
                  exact D10.out
                case measure => simp [intOf]; omega
      · have hzk := HPC.out.one (by simp)
        have hk1 : ks.length = 1 := hzk.1
        have hzm := hzk.2.2 (ks.getD 0 0) (by simp [List.getD, hk1])
        have l0 : (0 : Int) < (ks.length : Int) := by omega
        have l00 : 0 < ks.length := by omega
        obtain ⟨ad, rfl, z0⟩ := K6.out.at_ l00
        obtain ⟨z, hzz⟩ : ∃ z, ks.getD 0 0 = z := ⟨_, rfl⟩
        rw [hzz] at z0 hzm
        rw [addr_add0] at z0
        have EZ := Lib.hid hzz
        obtain ⟨j, rfl⟩ : ∃ j : Nat, z = j := ⟨z.toNat, by omega⟩
        have hjk : j < k := by omega
        obtain ⟨adv, A1, d1', bs1, rfl, e1, r1, u1⟩ := AT6.out j hjk
        have j0' : (0 : Int) ≤ (j : Int) := by omega
        have j1' : (j : Int) < (k : Int) := by omega
        have U1 := Lib.hid u1
        have R1 := Lib.hid r1
        clear hzk hk1 hzm hzz u1 r1
        go_wp2_with (first
          | (at_make
             refine wpList_make_full _ rfl _ _ 23 rfl W6.heap.size 4 j0 (.bool false) 1 Try.underlying23 hj hy0 hy1 .i64 .i64 (nn : Int) (nn : Int) nn rfl rfl rfl rfl (by rw [hy2]; omega) (by unfold maxLen; omega) (Nat.le_refl _) ?_
             intro w7 own7 gr7
             rw [Nat.mul_one] at own7
             have own7 : w7.ownsRow W6.heap.size 4 1 (.slice (some ⟨W6.heap.size, 0, none⟩) nn nn) nn (bls (List.replicate nn false)) := by rw [← hno]; exact own7
             have k7 := (Below.refl W6.heap.size W6).grown gr7 (Nat.le_refl _) (fun g hg => by cases hg)
             have a7 := blk_cell (o := 0) (blk_below k7 P6.out) rfl
             have a72 := blk_cell (o := 2) (blk_below k7 P6.out) rfl
             have z07 := held_step k7 z0
             have e17 := held_step k7 e1
             have C7 := Lib.hid (l06OrN_any n nn W6.heap.size HN.out (some ⟨W6.heap.size, 0, none⟩) A1 nn d1' (List.replicate nn false) bs1 _ _ w7 hn HNO.out U1.out own7 (fun w' hg => R1.out.below (k7.grown hg k7.size (fun g hgg => by cases hgg; exact Nat.le_refl _))))))
        clear hW6 hg6
        refine C7.out.mono ?_
        rintro e w8 ⟨rfl, k8, bs8, u8, own8⟩
        have K8 := Lib.hid (k7.grown k8 k7.size (fun g hgg => by cases hgg; exact Nat.le_refl _))
        have O8 := Lib.hid own8
        have U8 := Lib.hid (show IsB n bs8 (rndP n (S j) 0) from u8.as (fun a b _ _ => ⟨fun h => h.elim (fun h => h.elim) id, fun h => .inr h⟩))
        have ao := blk_cell (o := 0) (blk_below K8.out P6.out) rfl
        clear own7 gr7 k7 a7 a72 z07 e17 C7 own8 k8 u8 a0 bb0 d0 d1 d2
        go_wp2_with fail
        go_loopw [13] (fun i wr => ∃ (t : Nat) (bs : List Bool), t ≤ n ∧ i = .int .i64 t ∧ Hid (IsB n bs (rndP n (S j) t)) ∧ wr.ownsRow W6.heap.size 4 1 (.slice (some ⟨W6.heap.size, 0, none⟩) nn nn) nn (bls bs) ∧ Below W6.heap.size W6 wr) (fun i _ => n - (intOf i).toNat)
        case atStart => exact ⟨0, _, Nat.zero_le _, rfl, U8, O8.out, K8.out⟩
        case round =>
          clear O8 K8 U8 ao
          obtain ⟨t, bs, ht, rfl, HI, hown, hb⟩ := hrel
          obtain ⟨wq, rfl⟩ : ∃ wq : World, wq = wr := ⟨_, rfl⟩
          have ao := blk_cell (o := 0) (blk_below hb P6.out) rfl
          have a92 := blk_cell (o := 2) (blk_below hb P6.out) rfl
          have z0q := held_step hb z0
          have e1q := held_step hb e1
          have HO := Lib.hid hown
          have HB := Lib.hid hb
          by_cases htl : t < n
          · have C := Lib.hid (l06BehindN_any n nn HN.out (some ⟨W6.heap.size, 0, none⟩) A1 nn d1' bs bs1 _ _ wq hn HI.out U1.out (Rd.of_own hown) (R1.out.below hb))
            clear hown hb
            go_wp2_with fail
            refine C.out.mono ?_
            rintro e w8 ⟨A8, c8, bs8, rfl, u8, own8, k8⟩
            have O8 := Lib.hid (own_below HO.out k8)
            have K8 := Lib.hid (below_step HB.out k8)
            have hz8 := (HO.out.lt W6.heap.size rfl).2
            have D := Lib.hid (l06OrN_any n nn W6.heap.size HN.out (some ⟨W6.heap.size, 0, none⟩) A8 nn c8 bs bs8 _ _ w8 hn HI.out u8 O8.out (fun w' hg => Rd.of_own (own8.kept hg (.inr fun he => by have h1 : wq.heap.size ≤ W6.heap.size := (own8.lt _ he).1; omega))))
            clear own8 k8 ao a92 z0q e1q u8 C
            go_wp2_with fail
            refine D.out.mono ?_
            rintro e w9 ⟨rfl, k9, bs9, u9, own9⟩
            have K9 := Lib.hid (K8.out.grown k9 K8.out.size (fun g hgg => by cases hgg; exact Nat.le_refl _))
            have O9 := Lib.hid own9
            clear own9 k9 D
            go_wp2
            go_roundw
            case rel => exact ⟨t + 1, bs9, by omega, by go_num, Lib.hid u9, O9.out, K9.out⟩
            case measure => simp [intOf]; omega
          · obtain rfl : t = n := by omega
            have U8 := Lib.hid (HI.out.as (rndP_pth t (S j)))
            have O8 := HO
            have K8 := HB
            clear hown hb a92 z0q e1q HI HO HB
            go_wp2_with fail
            go_loopw [14] (fun i wr => i = .int .i64 0 ∧ wq = wr) (fun _ _ => 0)
            case atStart => exact ⟨rfl, rfl⟩
            case round =>
              obtain ⟨rfl, hw⟩ := hrel
              subst hw
              have ao := blk_cell (o := 0) (blk_below K8.out P6.out) rfl
              go_wp2_with (first
                | (at_builtin
                   refine wpList_append_any _ rfl (.tmp 167) (.tmp 169) 74 rfl q 23 i0 _ 1 24 Try.underlying74 hi hz0 hz1 hz2 rfl (by decide) _ k vs rfl (own_below (M6.out.keep K8.out).row (below_alloc _ _)) (some ⟨wq.heap.size, 0, none⟩) 1 1 [.slice (some ⟨W6.heap.size, 0, none⟩) nn nn] rfl (Rd.new1 wq _ _) (by intro u hu; simp at hu; subst hu; rfl) (by unfold maxLen; omega) (by omega) (by have := (K8.out).size; simp; omega) ?_
                   intro v10 w10 hown hg hob
                   have D10 := Lib.hid ((M6.out.keep K8.out).push O8.out hq6 U8.out hown hg)
                   have G10 := Lib.hid (((below_step B6.out (below_step K8.out (below_alloc wq (.cells #[.slice (some ⟨W6.heap.size, 0, none⟩) nn nn] 23)))).grown hg (by have := B6.out.size; have := (K8.out).size; simp; omega) (fun g hgg => by have := (M6.out.row.lt g hgg).1; have := HQ.out; omega)))))
              go_roundw
              case rel =>
                refine ⟨k + 1, vs ++ [.slice (some ⟨W6.heap.size, 0, none⟩) nn nn], by omega, by go_num, ?_, G10.out⟩
                rw [← HSEM.out]
                simp only [pcR, EZ.out, Int.toNat_natCast]
                exact D10.out
              case measure => simp [intOf]; omega
      · have hzk := HPC.out.one (by simp)
        have hk1 : ks.length = 1 := hzk.1
        have hzm := hzk.2.2 (ks.getD 0 0) (by simp [List.getD, hk1])
        have l0 : (0 : Int) < (ks.length : Int) := by omega
        have l00 : 0 < ks.length := by omega
        obtain ⟨ad, rfl, z0⟩ := K6.out.at_ l00
        obtain ⟨z, hzz⟩ : ∃ z, ks.getD 0 0 = z := ⟨_, rfl⟩
        rw [hzz] at z0 hzm
        rw [addr_add0] at z0
        have EZ := Lib.hid hzz
        obtain ⟨j, rfl⟩ : ∃ j : Nat, z = j := ⟨z.toNat, by omega⟩
        have hjk : j < k := by omega
        obtain ⟨adv, A1, d1', bs1, rfl, e1, r1, u1⟩ := AT6.out j hjk
        have j0' : (0 : Int) ≤ (j : Int) := by omega
        have j1' : (j : Int) < (k : Int) := by omega
        have U1 := Lib.hid u1
        have R1 := Lib.hid r1
        clear hzk hk1 hzm hzz u1 r1
        go_wp2_with (first
          | (at_make
             refine wpList_make_full _ rfl _ _ 23 rfl W6.heap.size 4 j0 (.bool false) 1 Try.underlying23 hj hy0 hy1 .i64 .i64 (nn : Int) (nn : Int) nn rfl rfl rfl rfl (by rw [hy2]; omega) (by unfold maxLen; omega) (Nat.le_refl _) ?_
             intro w7 own7 gr7
             rw [Nat.mul_one] at own7
             have own7 : w7.ownsRow W6.heap.size 4 1 (.slice (some ⟨W6.heap.size, 0, none⟩) nn nn) nn (bls (List.replicate nn false)) := by rw [← hno]; exact own7
             have k7 := (Below.refl W6.heap.size W6).grown gr7 (Nat.le_refl _) (fun g hg => by cases hg)
             have a7 := blk_cell (o := 0) (blk_below k7 P6.out) rfl
             have a72 := blk_cell (o := 2) (blk_below k7 P6.out) rfl
             have z07 := held_step k7 z0
             have e17 := held_step k7 e1
             have C7 := Lib.hid (l06OrN_any n nn W6.heap.size HN.out (some ⟨W6.heap.size, 0, none⟩) A1 nn d1' (List.replicate nn false) bs1 _ _ w7 hn HNO.out U1.out own7 (fun w' hg => R1.out.below (k7.grown hg k7.size (fun g hgg => by cases hgg; exact Nat.le_refl _))))))
        clear hW6 hg6
        refine C7.out.mono ?_
        rintro e w8 ⟨rfl, k8, bs8, u8, own8⟩
        have K8 := Lib.hid (k7.grown k8 k7.size (fun g hgg => by cases hgg; exact Nat.le_refl _))
        have O8 := Lib.hid own8
        have U8 := Lib.hid (show IsB n bs8 (rndP n (S j) 0) from u8.as (fun a b _ _ => ⟨fun h => h.elim (fun h => h.elim) id, fun h => .inr h⟩))
        have ao := blk_cell (o := 0) (blk_below K8.out P6.out) rfl
        clear own7 gr7 k7 a7 a72 z07 e17 C7 own8 k8 u8 a0 bb0 d0 d1 d2
        go_wp2_with fail
        go_loopw [13] (fun i wr => i = .int .i64 0 ∧ w8 = wr) (fun _ _ => 0)
        case atStart => exact ⟨rfl, rfl⟩
        case round =>
          obtain ⟨rfl, hw⟩ := hrel
          subst hw
          have ao := blk_cell (o := 0) (blk_below K8.out P6.out) rfl
          go_wp2_with fail
          go_loopw [14] (fun i wr => ∃ (t' : Nat) (bs : List Bool), t' ≤ n ∧ i = .int .i64 t' ∧ Hid (IsB n bs (diaR (S j) t')) ∧ wr.ownsRow W6.heap.size 4 1 (.slice (some ⟨W6.heap.size, 0, none⟩) nn nn) nn (bls bs) ∧ Below W6.heap.size W6 wr) (fun i _ => n - (intOf i).toNat)
          case atStart => exact ⟨0, _, Nat.zero_le _, rfl, Lib.hid (U8.out.as (diaR_zero n _)), O8.out, K8.out⟩
          case round =>
            clear O8 K8 U8 ao
            obtain ⟨t', bs', ht', rfl, HI, hown, hb⟩ := hrel
            obtain ⟨wp, rfl⟩ : ∃ wp : World, wp = wr := ⟨_, rfl⟩
            have ao := blk_cell (o := 0) (blk_below hb P6.out) rfl
            have HO := Lib.hid hown
            have HB := Lib.hid hb
            by_cases htl' : t' < n
            · have HW1 := HWR.out t' htl'
              have h1 := HIJ.out t' t' htl' htl'
              have hst := HI.out.set htl' htl'
              have hyl := HI.out.len
              rw [HN.out] at h1 hyl
              obtain ⟨z, hz⟩ : ∃ z, t' * n = z := ⟨_, rfl⟩
              rw [hz] at HW1 h1 hst
              obtain ⟨x1, hx1⟩ : ∃ x, z + t' = x := ⟨_, rfl⟩
              rw [hx1] at h1 hst
              have w1 : IntKind.i64.wrap ((z : Int) + (t' : Int)) = (x1 : Int) := by rw [← hx1]; push_cast; exact IntWalk.i64_in _ (by omega)
              have bb1 : (0 : Int) ≤ (x1 : Int) := by omega
              have bb2 : (x1 : Int) < (nn : Int) := by omega
              have hco := HO.out.cellAt x1 (by omega)
              rw [bls_at (by omega)] at hco
              have hfo := HO.out.frozenAt x1
              obtain ⟨u, hu⟩ : ∃ u, bs'.getD x1 false = u := ⟨_, rfl⟩
              rw [hu] at hco
              have HST := Lib.hid hst
              have HS := Lib.hid (HO.out.stored x1 (.bool true))
              clear hst hz hx1 hu hown hb
              go_wp2
              go_roundw
              case rel =>
                have h5 := HS.out.1
                rw [bls_set] at h5
                exact ⟨t' + 1, _, by omega, by go_num, Lib.hid (HST.out.as (diaR_next n _ t')), h5, HB.out.grown HS.out.2 HB.out.size (fun g hg => by cases hg; exact Nat.le_refl _)⟩
              case measure => simp [intOf]; omega
            · obtain rfl : t' = n := by omega
              have HI2 := Lib.hid (HI.out.as (diaR_end t' _))
              clear hown hb
              go_wp2_with (first
                | (at_builtin
                   refine wpList_append_any _ rfl (.tmp 167) (.tmp 169) 74 rfl q 23 i0 _ 1 24 Try.underlying74 hi hz0 hz1 hz2 rfl (by decide) _ k vs rfl (own_below (M6.out.keep HB.out).row (below_alloc _ _)) (some ⟨wp.heap.size, 0, none⟩) 1 1 [.slice (some ⟨W6.heap.size, 0, none⟩) nn nn] rfl (Rd.new1 wp _ _) (by intro u hu; simp at hu; subst hu; rfl) (by unfold maxLen; omega) (by omega) (by have := (HB.out).size; simp; omega) ?_
                   intro v10 w10 hown hg hob
                   have D10 := Lib.hid ((M6.out.keep HB.out).push HO.out hq6 HI2.out hown hg)
                   have G10 := Lib.hid (((below_step B6.out (below_step HB.out (below_alloc wp (.cells #[.slice (some ⟨W6.heap.size, 0, none⟩) nn nn] 23)))).grown hg (by have := B6.out.size; have := (HB.out).size; simp; omega) (fun g hgg => by have := (M6.out.row.lt g hgg).1; have := HQ.out; omega)))))
              go_roundw
              case rel =>
                refine ⟨k + 1, vs ++ [.slice (some ⟨W6.heap.size, 0, none⟩) nn nn], by omega, by go_num, ?_, G10.out⟩
                rw [← HSEM.out]
                simp only [pcR, EZ.out, Int.toNat_natCast]
                exact D10.out
              case measure => simp [intOf]; omega
    · obtain rfl : k = ps.length := by omega
      have b10 := blk_cell (o := 0) (blk_below hb P1.out) rfl
      have HM := Lib.hid hm
      have HB := Lib.hid hb
      clear hm hb
      go_wp2
      go_ret
      exact ⟨Av, cv, vs, q, rfl, HM.out, below_step HB2.out HB.out⟩
end Go.Proofs.Ytgpjgigmlgoiiaa
