/- impl.meaningOf: its result says what the path means. Conditions: a valid path, the number of places, what the step's function says. -/
import Derived.Test.YtgpjgigmlgoiiaaSem
import Derived.Test.YtgpjgigmlgoiiaaPathOk
import Derived.Test.YtgpjgigmlgoiiaaPlus
import Derived.Test.YtgpjgigmlgoiiaaTouch
import Derived.Deep.RegionLaw
namespace Go.Proofs.Ytgpjgigmlgoiiaa
open Go.RowKit

def upd (S : Nat → Rl) (k : Nat) (R : Rl) : Nat → Rl := fun i => if i = k then R else S i
theorem upd_self (S : Nat → Rl) (k : Nat) (R : Rl) : upd S k R k = R := if_pos rfl
theorem upd_ne {S : Nat → Rl} {k i : Nat} {R : Rl} (h : i ≠ k) : upd S k R i = S i := if_neg h
theorem upd_upd (S : Nat → Rl) (k : Nat) (R Q : Rl) : upd (upd S k R) k Q = upd S k Q := by
  funext i
  unfold upd
  split <;> rfl
theorem semT_upd {n : Nat} {st : Int → Rl} {ps : List Pc} {k : Nat} (h : k < ps.length) {R : Rl} (hR : pcR n st (semT n st ps k) ps[k] = R) : upd (semT n st ps k) k R = semT n st ps (k + 1) := by
  funext i
  unfold upd
  by_cases e : i = k
  · subst e; rw [if_pos rfl, semT_new h, hR]
  · rw [if_neg e]
    show _ = (if i = k then _ else _)
    rw [if_neg e]
theorem Try.infoRel : (Try.prog.info? 105).map (fun i => (i.zero, i.size, i.bytes)) = some (some (.slice none 0 0), 1, 24) := by kernel_rfl
/-- The relations so far. -/
structure MeI (g m n : Nat) (S : Nat → Rl) (k : Nat) (vs : List Value) (wr : World) : Prop where
  row : wr.ownsRow g 105 1 (.slice (some ⟨g, 0, none⟩) m m) m vs
  kids : ∀ j, j < k → ∃ A c rs, vs[j]? = some (.slice A n c) ∧ wr.ownsRow (g + 1) 80 1 (.slice A n c) n (u32s rs) ∧ IsU n rs (S j)
theorem MeI.as {g m n k0 : Nat} {S : Nat → Rl} {R Q : Rl} {k : Nat} {vs : List Value} {wr : World} (h : MeI g m n (upd S k0 R) k vs wr) (hq : AsR n R Q) : MeI g m n (upd S k0 Q) k vs wr :=
  ⟨h.row, fun j hj => by
    obtain ⟨A, c, rs, h1, h2, h3⟩ := h.kids j hj
    refine ⟨A, c, rs, h1, h2, ?_⟩
    unfold upd at h3 ⊢
    split at h3
    · rename_i e; rw [if_pos e]; exact h3.as hq
    · rename_i e; rw [if_neg e]; exact h3⟩
theorem MeI.len {g m n : Nat} {S : Nat → Rl} {k : Nat} {vs : List Value} {wr : World} (h : MeI g m n S k vs wr) : vs.length = m := by have := h.row.1; omega
theorem MeI.keep {g m n : Nat} {S : Nat → Rl} {k : Nat} {vs : List Value} {wr w' : World} (h : MeI g m n S k vs wr) (hb : Below wr.heap.size wr w') : MeI g m n S k vs w' :=
  ⟨own_below h.row hb, fun j hj => by obtain ⟨A, c, rs, h1, h2, h3⟩ := h.kids j hj; exact ⟨A, c, rs, h1, own_below h2 hb, h3⟩⟩
theorem MeI.at_ {g m n : Nat} {S : Nat → Rl} {k : Nat} {vs : List Value} {wr : World} (h : MeI g m n S k vs wr) {j : Nat} (hj : j < k) (hm : k ≤ m) : ∃ A c rs, wr.cell? ⟨g, j, none⟩ = some (.slice A n c) ∧ RdU wr A rs ∧ IsU n rs (S j) := by
  obtain ⟨A, c, rs, h1, h2, h3⟩ := h.kids j hj
  have hc := h.row.cellAt j (by omega)
  rw [h1] at hc
  refine ⟨A, c, rs, hc, ?_, h3⟩
  unfold RdU
  rw [h3.len]
  exact Rd.of_own h2
theorem MeI.any {g m n : Nat} {S : Nat → Rl} {k : Nat} {vs : List Value} {wr : World} (h : MeI g m n S k vs wr) {j : Nat} (hj : j < m) : ∃ u, wr.cell? ⟨g, j, none⟩ = some u ∧ wr.frozen? ⟨g, j, none⟩ = false := by
  have hl := h.len
  have hc := h.row.cellAt j (by omega)
  rw [List.getElem?_eq_getElem (by omega)] at hc
  exact ⟨_, hc, h.row.frozenAt j⟩
theorem MeI.put {g m n : Nat} {S : Nat → Rl} {k k1 k2 : Nat} {vs : List Value} {w1 : World} {A : Option Addr} {c : Nat} {rs : List Nat} {R : Rl} (h : MeI g m n S k1 vs w1) (hk : k < m) (h2 : ∀ j, j < k2 → j ≠ k → j < k1) {b : Nat} (ho : w1.ownsRow b 80 1 (.slice A n c) n (u32s rs)) (hb : g + 1 ≤ b) (hu : IsU n rs R) :
    ∃ vs2, MeI g m n (upd S k R) k2 vs2 (w1.setCell ⟨g, k, none⟩ (.slice A n c)) := by
  refine ⟨vs.set k (.slice A n c), (h.row.stored k (.slice A n c)).1, fun j hj => ?_⟩
  have hl := h.len
  by_cases e : j = k
  · subst e
    exact ⟨A, c, rs, by simp [hl, hk], ownsRow_setCell_below (own_mono ho hb) (by simp) _, by rw [upd_self]; exact hu⟩
  · obtain ⟨A', c', rs', h3, h4, h5⟩ := h.kids j (h2 j hj e)
    exact ⟨A', c', rs', by rw [List.getElem?_set_ne (fun h => e h.symm)]; exact h3, ownsRow_setCell_below h4 (by simp) _, by rw [upd_ne e]; exact h5⟩
/-- What a call that makes a relation's row leaves. -/
def MadeR (n : Nat) (R : Rl) (w : World) (e : Ending) (w' : World) : Prop := ∃ A c rs, e = .returned (.slice A n c) ∧ IsU n rs R ∧ w'.ownsRow w.heap.size 80 1 (.slice A n c) n (u32s rs) ∧ Below w.heap.size w w'
theorem MadeR.of {n : Nat} {R : Rl} {w : World} {e : Ending} {w' : World} {rs : List Nat} (hu : IsU n rs R) (h : MadeU w rs e w') : MadeR n R w e w' := by
  obtain ⟨A, c, rfl, h2, h3⟩ := h
  rw [hu.len] at h2 ⊢
  exact ⟨A, c, rs, rfl, hu, h2, h3⟩
theorem idR_any (n : Nat) (w : World) (hn : n ≤ 32) : Calls Try.prog 96 #[.int .i64 n] w (MadeR n idR w) := (identity_any n w hn).mono (fun _ _ h => .of (.one hn) h)
theorem orR_any (n : Nat) (A B : Option Addr) (c d : Nat) (as_ bs : List Nat) (R Q : Rl) (w : World) (hn : n ≤ 32) (hx : RdU w A as_) (hy : RdU w B bs) (ha : IsU n as_ R) (hb : IsU n bs Q) :
    Calls Try.prog 98 #[.slice A n c, .slice B n d] w (MadeR n (orR R Q) w) := by
  have h := or_any A B c d as_ bs w hx hy (by rw [ha.len, hb.len]) (by rw [ha.len]; exact hn) ha.lo hb.lo
  rw [ha.len, hb.len] at h
  exact h.mono (fun _ _ h => .of (ha.or hb) h)
theorem thenR_any (n : Nat) (A B : Option Addr) (c d : Nat) (as_ bs : List Nat) (R Q : Rl) (w : World) (hn : n ≤ 32) (hx : RdU w A as_) (hy : RdU w B bs) (ha : IsU n as_ R) (hb : IsU n bs Q) :
    Calls Try.prog 97 #[.slice A n c, .slice B n d] w (MadeR n (cmpR n R Q) w) := by
  have h := then_any A B c d as_ bs w hx hy (by rw [ha.len]; exact hn) (by rw [hb.len]; exact hn) ha.lo hb.lo
  rw [ha.len, hb.len] at h
  exact h.mono (fun _ _ h => .of (ha.then hb) h)
theorem plusR_any (n : Nat) (A : Option Addr) (c : Nat) (as_ : List Nat) (R : Rl) (w : World) (hn : n ≤ 32) (hx : RdU w A as_) (ha : IsU n as_ R) :
    Calls Try.prog 99 #[.slice A n c] w (MadeR n (Pth R n) w) := by
  have h := plus_any A c as_ w hx (by rw [ha.len]; exact hn) ha.lo
  rw [ha.len] at h
  exact h.mono (fun _ _ h => .of ha.plus h)
theorem MadeR.rd {n : Nat} {rs : List Nat} {R : Rl} {w' : World} {b : Nat} {A : Option Addr} {c : Nat} (hu : IsU n rs R) (h : w'.ownsRow b 80 1 (.slice A n c) n (u32s rs)) : RdU w' A rs := by
  unfold RdU
  rw [hu.len]
  exact Rd.of_own h

theorem rowR_all (n : Nat) (S : Nat → Rl) (k : Nat) (ks : List Int) (R : Rl) (h : ∀ z ∈ ks, z.toNat ≠ k) : rowR n (upd S k R) ks = rowR n S ks := by
  have hf : ∀ (l : List Int) (Q : Rl), (∀ z ∈ l, z.toNat ≠ k) → l.foldl (fun Q z => cmpR n Q (upd S k R z.toNat)) Q = l.foldl (fun Q z => cmpR n Q (S z.toNat)) Q := by
    intro l
    induction l with
    | nil => intro _ _; rfl
    | cons a l ih =>
      intro Q hl
      simp only [List.foldl_cons]
      rw [upd_ne (hl a (by simp)), ih _ (fun z hz => hl z (by simp [hz]))]
  cases ks with
  | nil => rfl
  | cons a l =>
    simp only [rowR]
    rw [upd_ne (h a (by simp)), hf l _ (fun z hz => h z (by simp [hz]))]
theorem addr_add0 (ad : Addr) : ad.add 0 = ad := by
  obtain ⟨b, o, sp⟩ := ad
  unfold Addr.add
  split <;> simp_all
theorem take_nextD {ks : List Int} {t : Nat} (h : t < ks.length) : ks.take (t + 1) = ks.take t ++ [ks.getD t 0] := by
  rw [List.take_succ_eq_append_getElem h]
  simp [List.getD, h]

set_option maxRecDepth 100000 in
set_option maxHeartbeats 12800000 in
theorem meaningOf_any (A : Option Addr) (c : Nat) (ps : List Pc) (n : Nat) (st : Int → Rl) (F : Nat) (caps : Array Value) (w : World) (hx : RdP w A ps) (hok : PaOk ps) (hn : n ≤ 32) (hkl : ∀ p ∈ ps, p.k.length ≤ 4294967296)
    (hcf : ∀ (args : Array Value) (w : World), (callFunc F args).run Try.prog w = .ok (.enter F args) w)
    (hst : ∀ (l : Int) (w' : World), 0 ≤ l → Below w.heap.size w w' → Calls Try.prog F (#[.int .u8 l] ++ caps) w' (MadeR n (st l) w')) :
    Calls Try.prog 75 #[.agg #[.slice A ps.length c], .int .i64 n, .func (.func F) #[] caps] w
      (fun e w' => ∃ A1 c1 rs, e = .returned (.slice A1 n c1) ∧ RdU w' A1 rs ∧ IsU n rs (semT n st ps ps.length (ps.length - 1)) ∧ Below w.heap.size w w') := by
  obtain ⟨i0, hi, hz0, hz1, hz2⟩ := info_parts Try.infoRel
  obtain ⟨j0, hj, hy0, hy1, hy2⟩ := info_parts Try.infoU32
  have hz := made_zero n
  have HX := Lib.hid hx
  have HOK := Lib.hid hok
  have HST := Lib.hid hst
  have HKL := Lib.hid hkl
  have hlen := hok.1
  have hB0 := below_alloc w (.cells #[.slice A ps.length c] 59)
  have p0 := heap_alloc_new w (.cells #[.slice A ps.length c] 59)
  obtain ⟨g0, hg0⟩ : ∃ g, w.heap.size = g := ⟨_, rfl⟩
  obtain ⟨W1, hW1⟩ : ∃ W, w.alloc (.cells #[.slice A ps.length c] 59) = W := ⟨_, rfl⟩
  obtain ⟨gm, hgm⟩ : ∃ g, W1.heap.size = g := ⟨_, rfl⟩
  have hgg : g0 < gm := by rw [← hgm, ← hW1, ← hg0]; simp
  rw [hW1] at hB0 p0
  rw [hg0] at p0
  have p00 := blk_cell (o := 0) p0 rfl
  clear hx hok hst hkl
  go_enter Try.func75, Try.ntmps75
  go_wp2_with (first
    | (at_make
       refine wpList_make_full _ rfl _ _ 131 rfl gm 105 i0 (.slice none 0 0) 1 Try.underlying131 hi hz0 hz1 .i64 .i64 (ps.length : Int) (ps.length : Int) ps.length rfl rfl rfl rfl (by rw [hz2]; omega) (by unfold maxLen; omega) (by omega) ?_
       intro w2 hown2 hg2
       have hb2 := (Below.refl W1.heap.size W1).grown hg2 (Nat.le_refl _) (fun g hg => by cases hg)
       have p02 := blk_below hb2 p0
       have p002 := blk_cell (o := 0) p02 rfl))
  have M2 := Lib.hid (show MeI gm ps.length n (semT n st ps 0) 0 _ w2 from ⟨by rw [hgm] at hown2; exact hown2, fun j hj => absurd hj (by omega)⟩)
  have hB2 := below_step hB0 hb2
  have hwg : w.heap.size ≤ gm := by omega
  clear p0 p00 hB0 hb2 p02 p002 hown2 hg2 hW1 hgm
  go_loopw [21] (fun i wr => ∃ (k : Nat) (vs : List Value), k ≤ ps.length ∧ i = .int .i64 k ∧ MeI gm ps.length n (semT n st ps k) k vs wr ∧ Below w.heap.size w wr) (fun i _ => ps.length - (intOf i).toNat)
  case atStart => exact ⟨0, _, Nat.zero_le _, rfl, M2.out, hB2⟩
  case round =>
    clear M2 hB2
    obtain ⟨k, vs, hk, rfl, hm, hb⟩ := hrel
    obtain ⟨wo, rfl⟩ : ∃ wo : World, wo = wr := ⟨_, rfl⟩
    by_cases hlt : k < ps.length
    · obtain ⟨b, o, K, ck, rfl, c0, c1, c2, hrk⟩ := HX.out.at_ hlt
      have hpc := HOK.out.2 k hlt
      have hkl1 := HKL.out _ (List.getElem_mem hlt)
      have hsem := semT_upd (n := n) (st := st) hlt rfl
      obtain ⟨S, hS⟩ : ∃ S, semT n st ps k = S := ⟨_, rfl⟩
      rw [hS] at hm hsem
      obtain ⟨p, hp⟩ : ∃ p, ps[k] = p := ⟨_, rfl⟩
      rw [hp] at c0 c1 c2 hrk hpc hsem hkl1
      obtain ⟨op, l, ks⟩ := p
      simp only at c0 c1 c2 hrk hkl1
      have d0 := held_step hb c0
      have d1 := held_step hb c1
      have d2 := held_step hb c2
      have HRK := Lib.hid hrk
      have HSEM := Lib.hid hsem
      have k0 : (0 : Int) ≤ (k : Int) := by omega
      have k1 : (k : Int) < (ps.length : Int) := by omega
      have hgo := (hm.row.lt gm rfl).2
      have ka := below_alloc wo (.cells #[.int .i64 op, .int .u8 l, .slice K ks.length ck] 126)
      have p6 := heap_alloc_new wo (.cells #[.int .i64 op, .int .u8 l, .slice K ks.length ck] 126)
      have m6 := hm.keep ka
      have hb6 := below_step hb ka
      have hz6 : gm < (wo.alloc (.cells #[.int .i64 op, .int .u8 l, .slice K ks.length ck] 126)).heap.size := by simp; omega
      obtain ⟨g6, hg6⟩ : ∃ g, wo.heap.size = g := ⟨_, rfl⟩
      obtain ⟨W6, hW6⟩ : ∃ W, wo.alloc (.cells #[.int .i64 op, .int .u8 l, .slice K ks.length ck] 126) = W := ⟨_, rfl⟩
      rw [hW6] at p6 m6 hb6 hz6
      rw [hg6] at p6
      have P6 := Lib.hid p6
      have M6 := Lib.hid m6
      have B6 := Lib.hid hb6
      have a0 := blk_cell (o := 0) p6 rfl
      have a1 := blk_cell (o := 1) p6 rfl
      have a2 := blk_cell (o := 2) p6 rfl
      obtain ⟨u6, s6, f6⟩ := m6.any hlt
      have hgne : g6 ≠ gm := by omega
      have PUT := Lib.hid (fun (w1 : World) (h : Below W6.heap.size W6 w1) (A1 : Option Addr) (d : Nat) (rs : List Nat) (R : Rl) (b1 : Nat) (ho : w1.ownsRow b1 80 1 (.slice A1 n d) n (u32s rs)) (hb1 : gm + 1 ≤ b1) (hu : IsU n rs R) => (m6.keep h).put (k2 := k + 1) hlt (fun j hj hne => by omega) ho hb1 hu)
      have BEL := Lib.hid (fun (w1 : World) (h : Below W6.heap.size W6 w1) (v : Value) => (below_step hb6 h).setCell (p := ⟨gm, k, none⟩) hwg v)
      have AT6 := Lib.hid (fun j (hj : j < k) => m6.at_ hj (by omega))
      clear hp hS hsem hrk hm hb c0 c1 c2 ka p6 m6 hb6
      have hop : op = 1 ∨ op = 2 ∨ op = 3 ∨ op = 4 ∨ op = 5 ∨ op = 6 := by
        rcases hpc with ⟨h, _⟩ | ⟨h, _⟩ | ⟨h, _⟩
        all_goals simp only at h; omega
      have HPC := Lib.hid hpc
      clear hpc
      rcases hop with rfl | rfl | rfl | rfl | rfl | rfl
      · have hl0 : 0 ≤ l := by
          have h := (HPC.out.step rfl).1
          unfold lblB at h
          rw [Bool.and_eq_true] at h
          have := of_decide_eq_true h.1
          simp only at this
          omega
        have C := Lib.hid (HST.out l W6 hl0 B6.out)
        go_wp2_with fail
        clear hW6 hg6
        refine C.out.mono ?_
        rintro e w7 ⟨A7, c7, rs7, rfl, u7, own7, k7⟩
        have BL := Lib.hid (BEL.out w7 k7)
        have PT := Lib.hid (PUT.out w7 k7 A7 c7 rs7 _ _ own7 (by omega) u7)
        have s7 := held_step k7 s6
        have f7 : w7.frozen? ⟨gm, k, none⟩ = false := by rw [k7.frozen (p := ⟨gm, k, none⟩) hz6]; exact f6
        clear a0 a1 a2 s6 f6 d0 d1 d2 own7 k7
        go_wp2
        go_roundw
        case rel =>
          obtain ⟨vs2, h2⟩ := PT.out
          refine ⟨k + 1, vs2, by omega, by go_num, ?_, BL.out _⟩
          rw [← HSEM.out]
          exact h2
        case measure => simp [intOf]; omega
      · have C := Lib.hid (idR_any n W6 hn)
        go_wp2_with fail
        clear hW6 hg6
        refine C.out.mono ?_
        rintro e w7 ⟨A7, c7, rs7, rfl, u7, own7, k7⟩
        clear C
        obtain ⟨vs8, m8⟩ := PUT.out w7 k7 A7 c7 rs7 _ _ own7 (by omega) u7
        have b8 := BEL.out w7 k7 (.slice A7 n c7)
        have p8 := blk_set_ne (j := k) (u := .slice A7 n c7) (g' := gm) (blk_below k7 P6.out) hgne
        have s7 := held_step k7 s6
        have f7 : w7.frozen? ⟨gm, k, none⟩ = false := by rw [k7.frozen (p := ⟨gm, k, none⟩) hz6]; exact f6
        obtain ⟨W8, hW8⟩ : ∃ W, w7.setCell ⟨gm, k, none⟩ (.slice A7 n c7) = W := ⟨_, rfl⟩
        rw [hW8] at m8 b8 p8
        have M8 := Lib.hid m8
        have B8 := Lib.hid b8
        have a82 := blk_cell (o := 2) p8 rfl
        clear a0 a1 a2 s6 f6 d0 d1 d2 own7 k7 m8 b8 p8
        go_wp2_with fail
        clear hW8
        go_loopw [47] (fun i wr => ∃ (t : Nat) (vs : List Value), t ≤ ks.length ∧ i = .int .i64 t ∧ MeI gm ps.length n (upd S k (rowR n S (ks.take t))) (k + 1) vs wr ∧ Below w.heap.size w wr) (fun i _ => ks.length - (intOf i).toNat)
        case atStart => exact ⟨0, vs8, Nat.zero_le _, rfl, M8.out, B8.out⟩
        case round =>
          clear M8 B8 s7 f7 a82
          obtain ⟨t, vs, ht, rfl, hm, hb⟩ := hrel
          obtain ⟨wq, rfl⟩ : ∃ wq : World, wq = wr := ⟨_, rfl⟩
          by_cases htl : t < ks.length
          · obtain ⟨ad, rfl, z0⟩ := (RdI.below HRK.out hb).at_ htl
            have hzk : KidsOk ks (k : Int) := (HPC.out.mid (by simp)).2.2
            have hzm := hzk (ks.getD t 0) (by simp [List.getD, htl])
            have htn := take_nextD htl
            obtain ⟨z, hzz⟩ : ∃ z, ks.getD t 0 = z := ⟨_, rfl⟩
            rw [hzz] at z0 hzm htn
            obtain ⟨j, rfl⟩ : ∃ j : Nat, z = j := ⟨z.toNat, by omega⟩
            have HTN := Lib.hid htn
            have hjk : j < k := by omega
            obtain ⟨A1, d1', rs1, e1, r1, u1⟩ := hm.at_ (j := k) (by omega) (by omega)
            rw [upd_self] at u1
            obtain ⟨A2, d2', rs2, e2, r2, u2⟩ := hm.at_ (j := j) (by omega) (by omega)
            rw [upd_ne (by omega)] at u2
            have C := Lib.hid (fun W (h : Below wq.heap.size wq W) => thenR_any n A1 A2 d1' d2' rs1 rs2 _ _ W hn (r1.below h) (r2.below h) u1 u2)
            have hgq := (hm.row.lt gm rfl).2
            have fq := hm.row.frozenAt k
            have t0 : (0 : Int) ≤ (t : Int) := by omega
            have t1 : (t : Int) < (ks.length : Int) := by omega
            have j0 : (0 : Int) ≤ (j : Int) := by omega
            have j1 : (j : Int) < (ps.length : Int) := by omega
            have B0 : Below wq.heap.size wq wq.drew := (Below.refl _ _).drew
            have HM := Lib.hid hm
            have HB := Lib.hid hb
            clear hzz hzk hzm htn u1 u2 r1 r2 hm hb
            go_wp2_with fail
            go_region_law (first
              | (go_simp
                 go_at_call 97
                 refine (C.out _ B0).mono ?_
                 rintro e w9 ⟨A9, c9, rs9, rfl, u9, own9, k9⟩
                 have PT := Lib.hid ((HM.out.keep (below_step B0 k9)).put (k2 := k + 1) hlt (fun j hj _ => hj) own9 (by have := hgq; simp; omega) u9)
                 have BL := Lib.hid ((below_step HB.out (below_step B0 k9)).setCell (p := ⟨gm, k, none⟩) hwg (.slice A9 n c9))
                 have e19 := held_step (below_step B0 k9) e1
                 have e29 := held_step (below_step B0 k9) e2
                 have f9 : w9.frozen? ⟨gm, k, none⟩ = false := by rw [(below_step B0 k9).frozen (p := ⟨gm, k, none⟩) hgq]; exact fq))
            all_goals
              go_wp2
              go_roundw
              case rel =>
                obtain ⟨vs2, h2⟩ := PT.out
                rw [upd_upd] at h2
                refine ⟨t + 1, vs2, by omega, by go_num, ?_, BL.out⟩
                rw [HTN.out]
                exact h2.as (rowR_next n S (ks.take t) (j : Int))
              case measure => simp [intOf]; omega
          · obtain rfl : t = ks.length := by omega
            rw [List.take_of_length_le (Nat.le_refl _)] at hm
            have HM := Lib.hid hm
            clear hm
            go_wp2
            go_roundw
            case rel =>
              refine ⟨k + 1, vs, by omega, by go_num, ?_, hb⟩
              rw [← HSEM.out]
              exact HM.out
            case measure => simp [intOf]; omega
      · go_wp2_with (first
          | (at_make
             refine wpList_make_full _ rfl _ _ 105 rfl W6.heap.size 80 j0 (.int .u32 0) 1 Try.underlying105 hj hy0 hy1 .i64 .i64 (n : Int) (n : Int) n rfl rfl rfl rfl (by rw [hy2]; omega) (by unfold maxLen; omega) (Nat.le_refl _) ?_
             intro w7 own7 gr7
             have k7 := (Below.refl W6.heap.size W6).grown gr7 (Nat.le_refl _) (fun g hg => by cases hg)
             rw [Nat.mul_one] at own7
             have own7 : w7.ownsRow W6.heap.size 80 1 (.slice (some ⟨W6.heap.size, 0, none⟩) n n) n (u32s (rowF n (fun _ => 0))) := by rw [← hz]; exact own7
             obtain ⟨vs8, m8⟩ := PUT.out w7 k7 (some ⟨W6.heap.size, 0, none⟩) n (rowF n (fun _ => 0)) _ _ own7 (by omega) (IsU.none n)
             have b8 := BEL.out w7 k7 (.slice (some ⟨W6.heap.size, 0, none⟩) n n)
             have p8 := blk_set_ne (j := k) (u := .slice (some ⟨W6.heap.size, 0, none⟩) n n) (g' := gm) (blk_below k7 P6.out) hgne
             have s7 := held_step k7 s6
             have f7 : w7.frozen? ⟨gm, k, none⟩ = false := by rw [k7.frozen (p := ⟨gm, k, none⟩) hz6]; exact f6
             obtain ⟨W8, hW8⟩ : ∃ W, w7.setCell ⟨gm, k, none⟩ (.slice (some ⟨W6.heap.size, 0, none⟩) n n) = W := ⟨_, rfl⟩
             rw [hW8] at m8 b8 p8
             have M8 := Lib.hid m8
             have B8 := Lib.hid b8
             have a82 := blk_cell (o := 2) p8 rfl
             clear a0 a1 a2 s6 f6 d0 d1 d2 own7 k7 m8 b8 p8))
        clear hW6 hg6
        clear hW8
        go_loopw [74] (fun i wr => ∃ (t : Nat) (vs : List Value), t ≤ ks.length ∧ i = .int .i64 t ∧ MeI gm ps.length n (upd S k (altR S (ks.take t))) (k + 1) vs wr ∧ Below w.heap.size w wr) (fun i _ => ks.length - (intOf i).toNat)
        case atStart => exact ⟨0, vs8, Nat.zero_le _, rfl, (M8.out.as (fun i j _ _ => ⟨fun h => h.elim, fun h => by obtain ⟨z, hz, _⟩ := h; simp at hz⟩)), B8.out⟩
        case round =>
          clear M8 B8 s7 f7 a82
          obtain ⟨t, vs, ht, rfl, hm, hb⟩ := hrel
          obtain ⟨wq, rfl⟩ : ∃ wq : World, wq = wr := ⟨_, rfl⟩
          by_cases htl : t < ks.length
          · obtain ⟨ad, rfl, z0⟩ := (RdI.below HRK.out hb).at_ htl
            have hzk : KidsOk ks (k : Int) := (HPC.out.mid (by simp)).2.2
            have hzm := hzk (ks.getD t 0) (by simp [List.getD, htl])
            have htn := take_nextD htl
            obtain ⟨z, hzz⟩ : ∃ z, ks.getD t 0 = z := ⟨_, rfl⟩
            rw [hzz] at z0 hzm htn
            obtain ⟨j, rfl⟩ : ∃ j : Nat, z = j := ⟨z.toNat, by omega⟩
            have HTN := Lib.hid htn
            have hjk : j < k := by omega
            obtain ⟨A1, d1', rs1, e1, r1, u1⟩ := hm.at_ (j := k) (by omega) (by omega)
            rw [upd_self] at u1
            obtain ⟨A2, d2', rs2, e2, r2, u2⟩ := hm.at_ (j := j) (by omega) (by omega)
            rw [upd_ne (by omega)] at u2
            have C := Lib.hid (fun W (h : Below wq.heap.size wq W) => orR_any n A1 A2 d1' d2' rs1 rs2 _ _ W hn (r1.below h) (r2.below h) u1 u2)
            have hgq := (hm.row.lt gm rfl).2
            have fq := hm.row.frozenAt k
            have t0 : (0 : Int) ≤ (t : Int) := by omega
            have t1 : (t : Int) < (ks.length : Int) := by omega
            have j0 : (0 : Int) ≤ (j : Int) := by omega
            have j1 : (j : Int) < (ps.length : Int) := by omega
            have B0 : Below wq.heap.size wq wq.drew := (Below.refl _ _).drew
            have HM := Lib.hid hm
            have HB := Lib.hid hb
            clear hzz hzk hzm htn u1 u2 r1 r2 hm hb
            go_wp2_with fail
            go_region_law (first
              | (go_simp
                 go_at_call 98
                 refine (C.out _ B0).mono ?_
                 rintro e w9 ⟨A9, c9, rs9, rfl, u9, own9, k9⟩
                 have PT := Lib.hid ((HM.out.keep (below_step B0 k9)).put (k2 := k + 1) hlt (fun j hj _ => hj) own9 (by have := hgq; simp; omega) u9)
                 have BL := Lib.hid ((below_step HB.out (below_step B0 k9)).setCell (p := ⟨gm, k, none⟩) hwg (.slice A9 n c9))
                 have e19 := held_step (below_step B0 k9) e1
                 have e29 := held_step (below_step B0 k9) e2
                 have f9 : w9.frozen? ⟨gm, k, none⟩ = false := by rw [(below_step B0 k9).frozen (p := ⟨gm, k, none⟩) hgq]; exact fq))
            all_goals
              go_wp2
              go_roundw
              case rel =>
                obtain ⟨vs2, h2⟩ := PT.out
                rw [upd_upd] at h2
                refine ⟨t + 1, vs2, by omega, by go_num, ?_, BL.out⟩
                rw [HTN.out]
                exact h2.as (altR_next n S (ks.take t) (j : Int))
              case measure => simp [intOf]; omega
          · obtain rfl : t = ks.length := by omega
            rw [List.take_of_length_le (Nat.le_refl _)] at hm
            have HM := Lib.hid hm
            clear hm
            go_wp2
            go_roundw
            case rel =>
              refine ⟨k + 1, vs, by omega, by go_num, ?_, hb⟩
              rw [← HSEM.out]
              exact HM.out
            case measure => simp [intOf]; omega
      · have hzk := HPC.out.one (by simp)
        have hk1 : ks.length = 1 := hzk.1
        have hzm := hzk.2.2 (ks.getD 0 0) (by simp [List.getD, hk1])
        obtain ⟨ad, rfl, z0⟩ := (RdI.below HRK.out B6.out).at_ (show 0 < ks.length by omega)
        have l0 : (0 : Int) < (ks.length : Int) := by omega
        have l00 : 0 < ks.length := by omega
        obtain ⟨z, hzz⟩ : ∃ z, ks.getD 0 0 = z := ⟨_, rfl⟩
        rw [hzz] at z0 hzm
        rw [addr_add0] at z0
        have EZ := Lib.hid hzz
        obtain ⟨j, rfl⟩ : ∃ j : Nat, z = j := ⟨z.toNat, by omega⟩
        have hjk : j < k := by omega
        obtain ⟨A1, d1', rs1, e1, r1, u1⟩ := AT6.out j hjk
        have j0' : (0 : Int) ≤ (j : Int) := by omega
        have j1' : (j : Int) < (ps.length : Int) := by omega
        have U1 := Lib.hid u1
        have R1 := Lib.hid r1
        clear hzk hk1 hzm hzz u1 r1
        go_wp2_with fail
        clear hW6 hg6
        refine (plusR_any n A1 d1' rs1 _ W6 hn R1.out U1.out).mono ?_
        rintro e w7 ⟨A7, c7, rs7, rfl, u7, own7, k7⟩
        have R7 := Lib.hid (MadeR.rd u7 own7)
        go_wp2_with fail
        refine (idR_any n w7 hn).mono ?_
        rintro e w8 ⟨A8, c8, rs8, rfl, u8, own8, k8⟩
        have R8 := Lib.hid (MadeR.rd u8 own8)
        go_wp2_with fail
        refine (orR_any n A7 A8 c7 c8 rs7 rs8 _ _ w8 hn (R7.out.below k8) R8.out u7 u8).mono ?_
        rintro e w9 ⟨A9, c9, rs9, rfl, u9, own9, k9⟩
        have k79 := below_step (below_step k7 k8) k9
        have hz9 := (below_step k7 k8).size
        have BL := Lib.hid (BEL.out w9 k79)
        have PT := Lib.hid (PUT.out w9 k79 A9 c9 rs9 _ _ own9 (by have := k79.size; omega) u9)
        have s9 := held_step k79 s6
        have f9 : w9.frozen? ⟨gm, k, none⟩ = false := by rw [k79.frozen (p := ⟨gm, k, none⟩) hz6]; exact f6
        clear a0 a1 a2 s6 f6 d0 d1 d2
        go_wp2
        go_roundw
        case rel =>
          obtain ⟨vs2, h2⟩ := PT.out
          refine ⟨k + 1, vs2, by omega, by go_num, ?_, BL.out _⟩
          rw [← HSEM.out]
          simp only [pcR, EZ.out, Int.toNat_natCast]
          exact h2
        case measure => simp [intOf]; omega
      · have hzk := HPC.out.one (by simp)
        have hk1 : ks.length = 1 := hzk.1
        have hzm := hzk.2.2 (ks.getD 0 0) (by simp [List.getD, hk1])
        obtain ⟨ad, rfl, z0⟩ := (RdI.below HRK.out B6.out).at_ (show 0 < ks.length by omega)
        have l0 : (0 : Int) < (ks.length : Int) := by omega
        have l00 : 0 < ks.length := by omega
        obtain ⟨z, hzz⟩ : ∃ z, ks.getD 0 0 = z := ⟨_, rfl⟩
        rw [hzz] at z0 hzm
        rw [addr_add0] at z0
        have EZ := Lib.hid hzz
        obtain ⟨j, rfl⟩ : ∃ j : Nat, z = j := ⟨z.toNat, by omega⟩
        have hjk : j < k := by omega
        obtain ⟨A1, d1', rs1, e1, r1, u1⟩ := AT6.out j hjk
        have j0' : (0 : Int) ≤ (j : Int) := by omega
        have j1' : (j : Int) < (ps.length : Int) := by omega
        have U1 := Lib.hid u1
        have R1 := Lib.hid r1
        clear hzk hk1 hzm hzz u1 r1
        go_wp2_with fail
        clear hW6 hg6
        refine (plusR_any n A1 d1' rs1 _ W6 hn R1.out U1.out).mono ?_
        rintro e w7 ⟨A7, c7, rs7, rfl, u7, own7, k7⟩
        have BL := Lib.hid (BEL.out w7 k7)
        have PT := Lib.hid (PUT.out w7 k7 A7 c7 rs7 _ _ own7 (by have := k7.size; omega) u7)
        have s7 := held_step k7 s6
        have f7 : w7.frozen? ⟨gm, k, none⟩ = false := by rw [k7.frozen (p := ⟨gm, k, none⟩) hz6]; exact f6
        clear a0 a1 a2 s6 f6 d0 d1 d2
        go_wp2
        go_roundw
        case rel =>
          obtain ⟨vs2, h2⟩ := PT.out
          refine ⟨k + 1, vs2, by omega, by go_num, ?_, BL.out _⟩
          rw [← HSEM.out]
          simp only [pcR, EZ.out, Int.toNat_natCast]
          exact h2
        case measure => simp [intOf]; omega
      · have hzk := HPC.out.one (by simp)
        have hk1 : ks.length = 1 := hzk.1
        have hzm := hzk.2.2 (ks.getD 0 0) (by simp [List.getD, hk1])
        obtain ⟨ad, rfl, z0⟩ := (RdI.below HRK.out B6.out).at_ (show 0 < ks.length by omega)
        have l0 : (0 : Int) < (ks.length : Int) := by omega
        have l00 : 0 < ks.length := by omega
        obtain ⟨z, hzz⟩ : ∃ z, ks.getD 0 0 = z := ⟨_, rfl⟩
        rw [hzz] at z0 hzm
        rw [addr_add0] at z0
        have EZ := Lib.hid hzz
        obtain ⟨j, rfl⟩ : ∃ j : Nat, z = j := ⟨z.toNat, by omega⟩
        have hjk : j < k := by omega
        obtain ⟨A1, d1', rs1, e1, r1, u1⟩ := AT6.out j hjk
        have j0' : (0 : Int) ≤ (j : Int) := by omega
        have j1' : (j : Int) < (ps.length : Int) := by omega
        have U1 := Lib.hid u1
        have R1 := Lib.hid r1
        clear hzk hk1 hzm hzz u1 r1
        have B0 : Below W6.heap.size W6 W6.drew := (Below.refl _ _).drew
        go_wp2_with fail
        clear hW6 hg6
        go_region_law (first
          | (go_simp
             go_at_call 96
             refine (idR_any n _ hn).mono ?_
             rintro e w7 ⟨A7, c7, rs7, rfl, u7, own7, k7⟩
             have K67 := Lib.hid (below_step B0 k7)
             have R7 := Lib.hid (MadeR.rd u7 own7)
             have U7 := Lib.hid u7
             have a27 := held_step K67.out a2
             have z07 := held_step K67.out z0
             have e17 := held_step K67.out e1
             clear own7 k7 u7)
          | (go_simp
             go_at_call 98
             refine (orR_any n A1 A7 d1' c7 rs1 rs7 _ _ _ hn (R1.out.below K67.out) R7.out U1.out U7.out).mono ?_
             rintro e w9 ⟨A9, c9, rs9, rfl, u9, own9, k9⟩
             have K9 := Lib.hid (below_step K67.out k9)
             have BL := Lib.hid (BEL.out w9 K9.out)
             have PT := Lib.hid (PUT.out w9 K9.out A9 c9 rs9 _ _ own9 (by have := K67.out.size; omega) u9)
             have s9 := held_step K9.out s6
             have f9 : w9.frozen? ⟨gm, k, none⟩ = false := by rw [K9.out.frozen (p := ⟨gm, k, none⟩) hz6]; exact f6))
        all_goals
          go_wp2
          go_roundw
          case rel =>
            obtain ⟨vs2, h2⟩ := PT.out
            refine ⟨k + 1, vs2, by omega, by go_num, ?_, BL.out _⟩
            rw [← HSEM.out]
            simp only [pcR, EZ.out, Int.toNat_natCast]
            exact h2
          case measure => simp [intOf]; omega
    · obtain rfl : k = ps.length := by omega
      obtain ⟨m, hm1⟩ : ∃ m, ps.length = m + 1 := ⟨ps.length - 1, by omega⟩
      obtain ⟨A1, c1, rs1, e1, r1, u1⟩ := hm.at_ (j := m) (by omega) (Nat.le_refl _)
      have w0 : IntKind.i64.wrap ((ps.length : Int) - 1) = (m : Int) := by rw [show (ps.length : Int) - 1 = (m : Int) by omega]; exact IntWalk.i64_in _ (by omega)
      have m0 : (0 : Int) ≤ (m : Int) := by omega
      have m1 : (m : Int) < (ps.length : Int) := by omega
      have HM1 := Lib.hid hm1
      clear hm1 hm
      go_wp2
      go_ret
      exact ⟨A1, c1, rs1, rfl, r1, by rw [show ps.length - 1 = m by have := HM1.out; omega]; exact u1, hb⟩
end Go.Proofs.Ytgpjgigmlgoiiaa
