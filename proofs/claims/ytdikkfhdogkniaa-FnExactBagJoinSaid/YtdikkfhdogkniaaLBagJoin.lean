/- BagJoin: program and reference return the same, leave their arguments as they were, and what is returned is the caller's own. No conditions. Printed by xlmade.py. -/
import Derived.Test.YtdikkfhdogkniaaSBagJoin
import Derived.Test.YtdikkfhdogkniaaBagJoin
import Derived.Test.YtdikkfhdogkniaaBMark
import Derived.Deep.RegionHeld3
import Derived.Deep.DeepCutAuto
namespace Go.Proofs.Ytdikkfhdogkniaa
open Go.RowKit

theorem cntB_lput (row : List Int) (t : Int) : ∀ ps : List It, cntB (lput ps row t) ≤ cntB ps + row.length + 1
  | [] => by simp [cntB, lput]
  | x :: ps => by
    have ih := cntB_lput row t ps
    unfold lput
    split
    · simp only [cntB, List.map_cons, List.sum_cons]
      omega
    · split
      · simp only [cntB, List.map_cons, List.sum_cons]
        omega
      · simp only [cntB, List.map_cons, List.sum_cons] at ih ⊢
        omega
theorem cntB_join (qs : List It) : ∀ ps : List It, cntB (joinL ps qs) ≤ cntB ps + cntB qs := by
  induction qs with
  | nil => exact fun ps => by simp [joinL, cntB]
  | cons x qs ih =>
    intro ps
    have h1 := ih (lput ps x.r x.t)
    have h2 := cntB_lput x.r x.t ps
    simp only [joinL, List.foldl_cons] at h1 ⊢
    simp only [cntB, List.map_cons, List.sum_cons] at h1 h2 ⊢
    omega
theorem joinR_small (ps qs : List It) : cntB (joinR ps qs) ≤ cntB ps + cntB qs := by
  by_cases h : JoinOk ps qs
  · rw [joinR_yes h]; exact cntB_join qs ps
  · rw [joinR_no h]; simp [cntB]
theorem cntB_len (ps : List It) : ps.length ≤ cntB ps ∧ ∀ p ∈ ps, p.r.length ≤ cntB ps := by
  rw [cntB_eq]
  exact ⟨by omega, fun p hp => by have := sumR_mem hp; omega⟩
/-- A bag to be read in a variable of the call's own. -/
def Outbag (W : World) (zs : List It) (r : Bool) (p v : Value) (w' : World) : Prop :=
  ∃ g A c, p = .pointer (some ⟨g, 0, none⟩) ∧ v = .bool r ∧ w'.heap[g]? = some (.cells #[.slice A zs.length c] 29 (0, 0)) ∧ RdB w' A zs ∧ W.heap.size ≤ g ∧ Below W.heap.size W w'
theorem Outbag.new {W w' : World} {zs : List It} {r : Bool} {A : Option Addr} {c : Nat} (hT : Below W.heap.size W w') (ho : RdB w' A zs) : Outbag W zs r (.pointer (some ⟨w'.heap.size, 0, none⟩)) (.bool r) (w'.alloc (.cells #[.slice A zs.length c] 29)) :=
  ⟨_, A, c, rfl, rfl, heap_alloc_new _ _, ho.alloc _, hT.size, below_step hT (below_alloc _ _)⟩
theorem Outbag.set {W w' : World} {zs : List It} {r : Bool} {A : Option Addr} {c g : Nat} (hT : Below W.heap.size W w') (ho : RdB w' A zs) (q : w'.heap[g]? = some (.cells #[.slice none 0 0] 29 (0, 0))) (hg : W.heap.size ≤ g) : Outbag W zs r (.pointer (some ⟨g, 0, none⟩)) (.bool r) (w'.setCell ⟨g, 0, none⟩ (.slice A zs.length c)) :=
  ⟨g, A, c, rfl, rfl, blk_set1 q, ho.set1 q _, hg, hT.setCell hg _⟩

set_option maxRecDepth 100000 in
set_option maxHeartbeats 6400000 in
theorem FnExactBagJoin_walk (w : World) (v0 : Value) (ps : List It) (h0 : BgK w v0 ps) (v1 : Value) (qs : List It) (h1 : BgK w v1 qs) :
    Calls Try.prog 8 #[v0, v1] w fun e w' => e = .returned (.bool true) ∧ Below w.heap.size w w' := by
  obtain ⟨A, c, rfl, hx, hlc, hcm, hok⟩ := h0
  obtain ⟨E, m, rfl, hy, hmd, hdm, hok2⟩ := h1
  have HX0 := Lib.hid hx
  have HX1 := Lib.hid hy
  have hk0 : ∀ p ∈ ps, p.r.length ≤ 9223372036854775807 := fun p hp => by have := (hok p hp).2.1; unfold maxLen at this; omega
  have hk1 : ∀ p ∈ qs, p.r.length ≤ 9223372036854775807 := fun p hp => by have := (hok2 p hp).2.1; unfold maxLen at this; omega
  clear hok hok2
  unfold maxLen at hcm hdm
  have ka := below_alloc w (.cells #[.slice A ps.length c] 24)
  have kb := below_alloc (w.alloc (.cells #[.slice A ps.length c] 24)) (.cells #[.slice E qs.length m] 24)
  have hB0 := below_step ka kb
  have p0 := blk_below kb (heap_alloc_new w (.cells #[.slice A ps.length c] 24))
  have p1 := heap_alloc_new (w.alloc (.cells #[.slice A ps.length c] 24)) (.cells #[.slice E qs.length m] 24)
  rw [show (w.alloc (.cells #[.slice A ps.length c] 24)).heap.size = w.heap.size + 1 by simp] at p1
  obtain ⟨W0, hW0⟩ : ∃ W, (w.alloc (.cells #[.slice A ps.length c] 24)).alloc (.cells #[.slice E qs.length m] 24) = W := ⟨_, rfl⟩
  rw [hW0] at hB0 p0 p1
  clear ka kb
  have S0 := Lib.hid (szBag_any A c ps 1048576 W0 (hx.keep hB0) (by omega) (by omega) hk0)
  clear hx
  have a0 := blk_cell (o := 0) p0 rfl
  by_cases hb1 : (ps.length : Int) + sumR ps ≤ 1048576
  · rw [szB_yes hb1] at S0
    have hq : decide ((1048576 : Int) - (ps.length : Int) - (sumR ps : Int) < 0) = false := decide_eq_false (by omega)
    have S1 := Lib.hid (fun (w1 : World) (h : RdB w1 E qs) => szBag_any E m qs (1048576 - (ps.length : Int) - (sumR ps : Int)) w1 h (by omega) (by omega) hk1)
    clear hk1 hy hk0
    go_enter Try.func8, Try.ntmps8
    go_wp2_with fail
    clear hW0
    refine S0.out.mono ?_
    rintro e w0 ⟨rfl, k⟩
    have hB1 := below_step hB0 k
    replace p0 := blk_below k p0
    replace p1 := blk_below k p1
    clear k hB0 S0 a0
    have a1 := blk_cell (o := 0) p1 rfl
    by_cases hb2 : (qs.length : Int) + sumR qs ≤ 1048576 - (ps.length : Int) - (sumR ps : Int)
    · rw [szB_yes hb2] at S1
      have hq2 : decide ((1048576 : Int) - (ps.length : Int) - (sumR ps : Int) - (qs.length : Int) - (sumR qs : Int) < 0) = false := decide_eq_false (by omega)
      have hn : ps.length ≤ 4294967296 := by omega
      have hn1 : qs.length ≤ 4294967296 := by omega
      have HK : Hid (∀ p ∈ ps, p.r.length ≤ 4294967296) := Lib.hid (fun p hp => by have := sumR_mem hp; omega)
      have HL : Hid (∀ p ∈ qs, p.r.length ≤ 4294967296) := Lib.hid (fun p hp => by have := sumR_mem hp; omega)
      have hcn0 : cntB ps + cntB qs ≤ 1048576 := by rw [cntB_eq, cntB_eq]; omega
      have hcn1 := joinR_small ps qs
      have C1 := Lib.hid (fun (w : World) (A0 : Option Addr) (c0 : Nat) (h0 : RdB w A0 ps) (A1 : Option Addr) (c1 : Nat) (h1 : RdB w A1 qs) => spec_BagJoin_any A0 A1 c0 c1 ps qs w h0 h1 hn hn1 HK.out HL.out)
      have C2 := Lib.hid (fun (w : World) (A0 : Option Addr) (c0 : Nat) (h0 : RdB w A0 ps) (A1 : Option Addr) (c1 : Nat) (h1 : RdB w A1 qs) => impl_BagJoin_any A0 A1 c0 c1 ps qs w h0 h1 hn hn1 HK.out HL.out)
      unfold MadeR2 at C1
      unfold MadeB2 at C2
      obtain ⟨zs, hzs⟩ : ∃ zs, joinR ps qs = zs := ⟨_, rfl⟩
      obtain ⟨r, hr⟩ : ∃ r, PP (JoinOk ps qs) = r := ⟨_, rfl⟩
      rw [hzs, hr] at C1 C2
      rw [hzs] at hcn1
      have hrr : (r != r) = false := by simp
      have hzl := (cntB_len zs).1
      have HZK : Hid (∀ p ∈ zs, p.r.length ≤ 4294967296) := Lib.hid (fun p hp => by have := (cntB_len zs).2 p hp; omega)
      obtain ⟨cn, hcn⟩ : ∃ n : Nat, cntB ps = n := ⟨_, rfl⟩
      obtain ⟨en, hen⟩ : ∃ n : Nat, cntB qs = n := ⟨_, rfl⟩
      obtain ⟨dn, hdn⟩ : ∃ n : Nat, cntB zs = n := ⟨_, rfl⟩
      rw [hcn, hen] at hcn0 hcn1
      rw [hdn] at hcn1 hzl
      have TO0 := Lib.hid (fun (w : World) (hx : RdB w A ps) => toBag_any A c ps w hx hn HK.out)
      have TO1 := Lib.hid (fun (w : World) (hx : RdB w E qs) => toBag_any E m qs w hx hn1 HL.out)
      unfold MadeBag at TO0 TO1
      have EQ0 := Lib.hid (fun (A B : Option Addr) (c d : Nat) (w : World) (hx : RdB w A ps) (hy : RdB w B ps) => PP_yes (p := ps = ps) rfl ▸ eqBag_any A B c d ps ps w hx hy hn HK.out)
      have EQ1 := Lib.hid (fun (A B : Option Addr) (c d : Nat) (w : World) (hx : RdB w A qs) (hy : RdB w B qs) => PP_yes (p := qs = qs) rfl ▸ eqBag_any A B c d qs qs w hx hy hn1 HL.out)
      have EQ := Lib.hid (fun (A B : Option Addr) (c d : Nat) (w : World) (hx : RdB w A zs) (hy : RdB w B zs) => PP_yes (p := zs = zs) rfl ▸ eqBag_any A B c d zs zs w hx hy (by omega) HZK.out)
      have MB0 := Lib.hid (fun (lo hi : Nat) (A : Option Addr) (c : Nat) (w : World) (ho : OwnBI w lo hi A c ps) => markBag_any lo hi A c ps 1 w ho (by omega))
      have MB1 := Lib.hid (fun (lo hi : Nat) (A : Option Addr) (c : Nat) (w : World) (ho : OwnBI w lo hi A c qs) => markBag_any lo hi A c qs (1 + (cn : Int)) w ho (by omega))
      have MB := Lib.hid (fun (lo hi : Nat) (A : Option Addr) (c : Nat) (w : World) (ho : OwnBI w lo hi A c zs) => markBag_any lo hi A c zs 1 w ho (by omega))
      have HB := Lib.hid (fun (A : Option Addr) (c : Nat) (w : World) (hx : RdB w A (markB 1 zs)) => heldBag_any A c zs 1 w hx (by omega))
      unfold MarkedB at MB MB0 MB1
      rw [hdn] at MB HB
      rw [hcn] at MB0
      rw [hen] at MB1
      have hneg : decide ((1 : Int) + (cn : Int) + (en : Int) < 0) = false := decide_eq_false (by omega)
      have hneg2 : decide ((1 : Int) + (dn : Int) < 0) = false := decide_eq_false (by omega)
      have hsame : ((1 : Int) + (dn : Int) != 1 + (dn : Int)) = false := by simp
      clear hb1 hb2 hcn hen hdn hzs hr hzl
      go_wp2_with fail
      refine (S1.out _ (HX1.out.keep hB1)).mono ?_
      rintro e w1 ⟨rfl, k⟩
      have hB := below_step hB1 k
      replace p0 := blk_below k p0
      replace p1 := blk_below k p1
      have hz_p0 := blk_lt p0
      have hz_p1 := blk_lt p1
      clear k hB1 S1 a1 hq
      have MK := Lib.hid (fun (w' : World) (hk : Below w1.heap.size w1 w') => (⟨blk_cell (o := 0) (blk_below hk p0) rfl, blk_cell (o := 0) (blk_below hk p1) rfl⟩ : w'.cell? ⟨w.heap.size, 0, none⟩ = some (.slice A ps.length c) ∧ w'.cell? ⟨w.heap.size + 1, 0, none⟩ = some (.slice E qs.length m)))
      have HBc := Lib.hid hB
      have c_p0 := blk_cell (o := 0) p0 rfl
      have c_p1 := blk_cell (o := 0) p1 rfl
      have Z0 : Hid (Below w1.heap.size w1 w1.drew) := Lib.hid (Below.refl _ _).drew
      go_upto_region 8 with fail
      go_cut [6, 7] (fun sa sb wx => Outbag w1 zs r sa sb wx)
      case first =>
        clear c_p0 c_p1
        refine wp_region_held_drew (S := fun w' => w'.cell? ⟨w.heap.size, 0, none⟩ = some (.slice A ps.length c) ∧ w'.cell? ⟨w.heap.size + 1, 0, none⟩ = some (.slice E qs.length m)) (by kernel_rfl) (MK.out _ Z0.out) (fun hHeld => ?_)
        refine wpAnyH_take (i := 0) (v := ?_) rfl (by kernel_rfl) (by kernel_rfl) (by kernel_rfl) (fun _ _ _ h => h) (Or.inl ⟨by rfl, ?_⟩) hHeld ?_
        rotate_left
        · intro w hSw
          (try dsimp only at hSw)
          go_simp
          try with_reducible rfl
        try simp only [List.getElem_toArray, List.getElem_cons_zero, Act.put, List.setIfInBounds_toArray, List.set_cons_zero, List.set_cons_succ]
        refine wpAnyH_take (i := 2) (v := ?_) rfl (by kernel_rfl) (by kernel_rfl) (by kernel_rfl) (fun _ _ _ h => h) (Or.inl ⟨by rfl, ?_⟩) hHeld ?_
        rotate_left
        · intro w hSw
          (try dsimp only at hSw)
          go_simp
          try with_reducible rfl
        try simp only [List.getElem_toArray, List.getElem_cons_zero, List.getElem_cons_succ, Act.put, List.setIfInBounds_toArray, List.set_cons_zero, List.set_cons_succ]
        refine wpAnyH_ready (rs := [1, 8]) (by kernel_rfl) (by simp) ?_
        refine AllReadyH.cons rfl (fun K hK => ?_) ?_
        · skip
          go_simp
          go_at_call 14
          refine (TO0.out _ (HX0.out.keep (below_step HBc.out Z0.out))).mono ?_
          rintro e v1 ⟨X0, x0, rfl, r0, hk⟩
          replace r0 := r0.rd
          have Z1 := Lib.hid (below_step Z0.out hk)
          clear hk
          go_simp
          refine hK.out _ _ (MK.out _ Z1.out) (fun hHeld => ?_)
          clear hK K
          try simp only [List.getElem_toArray, List.getElem_cons_zero, List.getElem_cons_succ, Act.put, List.setIfInBounds_toArray, List.set_cons_zero, List.set_cons_succ]
          refine wpAnyH_ready (rs := [3, 8]) (by kernel_rfl) (by simp) ?_
          refine AllReadyH.cons rfl (fun K hK => ?_) ?_
          · skip
            go_simp
            go_at_call 14
            refine (TO1.out _ (HX1.out.keep (below_step HBc.out Z1.out))).mono ?_
            rintro e v2 ⟨X1, x1, rfl, r1, hk⟩
            replace r0 := r0.keep hk
            replace r1 := r1.rd
            have Z2 := Lib.hid (below_step Z1.out hk)
            clear hk
            go_simp
            refine hK.out _ _ (MK.out _ Z2.out) (fun hHeld => ?_)
            clear hK K
            try simp only [List.getElem_toArray, List.getElem_cons_zero, List.getElem_cons_succ, Act.put, List.setIfInBounds_toArray, List.set_cons_zero, List.set_cons_succ]
            refine wpAnyH_ready (rs := [4, 8]) (by kernel_rfl) (by simp) ?_
            refine AllReadyH.cons rfl (fun K hK => ?_) ?_
            · skip
              go_simp
              go_at_call 30
              refine (C1.out _ X0 x0 r0 X1 x1 r1).mono ?_
              rintro e v3 ⟨B4, d4, rfl, oR, hk⟩
              clear r0 r1
              have Z3 := Lib.hid (below_step Z2.out hk)
              clear hk
              go_simp
              refine hK.out _ _ (MK.out _ Z3.out) (fun hHeld => ?_)
              clear hK K
              try simp only [List.getElem_toArray, List.getElem_cons_zero, List.getElem_cons_succ, Act.put, List.setIfInBounds_toArray, List.set_cons_zero, List.set_cons_succ]
              refine wpAnyH_take (i := 5) (v := ?_) rfl (by kernel_rfl) (by kernel_rfl) (by kernel_rfl) (fun _ _ _ h => h) (Or.inl ⟨by rfl, ?_⟩) hHeld ?_
              rotate_left
              · intro w hSw
                (try dsimp only at hSw)
                go_simp
                try with_reducible rfl
              try simp only [List.getElem_toArray, List.getElem_cons_zero, List.getElem_cons_succ, Act.put, List.setIfInBounds_toArray, List.set_cons_zero, List.set_cons_succ]
              refine wpAnyH_take (i := 6) (v := ?_) rfl (by kernel_rfl) (by kernel_rfl) (by kernel_rfl) (fun _ _ _ h => h) (Or.inl ⟨by rfl, ?_⟩) hHeld ?_
              rotate_left
              · intro w hSw
                (try dsimp only at hSw)
                go_simp
                try with_reducible rfl
              try simp only [List.getElem_toArray, List.getElem_cons_zero, List.getElem_cons_succ, Act.put, List.setIfInBounds_toArray, List.set_cons_zero, List.set_cons_succ]
              refine wpAnyH_take (i := 7) (v := ?_) rfl (by kernel_rfl) (by kernel_rfl) (by kernel_rfl) (fun _ _ _ h => h) (Or.inl ⟨by rfl, ?_⟩) hHeld ?_
              rotate_left
              · intro w hSw
                (try dsimp only at hSw)
                go_simp
                try with_reducible rfl
              try simp only [List.getElem_toArray, List.getElem_cons_zero, List.getElem_cons_succ, Act.put, List.setIfInBounds_toArray, List.set_cons_zero, List.set_cons_succ]
              refine wpAnyH_ready (rs := [8]) (by kernel_rfl) (by simp) ?_
              refine AllReadyH.cons rfl (fun K hK => ?_) ?_
              · skip
                go_simp
                have Z4 := Lib.hid (below_step Z3.out (below_alloc v3 (.cells #[.slice none 0 0] 29)))
                have qN := heap_alloc_new v3 (.cells #[.slice none 0 0] 29)
                have gN : w1.heap.size ≤ v3.heap.size := Z3.out.size
                have oR0 := oR
                replace oR := oR.keep (below_alloc v3 (.cells #[.slice none 0 0] 29))
                refine hK.out _ _ (MK.out _ Z4.out) (fun hHeld => ?_)
                clear hK K
                try simp only [List.getElem_toArray, List.getElem_cons_zero, List.getElem_cons_succ, Act.put, List.setIfInBounds_toArray, List.set_cons_zero, List.set_cons_succ]
                refine wpAnyH_ready (rs := [9]) (by kernel_rfl) (by simp) ?_
                refine AllReadyH.cons rfl (fun K hK => ?_) ?_
                · skip
                  go_simp
                  refine hK.out _ _ (MK.out _ (below_step Z3.out (below_alloc _ _))) (fun hHeld => ?_)
                  clear hK K
                  try simp only [List.getElem_toArray, List.getElem_cons_zero, List.getElem_cons_succ, Act.put, List.setIfInBounds_toArray, List.set_cons_zero, List.set_cons_succ]
                  refine wpAnyH_take (i := 10) (v := ?_) rfl (by kernel_rfl) (by kernel_rfl) (by kernel_rfl) (fun _ _ _ h => h) (Or.inl ⟨by rfl, ?_⟩) hHeld ?_
                  rotate_left
                  · intro w hSw
                    (try dsimp only at hSw)
                    go_simp
                    try with_reducible rfl
                  try simp only [List.getElem_toArray, List.getElem_cons_zero, List.getElem_cons_succ, Act.put, List.setIfInBounds_toArray, List.set_cons_zero, List.set_cons_succ]
                  refine wpAnyH_done (by kernel_rfl) ?_ _
                  go_wp2_with fail
                  go_meet
                  exact Outbag.new Z3.out oR0
                exact AllReadyH.nil
              exact AllReadyH.nil
            refine AllReadyH.cons rfl (fun K hK => ?_) ?_
            · skip
              go_simp
              have Z3 := Lib.hid (below_step Z2.out (below_alloc v2 (.cells #[.slice none 0 0] 29)))
              have qN := heap_alloc_new v2 (.cells #[.slice none 0 0] 29)
              have gN : w1.heap.size ≤ v2.heap.size := Z2.out.size
              replace r0 := r0.keep (below_alloc v2 (.cells #[.slice none 0 0] 29))
              replace r1 := r1.keep (below_alloc v2 (.cells #[.slice none 0 0] 29))
              refine hK.out _ _ (MK.out _ Z3.out) (fun hHeld => ?_)
              clear hK K
              try simp only [List.getElem_toArray, List.getElem_cons_zero, List.getElem_cons_succ, Act.put, List.setIfInBounds_toArray, List.set_cons_zero, List.set_cons_succ]
              refine wpAnyH_ready (rs := [4]) (by kernel_rfl) (by simp) ?_
              refine AllReadyH.cons rfl (fun K hK => ?_) ?_
              · skip
                go_simp
                go_at_call 30
                refine (C1.out _ X0 x0 r0 X1 x1 r1).mono ?_
                rintro e v4 ⟨B4, d4, rfl, oR, hk⟩
                clear r0 r1
                have Z4 := Lib.hid (below_step Z3.out hk)
                replace qN := blk_below hk qN
                clear hk
                go_simp
                refine hK.out _ _ (MK.out _ Z4.out) (fun hHeld => ?_)
                clear hK K
                try simp only [List.getElem_toArray, List.getElem_cons_zero, List.getElem_cons_succ, Act.put, List.setIfInBounds_toArray, List.set_cons_zero, List.set_cons_succ]
                refine wpAnyH_take (i := 5) (v := ?_) rfl (by kernel_rfl) (by kernel_rfl) (by kernel_rfl) (fun _ _ _ h => h) (Or.inl ⟨by rfl, ?_⟩) hHeld ?_
                rotate_left
                · intro w hSw
                  (try dsimp only at hSw)
                  go_simp
                  try with_reducible rfl
                try simp only [List.getElem_toArray, List.getElem_cons_zero, List.getElem_cons_succ, Act.put, List.setIfInBounds_toArray, List.set_cons_zero, List.set_cons_succ]
                refine wpAnyH_take (i := 6) (v := ?_) rfl (by kernel_rfl) (by kernel_rfl) (by kernel_rfl) (fun _ _ _ h => h) (Or.inl ⟨by rfl, ?_⟩) hHeld ?_
                rotate_left
                · intro w hSw
                  (try dsimp only at hSw)
                  go_simp
                  try with_reducible rfl
                try simp only [List.getElem_toArray, List.getElem_cons_zero, List.getElem_cons_succ, Act.put, List.setIfInBounds_toArray, List.set_cons_zero, List.set_cons_succ]
                refine wpAnyH_take (i := 7) (v := ?_) rfl (by kernel_rfl) (by kernel_rfl) (by kernel_rfl) (fun _ _ _ h => h) (Or.inl ⟨by rfl, ?_⟩) hHeld ?_
                rotate_left
                · intro w hSw
                  (try dsimp only at hSw)
                  go_simp
                  try with_reducible rfl
                try simp only [List.getElem_toArray, List.getElem_cons_zero, List.getElem_cons_succ, Act.put, List.setIfInBounds_toArray, List.set_cons_zero, List.set_cons_succ]
                refine wpAnyH_ready (rs := [9]) (by kernel_rfl) (by simp) ?_
                refine AllReadyH.cons rfl (fun K hK => ?_) ?_
                · skip
                  have e0 := blk_cell (o := 0) qN rfl
                  have f0 : v4.frozen? ⟨v2.heap.size, 0, none⟩ = false := frozen_of_row v4 _ 0 _ _ qN
                  have l0 := blk_lt qN
                  go_simp
                  refine hK.out _ _ (MK.out _ (show Below w1.heap.size w1 (v4.setCell ⟨v2.heap.size, 0, none⟩ (.slice B4 zs.length d4)) from Z4.out.setCell gN _)) (fun hHeld => ?_)
                  clear hK K
                  try simp only [List.getElem_toArray, List.getElem_cons_zero, List.getElem_cons_succ, Act.put, List.setIfInBounds_toArray, List.set_cons_zero, List.set_cons_succ]
                  refine wpAnyH_take (i := 10) (v := ?_) rfl (by kernel_rfl) (by kernel_rfl) (by kernel_rfl) (fun _ _ _ h => h) (Or.inl ⟨by rfl, ?_⟩) hHeld ?_
                  rotate_left
                  · intro w hSw
                    (try dsimp only at hSw)
                    go_simp
                    try with_reducible rfl
                  try simp only [List.getElem_toArray, List.getElem_cons_zero, List.getElem_cons_succ, Act.put, List.setIfInBounds_toArray, List.set_cons_zero, List.set_cons_succ]
                  refine wpAnyH_done (by kernel_rfl) ?_ _
                  go_wp2_with fail
                  go_meet
                  exact Outbag.set Z4.out oR qN gN
                exact AllReadyH.nil
              exact AllReadyH.nil
            exact AllReadyH.nil
          refine AllReadyH.cons rfl (fun K hK => ?_) ?_
          · skip
            go_simp
            have Z2 := Lib.hid (below_step Z1.out (below_alloc v1 (.cells #[.slice none 0 0] 29)))
            have qN := heap_alloc_new v1 (.cells #[.slice none 0 0] 29)
            have gN : w1.heap.size ≤ v1.heap.size := Z1.out.size
            replace r0 := r0.keep (below_alloc v1 (.cells #[.slice none 0 0] 29))
            refine hK.out _ _ (MK.out _ Z2.out) (fun hHeld => ?_)
            clear hK K
            try simp only [List.getElem_toArray, List.getElem_cons_zero, List.getElem_cons_succ, Act.put, List.setIfInBounds_toArray, List.set_cons_zero, List.set_cons_succ]
            refine wpAnyH_ready (rs := [3]) (by kernel_rfl) (by simp) ?_
            refine AllReadyH.cons rfl (fun K hK => ?_) ?_
            · skip
              go_simp
              go_at_call 14
              refine (TO1.out _ (HX1.out.keep (below_step HBc.out Z2.out))).mono ?_
              rintro e v3 ⟨X1, x1, rfl, r1, hk⟩
              replace r0 := r0.keep hk
              replace r1 := r1.rd
              have Z3 := Lib.hid (below_step Z2.out hk)
              replace qN := blk_below hk qN
              clear hk
              go_simp
              refine hK.out _ _ (MK.out _ Z3.out) (fun hHeld => ?_)
              clear hK K
              try simp only [List.getElem_toArray, List.getElem_cons_zero, List.getElem_cons_succ, Act.put, List.setIfInBounds_toArray, List.set_cons_zero, List.set_cons_succ]
              refine wpAnyH_ready (rs := [4]) (by kernel_rfl) (by simp) ?_
              refine AllReadyH.cons rfl (fun K hK => ?_) ?_
              · skip
                go_simp
                go_at_call 30
                refine (C1.out _ X0 x0 r0 X1 x1 r1).mono ?_
                rintro e v4 ⟨B4, d4, rfl, oR, hk⟩
                clear r0 r1
                have Z4 := Lib.hid (below_step Z3.out hk)
                replace qN := blk_below hk qN
                clear hk
                go_simp
                refine hK.out _ _ (MK.out _ Z4.out) (fun hHeld => ?_)
                clear hK K
                try simp only [List.getElem_toArray, List.getElem_cons_zero, List.getElem_cons_succ, Act.put, List.setIfInBounds_toArray, List.set_cons_zero, List.set_cons_succ]
                refine wpAnyH_take (i := 5) (v := ?_) rfl (by kernel_rfl) (by kernel_rfl) (by kernel_rfl) (fun _ _ _ h => h) (Or.inl ⟨by rfl, ?_⟩) hHeld ?_
                rotate_left
                · intro w hSw
                  (try dsimp only at hSw)
                  go_simp
                  try with_reducible rfl
                try simp only [List.getElem_toArray, List.getElem_cons_zero, List.getElem_cons_succ, Act.put, List.setIfInBounds_toArray, List.set_cons_zero, List.set_cons_succ]
                refine wpAnyH_take (i := 6) (v := ?_) rfl (by kernel_rfl) (by kernel_rfl) (by kernel_rfl) (fun _ _ _ h => h) (Or.inl ⟨by rfl, ?_⟩) hHeld ?_
                rotate_left
                · intro w hSw
                  (try dsimp only at hSw)
                  go_simp
                  try with_reducible rfl
                try simp only [List.getElem_toArray, List.getElem_cons_zero, List.getElem_cons_succ, Act.put, List.setIfInBounds_toArray, List.set_cons_zero, List.set_cons_succ]
                refine wpAnyH_take (i := 7) (v := ?_) rfl (by kernel_rfl) (by kernel_rfl) (by kernel_rfl) (fun _ _ _ h => h) (Or.inl ⟨by rfl, ?_⟩) hHeld ?_
                rotate_left
                · intro w hSw
                  (try dsimp only at hSw)
                  go_simp
                  try with_reducible rfl
                try simp only [List.getElem_toArray, List.getElem_cons_zero, List.getElem_cons_succ, Act.put, List.setIfInBounds_toArray, List.set_cons_zero, List.set_cons_succ]
                refine wpAnyH_ready (rs := [9]) (by kernel_rfl) (by simp) ?_
                refine AllReadyH.cons rfl (fun K hK => ?_) ?_
                · skip
                  have e0 := blk_cell (o := 0) qN rfl
                  have f0 : v4.frozen? ⟨v1.heap.size, 0, none⟩ = false := frozen_of_row v4 _ 0 _ _ qN
                  have l0 := blk_lt qN
                  go_simp
                  refine hK.out _ _ (MK.out _ (show Below w1.heap.size w1 (v4.setCell ⟨v1.heap.size, 0, none⟩ (.slice B4 zs.length d4)) from Z4.out.setCell gN _)) (fun hHeld => ?_)
                  clear hK K
                  try simp only [List.getElem_toArray, List.getElem_cons_zero, List.getElem_cons_succ, Act.put, List.setIfInBounds_toArray, List.set_cons_zero, List.set_cons_succ]
                  refine wpAnyH_take (i := 10) (v := ?_) rfl (by kernel_rfl) (by kernel_rfl) (by kernel_rfl) (fun _ _ _ h => h) (Or.inl ⟨by rfl, ?_⟩) hHeld ?_
                  rotate_left
                  · intro w hSw
                    (try dsimp only at hSw)
                    go_simp
                    try with_reducible rfl
                  try simp only [List.getElem_toArray, List.getElem_cons_zero, List.getElem_cons_succ, Act.put, List.setIfInBounds_toArray, List.set_cons_zero, List.set_cons_succ]
                  refine wpAnyH_done (by kernel_rfl) ?_ _
                  go_wp2_with fail
                  go_meet
                  exact Outbag.set Z4.out oR qN gN
                exact AllReadyH.nil
              exact AllReadyH.nil
            exact AllReadyH.nil
          exact AllReadyH.nil
        refine AllReadyH.cons rfl (fun K hK => ?_) ?_
        · skip
          go_simp
          have Z1 := Lib.hid (below_step Z0.out (below_alloc w1.drew (.cells #[.slice none 0 0] 29)))
          have qN := heap_alloc_new w1.drew (.cells #[.slice none 0 0] 29)
          have gN : w1.heap.size ≤ w1.heap.size := Z0.out.size
          replace qN : (w1.drew.alloc (.cells #[.slice none 0 0] 29)).heap[w1.heap.size]? = some (.cells #[.slice none 0 0] 29 (0, 0)) := qN
          refine hK.out _ _ (MK.out _ Z1.out) (fun hHeld => ?_)
          clear hK K
          try simp only [List.getElem_toArray, List.getElem_cons_zero, List.getElem_cons_succ, Act.put, List.setIfInBounds_toArray, List.set_cons_zero, List.set_cons_succ]
          refine wpAnyH_ready (rs := [1]) (by kernel_rfl) (by simp) ?_
          refine AllReadyH.cons rfl (fun K hK => ?_) ?_
          · skip
            go_simp
            go_at_call 14
            refine (TO0.out _ (HX0.out.keep (below_step HBc.out Z1.out))).mono ?_
            rintro e v2 ⟨X0, x0, rfl, r0, hk⟩
            replace r0 := r0.rd
            have Z2 := Lib.hid (below_step Z1.out hk)
            replace qN := blk_below hk qN
            clear hk
            go_simp
            refine hK.out _ _ (MK.out _ Z2.out) (fun hHeld => ?_)
            clear hK K
            try simp only [List.getElem_toArray, List.getElem_cons_zero, List.getElem_cons_succ, Act.put, List.setIfInBounds_toArray, List.set_cons_zero, List.set_cons_succ]
            refine wpAnyH_ready (rs := [3]) (by kernel_rfl) (by simp) ?_
            refine AllReadyH.cons rfl (fun K hK => ?_) ?_
            · skip
              go_simp
              go_at_call 14
              refine (TO1.out _ (HX1.out.keep (below_step HBc.out Z2.out))).mono ?_
              rintro e v3 ⟨X1, x1, rfl, r1, hk⟩
              replace r0 := r0.keep hk
              replace r1 := r1.rd
              have Z3 := Lib.hid (below_step Z2.out hk)
              replace qN := blk_below hk qN
              clear hk
              go_simp
              refine hK.out _ _ (MK.out _ Z3.out) (fun hHeld => ?_)
              clear hK K
              try simp only [List.getElem_toArray, List.getElem_cons_zero, List.getElem_cons_succ, Act.put, List.setIfInBounds_toArray, List.set_cons_zero, List.set_cons_succ]
              refine wpAnyH_ready (rs := [4]) (by kernel_rfl) (by simp) ?_
              refine AllReadyH.cons rfl (fun K hK => ?_) ?_
              · skip
                go_simp
                go_at_call 30
                refine (C1.out _ X0 x0 r0 X1 x1 r1).mono ?_
                rintro e v4 ⟨B4, d4, rfl, oR, hk⟩
                clear r0 r1
                have Z4 := Lib.hid (below_step Z3.out hk)
                replace qN := blk_below hk qN
                clear hk
                go_simp
                refine hK.out _ _ (MK.out _ Z4.out) (fun hHeld => ?_)
                clear hK K
                try simp only [List.getElem_toArray, List.getElem_cons_zero, List.getElem_cons_succ, Act.put, List.setIfInBounds_toArray, List.set_cons_zero, List.set_cons_succ]
                refine wpAnyH_take (i := 5) (v := ?_) rfl (by kernel_rfl) (by kernel_rfl) (by kernel_rfl) (fun _ _ _ h => h) (Or.inl ⟨by rfl, ?_⟩) hHeld ?_
                rotate_left
                · intro w hSw
                  (try dsimp only at hSw)
                  go_simp
                  try with_reducible rfl
                try simp only [List.getElem_toArray, List.getElem_cons_zero, List.getElem_cons_succ, Act.put, List.setIfInBounds_toArray, List.set_cons_zero, List.set_cons_succ]
                refine wpAnyH_take (i := 6) (v := ?_) rfl (by kernel_rfl) (by kernel_rfl) (by kernel_rfl) (fun _ _ _ h => h) (Or.inl ⟨by rfl, ?_⟩) hHeld ?_
                rotate_left
                · intro w hSw
                  (try dsimp only at hSw)
                  go_simp
                  try with_reducible rfl
                try simp only [List.getElem_toArray, List.getElem_cons_zero, List.getElem_cons_succ, Act.put, List.setIfInBounds_toArray, List.set_cons_zero, List.set_cons_succ]
                refine wpAnyH_take (i := 7) (v := ?_) rfl (by kernel_rfl) (by kernel_rfl) (by kernel_rfl) (fun _ _ _ h => h) (Or.inl ⟨by rfl, ?_⟩) hHeld ?_
                rotate_left
                · intro w hSw
                  (try dsimp only at hSw)
                  go_simp
                  try with_reducible rfl
                try simp only [List.getElem_toArray, List.getElem_cons_zero, List.getElem_cons_succ, Act.put, List.setIfInBounds_toArray, List.set_cons_zero, List.set_cons_succ]
                refine wpAnyH_ready (rs := [9]) (by kernel_rfl) (by simp) ?_
                refine AllReadyH.cons rfl (fun K hK => ?_) ?_
                · skip
                  have e0 := blk_cell (o := 0) qN rfl
                  have f0 : v4.frozen? ⟨w1.heap.size, 0, none⟩ = false := frozen_of_row v4 _ 0 _ _ qN
                  have l0 := blk_lt qN
                  go_simp
                  refine hK.out _ _ (MK.out _ (show Below w1.heap.size w1 (v4.setCell ⟨w1.heap.size, 0, none⟩ (.slice B4 zs.length d4)) from Z4.out.setCell gN _)) (fun hHeld => ?_)
                  clear hK K
                  try simp only [List.getElem_toArray, List.getElem_cons_zero, List.getElem_cons_succ, Act.put, List.setIfInBounds_toArray, List.set_cons_zero, List.set_cons_succ]
                  refine wpAnyH_take (i := 10) (v := ?_) rfl (by kernel_rfl) (by kernel_rfl) (by kernel_rfl) (fun _ _ _ h => h) (Or.inl ⟨by rfl, ?_⟩) hHeld ?_
                  rotate_left
                  · intro w hSw
                    (try dsimp only at hSw)
                    go_simp
                    try with_reducible rfl
                  try simp only [List.getElem_toArray, List.getElem_cons_zero, List.getElem_cons_succ, Act.put, List.setIfInBounds_toArray, List.set_cons_zero, List.set_cons_succ]
                  refine wpAnyH_done (by kernel_rfl) ?_ _
                  go_wp2_with fail
                  go_meet
                  exact Outbag.set Z4.out oR qN gN
                exact AllReadyH.nil
              exact AllReadyH.nil
            exact AllReadyH.nil
          exact AllReadyH.nil
        exact AllReadyH.nil
      case rest =>
        obtain ⟨g8, B0, d0, rfl, rfl, qB, oB, hgl_qB, hTT⟩ := hcut
        obtain ⟨w2, hww⟩ : ∃ w, wc = w := ⟨_, rfl⟩
        rw [hww] at qB oB hTT ⊢
        clear hww MK HBc Z0 c_p0 c_p1
        replace p0 := blk_below hTT p0
        replace p1 := blk_below hTT p1
        replace hB := below_step hB hTT
        have z2 := hTT.size
        clear hTT
        have hz_qB := blk_lt qB
        have c_p0 := blk_cell (o := 0) p0 rfl
        have c_p1 := blk_cell (o := 0) p1 rfl
        have c_qB := blk_cell (o := 0) qB rfl
        go_wp2_with fail
        have RB := Lib.hid oB
        clear oB
        have T : Below w2.heap.size w2 w2 := Below.refl _ _
        refine (TO0.out _ (HX0.out.keep hB)).mono ?_
        rintro e w3 ⟨X0, x0, rfl, o0, k⟩
        clear c_p0 c_p1 c_qB
        have o0 := OwnBI.of o0
        replace p0 := blk_below k p0
        replace p1 := blk_below k p1
        replace qB := blk_below k qB
        replace hB := below_step hB k
        replace T := below_step T k
        have z3 := k.size
        clear k
        have ka := below_alloc w3 (.cells #[.slice X0 ps.length x0] 29)
        have q0 := heap_alloc_new w3 (.cells #[.slice X0 ps.length x0] 29)
        have zz : w3.heap.size < (w3.alloc (.cells #[.slice X0 ps.length x0] 29)).heap.size := by simp
        replace p0 := blk_below ka p0
        replace p1 := blk_below ka p1
        replace qB := blk_below ka qB
        replace o0 := o0.keep ka
        replace hB := below_step hB ka
        replace T := below_step T ka
        have z3 := ka.size
        obtain ⟨g3, hg3⟩ : ∃ g, w3.heap.size = g := ⟨_, rfl⟩
        obtain ⟨W3, hW3⟩ : ∃ W, w3.alloc (.cells #[.slice X0 ps.length x0] 29) = W := ⟨_, rfl⟩
        have Hg3 := Lib.hid hg3
        rw [hW3] at p0 p1 qB o0 hB zz q0 T
        rw [hg3] at zz q0
        try rw [hg3] at o0
        have hz_q0 := zz
        clear ka zz z3
        have c_p0 := blk_cell (o := 0) p0 rfl
        have c_p1 := blk_cell (o := 0) p1 rfl
        have c_qB := blk_cell (o := 0) qB rfl
        have c_q0 := blk_cell (o := 0) q0 rfl
        go_wp2_with fail
        clear hW3 hg3
        refine (TO1.out _ (HX1.out.keep hB)).mono ?_
        rintro e w4 ⟨X1, x1, rfl, o1, k⟩
        clear c_p0 c_p1 c_qB c_q0
        have o1 := OwnBI.of o1
        replace p0 := blk_below k p0
        replace p1 := blk_below k p1
        replace qB := blk_below k qB
        replace q0 := blk_below k q0
        replace o0 := o0.keep k
        replace hB := below_step hB k
        replace T := below_step T k
        have z4 := k.size
        clear k
        have ka := below_alloc w4 (.cells #[.slice X1 qs.length x1] 29)
        have q1 := heap_alloc_new w4 (.cells #[.slice X1 qs.length x1] 29)
        have zz : w4.heap.size < (w4.alloc (.cells #[.slice X1 qs.length x1] 29)).heap.size := by simp
        replace p0 := blk_below ka p0
        replace p1 := blk_below ka p1
        replace qB := blk_below ka qB
        replace q0 := blk_below ka q0
        replace o0 := o0.keep ka
        replace o1 := o1.keep ka
        replace hB := below_step hB ka
        replace T := below_step T ka
        have z4 := ka.size
        obtain ⟨g4, hg4⟩ : ∃ g, w4.heap.size = g := ⟨_, rfl⟩
        obtain ⟨W4, hW4⟩ : ∃ W, w4.alloc (.cells #[.slice X1 qs.length x1] 29) = W := ⟨_, rfl⟩
        have Hg4 := Lib.hid hg4
        rw [hW4] at p0 p1 qB q0 o0 o1 hB zz q1 T
        rw [hg4] at zz q1
        try rw [hg4] at o0
        try rw [hg4] at o1
        have hz_q1 := zz
        clear ka zz z4
        have c_p0 := blk_cell (o := 0) p0 rfl
        have c_p1 := blk_cell (o := 0) p1 rfl
        have c_qB := blk_cell (o := 0) qB rfl
        have c_q0 := blk_cell (o := 0) q0 rfl
        have c_q1 := blk_cell (o := 0) q1 rfl
        go_wp2_with fail
        clear hW4 hg4
        refine (C2.out _ X0 x0 o0.p.rd X1 x1 o1.p.rd).mono ?_
        rintro e w5 ⟨B1, d1, rfl, oG, k⟩
        clear c_p0 c_p1 c_qB c_q0 c_q1
        have oG := OwnBI.of oG
        replace p0 := blk_below k p0
        replace p1 := blk_below k p1
        replace qB := blk_below k qB
        replace q0 := blk_below k q0
        replace q1 := blk_below k q1
        replace o0 := o0.keep k
        replace o1 := o1.keep k
        replace hB := below_step hB k
        replace T := below_step T k
        have z5 := k.size
        clear k
        have ka := below_alloc w5 (.cells #[.slice B1 zs.length d1] 29)
        have qG := heap_alloc_new w5 (.cells #[.slice B1 zs.length d1] 29)
        have zz : w5.heap.size < (w5.alloc (.cells #[.slice B1 zs.length d1] 29)).heap.size := by simp
        replace p0 := blk_below ka p0
        replace p1 := blk_below ka p1
        replace qB := blk_below ka qB
        replace q0 := blk_below ka q0
        replace q1 := blk_below ka q1
        replace o0 := o0.keep ka
        replace o1 := o1.keep ka
        replace oG := oG.keep ka
        replace hB := below_step hB ka
        replace T := below_step T ka
        have z5 := ka.size
        obtain ⟨g5, hg5⟩ : ∃ g, w5.heap.size = g := ⟨_, rfl⟩
        obtain ⟨W5, hW5⟩ : ∃ W, w5.alloc (.cells #[.slice B1 zs.length d1] 29) = W := ⟨_, rfl⟩
        have Hg5 := Lib.hid hg5
        rw [hW5] at p0 p1 qB q0 q1 o0 o1 oG hB zz qG T
        rw [hg5] at zz qG
        try rw [hg5] at o0
        try rw [hg5] at o1
        try rw [hg5] at oG
        have hz_qG := zz
        clear ka zz z5
        have c_p0 := blk_cell (o := 0) p0 rfl
        have c_p1 := blk_cell (o := 0) p1 rfl
        have c_qB := blk_cell (o := 0) qB rfl
        have c_q0 := blk_cell (o := 0) q0 rfl
        have c_q1 := blk_cell (o := 0) q1 rfl
        have c_qG := blk_cell (o := 0) qG rfl
        go_wp2_with fail
        clear hW5 hg5
        refine (EQ.out B1 B0 d1 d0 _ oG.p.rd (RB.out.keep T)).mono ?_
        rintro e w6 ⟨rfl, k⟩
        clear c_p0 c_p1 c_qB c_q0 c_q1 c_qG
        replace p0 := blk_below k p0
        replace p1 := blk_below k p1
        replace qB := blk_below k qB
        replace q0 := blk_below k q0
        replace q1 := blk_below k q1
        replace qG := blk_below k qG
        replace o0 := o0.keep k
        replace o1 := o1.keep k
        replace oG := oG.keep k
        replace hB := below_step hB k
        replace T := below_step T k
        have z6 := k.size
        clear k
        have MK := Lib.hid (fun (w' : World) (hk : Below w6.heap.size w6 w') => (⟨blk_cell (o := 0) (blk_below hk p0) rfl, blk_cell (o := 0) (blk_below hk q0) rfl, hk⟩ : w'.cell? ⟨w.heap.size, 0, none⟩ = some (.slice A ps.length c) ∧ w'.cell? ⟨g3, 0, none⟩ = some (.slice X0 ps.length x0) ∧ Below w6.heap.size w6 w'))
        have B0' : Below w6.heap.size w6 w6.drew := (Below.refl _ _).drew
        have RX := Lib.hid o0.p.rd
        have HBc := Lib.hid hB
        have EQX := Lib.hid (fun (A3 : Option Addr) (c3 : Nat) (w' : World) (hk : Below w6.heap.size w6 w') h => EQ0.out X0 A3 x0 c3 w' (RX.out.keep hk) h)
        have c_p0 := blk_cell (o := 0) p0 rfl
        have c_p1 := blk_cell (o := 0) p1 rfl
        have c_qB := blk_cell (o := 0) qB rfl
        have c_q0 := blk_cell (o := 0) q0 rfl
        have c_q1 := blk_cell (o := 0) q1 rfl
        have c_qG := blk_cell (o := 0) qG rfl
        go_wp2_with fail
        go_region_held3 (fun w' => w'.cell? ⟨w.heap.size, 0, none⟩ = some (.slice A ps.length c) ∧ w'.cell? ⟨g3, 0, none⟩ = some (.slice X0 ps.length x0) ∧ Below w6.heap.size w6 w')
          ((first
            | (exact MK.out _ B0')
            | assumption
            | (go_split_ands; exact MK.out _ (below_step (by assumption) hbk))))
          ((first
            | (go_at_call 14; go_split_ands; refine (TO0.out _ (HX0.out.keep (below_step HBc.out (by assumption)))).mono ?_; rintro e w' ⟨A3, c3, rfl, o3, hbk⟩; have r3 := o3.rd; clear o3)
            | (go_at_call 16; go_split_ands; refine (EQX.out _ _ _ (by assumption) r3).mono ?_; rintro e w' ⟨rfl, hbk⟩)))
        obtain ⟨w7, rfl⟩ : ∃ wq : World, wq = w' := ⟨_, rfl⟩
        go_split_ands
        have U : Below w6.heap.size w6 w7 := by assumption
        clear c_p0 c_p1 c_qB c_q0 c_q1 c_qG MK B0' RX HBc EQX
        replace p0 := blk_below U p0
        replace p1 := blk_below U p1
        replace qB := blk_below U qB
        replace q0 := blk_below U q0
        replace q1 := blk_below U q1
        replace qG := blk_below U qG
        replace o0 := o0.keep U
        replace o1 := o1.keep U
        replace oG := oG.keep U
        replace hB := below_step hB U
        replace T := below_step T U
        have z7 := U.size
        clear U
        have MK := Lib.hid (fun (w' : World) (hk : Below w7.heap.size w7 w') => (⟨blk_cell (o := 0) (blk_below hk p1) rfl, blk_cell (o := 0) (blk_below hk q1) rfl, hk⟩ : w'.cell? ⟨w.heap.size + 1, 0, none⟩ = some (.slice E qs.length m) ∧ w'.cell? ⟨g4, 0, none⟩ = some (.slice X1 qs.length x1) ∧ Below w7.heap.size w7 w'))
        have B0' : Below w7.heap.size w7 w7.drew := (Below.refl _ _).drew
        have RX := Lib.hid o1.p.rd
        have HBc := Lib.hid hB
        have EQX := Lib.hid (fun (A3 : Option Addr) (c3 : Nat) (w' : World) (hk : Below w7.heap.size w7 w') h => EQ1.out X1 A3 x1 c3 w' (RX.out.keep hk) h)
        have c_p0 := blk_cell (o := 0) p0 rfl
        have c_p1 := blk_cell (o := 0) p1 rfl
        have c_qB := blk_cell (o := 0) qB rfl
        have c_q0 := blk_cell (o := 0) q0 rfl
        have c_q1 := blk_cell (o := 0) q1 rfl
        have c_qG := blk_cell (o := 0) qG rfl
        go_wp2_with fail
        go_region_held3 (fun w' => w'.cell? ⟨w.heap.size + 1, 0, none⟩ = some (.slice E qs.length m) ∧ w'.cell? ⟨g4, 0, none⟩ = some (.slice X1 qs.length x1) ∧ Below w7.heap.size w7 w')
          ((first
            | (exact MK.out _ B0')
            | assumption
            | (go_split_ands; exact MK.out _ (below_step (by assumption) hbk))))
          ((first
            | (go_at_call 14; go_split_ands; refine (TO1.out _ (HX1.out.keep (below_step HBc.out (by assumption)))).mono ?_; rintro e w' ⟨A3, c3, rfl, o3, hbk⟩; have r3 := o3.rd; clear o3)
            | (go_at_call 16; go_split_ands; refine (EQX.out _ _ _ (by assumption) r3).mono ?_; rintro e w' ⟨rfl, hbk⟩)))
        obtain ⟨w8, rfl⟩ : ∃ wq : World, wq = w' := ⟨_, rfl⟩
        go_split_ands
        have U : Below w7.heap.size w7 w8 := by assumption
        clear c_p0 c_p1 c_qB c_q0 c_q1 c_qG MK B0' RX HBc EQX
        replace p0 := blk_below U p0
        replace p1 := blk_below U p1
        replace qB := blk_below U qB
        replace q0 := blk_below U q0
        replace q1 := blk_below U q1
        replace qG := blk_below U qG
        replace o0 := o0.keep U
        replace o1 := o1.keep U
        replace oG := oG.keep U
        replace hB := below_step hB U
        replace T := below_step T U
        have z8 := U.size
        clear U
        have c_p0 := blk_cell (o := 0) p0 rfl
        have c_p1 := blk_cell (o := 0) p1 rfl
        have c_qB := blk_cell (o := 0) qB rfl
        have c_q0 := blk_cell (o := 0) q0 rfl
        have c_q1 := blk_cell (o := 0) q1 rfl
        have c_qG := blk_cell (o := 0) qG rfl
        go_wp2_with fail
        refine (MB0.out _ _ X0 x0 _ o0).mono ?_
        rintro e w9 ⟨rfl, _, t⟩
        clear c_p0 c_p1 c_qB c_q0 c_q1 c_qG
        replace p0 := t.blk p0 (by have e0 := Hg3.out; have e1 := Hg4.out; have e2 := Hg5.out; omega)
        replace p1 := t.blk p1 (by have e0 := Hg3.out; have e1 := Hg4.out; have e2 := Hg5.out; omega)
        replace qB := t.blk qB (by have e0 := Hg3.out; have e1 := Hg4.out; have e2 := Hg5.out; omega)
        replace q0 := t.blk q0 (by have e0 := Hg3.out; have e1 := Hg4.out; have e2 := Hg5.out; omega)
        replace q1 := t.blk q1 (by have e0 := Hg3.out; have e1 := Hg4.out; have e2 := Hg5.out; omega)
        replace qG := t.blk qG (by have e0 := Hg3.out; have e1 := Hg4.out; have e2 := Hg5.out; omega)
        replace o1 := o1.touch t (by have e0 := Hg3.out; have e1 := Hg4.out; have e2 := Hg5.out; omega)
        replace oG := oG.touch t (by have e0 := Hg3.out; have e1 := Hg4.out; have e2 := Hg5.out; omega)
        replace hB := hB.trans ((t.below (by have e0 := Hg3.out; have e1 := Hg4.out; have e2 := Hg5.out; omega)).mono (by have e0 := Hg3.out; have e1 := Hg4.out; have e2 := Hg5.out; omega))
        replace T := T.trans ((t.below (by have e0 := Hg3.out; have e1 := Hg4.out; have e2 := Hg5.out; omega)).mono (by have e0 := Hg3.out; have e1 := Hg4.out; have e2 := Hg5.out; omega))
        have z9 := t.size
        clear t o0
        have c_p0 := blk_cell (o := 0) p0 rfl
        have c_p1 := blk_cell (o := 0) p1 rfl
        have c_qB := blk_cell (o := 0) qB rfl
        have c_q0 := blk_cell (o := 0) q0 rfl
        have c_q1 := blk_cell (o := 0) q1 rfl
        have c_qG := blk_cell (o := 0) qG rfl
        go_wp2_with fail
        refine (MB1.out _ _ X1 x1 _ o1).mono ?_
        rintro e w10 ⟨rfl, _, t⟩
        clear c_p0 c_p1 c_qB c_q0 c_q1 c_qG
        replace p0 := t.blk p0 (by have e0 := Hg3.out; have e1 := Hg4.out; have e2 := Hg5.out; omega)
        replace p1 := t.blk p1 (by have e0 := Hg3.out; have e1 := Hg4.out; have e2 := Hg5.out; omega)
        replace qB := t.blk qB (by have e0 := Hg3.out; have e1 := Hg4.out; have e2 := Hg5.out; omega)
        replace q0 := t.blk q0 (by have e0 := Hg3.out; have e1 := Hg4.out; have e2 := Hg5.out; omega)
        replace q1 := t.blk q1 (by have e0 := Hg3.out; have e1 := Hg4.out; have e2 := Hg5.out; omega)
        replace qG := t.blk qG (by have e0 := Hg3.out; have e1 := Hg4.out; have e2 := Hg5.out; omega)
        replace oG := oG.touch t (by have e0 := Hg3.out; have e1 := Hg4.out; have e2 := Hg5.out; omega)
        replace hB := hB.trans ((t.below (by have e0 := Hg3.out; have e1 := Hg4.out; have e2 := Hg5.out; omega)).mono (by have e0 := Hg3.out; have e1 := Hg4.out; have e2 := Hg5.out; omega))
        replace T := T.trans ((t.below (by have e0 := Hg3.out; have e1 := Hg4.out; have e2 := Hg5.out; omega)).mono (by have e0 := Hg3.out; have e1 := Hg4.out; have e2 := Hg5.out; omega))
        have z10 := t.size
        clear t o1
        have c_p0 := blk_cell (o := 0) p0 rfl
        have c_p1 := blk_cell (o := 0) p1 rfl
        have c_qB := blk_cell (o := 0) qB rfl
        have c_q0 := blk_cell (o := 0) q0 rfl
        have c_q1 := blk_cell (o := 0) q1 rfl
        have c_qG := blk_cell (o := 0) qG rfl
        go_wp2_with fail
        refine (EQ.out B1 B0 d1 d0 _ oG.p.rd (RB.out.keep T)).mono ?_
        rintro e w11 ⟨rfl, k⟩
        clear c_p0 c_p1 c_qB c_q0 c_q1 c_qG
        replace p0 := blk_below k p0
        replace p1 := blk_below k p1
        replace qB := blk_below k qB
        replace q0 := blk_below k q0
        replace q1 := blk_below k q1
        replace qG := blk_below k qG
        replace oG := oG.keep k
        replace hB := below_step hB k
        replace T := below_step T k
        have z11 := k.size
        clear k
        have c_p0 := blk_cell (o := 0) p0 rfl
        have c_p1 := blk_cell (o := 0) p1 rfl
        have c_qB := blk_cell (o := 0) qB rfl
        have c_q0 := blk_cell (o := 0) q0 rfl
        have c_q1 := blk_cell (o := 0) q1 rfl
        have c_qG := blk_cell (o := 0) qG rfl
        go_wp2_with fail
        refine (MB.out _ _ B1 d1 _ oG).mono ?_
        rintro e w12 ⟨rfl, oM, t⟩
        clear c_p0 c_p1 c_qB c_q0 c_q1 c_qG
        replace p0 := t.blk p0 (by have e0 := Hg3.out; have e1 := Hg4.out; have e2 := Hg5.out; omega)
        replace p1 := t.blk p1 (by have e0 := Hg3.out; have e1 := Hg4.out; have e2 := Hg5.out; omega)
        replace qB := t.blk qB (by have e0 := Hg3.out; have e1 := Hg4.out; have e2 := Hg5.out; omega)
        replace q0 := t.blk q0 (by have e0 := Hg3.out; have e1 := Hg4.out; have e2 := Hg5.out; omega)
        replace q1 := t.blk q1 (by have e0 := Hg3.out; have e1 := Hg4.out; have e2 := Hg5.out; omega)
        replace qG := t.blk qG (by have e0 := Hg3.out; have e1 := Hg4.out; have e2 := Hg5.out; omega)
        replace hB := hB.trans ((t.below (by have e0 := Hg3.out; have e1 := Hg4.out; have e2 := Hg5.out; omega)).mono (by have e0 := Hg3.out; have e1 := Hg4.out; have e2 := Hg5.out; omega))
        replace T := T.trans ((t.below (by have e0 := Hg3.out; have e1 := Hg4.out; have e2 := Hg5.out; omega)).mono (by have e0 := Hg3.out; have e1 := Hg4.out; have e2 := Hg5.out; omega))
        have z12 := t.size
        clear t oG
        have c_p0 := blk_cell (o := 0) p0 rfl
        have c_p1 := blk_cell (o := 0) p1 rfl
        have c_qB := blk_cell (o := 0) qB rfl
        have c_q0 := blk_cell (o := 0) q0 rfl
        have c_q1 := blk_cell (o := 0) q1 rfl
        have c_qG := blk_cell (o := 0) qG rfl
        go_wp2_with fail
        refine (HB.out B1 d1 _ oM.p.rd).mono ?_
        rintro e w13 ⟨rfl, k⟩
        clear c_p0 c_p1 c_qB c_q0 c_q1 c_qG
        replace p0 := blk_below k p0
        replace p1 := blk_below k p1
        replace qB := blk_below k qB
        replace q0 := blk_below k q0
        replace q1 := blk_below k q1
        replace qG := blk_below k qG
        replace oM := oM.keep k
        replace hB := below_step hB k
        replace T := below_step T k
        have z13 := k.size
        clear k
        have MK := Lib.hid (fun (w' : World) (hk : Below w13.heap.size w13 w') => (⟨blk_cell (o := 0) (blk_below hk p0) rfl, blk_cell (o := 0) (blk_below hk p1) rfl⟩ : w'.cell? ⟨w.heap.size, 0, none⟩ = some (.slice A ps.length c) ∧ w'.cell? ⟨w.heap.size + 1, 0, none⟩ = some (.slice E qs.length m)))
        have HBc := Lib.hid hB
        have c_p0 := blk_cell (o := 0) p0 rfl
        have c_p1 := blk_cell (o := 0) p1 rfl
        have c_qB := blk_cell (o := 0) qB rfl
        have c_q0 := blk_cell (o := 0) q0 rfl
        have c_q1 := blk_cell (o := 0) q1 rfl
        have c_qG := blk_cell (o := 0) qG rfl
        have Z0 : Hid (Below w13.heap.size w13 w13.drew) := Lib.hid (Below.refl _ _).drew
        go_upto_region 31 with fail
        go_cut [15, 16] (fun sa sb wx => Outbag w13 zs r sa sb wx)
        case first =>
          clear c_p0 c_p1 c_qB c_q0 c_q1 c_qG
          refine wp_region_held_drew (S := fun w' => w'.cell? ⟨w.heap.size, 0, none⟩ = some (.slice A ps.length c) ∧ w'.cell? ⟨w.heap.size + 1, 0, none⟩ = some (.slice E qs.length m)) (by kernel_rfl) (MK.out _ Z0.out) (fun hHeld => ?_)
          refine wpAnyH_take (i := 0) (v := ?_) rfl (by kernel_rfl) (by kernel_rfl) (by kernel_rfl) (fun _ _ _ h => h) (Or.inl ⟨by rfl, ?_⟩) hHeld ?_
          rotate_left
          · intro w hSw
            (try dsimp only at hSw)
            go_simp
            try with_reducible rfl
          try simp only [List.getElem_toArray, List.getElem_cons_zero, Act.put, List.setIfInBounds_toArray, List.set_cons_zero, List.set_cons_succ]
          refine wpAnyH_take (i := 2) (v := ?_) rfl (by kernel_rfl) (by kernel_rfl) (by kernel_rfl) (fun _ _ _ h => h) (Or.inl ⟨by rfl, ?_⟩) hHeld ?_
          rotate_left
          · intro w hSw
            (try dsimp only at hSw)
            go_simp
            try with_reducible rfl
          try simp only [List.getElem_toArray, List.getElem_cons_zero, List.getElem_cons_succ, Act.put, List.setIfInBounds_toArray, List.set_cons_zero, List.set_cons_succ]
          refine wpAnyH_ready (rs := [1, 8]) (by kernel_rfl) (by simp) ?_
          refine AllReadyH.cons rfl (fun K hK => ?_) ?_
          · skip
            go_simp
            go_at_call 14
            refine (TO0.out _ (HX0.out.keep (below_step HBc.out Z0.out))).mono ?_
            rintro e v1 ⟨X0, x0, rfl, r0, hk⟩
            replace r0 := r0.rd
            have Z1 := Lib.hid (below_step Z0.out hk)
            clear hk
            go_simp
            refine hK.out _ _ (MK.out _ Z1.out) (fun hHeld => ?_)
            clear hK K
            try simp only [List.getElem_toArray, List.getElem_cons_zero, List.getElem_cons_succ, Act.put, List.setIfInBounds_toArray, List.set_cons_zero, List.set_cons_succ]
            refine wpAnyH_ready (rs := [3, 8]) (by kernel_rfl) (by simp) ?_
            refine AllReadyH.cons rfl (fun K hK => ?_) ?_
            · skip
              go_simp
              go_at_call 14
              refine (TO1.out _ (HX1.out.keep (below_step HBc.out Z1.out))).mono ?_
              rintro e v2 ⟨X1, x1, rfl, r1, hk⟩
              replace r0 := r0.keep hk
              replace r1 := r1.rd
              have Z2 := Lib.hid (below_step Z1.out hk)
              clear hk
              go_simp
              refine hK.out _ _ (MK.out _ Z2.out) (fun hHeld => ?_)
              clear hK K
              try simp only [List.getElem_toArray, List.getElem_cons_zero, List.getElem_cons_succ, Act.put, List.setIfInBounds_toArray, List.set_cons_zero, List.set_cons_succ]
              refine wpAnyH_ready (rs := [4, 8]) (by kernel_rfl) (by simp) ?_
              refine AllReadyH.cons rfl (fun K hK => ?_) ?_
              · skip
                go_simp
                go_at_call 31
                refine (C2.out _ X0 x0 r0 X1 x1 r1).mono ?_
                rintro e v3 ⟨B4, d4, rfl, oR, hk⟩
                clear r0 r1
                replace oR := oR.rd
                have Z3 := Lib.hid (below_step Z2.out hk)
                clear hk
                go_simp
                refine hK.out _ _ (MK.out _ Z3.out) (fun hHeld => ?_)
                clear hK K
                try simp only [List.getElem_toArray, List.getElem_cons_zero, List.getElem_cons_succ, Act.put, List.setIfInBounds_toArray, List.set_cons_zero, List.set_cons_succ]
                refine wpAnyH_take (i := 5) (v := ?_) rfl (by kernel_rfl) (by kernel_rfl) (by kernel_rfl) (fun _ _ _ h => h) (Or.inl ⟨by rfl, ?_⟩) hHeld ?_
                rotate_left
                · intro w hSw
                  (try dsimp only at hSw)
                  go_simp
                  try with_reducible rfl
                try simp only [List.getElem_toArray, List.getElem_cons_zero, List.getElem_cons_succ, Act.put, List.setIfInBounds_toArray, List.set_cons_zero, List.set_cons_succ]
                refine wpAnyH_take (i := 6) (v := ?_) rfl (by kernel_rfl) (by kernel_rfl) (by kernel_rfl) (fun _ _ _ h => h) (Or.inl ⟨by rfl, ?_⟩) hHeld ?_
                rotate_left
                · intro w hSw
                  (try dsimp only at hSw)
                  go_simp
                  try with_reducible rfl
                try simp only [List.getElem_toArray, List.getElem_cons_zero, List.getElem_cons_succ, Act.put, List.setIfInBounds_toArray, List.set_cons_zero, List.set_cons_succ]
                refine wpAnyH_take (i := 7) (v := ?_) rfl (by kernel_rfl) (by kernel_rfl) (by kernel_rfl) (fun _ _ _ h => h) (Or.inl ⟨by rfl, ?_⟩) hHeld ?_
                rotate_left
                · intro w hSw
                  (try dsimp only at hSw)
                  go_simp
                  try with_reducible rfl
                try simp only [List.getElem_toArray, List.getElem_cons_zero, List.getElem_cons_succ, Act.put, List.setIfInBounds_toArray, List.set_cons_zero, List.set_cons_succ]
                refine wpAnyH_ready (rs := [8]) (by kernel_rfl) (by simp) ?_
                refine AllReadyH.cons rfl (fun K hK => ?_) ?_
                · skip
                  go_simp
                  have Z4 := Lib.hid (below_step Z3.out (below_alloc v3 (.cells #[.slice none 0 0] 29)))
                  have qN := heap_alloc_new v3 (.cells #[.slice none 0 0] 29)
                  have gN : w13.heap.size ≤ v3.heap.size := Z3.out.size
                  have oR0 := oR
                  replace oR := oR.keep (below_alloc v3 (.cells #[.slice none 0 0] 29))
                  refine hK.out _ _ (MK.out _ Z4.out) (fun hHeld => ?_)
                  clear hK K
                  try simp only [List.getElem_toArray, List.getElem_cons_zero, List.getElem_cons_succ, Act.put, List.setIfInBounds_toArray, List.set_cons_zero, List.set_cons_succ]
                  refine wpAnyH_ready (rs := [9]) (by kernel_rfl) (by simp) ?_
                  refine AllReadyH.cons rfl (fun K hK => ?_) ?_
                  · skip
                    go_simp
                    refine hK.out _ _ (MK.out _ (below_step Z3.out (below_alloc _ _))) (fun hHeld => ?_)
                    clear hK K
                    try simp only [List.getElem_toArray, List.getElem_cons_zero, List.getElem_cons_succ, Act.put, List.setIfInBounds_toArray, List.set_cons_zero, List.set_cons_succ]
                    refine wpAnyH_take (i := 10) (v := ?_) rfl (by kernel_rfl) (by kernel_rfl) (by kernel_rfl) (fun _ _ _ h => h) (Or.inl ⟨by rfl, ?_⟩) hHeld ?_
                    rotate_left
                    · intro w hSw
                      (try dsimp only at hSw)
                      go_simp
                      try with_reducible rfl
                    try simp only [List.getElem_toArray, List.getElem_cons_zero, List.getElem_cons_succ, Act.put, List.setIfInBounds_toArray, List.set_cons_zero, List.set_cons_succ]
                    refine wpAnyH_done (by kernel_rfl) ?_ _
                    go_wp2_with fail
                    go_meet
                    exact Outbag.new Z3.out oR0
                  exact AllReadyH.nil
                exact AllReadyH.nil
              refine AllReadyH.cons rfl (fun K hK => ?_) ?_
              · skip
                go_simp
                have Z3 := Lib.hid (below_step Z2.out (below_alloc v2 (.cells #[.slice none 0 0] 29)))
                have qN := heap_alloc_new v2 (.cells #[.slice none 0 0] 29)
                have gN : w13.heap.size ≤ v2.heap.size := Z2.out.size
                replace r0 := r0.keep (below_alloc v2 (.cells #[.slice none 0 0] 29))
                replace r1 := r1.keep (below_alloc v2 (.cells #[.slice none 0 0] 29))
                refine hK.out _ _ (MK.out _ Z3.out) (fun hHeld => ?_)
                clear hK K
                try simp only [List.getElem_toArray, List.getElem_cons_zero, List.getElem_cons_succ, Act.put, List.setIfInBounds_toArray, List.set_cons_zero, List.set_cons_succ]
                refine wpAnyH_ready (rs := [4]) (by kernel_rfl) (by simp) ?_
                refine AllReadyH.cons rfl (fun K hK => ?_) ?_
                · skip
                  go_simp
                  go_at_call 31
                  refine (C2.out _ X0 x0 r0 X1 x1 r1).mono ?_
                  rintro e v4 ⟨B4, d4, rfl, oR, hk⟩
                  clear r0 r1
                  replace oR := oR.rd
                  have Z4 := Lib.hid (below_step Z3.out hk)
                  replace qN := blk_below hk qN
                  clear hk
                  go_simp
                  refine hK.out _ _ (MK.out _ Z4.out) (fun hHeld => ?_)
                  clear hK K
                  try simp only [List.getElem_toArray, List.getElem_cons_zero, List.getElem_cons_succ, Act.put, List.setIfInBounds_toArray, List.set_cons_zero, List.set_cons_succ]
                  refine wpAnyH_take (i := 5) (v := ?_) rfl (by kernel_rfl) (by kernel_rfl) (by kernel_rfl) (fun _ _ _ h => h) (Or.inl ⟨by rfl, ?_⟩) hHeld ?_
                  rotate_left
                  · intro w hSw
                    (try dsimp only at hSw)
                    go_simp
                    try with_reducible rfl
                  try simp only [List.getElem_toArray, List.getElem_cons_zero, List.getElem_cons_succ, Act.put, List.setIfInBounds_toArray, List.set_cons_zero, List.set_cons_succ]
                  refine wpAnyH_take (i := 6) (v := ?_) rfl (by kernel_rfl) (by kernel_rfl) (by kernel_rfl) (fun _ _ _ h => h) (Or.inl ⟨by rfl, ?_⟩) hHeld ?_
                  rotate_left
                  · intro w hSw
                    (try dsimp only at hSw)
                    go_simp
                    try with_reducible rfl
                  try simp only [List.getElem_toArray, List.getElem_cons_zero, List.getElem_cons_succ, Act.put, List.setIfInBounds_toArray, List.set_cons_zero, List.set_cons_succ]
                  refine wpAnyH_take (i := 7) (v := ?_) rfl (by kernel_rfl) (by kernel_rfl) (by kernel_rfl) (fun _ _ _ h => h) (Or.inl ⟨by rfl, ?_⟩) hHeld ?_
                  rotate_left
                  · intro w hSw
                    (try dsimp only at hSw)
                    go_simp
                    try with_reducible rfl
                  try simp only [List.getElem_toArray, List.getElem_cons_zero, List.getElem_cons_succ, Act.put, List.setIfInBounds_toArray, List.set_cons_zero, List.set_cons_succ]
                  refine wpAnyH_ready (rs := [9]) (by kernel_rfl) (by simp) ?_
                  refine AllReadyH.cons rfl (fun K hK => ?_) ?_
                  · skip
                    have e0 := blk_cell (o := 0) qN rfl
                    have f0 : v4.frozen? ⟨v2.heap.size, 0, none⟩ = false := frozen_of_row v4 _ 0 _ _ qN
                    have l0 := blk_lt qN
                    go_simp
                    refine hK.out _ _ (MK.out _ (show Below w13.heap.size w13 (v4.setCell ⟨v2.heap.size, 0, none⟩ (.slice B4 zs.length d4)) from Z4.out.setCell gN _)) (fun hHeld => ?_)
                    clear hK K
                    try simp only [List.getElem_toArray, List.getElem_cons_zero, List.getElem_cons_succ, Act.put, List.setIfInBounds_toArray, List.set_cons_zero, List.set_cons_succ]
                    refine wpAnyH_take (i := 10) (v := ?_) rfl (by kernel_rfl) (by kernel_rfl) (by kernel_rfl) (fun _ _ _ h => h) (Or.inl ⟨by rfl, ?_⟩) hHeld ?_
                    rotate_left
                    · intro w hSw
                      (try dsimp only at hSw)
                      go_simp
                      try with_reducible rfl
                    try simp only [List.getElem_toArray, List.getElem_cons_zero, List.getElem_cons_succ, Act.put, List.setIfInBounds_toArray, List.set_cons_zero, List.set_cons_succ]
                    refine wpAnyH_done (by kernel_rfl) ?_ _
                    go_wp2_with fail
                    go_meet
                    exact Outbag.set Z4.out oR qN gN
                  exact AllReadyH.nil
                exact AllReadyH.nil
              exact AllReadyH.nil
            refine AllReadyH.cons rfl (fun K hK => ?_) ?_
            · skip
              go_simp
              have Z2 := Lib.hid (below_step Z1.out (below_alloc v1 (.cells #[.slice none 0 0] 29)))
              have qN := heap_alloc_new v1 (.cells #[.slice none 0 0] 29)
              have gN : w13.heap.size ≤ v1.heap.size := Z1.out.size
              replace r0 := r0.keep (below_alloc v1 (.cells #[.slice none 0 0] 29))
              refine hK.out _ _ (MK.out _ Z2.out) (fun hHeld => ?_)
              clear hK K
              try simp only [List.getElem_toArray, List.getElem_cons_zero, List.getElem_cons_succ, Act.put, List.setIfInBounds_toArray, List.set_cons_zero, List.set_cons_succ]
              refine wpAnyH_ready (rs := [3]) (by kernel_rfl) (by simp) ?_
              refine AllReadyH.cons rfl (fun K hK => ?_) ?_
              · skip
                go_simp
                go_at_call 14
                refine (TO1.out _ (HX1.out.keep (below_step HBc.out Z2.out))).mono ?_
                rintro e v3 ⟨X1, x1, rfl, r1, hk⟩
                replace r0 := r0.keep hk
                replace r1 := r1.rd
                have Z3 := Lib.hid (below_step Z2.out hk)
                replace qN := blk_below hk qN
                clear hk
                go_simp
                refine hK.out _ _ (MK.out _ Z3.out) (fun hHeld => ?_)
                clear hK K
                try simp only [List.getElem_toArray, List.getElem_cons_zero, List.getElem_cons_succ, Act.put, List.setIfInBounds_toArray, List.set_cons_zero, List.set_cons_succ]
                refine wpAnyH_ready (rs := [4]) (by kernel_rfl) (by simp) ?_
                refine AllReadyH.cons rfl (fun K hK => ?_) ?_
                · skip
                  go_simp
                  go_at_call 31
                  refine (C2.out _ X0 x0 r0 X1 x1 r1).mono ?_
                  rintro e v4 ⟨B4, d4, rfl, oR, hk⟩
                  clear r0 r1
                  replace oR := oR.rd
                  have Z4 := Lib.hid (below_step Z3.out hk)
                  replace qN := blk_below hk qN
                  clear hk
                  go_simp
                  refine hK.out _ _ (MK.out _ Z4.out) (fun hHeld => ?_)
                  clear hK K
                  try simp only [List.getElem_toArray, List.getElem_cons_zero, List.getElem_cons_succ, Act.put, List.setIfInBounds_toArray, List.set_cons_zero, List.set_cons_succ]
                  refine wpAnyH_take (i := 5) (v := ?_) rfl (by kernel_rfl) (by kernel_rfl) (by kernel_rfl) (fun _ _ _ h => h) (Or.inl ⟨by rfl, ?_⟩) hHeld ?_
                  rotate_left
                  · intro w hSw
                    (try dsimp only at hSw)
                    go_simp
                    try with_reducible rfl
                  try simp only [List.getElem_toArray, List.getElem_cons_zero, List.getElem_cons_succ, Act.put, List.setIfInBounds_toArray, List.set_cons_zero, List.set_cons_succ]
                  refine wpAnyH_take (i := 6) (v := ?_) rfl (by kernel_rfl) (by kernel_rfl) (by kernel_rfl) (fun _ _ _ h => h) (Or.inl ⟨by rfl, ?_⟩) hHeld ?_
                  rotate_left
                  · intro w hSw
                    (try dsimp only at hSw)
                    go_simp
                    try with_reducible rfl
                  try simp only [List.getElem_toArray, List.getElem_cons_zero, List.getElem_cons_succ, Act.put, List.setIfInBounds_toArray, List.set_cons_zero, List.set_cons_succ]
                  refine wpAnyH_take (i := 7) (v := ?_) rfl (by kernel_rfl) (by kernel_rfl) (by kernel_rfl) (fun _ _ _ h => h) (Or.inl ⟨by rfl, ?_⟩) hHeld ?_
                  rotate_left
                  · intro w hSw
                    (try dsimp only at hSw)
                    go_simp
                    try with_reducible rfl
                  try simp only [List.getElem_toArray, List.getElem_cons_zero, List.getElem_cons_succ, Act.put, List.setIfInBounds_toArray, List.set_cons_zero, List.set_cons_succ]
                  refine wpAnyH_ready (rs := [9]) (by kernel_rfl) (by simp) ?_
                  refine AllReadyH.cons rfl (fun K hK => ?_) ?_
                  · skip
                    have e0 := blk_cell (o := 0) qN rfl
                    have f0 : v4.frozen? ⟨v1.heap.size, 0, none⟩ = false := frozen_of_row v4 _ 0 _ _ qN
                    have l0 := blk_lt qN
                    go_simp
                    refine hK.out _ _ (MK.out _ (show Below w13.heap.size w13 (v4.setCell ⟨v1.heap.size, 0, none⟩ (.slice B4 zs.length d4)) from Z4.out.setCell gN _)) (fun hHeld => ?_)
                    clear hK K
                    try simp only [List.getElem_toArray, List.getElem_cons_zero, List.getElem_cons_succ, Act.put, List.setIfInBounds_toArray, List.set_cons_zero, List.set_cons_succ]
                    refine wpAnyH_take (i := 10) (v := ?_) rfl (by kernel_rfl) (by kernel_rfl) (by kernel_rfl) (fun _ _ _ h => h) (Or.inl ⟨by rfl, ?_⟩) hHeld ?_
                    rotate_left
                    · intro w hSw
                      (try dsimp only at hSw)
                      go_simp
                      try with_reducible rfl
                    try simp only [List.getElem_toArray, List.getElem_cons_zero, List.getElem_cons_succ, Act.put, List.setIfInBounds_toArray, List.set_cons_zero, List.set_cons_succ]
                    refine wpAnyH_done (by kernel_rfl) ?_ _
                    go_wp2_with fail
                    go_meet
                    exact Outbag.set Z4.out oR qN gN
                  exact AllReadyH.nil
                exact AllReadyH.nil
              exact AllReadyH.nil
            exact AllReadyH.nil
          refine AllReadyH.cons rfl (fun K hK => ?_) ?_
          · skip
            go_simp
            have Z1 := Lib.hid (below_step Z0.out (below_alloc w13.drew (.cells #[.slice none 0 0] 29)))
            have qN := heap_alloc_new w13.drew (.cells #[.slice none 0 0] 29)
            have gN : w13.heap.size ≤ w13.heap.size := Z0.out.size
            replace qN : (w13.drew.alloc (.cells #[.slice none 0 0] 29)).heap[w13.heap.size]? = some (.cells #[.slice none 0 0] 29 (0, 0)) := qN
            refine hK.out _ _ (MK.out _ Z1.out) (fun hHeld => ?_)
            clear hK K
            try simp only [List.getElem_toArray, List.getElem_cons_zero, List.getElem_cons_succ, Act.put, List.setIfInBounds_toArray, List.set_cons_zero, List.set_cons_succ]
            refine wpAnyH_ready (rs := [1]) (by kernel_rfl) (by simp) ?_
            refine AllReadyH.cons rfl (fun K hK => ?_) ?_
            · skip
              go_simp
              go_at_call 14
              refine (TO0.out _ (HX0.out.keep (below_step HBc.out Z1.out))).mono ?_
              rintro e v2 ⟨X0, x0, rfl, r0, hk⟩
              replace r0 := r0.rd
              have Z2 := Lib.hid (below_step Z1.out hk)
              replace qN := blk_below hk qN
              clear hk
              go_simp
              refine hK.out _ _ (MK.out _ Z2.out) (fun hHeld => ?_)
              clear hK K
              try simp only [List.getElem_toArray, List.getElem_cons_zero, List.getElem_cons_succ, Act.put, List.setIfInBounds_toArray, List.set_cons_zero, List.set_cons_succ]
              refine wpAnyH_ready (rs := [3]) (by kernel_rfl) (by simp) ?_
              refine AllReadyH.cons rfl (fun K hK => ?_) ?_
              · skip
                go_simp
                go_at_call 14
                refine (TO1.out _ (HX1.out.keep (below_step HBc.out Z2.out))).mono ?_
                rintro e v3 ⟨X1, x1, rfl, r1, hk⟩
                replace r0 := r0.keep hk
                replace r1 := r1.rd
                have Z3 := Lib.hid (below_step Z2.out hk)
                replace qN := blk_below hk qN
                clear hk
                go_simp
                refine hK.out _ _ (MK.out _ Z3.out) (fun hHeld => ?_)
                clear hK K
                try simp only [List.getElem_toArray, List.getElem_cons_zero, List.getElem_cons_succ, Act.put, List.setIfInBounds_toArray, List.set_cons_zero, List.set_cons_succ]
                refine wpAnyH_ready (rs := [4]) (by kernel_rfl) (by simp) ?_
                refine AllReadyH.cons rfl (fun K hK => ?_) ?_
                · skip
                  go_simp
                  go_at_call 31
                  refine (C2.out _ X0 x0 r0 X1 x1 r1).mono ?_
                  rintro e v4 ⟨B4, d4, rfl, oR, hk⟩
                  clear r0 r1
                  replace oR := oR.rd
                  have Z4 := Lib.hid (below_step Z3.out hk)
                  replace qN := blk_below hk qN
                  clear hk
                  go_simp
                  refine hK.out _ _ (MK.out _ Z4.out) (fun hHeld => ?_)
                  clear hK K
                  try simp only [List.getElem_toArray, List.getElem_cons_zero, List.getElem_cons_succ, Act.put, List.setIfInBounds_toArray, List.set_cons_zero, List.set_cons_succ]
                  refine wpAnyH_take (i := 5) (v := ?_) rfl (by kernel_rfl) (by kernel_rfl) (by kernel_rfl) (fun _ _ _ h => h) (Or.inl ⟨by rfl, ?_⟩) hHeld ?_
                  rotate_left
                  · intro w hSw
                    (try dsimp only at hSw)
                    go_simp
                    try with_reducible rfl
                  try simp only [List.getElem_toArray, List.getElem_cons_zero, List.getElem_cons_succ, Act.put, List.setIfInBounds_toArray, List.set_cons_zero, List.set_cons_succ]
                  refine wpAnyH_take (i := 6) (v := ?_) rfl (by kernel_rfl) (by kernel_rfl) (by kernel_rfl) (fun _ _ _ h => h) (Or.inl ⟨by rfl, ?_⟩) hHeld ?_
                  rotate_left
                  · intro w hSw
                    (try dsimp only at hSw)
                    go_simp
                    try with_reducible rfl
                  try simp only [List.getElem_toArray, List.getElem_cons_zero, List.getElem_cons_succ, Act.put, List.setIfInBounds_toArray, List.set_cons_zero, List.set_cons_succ]
                  refine wpAnyH_take (i := 7) (v := ?_) rfl (by kernel_rfl) (by kernel_rfl) (by kernel_rfl) (fun _ _ _ h => h) (Or.inl ⟨by rfl, ?_⟩) hHeld ?_
                  rotate_left
                  · intro w hSw
                    (try dsimp only at hSw)
                    go_simp
                    try with_reducible rfl
                  try simp only [List.getElem_toArray, List.getElem_cons_zero, List.getElem_cons_succ, Act.put, List.setIfInBounds_toArray, List.set_cons_zero, List.set_cons_succ]
                  refine wpAnyH_ready (rs := [9]) (by kernel_rfl) (by simp) ?_
                  refine AllReadyH.cons rfl (fun K hK => ?_) ?_
                  · skip
                    have e0 := blk_cell (o := 0) qN rfl
                    have f0 : v4.frozen? ⟨w13.heap.size, 0, none⟩ = false := frozen_of_row v4 _ 0 _ _ qN
                    have l0 := blk_lt qN
                    go_simp
                    refine hK.out _ _ (MK.out _ (show Below w13.heap.size w13 (v4.setCell ⟨w13.heap.size, 0, none⟩ (.slice B4 zs.length d4)) from Z4.out.setCell gN _)) (fun hHeld => ?_)
                    clear hK K
                    try simp only [List.getElem_toArray, List.getElem_cons_zero, List.getElem_cons_succ, Act.put, List.setIfInBounds_toArray, List.set_cons_zero, List.set_cons_succ]
                    refine wpAnyH_take (i := 10) (v := ?_) rfl (by kernel_rfl) (by kernel_rfl) (by kernel_rfl) (fun _ _ _ h => h) (Or.inl ⟨by rfl, ?_⟩) hHeld ?_
                    rotate_left
                    · intro w hSw
                      (try dsimp only at hSw)
                      go_simp
                      try with_reducible rfl
                    try simp only [List.getElem_toArray, List.getElem_cons_zero, List.getElem_cons_succ, Act.put, List.setIfInBounds_toArray, List.set_cons_zero, List.set_cons_succ]
                    refine wpAnyH_done (by kernel_rfl) ?_ _
                    go_wp2_with fail
                    go_meet
                    exact Outbag.set Z4.out oR qN gN
                  exact AllReadyH.nil
                exact AllReadyH.nil
              exact AllReadyH.nil
            exact AllReadyH.nil
          exact AllReadyH.nil
        case rest =>
          obtain ⟨g9, B2, d2, rfl, rfl, qH, oH, hgl_qH, hTT⟩ := hcut
          obtain ⟨w14, hww⟩ : ∃ w, wc = w := ⟨_, rfl⟩
          rw [hww] at qH oH hTT ⊢
          clear hww MK HBc Z0 c_p0 c_p1 c_qB c_q0 c_q1 c_qG
          replace p0 := blk_below hTT p0
          replace p1 := blk_below hTT p1
          replace qB := blk_below hTT qB
          replace q0 := blk_below hTT q0
          replace q1 := blk_below hTT q1
          replace qG := blk_below hTT qG
          replace oM := oM.keep hTT
          replace hB := below_step hB hTT
          replace T := below_step T hTT
          have z14 := hTT.size
          clear hTT
          have hz_qH := blk_lt qH
          have c_p0 := blk_cell (o := 0) p0 rfl
          have c_p1 := blk_cell (o := 0) p1 rfl
          have c_qB := blk_cell (o := 0) qB rfl
          have c_q0 := blk_cell (o := 0) q0 rfl
          have c_q1 := blk_cell (o := 0) q1 rfl
          have c_qG := blk_cell (o := 0) qG rfl
          have c_qH := blk_cell (o := 0) qH rfl
          go_wp2_with fail
          refine (EQ.out B2 B0 d2 d0 _ oH (RB.out.keep T)).mono ?_
          rintro e w15 ⟨rfl, k⟩
          clear c_p0 c_p1 c_qB c_q0 c_q1 c_qG c_qH
          replace p0 := blk_below k p0
          replace p1 := blk_below k p1
          replace qB := blk_below k qB
          replace q0 := blk_below k q0
          replace q1 := blk_below k q1
          replace qG := blk_below k qG
          replace qH := blk_below k qH
          replace oM := oM.keep k
          replace hB := below_step hB k
          replace T := below_step T k
          have z15 := k.size
          clear k oH
          have c_p0 := blk_cell (o := 0) p0 rfl
          have c_p1 := blk_cell (o := 0) p1 rfl
          have c_qB := blk_cell (o := 0) qB rfl
          have c_q0 := blk_cell (o := 0) q0 rfl
          have c_q1 := blk_cell (o := 0) q1 rfl
          have c_qG := blk_cell (o := 0) qG rfl
          have c_qH := blk_cell (o := 0) qH rfl
          go_wp2_with fail
          refine (HB.out B1 d1 _ oM.p.rd).mono ?_
          rintro e w16 ⟨rfl, k⟩
          clear c_p0 c_p1 c_qB c_q0 c_q1 c_qG c_qH
          replace hB := below_step hB k
          go_wp2
          go_ret
          exact ⟨rfl, hB⟩
    · rw [szB_no hb2] at S1
      go_wp2_with fail
      refine (S1.out _ (HX1.out.keep hB1)).mono ?_
      rintro e w1 ⟨rfl, k1⟩
      go_wp2
      go_ret
      exact ⟨rfl, below_step hB1 k1⟩
  · rw [szB_no hb1] at S0
    go_enter Try.func8, Try.ntmps8
    go_wp2_with fail
    refine S0.out.mono ?_
    rintro e w1 ⟨rfl, k1⟩
    go_wp2
    go_ret
    exact ⟨rfl, below_step hB0 k1⟩
end Go.Proofs.Ytdikkfhdogkniaa
