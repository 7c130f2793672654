/- impl.(*Bag).put: a row put into a bag that is the call's own. Conditions: the bag is valid, the count is in its range. Printed by xput.py. -/
import Derived.Test.YtdikkfhdogkniaaCopyB
import Derived.Test.YtdikkfhdogkniaaInsB
import Derived.Test.YtdikkfhdogkniaaPlace
import Derived.Test.YtdikkfhdogkniaaJoinP
import Derived.Test.YtdikkfhdogkniaaBMark
import Derived.Test.YtdikkfhdogkniaaBagOk
namespace Go.Proofs.Ytdikkfhdogkniaa
open Go.RowKit

/-- Only block g and blocks from base on have turned. -/
structure But (g base : Nat) (w w' : World) : Prop where
  os : w'.os = w.os
  tape : w'.tape = w.tape
  output : w'.output = w.output
  size : w.heap.size ≤ w'.heap.size
  block : ∀ k, k < w.heap.size → k < base → k ≠ g → w'.heap[k]? = w.heap[k]?
theorem But.of {g base : Nat} {w w' : World} (h : Below w.heap.size w w') : But g base w w' := ⟨h.os, h.tape, h.output, h.size, fun k hk _ _ => h.block k hk⟩
theorem But.below {g base b0 : Nat} {w w' : World} (h : But g base w w') (h1 : b0 ≤ g) (h2 : b0 ≤ base) (h3 : b0 ≤ w.heap.size) : Below b0 w w' :=
  ⟨h.os, h.tape, h.output, h.size, fun k hk => h.block k (by omega) (by omega) (by omega)⟩
theorem But.blk {g base k : Nat} {w w' : World} {o : Obj} (h : But g base w w') (hk : w.heap[k]? = some o) (h1 : k < base) (h2 : k ≠ g) : w'.heap[k]? = some o := (h.block k (blk_lt hk) h1 h2).trans hk
theorem But.set {g base gA j : Nat} {w w1 : World} (h : Below w.heap.size w w1) (hg : base ≤ gA) (u : Value) : But g base w (w1.drew.setCell ⟨gA, j, none⟩ u) :=
  ⟨h.os, h.tape, h.output, by have := h.size; simpa using this, fun k hk hb _ => (Below.heap_setCell w1.drew ⟨gA, j, none⟩ u k (by simp; omega)).trans (h.block k hk)⟩
theorem But.ins {g base : Nat} {w w1 w3 w5 : World} {o : Obj} {row : Option Nat} (h : Below w.heap.size w w1) (h3 : Below w1.heap.size w1 w3) (hg : (w3.alloc o).grownBy w5 row) (hr : ∀ r, row = some r → base ≤ r) (u : Value) :
    But g base w (w5.setCell ⟨g, 0, none⟩ u) := by
  have e1 := h.size
  have e2 := h3.size
  have e3 := hg.size
  simp at e3
  refine ⟨hg.os.trans (h3.os.trans h.os), hg.tape.trans (h3.tape.trans h.tape), hg.output.trans (h3.output.trans h.output), by simp; omega, fun k hk hb hn => ?_⟩
  rw [Below.heap_setCell w5 ⟨g, 0, none⟩ u k (by simp; omega), hg.block k (by simp; omega) (fun e => by have := hr k e.symm; omega), Below.heap_alloc w3 o k (by omega), h3.block k (by omega), h.block k hk]

theorem ixCells_drop : ∀ (xs : List ItX) (i : Nat), (ixCells xs).drop (i * 2) = ixCells (xs.drop i)
  | xs, 0 => by simp
  | [], i + 1 => by simp [ixCells]
  | x :: xs, i + 1 => by
    have := ixCells_drop xs i
    rw [show (i + 1) * 2 = i * 2 + 2 by omega]
    simpa [ixCells, ItX.cells] using this
theorem ixCells_take : ∀ (xs : List ItX) (i : Nat), (ixCells xs).take (i * 2) = ixCells (xs.take i)
  | xs, 0 => by simp [ixCells]
  | [], i + 1 => by simp [ixCells]
  | x :: xs, i + 1 => by
    have := ixCells_take xs i
    rw [show (i + 1) * 2 = i * 2 + 2 by omega]
    simpa [ixCells, ItX.cells] using this
/-- One item more, in the midst. -/
theorem OwnBx.ins {w1 w3 w5 : World} {base c c1 kc i : Nat} {A A1 K : Option Addr} {xs : List ItX} {p : It} {o : Obj} (h : OwnBx w1 base A c xs) (hi : i ≤ xs.length) (hbw : base ≤ w1.heap.size) (hb3 : Below w1.heap.size w1 w3)
    (hk : w3.ownsRow w1.heap.size 3 1 (.slice K p.r.length kc) p.r.length (p.r.map (Value.int .i64)))
    (hown : w5.ownsRow base 54 2 (.slice A1 (xs.length + 1) c1) (xs.length + 1) ((ixCells xs).take (i * 2) ++ [.slice K p.r.length kc, .int .i64 p.t] ++ (ixCells xs).drop (i * 2)))
    (hg : (w3.alloc o).grownBy w5 (Value.slice A xs.length c).ownBlock) : OwnBx w5 base A1 c1 (xs.take i ++ [⟨p, K, kc⟩] ++ xs.drop i) := by
  have h2 := (h.keep hb3).keep (below_alloc w3 o)
  have hk2 := own_below hk (below_alloc w3 o)
  have hlen : (xs.take i ++ [(⟨p, K, kc⟩ : ItX)] ++ xs.drop i).length = xs.length + 1 := by simp; omega
  have hmem : ∀ x ∈ xs.take i ++ [(⟨p, K, kc⟩ : ItX)] ++ xs.drop i, x ∈ xs ∨ x = ⟨p, K, kc⟩ := by
    intro x hx
    rcases List.mem_append.1 hx with hx | hx
    · rcases List.mem_append.1 hx with hx | hx
      · exact .inl (List.mem_of_mem_take hx)
      · exact .inr (List.mem_singleton.1 hx)
    · exact .inl (List.mem_of_mem_drop hx)
  have hnew : ∀ x ∈ xs, x.v.ownBlock = none ∨ x.v.ownBlock ≠ (⟨p, K, kc⟩ : ItX).v.ownBlock := by
    intro x hx
    cases hv : x.v.ownBlock with
    | none => exact .inl rfl
    | some r =>
      refine .inr fun e => ?_
      have h3 := ((h.kids x hx).lt r hv).2
      have h4 := (hk.lt r e.symm).1
      omega
  refine ⟨?_, ?_, ?_⟩
  · rw [hlen, ixCells_append, ixCells_append, ← ixCells_take, ← ixCells_drop]
    exact hown
  · intro x hx
    rcases hmem x hx with hx | rfl
    · exact (h2.kids x hx).kept hg (own_ne (h2.kids x hx) h2.row (by decide))
    · exact own_mono (hk2.kept hg (own_ne hk2 h2.row (by decide))) hbw
  · have hap : (xs.take i ++ xs.drop i).Pairwise ApartB := by rw [List.take_append_drop]; exact h.apart
    obtain ⟨a1, a2, a3⟩ := List.pairwise_append.1 hap
    rw [List.append_assoc, List.pairwise_append]
    refine ⟨a1, ?_, ?_⟩
    · rw [List.singleton_append, List.pairwise_cons]
      refine ⟨fun y hy => ?_, a2⟩
      have h5 := hnew y (List.mem_of_mem_drop hy)
      unfold ApartB
      rcases h5 with h5 | h5
      · rw [h5]
        cases (⟨p, K, kc⟩ : ItX).v.ownBlock <;> simp
      · exact .inr fun e => h5 e.symm
    · intro x hx y hy
      rw [List.singleton_append] at hy
      rcases List.mem_cons.1 hy with rfl | hy
      · exact hnew x (List.mem_of_mem_take hx)
      · exact a3 x hx y hy
/-- One item's count set. -/
theorem OwnBx.count {w : World} {base c kc j gA : Nat} {K : Option Addr} {xs : List ItX} {p : It} {t : Int} (h : OwnBx w base (some ⟨gA, 0, none⟩) c xs) (hj : j < xs.length) (hx : xs[j] = ⟨p, K, kc⟩) :
    OwnBx (w.setCell ⟨gA, j * 2 + 1, none⟩ (.int .i64 t)) base (some ⟨gA, 0, none⟩) c (xs.set j ⟨⟨p.r, t⟩, K, kc⟩) := by
  have hv : (⟨⟨p.r, t⟩, K, kc⟩ : ItX).v = xs[j].v := by rw [hx]; rfl
  refine ⟨?_, ?_, ?_⟩
  · rw [List.length_set, ← ixCells_set xs j ⟨⟨p.r, t⟩, K, kc⟩ hj hv]
    exact (h.row.stored (j * 2 + 1) _).1
  · intro y hy
    obtain ⟨i, hi, rfl⟩ := List.getElem_of_mem hy
    have hi' : i < xs.length := by simpa using hi
    rw [List.getElem_set]
    split
    · have := own_set_row (h.kids _ (List.getElem_mem hj)) h.row (by decide) (j * 2 + 1) (.int .i64 t)
      rw [hx] at this
      exact this
    · exact own_set_row (h.kids _ (List.getElem_mem hi')) h.row (by decide) (j * 2 + 1) _
  · have h2 : (xs.map (fun x => x.v.ownBlock)).Pairwise (fun a b : Option Nat => a = none ∨ a ≠ b) := List.pairwise_map.2 h.apart
    have h3 : (xs.set j ⟨⟨p.r, t⟩, K, kc⟩).map (fun x => x.v.ownBlock) = xs.map (fun x => x.v.ownBlock) := by
      rw [List.map_set, hv]
      apply List.ext_getElem (by simp)
      intro i h4 h5
      rw [List.getElem_set]
      split
      · rename_i e; subst e; simp
      · rfl
    rw [← h3] at h2
    rw [List.pairwise_map] at h2
    exact h2

theorem OwnBx.setBag {w : World} {base c g j : Nat} {A : Option Addr} {xs : List ItX} {u : Value} {cs : Array Value} {fz : Nat × Nat} (h : OwnBx w base A c xs) (hq : w.heap[g]? = some (.cells cs 29 fz)) : OwnBx (w.setCell ⟨g, j, none⟩ u) base A c xs := by
  have hg' : w.grownBy (w.setCell ⟨g, j, none⟩ u) (some g) := ⟨rfl, rfl, rfl, by simp [World.setCell], fun i _ hi => Below.heap_setCell _ _ _ _ (fun h => hi (by rw [h]))⟩
  exact ⟨h.row.kept hg' (.inr (row_ne h.row hq (by decide))), fun x hx => (h.kids x hx).kept hg' (.inr (row_ne (h.kids x hx) hq (by decide))), h.apart⟩
/-- What a put leaves. -/
def PutB (g base : Nat) (w : World) (qs : List It) (e : Ending) (w' : World) : Prop :=
  e = .returned (.bool (PP (BgOk qs))) ∧ But g base w w' ∧ (BgOk qs → ∃ A' c', w'.heap[g]? = some (.cells #[.slice A' qs.length c'] 29 (0, 0)) ∧ OwnB w' base A' c' qs)
theorem PutB.no {g base : Nat} {w : World} {qs : List It} (h : ¬ BgOk qs) {w' : World} (hb : Below w.heap.size w w') : PutB g base w qs (.returned (.bool false)) w' :=
  ⟨by rw [PP_no h], But.of hb, fun k => absurd k h⟩

set_option maxRecDepth 100000 in
set_option maxHeartbeats 6400000 in
theorem put_any (g base c d : Nat) (A B : Option Addr) (ps : List It) (row : List Int) (t : Int) (w : World) (hbox : w.heap[g]? = some (.cells #[.slice A ps.length c] 29 (0, 0))) (hown : OwnB w base A c ps) (hbw : base ≤ w.heap.size)
    (hok : BgOk ps) (hrow : RdI w B row.length row) (hrl : row.length ≤ 4294967296) (ht : 1 ≤ t ∧ t ≤ 1000000) :
    Calls Try.prog 63 #[.pointer (some ⟨g, 0, none⟩), .slice B row.length d, .int .i64 t] w (PutB g base w (lput ps row t)) := by
  obtain ⟨xs, hxs, hin⟩ := hown
  have hxl : xs.length = ps.length := by rw [← hxs]; simp
  have hpl := hok.1
  have hrd : RdB w A ps := OwnB.rd ⟨xs, hxs, hin⟩
  have hk4 : ∀ p ∈ ps, p.r.length ≤ 4294967296 := fun p hp => by have := (hok.it hp).1.1; omega
  have HOK := Lib.hid hok
  have HXS := Lib.hid hxs
  have HXL := Lib.hid hxl
  have HB0 := Lib.hid hbox
  have HI0 := Lib.hid hin
  have HRW := Lib.hid hrow
  have HRD0 := Lib.hid hrd
  have HK4 := Lib.hid hk4
  obtain ⟨ht1, ht2⟩ := ht
  have RO := Lib.hid (rowOk_any B d row w hrow hrl)
  have PL := Lib.hid (placeOf_any A B c d row.length ps row w hrd hrow (by omega) hk4 hrl hok.asc)
  unfold Placed at PL
  have b0 := blk_cell (o := 0) hbox rfl
  clear hok hxs hbox hrow hrd hk4
  by_cases hr : RowOk row
  · rw [PP_yes hr] at RO
    have HR := Lib.hid hr
    clear hr
    by_cases hf : Fits ps row
    · have HF := Lib.hid hf
      have hcase : ps.length ≤ 0 ∨ (0 < ps.length ∧ ∃ gA u1, A = some ⟨gA, 0, none⟩ ∧ ∃ K kc, w.cell? ⟨gA, 0, none⟩ = some (.slice K row.length kc) ∧ w.cell? ⟨gA, 1, none⟩ = some u1) := by
        rcases Nat.eq_zero_or_pos ps.length with h | h
        · exact .inl (by omega)
        · refine .inr ⟨h, ?_⟩
          obtain ⟨gA, cap, hv, _, _⟩ := hin.row.form (by omega)
          injection hv with e1 e2 e3
          subst e1 e3
          have c0 := hin.row.cellAt 0 (by omega)
          have c1 := hin.row.cellAt 1 (by omega)
          have h0 : 0 < xs.length := by omega
          have a0 := (ixCells_at xs 0 h0).1
          have a1 := (ixCells_at xs 0 h0).2
          simp only [Nat.zero_mul, Nat.zero_add] at a0 a1
          rw [a0] at c0
          rw [a1] at c1
          have hp : xs[0].p = ps[0] := by simp only [← HXS.out]; simp
          refine ⟨gA, _, rfl, xs[0].K, xs[0].c, ?_, c1⟩
          rw [c0]
          unfold ItX.v
          rw [hp, hf h]
      clear hf hin
      rcases hcase with hz | ⟨hz, gA, u1, hAe, K, kc, c0, c1⟩
      all_goals
        try subst hAe
        try have z1 : ((row.length : Int) != (row.length : Int)) = false := by simp
        try have z2 : decide ((0 : Int) < (ps.length : Int)) = true := decide_eq_true (by omega)
        try have z3 : decide (0 < ps.length) = true := decide_eq_true (by omega)
        try have z4 : (0 : Int) < (ps.length : Int) := by omega
        try have z5 : decide ((0 : Int) < (ps.length : Int)) = false := decide_eq_false (by omega)
        try have z6 : decide (0 < ps.length) = false := decide_eq_false (by omega)
        go_enter Try.func63, Try.ntmps63
        go_wp2_with fail
        refine RO.out.mono ?_
        rintro e w0 ⟨rfl, rfl⟩
        go_wp2_with fail
        refine PL.out.mono ?_
        rintro e w1 ⟨i, b, rfl, hil0, hord, hbb, k1⟩
        try (obtain ⟨A, hAA⟩ : ∃ A2 : Option Addr, some (⟨gA, 0, none⟩ : Addr) = A2 := ⟨_, rfl⟩
             rw [hAA] at HI0 HB0 ⊢
             clear hAA)
        have hbx := blk_below k1 HB0.out
        have HIN := Lib.hid (HI0.out.keep k1)
        have HBX := Lib.hid hbx
        have b0 := blk_cell (o := 0) hbx rfl
        have HRD : Hid (RdI w1.drew B row.length row) := Lib.hid (show RdI w1.drew B row.length row from (RdI.below HRW.out k1 : RdI w1 B row.length row))
        have HK1 := Lib.hid k1
        have hbw1 : base ≤ w1.heap.size := by have := k1.size; omega
        have hil : i ≤ xs.length := by omega
        have hgw : g < w1.heap.size := blk_lt hbx
        have HORD := Lib.hid hord
        have HBB := Lib.hid hbb
        clear hbx k1 hord hbb PL RO
        try clear c0 c1 z1 z2 z3 z4
        try clear z5 z6
        cases b
        · have hnot : ∀ (h : i < ps.length), 0 < cmpI ps[i].r row := fun h => by
            have h1 := (HORD.out i h).2 (Nat.le_refl _)
            have h2 : cmpI ps[i].r row ≠ 0 := fun e => by have := HBB.out.2 ⟨h, e⟩; cases this
            omega
          have hlp := lput_new ps row t i hil0 (fun j hj hji => (HORD.out j hj).1 hji) hnot
          have hlen : (lput ps row t).length = ps.length + 1 := by rw [hlp]; simp; omega
          have HLP := Lib.hid hlp
          have HLEN := Lib.hid hlen
          by_cases h300 : ps.length = 300
          · have hno : ¬ BgOk (lput ps row t) := fun h => by have := h.1; omega
            have q1 : ((ps.length : Int) == 300) = true := by rw [h300]; rfl
            have HN := Lib.hid hno
            clear hno hlp hlen hnot h300
            go_wp2
            go_ret
            exact PutB.no HN.out HK1.out
          have q1 : ((ps.length : Int) == 300) = false := by rw [beq_eq_false_iff_ne]; omega
          have HOKP : Hid (PP (BgOk (lput ps row t)) = true) := Lib.hid (PP_yes (lput_ok HOK.out HR.out HF.out ⟨ht1, ht2⟩ (by omega)))
          have HROW : Hid (w1.ownsRow base 54 2 (.slice A ps.length c) ps.length (ixCells xs)) := Lib.hid (by have h := HIN.out.row; rw [HXL.out] at h; exact h)
          clear h300 hlp hlen hnot
          go_upto_region 9 with fail
          refine wp_region_held_drew (S := fun _ => True) (by kernel_rfl) (trivial) (fun hHeld => ?_)
          refine wpAnyH_take (i := 0) (v := ?_) rfl (by kernel_rfl) (by kernel_rfl) (by kernel_rfl) (fun _ _ _ h => h) (Or.inl ⟨by rfl, ?_⟩) hHeld ?_
          rotate_left
          · intro w hSw
            (try dsimp only at hSw)
            go_simp
            try with_reducible rfl
          try simp only [List.getElem_toArray, List.getElem_cons_zero, Act.put, List.setIfInBounds_toArray, List.set_cons_zero, List.set_cons_succ]
          refine wpAnyH_take (i := 1) (v := ?_) rfl (by kernel_rfl) (by kernel_rfl) (by kernel_rfl) (fun _ _ _ h => h) (Or.inl ⟨by rfl, ?_⟩) hHeld ?_
          rotate_left
          · intro w hSw
            (try dsimp only at hSw)
            go_simp
            try with_reducible rfl
          try simp only [List.getElem_toArray, List.getElem_cons_zero, List.getElem_cons_succ, Act.put, List.setIfInBounds_toArray, List.set_cons_zero, List.set_cons_succ]
          refine wpAnyH_take (i := 2) (v := ?_) rfl (by kernel_rfl) (by kernel_rfl) (by kernel_rfl) (fun _ _ _ h => h) (Or.inl ⟨by rfl, ?_⟩) hHeld ?_
          rotate_left
          · intro w hSw
            (try dsimp only at hSw)
            go_simp
            try with_reducible rfl
          try simp only [List.getElem_toArray, List.getElem_cons_zero, List.getElem_cons_succ, Act.put, List.setIfInBounds_toArray, List.set_cons_zero, List.set_cons_succ]
          refine wpAnyH_take (i := 3) (v := ?_) rfl (by kernel_rfl) (by kernel_rfl) (by kernel_rfl) (fun _ _ _ h => h) (Or.inl ⟨by rfl, ?_⟩) hHeld ?_
          rotate_left
          · intro w hSw
            (try dsimp only at hSw)
            go_simp
            try with_reducible rfl
          try simp only [List.getElem_toArray, List.getElem_cons_zero, List.getElem_cons_succ, Act.put, List.setIfInBounds_toArray, List.set_cons_zero, List.set_cons_succ]
          refine wpAnyH_take (i := 5) (v := ?_) rfl (by kernel_rfl) (by kernel_rfl) (by kernel_rfl) (fun _ _ _ h => h) (Or.inl ⟨by rfl, ?_⟩) hHeld ?_
          rotate_left
          · intro w hSw
            (try dsimp only at hSw)
            go_simp
            try with_reducible rfl
          try simp only [List.getElem_toArray, List.getElem_cons_zero, List.getElem_cons_succ, Act.put, List.setIfInBounds_toArray, List.set_cons_zero, List.set_cons_succ]
          refine wpAnyH_take (i := 6) (v := ?_) rfl (by kernel_rfl) (by kernel_rfl) (by kernel_rfl) (fun _ _ _ h => h) (Or.inl ⟨by rfl, ?_⟩) hHeld ?_
          rotate_left
          · intro w hSw
            (try dsimp only at hSw)
            go_simp
            try with_reducible rfl
          try simp only [List.getElem_toArray, List.getElem_cons_zero, List.getElem_cons_succ, Act.put, List.setIfInBounds_toArray, List.set_cons_zero, List.set_cons_succ]
          refine wpAnyH_take (i := 8) (v := ?_) rfl (by kernel_rfl) (by kernel_rfl) (by kernel_rfl) (fun _ _ _ h => h) (Or.inl ⟨by rfl, ?_⟩) hHeld ?_
          rotate_left
          · intro w hSw
            (try dsimp only at hSw)
            go_simp
            try with_reducible rfl
          try simp only [List.getElem_toArray, List.getElem_cons_zero, List.getElem_cons_succ, Act.put, List.setIfInBounds_toArray, List.set_cons_zero, List.set_cons_succ]
          refine wpAnyH_ready (rs := [4, 7]) (by kernel_rfl) (by simp) ?_
          refine AllReadyH.cons rfl (fun K hK => ?_) ?_
          · skip
            go_simp
            refine hK.out _ _ (trivial) (fun hHeld => ?_)
            clear hK K
            try simp only [List.getElem_toArray, List.getElem_cons_zero, List.getElem_cons_succ, Act.put, List.setIfInBounds_toArray, List.set_cons_zero, List.set_cons_succ]
            refine wpAnyH_ready (rs := [7]) (by kernel_rfl) (by simp) ?_
            refine AllReadyH.cons rfl (fun K hK => ?_) ?_
            · skip
              go_simp
              go_at_call 81
              refine (slices_Clone_rd B d row w1.drew HRD.out hrl).mono ?_
              rintro e w3 ⟨K1, d1, rfl, hown3, hb3⟩
              have HB3 := Lib.hid (((Below.refl w1.heap.size w1).drew).trans hb3)
              have HO3 := Lib.hid hown3
              have bx3 := blk_below hb3 (show w1.drew.heap[g]? = _ from HBX.out)
              have b3 := blk_cell (o := 0) bx3 rfl
              have l3 : g < w3.heap.size := blk_lt bx3
              have BX3 := Lib.hid bx3
              clear hown3 hb3 bx3
              go_simp
              refine hK.out _ _ (trivial) (fun hHeld => ?_)
              clear hK K
              try simp only [List.getElem_toArray, List.getElem_cons_zero, List.getElem_cons_succ, Act.put, List.setIfInBounds_toArray, List.set_cons_zero, List.set_cons_succ]
              refine wpAnyH_take (i := 9) (v := ?_) rfl (by kernel_rfl) (by kernel_rfl) (by kernel_rfl) (fun _ _ _ h => h) (Or.inl ⟨by rfl, ?_⟩) hHeld ?_
              rotate_left
              · intro w hSw
                (try dsimp only at hSw)
                go_simp
                try with_reducible rfl
              try simp only [List.getElem_toArray, List.getElem_cons_zero, List.getElem_cons_succ, Act.put, List.setIfInBounds_toArray, List.set_cons_zero, List.set_cons_succ]
              refine wpAnyH_ready (rs := [10]) (by kernel_rfl) (by simp) ?_
              refine AllReadyH.cons rfl (fun K hK => ?_) ?_
              · skip
                go_simp
                refine hK.out _ _ (trivial) (fun hHeld => ?_)
                clear hK K
                try simp only [List.getElem_toArray, List.getElem_cons_zero, List.getElem_cons_succ, Act.put, List.setIfInBounds_toArray, List.set_cons_zero, List.set_cons_succ]
                refine wpAnyH_ready (rs := [11]) (by kernel_rfl) (by simp) ?_
                refine AllReadyH.cons rfl (fun K hK => ?_) ?_
                · skip
                  go_simp
                  go_at_call 83
                  have hs3 : w1.heap.size ≤ w3.heap.size := HB3.out.size
                  have INS := InsItem_any base ps.length c i w3.heap.size A (ixCells xs) [.slice K1 row.length d1, .int .i64 t] (w3.alloc (.cells #[.slice K1 row.length d1, .int .i64 t] 54)) (own_below (own_below HROW.out HB3.out) (below_alloc _ _)) (by omega) (by omega) (heap_alloc_new w3 _) rfl (by intro u hu; simp at hu; rcases hu with rfl | rfl <;> rfl) (oneCell_ix xs) (by simp; omega) (fun e => by have h1 := (HROW.out.lt _ e).2; omega)
                  refine INS.mono ?_
                  clear INS
                  rintro e w5 ⟨A', c', rfl, hown5, hg5⟩
                  have bx5 := (hg5.block g (by simp; omega) (fun e => row_ne HROW.out HBX.out (by decide) e.symm)).trans (blk_below (below_alloc w3 _) BX3.out)
                  have b5 := blk_cell (o := 0) bx5 rfl
                  have f5 : w5.frozen? ⟨g, 0, none⟩ = false := frozen_of_row w5 g 0 _ _ bx5
                  have HFIN := Lib.hid (HIN.out.ins (p := ⟨row, t⟩) hil hbw1 HB3.out HO3.out (by rw [HXL.out]; exact hown5) (by rw [HXL.out]; exact hg5))
                  have HBX5 := Lib.hid bx5
                  have HBUT := Lib.hid (But.ins (g := g) HK1.out HB3.out hg5 (fun r hr => (HROW.out.lt r hr).1) (.slice A' (ps.length + 1) c'))
                  clear hown5 hg5 bx5 hs3
                  go_simp
                  refine hK.out _ _ (trivial) (fun hHeld => ?_)
                  clear hK K
                  try simp only [List.getElem_toArray, List.getElem_cons_zero, List.getElem_cons_succ, Act.put, List.setIfInBounds_toArray, List.set_cons_zero, List.set_cons_succ]
                  refine wpAnyH_take (i := 12) (v := ?_) rfl (by kernel_rfl) (by kernel_rfl) (by kernel_rfl) (fun _ _ _ h => h) (Or.inl ⟨by rfl, ?_⟩) hHeld ?_
                  rotate_left
                  · intro w hSw
                    (try dsimp only at hSw)
                    go_simp
                    try with_reducible rfl
                  try simp only [List.getElem_toArray, List.getElem_cons_zero, List.getElem_cons_succ, Act.put, List.setIfInBounds_toArray, List.set_cons_zero, List.set_cons_succ]
                  refine wpAnyH_take (i := 13) (v := ?_) rfl (by kernel_rfl) (by kernel_rfl) (by kernel_rfl) (fun _ _ _ h => h) (Or.inl ⟨by rfl, ?_⟩) hHeld ?_
                  rotate_left
                  · intro w hSw
                    (try dsimp only at hSw)
                    go_simp
                    try with_reducible rfl
                  try simp only [List.getElem_toArray, List.getElem_cons_zero, List.getElem_cons_succ, Act.put, List.setIfInBounds_toArray, List.set_cons_zero, List.set_cons_succ]
                  refine wpAnyH_ready (rs := [14]) (by kernel_rfl) (by simp) ?_
                  refine AllReadyH.cons rfl (fun K hK => ?_) ?_
                  · skip
                    go_simp
                    refine hK.out _ _ (trivial) (fun hHeld => ?_)
                    clear hK K
                    try simp only [List.getElem_toArray, List.getElem_cons_zero, List.getElem_cons_succ, Act.put, List.setIfInBounds_toArray, List.set_cons_zero, List.set_cons_succ]
                    refine wpAnyH_done (by kernel_rfl) ?_ _
                    clear b0
                    go_wp2
                    go_ret
                    refine ⟨by rw [HOKP.out]; rfl, HBUT.out, fun _ => ⟨A', c', ?_, ?_⟩⟩
                    · rw [HLEN.out]; exact blk_set1 HBX5.out
                    · refine ⟨_, ?_, HFIN.out.setBag HBX5.out⟩
                      rw [HLP.out]
                      simp only [List.map_append, List.map_take, List.map_drop, List.map_cons, HXS.out, List.append_assoc, List.singleton_append]
                  exact AllReadyH.nil
                exact AllReadyH.nil
              exact AllReadyH.nil
            exact AllReadyH.nil
          refine AllReadyH.cons rfl (fun K hK => ?_) ?_
          · skip
            go_simp
            go_at_call 81
            refine (slices_Clone_rd B d row w1.drew HRD.out hrl).mono ?_
            rintro e w3 ⟨K1, d1, rfl, hown3, hb3⟩
            have HB3 := Lib.hid (((Below.refl w1.heap.size w1).drew).trans hb3)
            have HO3 := Lib.hid hown3
            have bx3 := blk_below hb3 (show w1.drew.heap[g]? = _ from HBX.out)
            have b3 := blk_cell (o := 0) bx3 rfl
            have l3 : g < w3.heap.size := blk_lt bx3
            have BX3 := Lib.hid bx3
            clear hown3 hb3 bx3
            go_simp
            refine hK.out _ _ (trivial) (fun hHeld => ?_)
            clear hK K
            try simp only [List.getElem_toArray, List.getElem_cons_zero, List.getElem_cons_succ, Act.put, List.setIfInBounds_toArray, List.set_cons_zero, List.set_cons_succ]
            refine wpAnyH_take (i := 9) (v := ?_) rfl (by kernel_rfl) (by kernel_rfl) (by kernel_rfl) (fun _ _ _ h => h) (Or.inl ⟨by rfl, ?_⟩) hHeld ?_
            rotate_left
            · intro w hSw
              (try dsimp only at hSw)
              go_simp
              try with_reducible rfl
            try simp only [List.getElem_toArray, List.getElem_cons_zero, List.getElem_cons_succ, Act.put, List.setIfInBounds_toArray, List.set_cons_zero, List.set_cons_succ]
            refine wpAnyH_ready (rs := [4, 10]) (by kernel_rfl) (by simp) ?_
            refine AllReadyH.cons rfl (fun K hK => ?_) ?_
            · skip
              go_simp
              refine hK.out _ _ (trivial) (fun hHeld => ?_)
              clear hK K
              try simp only [List.getElem_toArray, List.getElem_cons_zero, List.getElem_cons_succ, Act.put, List.setIfInBounds_toArray, List.set_cons_zero, List.set_cons_succ]
              refine wpAnyH_ready (rs := [10]) (by kernel_rfl) (by simp) ?_
              refine AllReadyH.cons rfl (fun K hK => ?_) ?_
              · skip
                go_simp
                refine hK.out _ _ (trivial) (fun hHeld => ?_)
                clear hK K
                try simp only [List.getElem_toArray, List.getElem_cons_zero, List.getElem_cons_succ, Act.put, List.setIfInBounds_toArray, List.set_cons_zero, List.set_cons_succ]
                refine wpAnyH_ready (rs := [11]) (by kernel_rfl) (by simp) ?_
                refine AllReadyH.cons rfl (fun K hK => ?_) ?_
                · skip
                  go_simp
                  go_at_call 83
                  have hs3 : w1.heap.size ≤ w3.heap.size := HB3.out.size
                  have INS := InsItem_any base ps.length c i w3.heap.size A (ixCells xs) [.slice K1 row.length d1, .int .i64 t] (w3.alloc (.cells #[.slice K1 row.length d1, .int .i64 t] 54)) (own_below (own_below HROW.out HB3.out) (below_alloc _ _)) (by omega) (by omega) (heap_alloc_new w3 _) rfl (by intro u hu; simp at hu; rcases hu with rfl | rfl <;> rfl) (oneCell_ix xs) (by simp; omega) (fun e => by have h1 := (HROW.out.lt _ e).2; omega)
                  refine INS.mono ?_
                  clear INS
                  rintro e w5 ⟨A', c', rfl, hown5, hg5⟩
                  have bx5 := (hg5.block g (by simp; omega) (fun e => row_ne HROW.out HBX.out (by decide) e.symm)).trans (blk_below (below_alloc w3 _) BX3.out)
                  have b5 := blk_cell (o := 0) bx5 rfl
                  have f5 : w5.frozen? ⟨g, 0, none⟩ = false := frozen_of_row w5 g 0 _ _ bx5
                  have HFIN := Lib.hid (HIN.out.ins (p := ⟨row, t⟩) hil hbw1 HB3.out HO3.out (by rw [HXL.out]; exact hown5) (by rw [HXL.out]; exact hg5))
                  have HBX5 := Lib.hid bx5
                  have HBUT := Lib.hid (But.ins (g := g) HK1.out HB3.out hg5 (fun r hr => (HROW.out.lt r hr).1) (.slice A' (ps.length + 1) c'))
                  clear hown5 hg5 bx5 hs3
                  go_simp
                  refine hK.out _ _ (trivial) (fun hHeld => ?_)
                  clear hK K
                  try simp only [List.getElem_toArray, List.getElem_cons_zero, List.getElem_cons_succ, Act.put, List.setIfInBounds_toArray, List.set_cons_zero, List.set_cons_succ]
                  refine wpAnyH_take (i := 12) (v := ?_) rfl (by kernel_rfl) (by kernel_rfl) (by kernel_rfl) (fun _ _ _ h => h) (Or.inl ⟨by rfl, ?_⟩) hHeld ?_
                  rotate_left
                  · intro w hSw
                    (try dsimp only at hSw)
                    go_simp
                    try with_reducible rfl
                  try simp only [List.getElem_toArray, List.getElem_cons_zero, List.getElem_cons_succ, Act.put, List.setIfInBounds_toArray, List.set_cons_zero, List.set_cons_succ]
                  refine wpAnyH_take (i := 13) (v := ?_) rfl (by kernel_rfl) (by kernel_rfl) (by kernel_rfl) (fun _ _ _ h => h) (Or.inl ⟨by rfl, ?_⟩) hHeld ?_
                  rotate_left
                  · intro w hSw
                    (try dsimp only at hSw)
                    go_simp
                    try with_reducible rfl
                  try simp only [List.getElem_toArray, List.getElem_cons_zero, List.getElem_cons_succ, Act.put, List.setIfInBounds_toArray, List.set_cons_zero, List.set_cons_succ]
                  refine wpAnyH_ready (rs := [14]) (by kernel_rfl) (by simp) ?_
                  refine AllReadyH.cons rfl (fun K hK => ?_) ?_
                  · skip
                    go_simp
                    refine hK.out _ _ (trivial) (fun hHeld => ?_)
                    clear hK K
                    try simp only [List.getElem_toArray, List.getElem_cons_zero, List.getElem_cons_succ, Act.put, List.setIfInBounds_toArray, List.set_cons_zero, List.set_cons_succ]
                    refine wpAnyH_done (by kernel_rfl) ?_ _
                    clear b0
                    go_wp2
                    go_ret
                    refine ⟨by rw [HOKP.out]; rfl, HBUT.out, fun _ => ⟨A', c', ?_, ?_⟩⟩
                    · rw [HLEN.out]; exact blk_set1 HBX5.out
                    · refine ⟨_, ?_, HFIN.out.setBag HBX5.out⟩
                      rw [HLP.out]
                      simp only [List.map_append, List.map_take, List.map_drop, List.map_cons, HXS.out, List.append_assoc, List.singleton_append]
                  exact AllReadyH.nil
                exact AllReadyH.nil
              exact AllReadyH.nil
            refine AllReadyH.cons rfl (fun K hK => ?_) ?_
            · skip
              go_simp
              refine hK.out _ _ (trivial) (fun hHeld => ?_)
              clear hK K
              try simp only [List.getElem_toArray, List.getElem_cons_zero, List.getElem_cons_succ, Act.put, List.setIfInBounds_toArray, List.set_cons_zero, List.set_cons_succ]
              refine wpAnyH_ready (rs := [4]) (by kernel_rfl) (by simp) ?_
              refine AllReadyH.cons rfl (fun K hK => ?_) ?_
              · skip
                go_simp
                refine hK.out _ _ (trivial) (fun hHeld => ?_)
                clear hK K
                try simp only [List.getElem_toArray, List.getElem_cons_zero, List.getElem_cons_succ, Act.put, List.setIfInBounds_toArray, List.set_cons_zero, List.set_cons_succ]
                refine wpAnyH_ready (rs := [11]) (by kernel_rfl) (by simp) ?_
                refine AllReadyH.cons rfl (fun K hK => ?_) ?_
                · skip
                  go_simp
                  go_at_call 83
                  have hs3 : w1.heap.size ≤ w3.heap.size := HB3.out.size
                  have INS := InsItem_any base ps.length c i w3.heap.size A (ixCells xs) [.slice K1 row.length d1, .int .i64 t] (w3.alloc (.cells #[.slice K1 row.length d1, .int .i64 t] 54)) (own_below (own_below HROW.out HB3.out) (below_alloc _ _)) (by omega) (by omega) (heap_alloc_new w3 _) rfl (by intro u hu; simp at hu; rcases hu with rfl | rfl <;> rfl) (oneCell_ix xs) (by simp; omega) (fun e => by have h1 := (HROW.out.lt _ e).2; omega)
                  refine INS.mono ?_
                  clear INS
                  rintro e w5 ⟨A', c', rfl, hown5, hg5⟩
                  have bx5 := (hg5.block g (by simp; omega) (fun e => row_ne HROW.out HBX.out (by decide) e.symm)).trans (blk_below (below_alloc w3 _) BX3.out)
                  have b5 := blk_cell (o := 0) bx5 rfl
                  have f5 : w5.frozen? ⟨g, 0, none⟩ = false := frozen_of_row w5 g 0 _ _ bx5
                  have HFIN := Lib.hid (HIN.out.ins (p := ⟨row, t⟩) hil hbw1 HB3.out HO3.out (by rw [HXL.out]; exact hown5) (by rw [HXL.out]; exact hg5))
                  have HBX5 := Lib.hid bx5
                  have HBUT := Lib.hid (But.ins (g := g) HK1.out HB3.out hg5 (fun r hr => (HROW.out.lt r hr).1) (.slice A' (ps.length + 1) c'))
                  clear hown5 hg5 bx5 hs3
                  go_simp
                  refine hK.out _ _ (trivial) (fun hHeld => ?_)
                  clear hK K
                  try simp only [List.getElem_toArray, List.getElem_cons_zero, List.getElem_cons_succ, Act.put, List.setIfInBounds_toArray, List.set_cons_zero, List.set_cons_succ]
                  refine wpAnyH_take (i := 12) (v := ?_) rfl (by kernel_rfl) (by kernel_rfl) (by kernel_rfl) (fun _ _ _ h => h) (Or.inl ⟨by rfl, ?_⟩) hHeld ?_
                  rotate_left
                  · intro w hSw
                    (try dsimp only at hSw)
                    go_simp
                    try with_reducible rfl
                  try simp only [List.getElem_toArray, List.getElem_cons_zero, List.getElem_cons_succ, Act.put, List.setIfInBounds_toArray, List.set_cons_zero, List.set_cons_succ]
                  refine wpAnyH_take (i := 13) (v := ?_) rfl (by kernel_rfl) (by kernel_rfl) (by kernel_rfl) (fun _ _ _ h => h) (Or.inl ⟨by rfl, ?_⟩) hHeld ?_
                  rotate_left
                  · intro w hSw
                    (try dsimp only at hSw)
                    go_simp
                    try with_reducible rfl
                  try simp only [List.getElem_toArray, List.getElem_cons_zero, List.getElem_cons_succ, Act.put, List.setIfInBounds_toArray, List.set_cons_zero, List.set_cons_succ]
                  refine wpAnyH_ready (rs := [14]) (by kernel_rfl) (by simp) ?_
                  refine AllReadyH.cons rfl (fun K hK => ?_) ?_
                  · skip
                    go_simp
                    refine hK.out _ _ (trivial) (fun hHeld => ?_)
                    clear hK K
                    try simp only [List.getElem_toArray, List.getElem_cons_zero, List.getElem_cons_succ, Act.put, List.setIfInBounds_toArray, List.set_cons_zero, List.set_cons_succ]
                    refine wpAnyH_done (by kernel_rfl) ?_ _
                    clear b0
                    go_wp2
                    go_ret
                    refine ⟨by rw [HOKP.out]; rfl, HBUT.out, fun _ => ⟨A', c', ?_, ?_⟩⟩
                    · rw [HLEN.out]; exact blk_set1 HBX5.out
                    · refine ⟨_, ?_, HFIN.out.setBag HBX5.out⟩
                      rw [HLP.out]
                      simp only [List.map_append, List.map_take, List.map_drop, List.map_cons, HXS.out, List.append_assoc, List.singleton_append]
                  exact AllReadyH.nil
                exact AllReadyH.nil
              exact AllReadyH.nil
            exact AllReadyH.nil
          exact AllReadyH.nil
        · obtain ⟨hi2, he⟩ := HBB.out.1 rfl
          have hpr : ps[i].r = row := (cmpI_zero _ _).1 he
          have hix : i < xs.length := by omega
          have hxp : xs[i].p = ps[i] := by simp only [← HXS.out]; simp
          have hlp := lput_found ps row t i hi2 (fun j hj hji => (HORD.out j hj).1 hji) hpr
          have hit := (HOK.out.it (List.getElem_mem hi2)).2
          have hlen : (lput ps row t).length = xs.length := by rw [hlp]; simp; omega
          have HLP := Lib.hid hlp
          have HLEN := Lib.hid hlen
          have HOKP : Hid (PP (BgOk (lput ps row t)) = true) := Lib.hid (PP_yes (lput_ok HOK.out HR.out HF.out ⟨ht1, ht2⟩ (by omega)))
          obtain ⟨gB, cap, hv, hgB, _⟩ := HIN.out.row.form (by omega)
          injection hv with e1 e2 e3
          subst e1 e3
          have c1 := HIN.out.row.cellAt (i * 2 + 1) (by omega)
          rw [(ixCells_at xs i hix).2] at c1
          have fr1 := HIN.out.row.frozenAt (i * 2 + 1)
          have hgb2 : base ≤ gB := (HIN.out.row.lt gB rfl).1
          obtain ⟨x, hx⟩ : ∃ x, xs[i] = x := ⟨_, rfl⟩
          obtain ⟨y, hy⟩ : ∃ y, ps[i] = y := ⟨_, rfl⟩
          rw [hx] at c1 hxp
          rw [hy] at hxp hpr hit hlp
          obtain ⟨xp, K2, kc2⟩ := x
          simp only at hxp c1
          subst hxp
          obtain ⟨xr, xt⟩ := xp
          simp only at hpr hit hlp c1
          subst hpr
          have HLP2 := Lib.hid hlp
          have HX := Lib.hid hx
          have k0 : (0 : Int) ≤ (i : Int) := by omega
          have k2 : (i : Int) < (ps.length : Int) := by omega
          have HOD : Hid (OwnBx w1.drew base (some ⟨gB, 0, none⟩) c xs) := Lib.hid (HIN.out.keep (Below.refl _ _).drew)
          have hgne : g ≠ gB := fun e => row_ne HIN.out.row HBX.out (by decide) (by rw [e]; rfl)
          obtain ⟨v, hvv⟩ : ∃ v, xt + t = v := ⟨_, rfl⟩
          have hv0 : 2 ≤ v := by omega
          have hv1 : v ≤ 2000000 := by omega
          have HVV := Lib.hid hvv
          have hw : IntKind.i64.wrap v = v := IntWalk.i64_in _ (by omega)
          clear hlp hlen hx hy HIN hit
          obtain ⟨m, hmm, hmc⟩ : ∃ m, min v 1000000 = m ∧ ((v ≤ 1000000 ∧ m = v) ∨ (1000000 < v ∧ m = 1000000)) := ⟨_, rfl, by omega⟩
          have HFIN : Hid (OwnB (w1.drew.setCell ⟨gB, i * 2 + 1, none⟩ (.int .i64 m)) base (some ⟨gB, 0, none⟩) c (lput ps xr t)) := Lib.hid ⟨_, by
            rw [HLP2.out, ← HXS.out, HVV.out, hmm, List.map_set], HOD.out.count hix HX.out⟩
          have HBOX : Hid ((w1.drew.setCell ⟨gB, i * 2 + 1, none⟩ (.int .i64 m)).heap[g]? = some (.cells #[.slice (some ⟨gB, 0, none⟩) ps.length c] 29 (0, 0))) := Lib.hid (blk_set_ne (show w1.drew.heap[g]? = _ from HBX.out) hgne)
          have HBUT := Lib.hid (But.set (g := g) (j := i * 2 + 1) HK1.out hgb2 (.int .i64 m))
          rcases hmc with ⟨hm, rfl⟩ | ⟨hm, rfl⟩
          all_goals
            go_upto_region 5 with fail
            refine wp_region_held_drew (S := fun _ => True) (by kernel_rfl) (trivial) (fun hHeld => ?_)
            refine wpAnyH_take (i := 0) (v := ?_) rfl (by kernel_rfl) (by kernel_rfl) (by kernel_rfl) (fun _ _ _ h => h) (Or.inl ⟨by rfl, ?_⟩) hHeld ?_
            rotate_left
            · intro w hSw
              (try dsimp only at hSw)
              go_simp
              try with_reducible rfl
            try simp only [List.getElem_toArray, List.getElem_cons_zero, Act.put, List.setIfInBounds_toArray, List.set_cons_zero, List.set_cons_succ]
            refine wpAnyH_take (i := 1) (v := ?_) rfl (by kernel_rfl) (by kernel_rfl) (by kernel_rfl) (fun _ _ _ h => h) (Or.inl ⟨by rfl, ?_⟩) hHeld ?_
            rotate_left
            · intro w hSw
              (try dsimp only at hSw)
              go_simp
              try with_reducible rfl
            try simp only [List.getElem_toArray, List.getElem_cons_zero, List.getElem_cons_succ, Act.put, List.setIfInBounds_toArray, List.set_cons_zero, List.set_cons_succ]
            refine wpAnyH_take (i := 2) (v := ?_) rfl (by kernel_rfl) (by kernel_rfl) (by kernel_rfl) (fun _ _ _ h => h) (Or.inl ⟨by rfl, ?_⟩) hHeld ?_
            rotate_left
            · intro w hSw
              (try dsimp only at hSw)
              go_simp
              try with_reducible rfl
            try simp only [List.getElem_toArray, List.getElem_cons_zero, List.getElem_cons_succ, Act.put, List.setIfInBounds_toArray, List.set_cons_zero, List.set_cons_succ]
            refine wpAnyH_take (i := 4) (v := ?_) rfl (by kernel_rfl) (by kernel_rfl) (by kernel_rfl) (fun _ _ _ h => h) (Or.inl ⟨by rfl, ?_⟩) hHeld ?_
            rotate_left
            · intro w hSw
              (try dsimp only at hSw)
              go_simp
              try with_reducible rfl
            try simp only [List.getElem_toArray, List.getElem_cons_zero, List.getElem_cons_succ, Act.put, List.setIfInBounds_toArray, List.set_cons_zero, List.set_cons_succ]
            refine wpAnyH_take (i := 5) (v := ?_) rfl (by kernel_rfl) (by kernel_rfl) (by kernel_rfl) (fun _ _ _ h => h) (Or.inl ⟨by rfl, ?_⟩) hHeld ?_
            rotate_left
            · intro w hSw
              (try dsimp only at hSw)
              go_simp
              try with_reducible rfl
            try simp only [List.getElem_toArray, List.getElem_cons_zero, List.getElem_cons_succ, Act.put, List.setIfInBounds_toArray, List.set_cons_zero, List.set_cons_succ]
            refine wpAnyH_take (i := 6) (v := ?_) rfl (by kernel_rfl) (by kernel_rfl) (by kernel_rfl) (fun _ _ _ h => h) (Or.inl ⟨by rfl, ?_⟩) hHeld ?_
            rotate_left
            · intro w hSw
              (try dsimp only at hSw)
              go_simp
              try with_reducible rfl
            try simp only [List.getElem_toArray, List.getElem_cons_zero, List.getElem_cons_succ, Act.put, List.setIfInBounds_toArray, List.set_cons_zero, List.set_cons_succ]
            refine wpAnyH_take (i := 7) (v := ?_) rfl (by kernel_rfl) (by kernel_rfl) (by kernel_rfl) (fun _ _ _ h => h) (Or.inl ⟨by rfl, ?_⟩) hHeld ?_
            rotate_left
            · intro w hSw
              (try dsimp only at hSw)
              go_simp
              try with_reducible rfl
            try simp only [List.getElem_toArray, List.getElem_cons_zero, List.getElem_cons_succ, Act.put, List.setIfInBounds_toArray, List.set_cons_zero, List.set_cons_succ]
            refine wpAnyH_take (i := 9) (v := ?_) rfl (by kernel_rfl) (by kernel_rfl) (by kernel_rfl) (fun _ _ _ h => h) (Or.inl ⟨by rfl, ?_⟩) hHeld ?_
            rotate_left
            · intro w hSw
              (try dsimp only at hSw)
              go_simp
              try with_reducible rfl
            try simp only [List.getElem_toArray, List.getElem_cons_zero, List.getElem_cons_succ, Act.put, List.setIfInBounds_toArray, List.set_cons_zero, List.set_cons_succ]
            refine wpAnyH_take (i := 13) (v := ?_) rfl (by kernel_rfl) (by kernel_rfl) (by kernel_rfl) (fun _ _ _ h => h) (Or.inl ⟨by rfl, ?_⟩) hHeld ?_
            rotate_left
            · intro w hSw
              (try dsimp only at hSw)
              go_simp
              try with_reducible rfl
            try simp only [List.getElem_toArray, List.getElem_cons_zero, List.getElem_cons_succ, Act.put, List.setIfInBounds_toArray, List.set_cons_zero, List.set_cons_succ]
            refine wpAnyH_ready (rs := [3, 8]) (by kernel_rfl) (by simp) ?_
            refine AllReadyH.cons rfl (fun K hK => ?_) ?_
            · skip
              go_simp
              refine hK.out _ _ (trivial) (fun hHeld => ?_)
              clear hK K
              try simp only [List.getElem_toArray, List.getElem_cons_zero, List.getElem_cons_succ, Act.put, List.setIfInBounds_toArray, List.set_cons_zero, List.set_cons_succ]
              refine wpAnyH_ready (rs := [8]) (by kernel_rfl) (by simp) ?_
              refine AllReadyH.cons rfl (fun K hK => ?_) ?_
              · skip
                go_simp
                refine hK.out _ _ (trivial) (fun hHeld => ?_)
                clear hK K
                try simp only [List.getElem_toArray, List.getElem_cons_zero, List.getElem_cons_succ, Act.put, List.setIfInBounds_toArray, List.set_cons_zero, List.set_cons_succ]
                refine wpAnyH_take (i := 10) (v := ?_) rfl (by kernel_rfl) (by kernel_rfl) (by kernel_rfl) (fun _ _ _ h => h) (Or.inl ⟨by rfl, ?_⟩) hHeld ?_
                rotate_left
                · intro w hSw
                  (try dsimp only at hSw)
                  go_simp
                  try with_reducible rfl
                try simp only [List.getElem_toArray, List.getElem_cons_zero, List.getElem_cons_succ, Act.put, List.setIfInBounds_toArray, List.set_cons_zero, List.set_cons_succ]
                refine wpAnyH_take (i := 11) (v := ?_) rfl (by kernel_rfl) (by kernel_rfl) (by kernel_rfl) (fun _ _ _ h => h) (Or.inl ⟨by rfl, ?_⟩) hHeld ?_
                rotate_left
                · intro w hSw
                  (try dsimp only at hSw)
                  go_simp
                  try with_reducible rfl
                try simp only [List.getElem_toArray, List.getElem_cons_zero, List.getElem_cons_succ, Act.put, List.setIfInBounds_toArray, List.set_cons_zero, List.set_cons_succ]
                refine wpAnyH_ready (rs := [12]) (by kernel_rfl) (by simp) ?_
                refine AllReadyH.cons rfl (fun K hK => ?_) ?_
                · skip
                  go_simp
                  refine hK.out _ _ (trivial) (fun hHeld => ?_)
                  clear hK K
                  try simp only [List.getElem_toArray, List.getElem_cons_zero, List.getElem_cons_succ, Act.put, List.setIfInBounds_toArray, List.set_cons_zero, List.set_cons_succ]
                  refine wpAnyH_take (i := 14) (v := ?_) rfl (by kernel_rfl) (by kernel_rfl) (by kernel_rfl) (fun _ _ _ h => h) (Or.inl ⟨by rfl, ?_⟩) hHeld ?_
                  rotate_left
                  · intro w hSw
                    (try dsimp only at hSw)
                    go_simp
                    try with_reducible rfl
                  try simp only [List.getElem_toArray, List.getElem_cons_zero, List.getElem_cons_succ, Act.put, List.setIfInBounds_toArray, List.set_cons_zero, List.set_cons_succ]
                  refine wpAnyH_take (i := 15) (v := ?_) rfl (by kernel_rfl) (by kernel_rfl) (by kernel_rfl) (fun _ _ _ h => h) (Or.inl ⟨by rfl, ?_⟩) hHeld ?_
                  rotate_left
                  · intro w hSw
                    (try dsimp only at hSw)
                    go_simp
                    try with_reducible rfl
                  try simp only [List.getElem_toArray, List.getElem_cons_zero, List.getElem_cons_succ, Act.put, List.setIfInBounds_toArray, List.set_cons_zero, List.set_cons_succ]
                  refine wpAnyH_take (i := 16) (v := ?_) rfl (by kernel_rfl) (by kernel_rfl) (by kernel_rfl) (fun _ _ _ h => h) (Or.inl ⟨by rfl, ?_⟩) hHeld ?_
                  rotate_left
                  · intro w hSw
                    (try dsimp only at hSw)
                    go_simp
                    try with_reducible rfl
                  try simp only [List.getElem_toArray, List.getElem_cons_zero, List.getElem_cons_succ, Act.put, List.setIfInBounds_toArray, List.set_cons_zero, List.set_cons_succ]
                  refine wpAnyH_take (i := 17) (v := ?_) rfl (by kernel_rfl) (by kernel_rfl) (by kernel_rfl) (fun _ _ _ h => h) (Or.inl ⟨by rfl, ?_⟩) hHeld ?_
                  rotate_left
                  · intro w hSw
                    (try dsimp only at hSw)
                    go_simp
                    try with_reducible rfl
                  try simp only [List.getElem_toArray, List.getElem_cons_zero, List.getElem_cons_succ, Act.put, List.setIfInBounds_toArray, List.set_cons_zero, List.set_cons_succ]
                  refine wpAnyH_ready (rs := [18]) (by kernel_rfl) (by simp) ?_
                  refine AllReadyH.cons rfl (fun K hK => ?_) ?_
                  · skip
                    go_simp
                    refine hK.out _ _ (trivial) (fun hHeld => ?_)
                    clear hK K
                    try simp only [List.getElem_toArray, List.getElem_cons_zero, List.getElem_cons_succ, Act.put, List.setIfInBounds_toArray, List.set_cons_zero, List.set_cons_succ]
                    refine wpAnyH_done (by kernel_rfl) ?_ _
                    clear b0 c1
                    go_wp2
                    go_ret
                    refine ⟨by rw [HOKP.out]; rfl, ?_, fun _ => ?_⟩
                    · exact HBUT.out
                    · exact ⟨_, _, by rw [HLEN.out, HXL.out]; exact HBOX.out, HFIN.out⟩
                  exact AllReadyH.nil
                exact AllReadyH.nil
              exact AllReadyH.nil
            refine AllReadyH.cons rfl (fun K hK => ?_) ?_
            · skip
              go_simp
              refine hK.out _ _ (trivial) (fun hHeld => ?_)
              clear hK K
              try simp only [List.getElem_toArray, List.getElem_cons_zero, List.getElem_cons_succ, Act.put, List.setIfInBounds_toArray, List.set_cons_zero, List.set_cons_succ]
              refine wpAnyH_take (i := 10) (v := ?_) rfl (by kernel_rfl) (by kernel_rfl) (by kernel_rfl) (fun _ _ _ h => h) (Or.inl ⟨by rfl, ?_⟩) hHeld ?_
              rotate_left
              · intro w hSw
                (try dsimp only at hSw)
                go_simp
                try with_reducible rfl
              try simp only [List.getElem_toArray, List.getElem_cons_zero, List.getElem_cons_succ, Act.put, List.setIfInBounds_toArray, List.set_cons_zero, List.set_cons_succ]
              refine wpAnyH_take (i := 11) (v := ?_) rfl (by kernel_rfl) (by kernel_rfl) (by kernel_rfl) (fun _ _ _ h => h) (Or.inl ⟨by rfl, ?_⟩) hHeld ?_
              rotate_left
              · intro w hSw
                (try dsimp only at hSw)
                go_simp
                try with_reducible rfl
              try simp only [List.getElem_toArray, List.getElem_cons_zero, List.getElem_cons_succ, Act.put, List.setIfInBounds_toArray, List.set_cons_zero, List.set_cons_succ]
              refine wpAnyH_ready (rs := [3, 12]) (by kernel_rfl) (by simp) ?_
              refine AllReadyH.cons rfl (fun K hK => ?_) ?_
              · skip
                go_simp
                refine hK.out _ _ (trivial) (fun hHeld => ?_)
                clear hK K
                try simp only [List.getElem_toArray, List.getElem_cons_zero, List.getElem_cons_succ, Act.put, List.setIfInBounds_toArray, List.set_cons_zero, List.set_cons_succ]
                refine wpAnyH_ready (rs := [12]) (by kernel_rfl) (by simp) ?_
                refine AllReadyH.cons rfl (fun K hK => ?_) ?_
                · skip
                  go_simp
                  refine hK.out _ _ (trivial) (fun hHeld => ?_)
                  clear hK K
                  try simp only [List.getElem_toArray, List.getElem_cons_zero, List.getElem_cons_succ, Act.put, List.setIfInBounds_toArray, List.set_cons_zero, List.set_cons_succ]
                  refine wpAnyH_take (i := 14) (v := ?_) rfl (by kernel_rfl) (by kernel_rfl) (by kernel_rfl) (fun _ _ _ h => h) (Or.inl ⟨by rfl, ?_⟩) hHeld ?_
                  rotate_left
                  · intro w hSw
                    (try dsimp only at hSw)
                    go_simp
                    try with_reducible rfl
                  try simp only [List.getElem_toArray, List.getElem_cons_zero, List.getElem_cons_succ, Act.put, List.setIfInBounds_toArray, List.set_cons_zero, List.set_cons_succ]
                  refine wpAnyH_take (i := 15) (v := ?_) rfl (by kernel_rfl) (by kernel_rfl) (by kernel_rfl) (fun _ _ _ h => h) (Or.inl ⟨by rfl, ?_⟩) hHeld ?_
                  rotate_left
                  · intro w hSw
                    (try dsimp only at hSw)
                    go_simp
                    try with_reducible rfl
                  try simp only [List.getElem_toArray, List.getElem_cons_zero, List.getElem_cons_succ, Act.put, List.setIfInBounds_toArray, List.set_cons_zero, List.set_cons_succ]
                  refine wpAnyH_take (i := 16) (v := ?_) rfl (by kernel_rfl) (by kernel_rfl) (by kernel_rfl) (fun _ _ _ h => h) (Or.inl ⟨by rfl, ?_⟩) hHeld ?_
                  rotate_left
                  · intro w hSw
                    (try dsimp only at hSw)
                    go_simp
                    try with_reducible rfl
                  try simp only [List.getElem_toArray, List.getElem_cons_zero, List.getElem_cons_succ, Act.put, List.setIfInBounds_toArray, List.set_cons_zero, List.set_cons_succ]
                  refine wpAnyH_take (i := 17) (v := ?_) rfl (by kernel_rfl) (by kernel_rfl) (by kernel_rfl) (fun _ _ _ h => h) (Or.inl ⟨by rfl, ?_⟩) hHeld ?_
                  rotate_left
                  · intro w hSw
                    (try dsimp only at hSw)
                    go_simp
                    try with_reducible rfl
                  try simp only [List.getElem_toArray, List.getElem_cons_zero, List.getElem_cons_succ, Act.put, List.setIfInBounds_toArray, List.set_cons_zero, List.set_cons_succ]
                  refine wpAnyH_ready (rs := [18]) (by kernel_rfl) (by simp) ?_
                  refine AllReadyH.cons rfl (fun K hK => ?_) ?_
                  · skip
                    go_simp
                    refine hK.out _ _ (trivial) (fun hHeld => ?_)
                    clear hK K
                    try simp only [List.getElem_toArray, List.getElem_cons_zero, List.getElem_cons_succ, Act.put, List.setIfInBounds_toArray, List.set_cons_zero, List.set_cons_succ]
                    refine wpAnyH_done (by kernel_rfl) ?_ _
                    clear b0 c1
                    go_wp2
                    go_ret
                    refine ⟨by rw [HOKP.out]; rfl, ?_, fun _ => ?_⟩
                    · exact HBUT.out
                    · exact ⟨_, _, by rw [HLEN.out, HXL.out]; exact HBOX.out, HFIN.out⟩
                  exact AllReadyH.nil
                exact AllReadyH.nil
              refine AllReadyH.cons rfl (fun K hK => ?_) ?_
              · skip
                go_simp
                refine hK.out _ _ (trivial) (fun hHeld => ?_)
                clear hK K
                try simp only [List.getElem_toArray, List.getElem_cons_zero, List.getElem_cons_succ, Act.put, List.setIfInBounds_toArray, List.set_cons_zero, List.set_cons_succ]
                refine wpAnyH_take (i := 14) (v := ?_) rfl (by kernel_rfl) (by kernel_rfl) (by kernel_rfl) (fun _ _ _ h => h) (Or.inl ⟨by rfl, ?_⟩) hHeld ?_
                rotate_left
                · intro w hSw
                  (try dsimp only at hSw)
                  go_simp
                  try with_reducible rfl
                try simp only [List.getElem_toArray, List.getElem_cons_zero, List.getElem_cons_succ, Act.put, List.setIfInBounds_toArray, List.set_cons_zero, List.set_cons_succ]
                refine wpAnyH_take (i := 15) (v := ?_) rfl (by kernel_rfl) (by kernel_rfl) (by kernel_rfl) (fun _ _ _ h => h) (Or.inl ⟨by rfl, ?_⟩) hHeld ?_
                rotate_left
                · intro w hSw
                  (try dsimp only at hSw)
                  go_simp
                  try with_reducible rfl
                try simp only [List.getElem_toArray, List.getElem_cons_zero, List.getElem_cons_succ, Act.put, List.setIfInBounds_toArray, List.set_cons_zero, List.set_cons_succ]
                refine wpAnyH_ready (rs := [3]) (by kernel_rfl) (by simp) ?_
                refine AllReadyH.cons rfl (fun K hK => ?_) ?_
                · skip
                  go_simp
                  refine hK.out _ _ (trivial) (fun hHeld => ?_)
                  clear hK K
                  try simp only [List.getElem_toArray, List.getElem_cons_zero, List.getElem_cons_succ, Act.put, List.setIfInBounds_toArray, List.set_cons_zero, List.set_cons_succ]
                  refine wpAnyH_take (i := 16) (v := ?_) rfl (by kernel_rfl) (by kernel_rfl) (by kernel_rfl) (fun _ _ _ h => h) (Or.inl ⟨by rfl, ?_⟩) hHeld ?_
                  rotate_left
                  · intro w hSw
                    (try dsimp only at hSw)
                    go_simp
                    try with_reducible rfl
                  try simp only [List.getElem_toArray, List.getElem_cons_zero, List.getElem_cons_succ, Act.put, List.setIfInBounds_toArray, List.set_cons_zero, List.set_cons_succ]
                  refine wpAnyH_take (i := 17) (v := ?_) rfl (by kernel_rfl) (by kernel_rfl) (by kernel_rfl) (fun _ _ _ h => h) (Or.inl ⟨by rfl, ?_⟩) hHeld ?_
                  rotate_left
                  · intro w hSw
                    (try dsimp only at hSw)
                    go_simp
                    try with_reducible rfl
                  try simp only [List.getElem_toArray, List.getElem_cons_zero, List.getElem_cons_succ, Act.put, List.setIfInBounds_toArray, List.set_cons_zero, List.set_cons_succ]
                  refine wpAnyH_ready (rs := [18]) (by kernel_rfl) (by simp) ?_
                  refine AllReadyH.cons rfl (fun K hK => ?_) ?_
                  · skip
                    go_simp
                    refine hK.out _ _ (trivial) (fun hHeld => ?_)
                    clear hK K
                    try simp only [List.getElem_toArray, List.getElem_cons_zero, List.getElem_cons_succ, Act.put, List.setIfInBounds_toArray, List.set_cons_zero, List.set_cons_succ]
                    refine wpAnyH_done (by kernel_rfl) ?_ _
                    clear b0 c1
                    go_wp2
                    go_ret
                    refine ⟨by rw [HOKP.out]; rfl, ?_, fun _ => ?_⟩
                    · exact HBUT.out
                    · exact ⟨_, _, by rw [HLEN.out, HXL.out]; exact HBOX.out, HFIN.out⟩
                  exact AllReadyH.nil
                exact AllReadyH.nil
              exact AllReadyH.nil
            exact AllReadyH.nil
    · have hn : ¬ BgOk (lput ps row t) := (lput_wide hf).no
      have HN := Lib.hid hn
      have hz : 0 < ps.length := by
        rcases Nat.eq_zero_or_pos ps.length with h | h
        · exact absurd (fun h2 => by omega) hf
        · exact h
      obtain ⟨gA, cap, hv, _, _⟩ := hin.row.form (by omega)
      injection hv with e1 e2 e3
      subst e1 e3
      have c0 := hin.row.cellAt 0 (by omega)
      have h0 : 0 < xs.length := by omega
      have a0 := (ixCells_at xs 0 h0).1
      simp only [Nat.zero_mul] at a0
      rw [a0] at c0
      have hp : xs[0].p = ps[0] := by simp only [← HXS.out]; simp
      obtain ⟨x, hx⟩ : ∃ x, xs[0] = x := ⟨_, rfl⟩
      rw [hx] at c0 hp
      obtain ⟨xp, K2, kc2⟩ := x
      simp only at hp
      unfold ItX.v at c0
      simp only at c0
      have hne : xp.r.length ≠ row.length := by
        intro e
        refine hf (fun h => ?_)
        rw [← hp]
        exact e
      have z1 : ((xp.r.length : Int) != (row.length : Int)) = true := by rw [bne_iff_ne]; omega
      have z2 : decide ((0 : Int) < (ps.length : Int)) = true := decide_eq_true (by omega)
      have z3 : decide (0 < ps.length) = true := decide_eq_true (by omega)
      have z4 : (0 : Int) < (ps.length : Int) := by omega
      clear hf hn hx hp hne hin a0 PL
      go_enter Try.func63, Try.ntmps63
      go_wp2_with fail
      refine RO.out.mono ?_
      rintro e w0 ⟨rfl, rfl⟩
      go_wp2
      go_ret
      exact PutB.no HN.out (Below.refl _ _)
  · rw [PP_no hr] at RO
    have hn : ¬ BgOk (lput ps row t) := lput_bad hr
    have HN := Lib.hid hn
    clear hr hn hin PL
    go_enter Try.func63, Try.ntmps63
    go_wp2_with fail
    refine RO.out.mono ?_
    rintro e w0 ⟨rfl, rfl⟩
    go_wp2
    go_ret
    exact PutB.no HN.out (Below.refl _ _)
end Go.Proofs.Ytdikkfhdogkniaa
