/- spec.l03Draw: a drawn bag is right, and its rows are the call's own. No conditions but the width. Printed by xdrawb.py. -/
import Derived.Test.YtdikkfhdogkniaaSPutQ
import Derived.Test.YtdikkfhdogkniaaDraw
namespace Go.Proofs.Ytdikkfhdogkniaa
open Go.RowKit

theorem OwnQ.cur {w0 w w' : World} {base c g : Nat} {A : Option Addr} {ps : List It} (h : OwnQ w base A c ps) (hc : CurAt w0 g w) (hg : w.grownBy w' (some g)) : OwnQ w' base A c ps := by
  obtain ⟨_, _, _, _, _, _, _, _, _, hq⟩ := hc
  exact h.kept hg hq (by decide) (by decide)
/-- A drawn bag so far: k rows were put. -/
def DOk (wide k : Nat) (ps : List It) : Prop := BgOk ps ∧ ps.length ≤ k ∧ ∀ p ∈ ps, p.r.length = wide ∧ p.t ≤ 3 * k ∧ ∀ v ∈ p.r, v ≤ 3
theorem DOk.nil (wide : Nat) : DOk wide 0 [] := ⟨BgOk.nil, Nat.le_refl _, by simp⟩
theorem DOk.mono {wide k k' : Nat} {ps : List It} (h : DOk wide k ps) (hk : k ≤ k') : DOk wide k' ps := ⟨h.1, Nat.le_trans h.2.1 hk, fun p hp => by have := h.2.2 p hp; exact ⟨this.1, by omega, this.2.2⟩⟩
theorem DOk.put {wide k : Nat} {ps : List It} {row : List Int} {t : Int} (h : DOk wide k ps) (hr : row.length = wide) (hv : ∀ v ∈ row, 0 ≤ v ∧ v ≤ 3) (ht : 1 ≤ t ∧ t ≤ 3) (hk : k ≤ 7) (hw : wide ≤ 3) : DOk wide (k + 1) (lput ps row t) := by
  have hl := (lput_len row t ps).2
  have h2 := h.2.1
  refine ⟨lput_ok h.1 ⟨by omega, fun v hh => by have := hv v hh; omega⟩ (fun h0 => by rw [hr]; exact (h.2.2 _ (List.getElem_mem h0)).1) (by omega) (by omega), by omega, fun p hp => ?_⟩
  rcases lput_mem row t ps p hp with h1 | h1 | ⟨x, h1, h3, h4⟩
  · have := h.2.2 p h1; exact ⟨this.1, by omega, this.2.2⟩
  · rw [h1]; exact ⟨hr, by show t ≤ _; omega, fun v hh => (hv v hh).2⟩
  · have := h.2.2 x h1
    rw [h4]
    refine ⟨hr, ?_, fun v hh => (hv v hh).2⟩
    show min (x.t + t) 1000000 ≤ _
    omega
/-- What the drawing of a bag keeps. -/
structure DS (w0 : World) (g : Nat) (w : World) (A : Option Addr) (c : Nat) (ps : List It) (W : World) : Prop where
  lt : g < w.heap.size
  box : W.heap[w.heap.size + 1]? = some (.cells #[.slice A ps.length c] 29 (0, 0))
  res : W.heap[w.heap.size]? = some (.cells #[.slice none 0 0] 29 (0, 0))
  own : OwnQ W w.heap.size A c ps
  cur : CurAt w0 g W
  bel : Below w0.heap.size w0 W
  grow : w.grownBy W (some g)
theorem DS.keep {w0 w W W' : World} {g c : Nat} {A : Option Addr} {ps : List It} (h : DS w0 g w A c ps W) (hb : Below W.heap.size W W') : DS w0 g w A c ps W' :=
  ⟨h.lt, blk_below hb h.box, blk_below hb h.res, h.own.keep hb, h.cur.below hb, below_step h.bel hb, only_below h.grow hb⟩
theorem DS.draw {w0 w W W' : World} {g c : Nat} {A : Option Addr} {ps : List It} (h : DS w0 g w A c ps W) (hg : W.grownBy W' (some g)) (hc : CurAt w0 g W') : DS w0 g w A c ps W' := by
  have := h.lt
  exact ⟨h.lt, (hg.block _ (blk_lt h.box) (fun e => by injection e with e; omega)).trans h.box, (hg.block _ (blk_lt h.res) (fun e => by injection e with e; omega)).trans h.res, h.own.cur h.cur hg, hc, below_only h.bel hg hc.ge, only_trans h.grow hg⟩
/-- The bag is put into its variable anew. -/
theorem DS.set {w0 w W W' : World} {g c c' : Nat} {A A' : Option Addr} {ps ps' : List It} (h : DS w0 g w A c ps W) (hb : Below W.heap.size W W') (ho : OwnQ W' w.heap.size A' c' ps') : DS w0 g w A' c' ps' (W'.setCell ⟨w.heap.size + 1, 0, none⟩ (.slice A' ps'.length c')) := by
  have h2 := h.keep hb
  have hl := h.lt
  have hg' : W'.grownBy (W'.setCell ⟨w.heap.size + 1, 0, none⟩ (.slice A' ps'.length c')) (some (w.heap.size + 1)) := ⟨rfl, rfl, rfl, by simp [World.setCell], fun i _ hi => Below.heap_setCell _ _ _ _ (fun h => hi (by rw [h]))⟩
  exact ⟨h.lt, blk_set1 h2.box, blk_set_ne h2.res (by omega), ho.kept hg' h2.box (by decide) (by decide), h2.cur.grown hg' (fun e => by injection e with e; omega), h2.bel.setCell (by show w0.heap.size ≤ w.heap.size + 1; have := h.cur.ge; omega) _, ⟨h2.grow.os, h2.grow.tape, h2.grow.output, by have := h2.grow.size; simpa using this, fun i hi hne => (Below.heap_setCell _ _ _ _ (by show i ≠ w.heap.size + 1; omega)).trans (h2.grow.block i hi hne)⟩⟩
/-- What the drawing of a bag leaves. -/
def DrawnBag (wide : Nat) (w0 : World) (g : Nat) (w : World) (e : Ending) (w' : World) : Prop :=
  ∃ A c ps, e = .returned (.agg #[.slice A ps.length c]) ∧ DOk wide 7 ps ∧ OwnQ w' w.heap.size A c ps ∧ CurAt w0 g w' ∧ w.grownBy w' (some g) ∧ Below w0.heap.size w0 w'
theorem DS.made {w0 w W : World} {g c wide k : Nat} {A : Option Addr} {ps : List It} (h : DS w0 g w A c ps W) (hd : DOk wide k ps) (hk : k ≤ 7) : DrawnBag wide w0 g w (.returned (.agg #[.slice A ps.length c])) (W.setCell ⟨w.heap.size, 0, none⟩ (.slice A ps.length c)) := by
  have hl := h.lt
  have hg' : W.grownBy (W.setCell ⟨w.heap.size, 0, none⟩ (.slice A ps.length c)) (some w.heap.size) := ⟨rfl, rfl, rfl, by simp [World.setCell], fun i _ hi => Below.heap_setCell _ _ _ _ (fun h => hi (by rw [h]))⟩
  exact ⟨A, c, ps, rfl, hd.mono hk, h.own.kept hg' h.res (by decide) (by decide), h.cur.grown hg' (fun e => by injection e with e; omega), ⟨h.grow.os, h.grow.tape, h.grow.output, by have := h.grow.size; simpa using this, fun i hi hne => (Below.heap_setCell _ _ _ _ (by show i ≠ w.heap.size; omega)).trans (h.grow.block i hi hne)⟩, h.bel.setCell (by show w0.heap.size ≤ w.heap.size; have := h.cur.ge; omega) _⟩

set_option maxRecDepth 100000 in
set_option maxHeartbeats 6400000 in
theorem l03Draw_any (wide : Nat) (w0 : World) (g : Nat) (w : World) (hw : wide ≤ 3) (hcur : CurAt w0 g w) (hB : Below w0.heap.size w0 w) :
    Calls Try.prog 65 #[.pointer (some ⟨g, 0, none⟩), .int .i64 wide] w (DrawnBag wide w0 g w) := by
  obtain ⟨j0, hj, jz0, jz1, jz2⟩ := info_parts Try.infoInt
  have C8 := Lib.hid (fun w h1 h2 => l01Below_any w0 g w 8 (by omega) h1 h2)
  have C4 := Lib.hid (fun w h1 h2 => l01Below_any w0 g w 4 (by omega) h1 h2)
  have C3 := Lib.hid (fun w h1 h2 => l01Below_any w0 g w 3 (by omega) h1 h2)
  have HS : Hid (DS w0 g w none 0 [] ((w.alloc (.cells #[.slice none 0 0] 29)).alloc (.cells #[.slice none 0 0] 29))) := Lib.hid (by
    have ka := below_alloc w (.cells #[.slice none 0 0] 29)
    have kb := below_alloc (w.alloc (.cells #[.slice none 0 0] 29)) (.cells #[.slice none 0 0] 29)
    have q := heap_alloc_new (w.alloc (.cells #[.slice none 0 0] 29)) (.cells #[.slice none 0 0] 29)
    rw [show (w.alloc (.cells #[.slice none 0 0] 29)).heap.size = w.heap.size + 1 by simp] at q
    exact ⟨hcur.lt, q, blk_below kb (heap_alloc_new w _), OwnQ.nil _ _, (hcur.below ka).below kb, below_step (below_step hB ka) kb, only_below2 (below_step ka kb)⟩)
  clear hcur
  go_enter Try.func65, Try.ntmps65
  go_wp2
  go_loopw [6] (fun i wr => ∃ (k : Nat) (A : Option Addr) (c : Nat) (ps : List It), k ≤ 7 ∧ i = .int .i64 k ∧ Hid (DOk wide k ps) ∧ DS w0 g w A c ps wr) (fun i _ => 8 - (intOf i).toNat)
  case atStart => exact ⟨0, none, 0, [], by omega, rfl, Lib.hid (DOk.nil _), HS.out⟩
  case round =>
    clear HS
    obtain ⟨k, A, c, ps, hk, rfl, HD, hds⟩ := hrel
    go_wp2_with fail
    refine (C8.out _ hds.cur hds.bel).mono ?_
    rintro e w3 ⟨y, rfl, ⟨hy0, hy1⟩, hc3, hg3⟩
    have hds3 := hds.draw hg3 hc3
    clear hds hc3 hg3
    have hy2 : y ≤ 7 := by omega
    clear hy1
    by_cases hlt : (k : Int) < y
    · have HDS := Lib.hid hds3
      have hs3 := blk_lt hds3.box
      have HO0 : Hid ((w3.alloc (.cells #[] 3)).ownsRow w3.heap.size 3 1 (.slice (some ⟨w3.heap.size, 0, none⟩) 0 0) 0 []) := Lib.hid (World.ownsRow_made w3 #[] 0 (Nat.le_refl _) (by unfold maxLen; omega) rfl)
      have K0 := Lib.hid (below_alloc w3 (.cells #[] 3))
      clear hds3
      go_wp2
      go_loopw [7, 8] (fun v j wi => ∃ (m : Nat) (vs : List Int), m ≤ wide ∧ j = .int .i64 m ∧ vs.length ≤ m ∧ m ≤ vs.length ∧ Hid (∀ x ∈ vs, 0 ≤ x ∧ x ≤ 3) ∧ wi.ownsRow w3.heap.size 3 1 v vs.length (vs.map (Value.int .i64)) ∧ CurAt w0 g wi ∧ w3.grownBy wi (some g) ∧ Below w0.heap.size w0 wi) (fun _ j _ => wide - (intOf j).toNat)
      case atStart => exact ⟨0, [], Nat.zero_le _, rfl, Nat.zero_le _, Nat.zero_le _, Lib.hid (by simp), HO0.out, HDS.out.cur.below K0.out, only_below2 K0.out, below_step HDS.out.bel K0.out⟩
      case round =>
        obtain ⟨m, vs, hm, rfl, hv1, hv2, HV, hown, hc, hgr, hb⟩ := hrel
        by_cases hmt : m < wide
        · have m0 : (m : Int) < (wide : Int) := by omega
          have hgl3 : g < w3.heap.size := HDS.out.cur.lt
          go_wp2_with fail
          refine (C4.out _ hc hb).mono ?_
          rintro e w4 ⟨x, rfl, ⟨hx0, hx1⟩, hc4, hg4⟩
          have hb4 := below_only hb hg4 hc4.ge
          have hown4 := own_only hown hg4 hgl3
          have hgr4 := only_trans hgr hg4
          have hs4 := hgr4.size
          have hx3 : x ≤ 3 := by omega
          have HOW := Lib.hid hown4
          have HC4 := Lib.hid hc4
          have HG4 := Lib.hid hgr4
          have HB4 := Lib.hid hb4
          clear hx1 hown hc hb hgr hg4 hown4 hc4 hgr4 hb4
          go_wp2_with (first
            | (at_builtin
               refine wpList_append_any _ rfl (.tmp 22) (.tmp 25) 40 rfl w3.heap.size 3 j0 _ 1 8 Try.underlying40 hj jz0 jz1 jz2 rfl (by decide) _ vs.length _ rfl (own_below HOW.out (below_alloc _ _)) (some ⟨w4.heap.size, 0, none⟩) 1 1 [.int .i64 x] rfl (Rd.new w4 #[.int .i64 x] 3 rfl rfl) (by intro u hu; simp at hu; subst hu; rfl) (by unfold maxLen; omega) (by omega) (by simp; omega) ?_
               intro v1 w5 hown5 hg5 _))
          have HO5 := Lib.hid hown5
          have HG5 := Lib.hid (only_row (only_alloc HG4.out (.cells #[.int .i64 x] 3)) hg5 (fun r hr => (HOW.out.lt r hr).1))
          have HC5 : Hid (CurAt w0 g w5) := Lib.hid ((HC4.out.below (below_alloc w4 (.cells #[.int .i64 x] 3))).grown hg5 (fun e => by have := (HOW.out.lt g e.symm).1; omega))
          have HB5 : Hid (Below w0.heap.size w0 w5) := Lib.hid ((HB4.out.alloc HB4.out.size _).grown hg5 (by simp; have := HB4.out.size; omega) (fun r hr => by have := (HOW.out.lt r hr).1; have := HDS.out.bel.size; omega))
          clear hown5 hg5
          go_roundw
          case rel =>
            refine ⟨m + 1, vs ++ [x], by omega, by go_num, by simp; omega, by simp; omega, Lib.hid (fun z hz => by
              rcases List.mem_append.1 hz with h | h
              · exact HV.out z h
              · simp only [List.mem_cons, List.not_mem_nil, or_false] at h; subst h; exact ⟨hx0, hx3⟩), ?_, HC5.out, HG5.out, HB5.out⟩
            rw [List.map_append, List.length_append]
            exact HO5.out
          case measure => simp [intOf]; omega
        · have hvl : vs.length = wide := by omega
          have hds5 := HDS.out.draw hgr hc
          obtain ⟨Kr, cr, rfl, _, _⟩ := own_slice hown
          have hds5' := Lib.hid hds5
          have HVL := Lib.hid hvl
          have hvl3 : vs.length ≤ 3 := by omega
          have b0 := blk_cell (o := 0) hds5.box rfl
          have hsz5 := blk_lt hds5.box
          have hdr : Hid (DS w0 g w A c ps wr.drew) := Lib.hid (hds5.keep (Below.refl _ _).drew)
          have HOWN : Hid (wr.drew.ownsRow w3.heap.size 3 1 (.slice Kr vs.length cr) vs.length (vs.map (Value.int .i64))) := Lib.hid hown
          have b0' : wr.drew.cell? ⟨w.heap.size + 1, 0, none⟩ = some (.slice A ps.length c) := b0
          have hm0 : ¬ (m : Int) < (wide : Int) := by omega
          have hgl3 : g < w3.heap.size := HDS.out.cur.lt
          have hpsl := HD.out.2.1
          clear hown hc hgr hb hds5 HO0 K0 hvl hds5'
          go_upto_region 10 with fail
          refine wp_region_held_drew (S := fun _ => True) (by kernel_rfl) (trivial) (fun hHeld => ?_)
          refine wpAnyH_take (i := 1) (v := ?_) rfl (by kernel_rfl) (by kernel_rfl) (by kernel_rfl) (fun _ _ _ h => h) (Or.inl ⟨by rfl, ?_⟩) hHeld ?_
          rotate_left
          · intro w hSw
            (try dsimp only at hSw)
            go_simp
            try with_reducible rfl
          try simp only [List.getElem_toArray, List.getElem_cons_zero, List.getElem_cons_succ, Act.put, List.setIfInBounds_toArray, List.set_cons_zero, List.set_cons_succ]
          refine wpAnyH_take (i := 2) (v := ?_) rfl (by kernel_rfl) (by kernel_rfl) (by kernel_rfl) (fun _ _ _ h => h) (Or.inl ⟨by rfl, ?_⟩) hHeld ?_
          rotate_left
          · intro w hSw
            (try dsimp only at hSw)
            go_simp
            try with_reducible rfl
          try simp only [List.getElem_toArray, List.getElem_cons_zero, List.getElem_cons_succ, Act.put, List.setIfInBounds_toArray, List.set_cons_zero, List.set_cons_succ]
          refine wpAnyH_ready (rs := [0, 3]) (by kernel_rfl) (by simp) ?_
          refine AllReadyH.cons rfl (fun K hK => ?_) ?_
          · skip
            go_simp
            refine hK.out _ _ (trivial) (fun hHeld => ?_)
            clear hK K
            try simp only [List.getElem_toArray, List.getElem_cons_zero, Act.put, List.setIfInBounds_toArray, List.set_cons_zero, List.set_cons_succ]
            refine wpAnyH_ready (rs := [3]) (by kernel_rfl) (by simp) ?_
            refine AllReadyH.cons rfl (fun K hK => ?_) ?_
            · skip
              go_simp
              go_at_call 67
              refine (C3.out _ hdr.out.cur hdr.out.bel).mono ?_
              rintro e w6 ⟨z, rfl, ⟨hz0, hz1⟩, hc6, hg6⟩
              have hds6 := hdr.out.draw hg6 hc6
              have b6 := blk_cell (o := 0) hds6.box rfl
              have hz2 : z ≤ 2 := by omega
              have hw6 : IntKind.i64.wrap (1 + z) = 1 + z := IntWalk.i64_in _ (by omega)
              have HR6 := Lib.hid (Rd.of_own (own_only HOWN.out hg6 hgl3) : RdI w6 Kr vs.length vs)
              have HS6 := Lib.hid hds6
              have hsz6 := blk_lt hds6.box
              clear hc6 hg6 hds6 hz1
              go_simp
              refine hK.out _ _ (trivial) (fun hHeld => ?_)
              clear hK K
              try simp only [List.getElem_toArray, List.getElem_cons_zero, List.getElem_cons_succ, Act.put, List.setIfInBounds_toArray, List.set_cons_zero, List.set_cons_succ]
              refine wpAnyH_take (i := 4) (v := ?_) rfl (by kernel_rfl) (by kernel_rfl) (by kernel_rfl) (fun _ _ _ h => h) (Or.inl ⟨by rfl, ?_⟩) hHeld ?_
              rotate_left
              · intro w hSw
                (try dsimp only at hSw)
                go_simp
                try with_reducible rfl
              try simp only [List.getElem_toArray, List.getElem_cons_zero, List.getElem_cons_succ, Act.put, List.setIfInBounds_toArray, List.set_cons_zero, List.set_cons_succ]
              refine wpAnyH_ready (rs := [5]) (by kernel_rfl) (by simp) ?_
              refine AllReadyH.cons rfl (fun K hK => ?_) ?_
              · skip
                go_simp
                go_at_call 61
                refine (l03Put_own w.heap.size A Kr c cr ps vs (1 + z) w6 HS6.out.own (by omega) HR6.out (by omega) (fun p hp => by have := (HD.out.2.2 p hp).1; omega) (by omega) (by omega) (fun p hp => by have := (HD.out.1.it hp).2; omega)).mono ?_
                rintro e w7 ⟨A7, c7, rfl, o7, k7⟩
                have h7 := HS6.out.keep k7
                have b7 := blk_cell (o := 0) h7.box rfl
                have f7 : w7.frozen? ⟨w.heap.size + 1, 0, none⟩ = false := frozen_of_row w7 _ 0 _ _ h7.box
                have hsz7 := blk_lt h7.box
                have HF := Lib.hid (HS6.out.set k7 o7)
                clear o7 k7 h7
                go_simp
                refine hK.out _ _ (trivial) (fun hHeld => ?_)
                clear hK K
                try simp only [List.getElem_toArray, List.getElem_cons_zero, List.getElem_cons_succ, Act.put, List.setIfInBounds_toArray, List.set_cons_zero, List.set_cons_succ]
                refine wpAnyH_ready (rs := [6]) (by kernel_rfl) (by simp) ?_
                refine AllReadyH.cons rfl (fun K hK => ?_) ?_
                · skip
                  go_simp
                  refine hK.out _ _ (trivial) (fun hHeld => ?_)
                  clear hK K
                  try simp only [List.getElem_toArray, List.getElem_cons_zero, List.getElem_cons_succ, Act.put, List.setIfInBounds_toArray, List.set_cons_zero, List.set_cons_succ]
                  refine wpAnyH_done (by kernel_rfl) ?_ _
                  clear b0 b0' b6 b7
                  go_wp2
                  go_roundw
                  case rel => exact ⟨k + 1, A7, c7, lput ps vs (1 + z), by omega, by go_num, Lib.hid (HD.out.put HVL.out HV.out ⟨by omega, by omega⟩ hk hw), HF.out⟩
                  case measure => simp [intOf]; omega
                exact AllReadyH.nil
              exact AllReadyH.nil
            exact AllReadyH.nil
          refine AllReadyH.cons rfl (fun K hK => ?_) ?_
          · skip
            go_simp
            go_at_call 67
            refine (C3.out _ hdr.out.cur hdr.out.bel).mono ?_
            rintro e w6 ⟨z, rfl, ⟨hz0, hz1⟩, hc6, hg6⟩
            have hds6 := hdr.out.draw hg6 hc6
            have b6 := blk_cell (o := 0) hds6.box rfl
            have hz2 : z ≤ 2 := by omega
            have hw6 : IntKind.i64.wrap (1 + z) = 1 + z := IntWalk.i64_in _ (by omega)
            have HR6 := Lib.hid (Rd.of_own (own_only HOWN.out hg6 hgl3) : RdI w6 Kr vs.length vs)
            have HS6 := Lib.hid hds6
            have hsz6 := blk_lt hds6.box
            clear hc6 hg6 hds6 hz1
            go_simp
            refine hK.out _ _ (trivial) (fun hHeld => ?_)
            clear hK K
            try simp only [List.getElem_toArray, List.getElem_cons_zero, List.getElem_cons_succ, Act.put, List.setIfInBounds_toArray, List.set_cons_zero, List.set_cons_succ]
            refine wpAnyH_take (i := 4) (v := ?_) rfl (by kernel_rfl) (by kernel_rfl) (by kernel_rfl) (fun _ _ _ h => h) (Or.inl ⟨by rfl, ?_⟩) hHeld ?_
            rotate_left
            · intro w hSw
              (try dsimp only at hSw)
              go_simp
              try with_reducible rfl
            try simp only [List.getElem_toArray, List.getElem_cons_zero, List.getElem_cons_succ, Act.put, List.setIfInBounds_toArray, List.set_cons_zero, List.set_cons_succ]
            refine wpAnyH_ready (rs := [0]) (by kernel_rfl) (by simp) ?_
            refine AllReadyH.cons rfl (fun K hK => ?_) ?_
            · skip
              go_simp
              refine hK.out _ _ (trivial) (fun hHeld => ?_)
              clear hK K
              try simp only [List.getElem_toArray, List.getElem_cons_zero, Act.put, List.setIfInBounds_toArray, List.set_cons_zero, List.set_cons_succ]
              refine wpAnyH_ready (rs := [5]) (by kernel_rfl) (by simp) ?_
              refine AllReadyH.cons rfl (fun K hK => ?_) ?_
              · skip
                go_simp
                go_at_call 61
                refine (l03Put_own w.heap.size A Kr c cr ps vs (1 + z) w6 HS6.out.own (by omega) HR6.out (by omega) (fun p hp => by have := (HD.out.2.2 p hp).1; omega) (by omega) (by omega) (fun p hp => by have := (HD.out.1.it hp).2; omega)).mono ?_
                rintro e w7 ⟨A7, c7, rfl, o7, k7⟩
                have h7 := HS6.out.keep k7
                have b7 := blk_cell (o := 0) h7.box rfl
                have f7 : w7.frozen? ⟨w.heap.size + 1, 0, none⟩ = false := frozen_of_row w7 _ 0 _ _ h7.box
                have hsz7 := blk_lt h7.box
                have HF := Lib.hid (HS6.out.set k7 o7)
                clear o7 k7 h7
                go_simp
                refine hK.out _ _ (trivial) (fun hHeld => ?_)
                clear hK K
                try simp only [List.getElem_toArray, List.getElem_cons_zero, List.getElem_cons_succ, Act.put, List.setIfInBounds_toArray, List.set_cons_zero, List.set_cons_succ]
                refine wpAnyH_ready (rs := [6]) (by kernel_rfl) (by simp) ?_
                refine AllReadyH.cons rfl (fun K hK => ?_) ?_
                · skip
                  go_simp
                  refine hK.out _ _ (trivial) (fun hHeld => ?_)
                  clear hK K
                  try simp only [List.getElem_toArray, List.getElem_cons_zero, List.getElem_cons_succ, Act.put, List.setIfInBounds_toArray, List.set_cons_zero, List.set_cons_succ]
                  refine wpAnyH_done (by kernel_rfl) ?_ _
                  clear b0 b0' b6 b7
                  go_wp2
                  go_roundw
                  case rel => exact ⟨k + 1, A7, c7, lput ps vs (1 + z), by omega, by go_num, Lib.hid (HD.out.put HVL.out HV.out ⟨by omega, by omega⟩ hk hw), HF.out⟩
                  case measure => simp [intOf]; omega
                exact AllReadyH.nil
              exact AllReadyH.nil
            exact AllReadyH.nil
          exact AllReadyH.nil
    · have b0 := blk_cell (o := 0) hds3.box rfl
      have d0 := blk_cell (o := 0) hds3.res rfl
      have f0 : w3.frozen? ⟨w.heap.size, 0, none⟩ = false := frozen_of_row w3 _ 0 _ _ hds3.res
      have hsz := blk_lt hds3.box
      have HM := Lib.hid (hds3.made HD.out hk)
      clear hds3
      go_wp2
      refine bodyPost_ret (v := .agg #[.slice A ps.length c]) (by simp [results, Try.results65, go_sem, d0]) rfl HM.out
end Go.Proofs.Ytdikkfhdogkniaa
