/- Rows of the law's own with their marks: of edges and of ints. No conditions but the lengths. Words for the laws on automata. No conditions. Automata of the law's own with their marks. Conditions: the lengths. Marked automata: kept and held. Conditions: the lengths. -/
import Derived.Test.YtjlekcoikceidaaGraph
import Derived.Test.YtjlekcoikceidaaMark
import Derived.Test.YtjlekcoikceidaaTouch
import Derived.Test.YtjlekcoikceidaaNfa
namespace Go.Proofs.Ytjlekcoikceidaa
open Go.RowKit

/-- A row whose block lies from lo up to hi. -/
structure OwnR (w : World) (lo hi : Nat) (e : TypeId) (sz : Nat) (A : Option Addr) (c n : Nat) (xs : List Value) : Prop where
  own : w.ownsRow lo e sz (.slice A n c) n xs
  up : ∀ r, (Value.slice A n c).ownBlock = some r → r < hi
theorem OwnR.of {w : World} {lo : Nat} {e : TypeId} {sz : Nat} {A : Option Addr} {c n : Nat} {xs : List Value} (h : w.ownsRow lo e sz (.slice A n c) n xs) : OwnR w lo w.heap.size e sz A c n xs := ⟨h, fun r hr => (h.lt r hr).2⟩
theorem OwnR.keep {w w' : World} {lo hi : Nat} {e : TypeId} {sz : Nat} {A : Option Addr} {c n : Nat} {xs : List Value} (h : OwnR w lo hi e sz A c n xs) (hb : Below w.heap.size w w') : OwnR w' lo hi e sz A c n xs := ⟨own_below h.own hb, h.up⟩
theorem OwnR.touch {w w' : World} {lo hi lo' hi' : Nat} {e : TypeId} {sz : Nat} {A : Option Addr} {c n : Nat} {xs : List Value} (h : OwnR w lo hi e sz A c n xs) (ht : Touch lo' hi' w w') (hb : hi' ≤ lo) : OwnR w' lo hi e sz A c n xs := ⟨ht.own h.own hb, h.up⟩
def OwnIZ (w : World) (lo hi : Nat) (A : Option Addr) (c : Nat) (zs : List Int) : Prop := OwnR w lo hi 3 1 A c zs.length (zs.map (Value.int .i64))
theorem OwnIZ.keep {w w' : World} {lo hi c : Nat} {A : Option Addr} {es : List Int} (h : OwnIZ w lo hi A c es) (hb : Below w.heap.size w w') : OwnIZ w' lo hi A c es := OwnR.keep h hb
theorem OwnIZ.touch {w w' : World} {lo hi lo' hi' c : Nat} {A : Option Addr} {es : List Int} (h : OwnIZ w lo hi A c es) (ht : Touch lo' hi' w w') (hb : hi' ≤ lo) : OwnIZ w' lo hi A c es := OwnR.touch h ht hb
theorem OwnIZ.of {w : World} {lo : Nat} {A : Option Addr} {c : Nat} {zs : List Int} (h : w.ownsRow lo 3 1 (.slice A zs.length c) zs.length (zs.map (Value.int .i64))) : OwnIZ w lo w.heap.size A c zs := OwnR.of h
theorem OwnIZ.rd {w : World} {lo hi : Nat} {A : Option Addr} {c : Nat} {zs : List Int} (h : OwnIZ w lo hi A c zs) : RdI w A zs.length zs := Rd.of_own (OwnR.own h)
theorem OwnR.grown {w w' : World} {lo hi : Nat} {e : TypeId} {sz : Nat} {A : Option Addr} {c n : Nat} {xs ys : List Value} (h : OwnR w lo hi e sz A c n xs) (ho : w'.ownsRow lo e sz (.slice A n c) n ys) (hg : w.grownBy w' (Value.slice A n c).ownBlock) : OwnR w' lo hi e sz A c n ys ∧ Touch lo hi w w' :=
  ⟨⟨ho, h.up⟩, (Touch.refl lo hi w).grown hg (fun r hr => ⟨(h.own.lt r hr).1, h.up r hr⟩)⟩
theorem markIntST_any (lo hi : Nat) (A : Option Addr) (c : Nat) (zs : List Int) (k : Int) (w : World) (h : OwnIZ w lo hi A c zs) (hk : 0 ≤ k ∧ k ≤ 4294967296) (hn : zs.length ≤ 4294967296) :
    Calls Try.prog 46 #[.slice A zs.length c, .int .i64 k] w fun e w' => e = .returned (.int .i64 (k + zs.length)) ∧ OwnR w' lo hi 3 1 A c zs.length ((marksI k zs.length).map (Value.int .i64)) ∧ Touch lo hi w w' :=
  (markIntS_any lo A zs.length c _ k w (OwnR.own h) hk hn).mono (fun _ _ ⟨h1, h2, h3⟩ => ⟨h1, OwnR.grown h h2 h3⟩)
theorem eqIntS_sameK (A B : Option Addr) (c d : Nat) (xs : List Int) (w : World) (hx : RdI w A xs.length xs) (hy : RdI w B xs.length xs) (hn : xs.length ≤ 4294967296) :
    Calls Try.prog 61 #[.slice A xs.length c, .slice B xs.length d] w fun e w' => e = .returned (.bool true) ∧ Below w.heap.size w w' := by
  refine (eqIntS_any A B _ _ c d xs xs w hx hy hn).mono ?_
  rintro e w1 ⟨rfl, hb⟩
  exact ⟨by rw [eqL_yes rfl], hb⟩
end Go.Proofs.Ytjlekcoikceidaa
namespace Go.Proofs.Ytjlekcoikceidaa
open Go.RowKit
theorem RdE.own {w : World} {base : Nat} {e : TypeId} {A : Option Addr} {c : Nat} {es : List Ed} (h : w.ownsRow base e 3 (.slice A es.length c) es.length (edCells es)) : RdE w A es := Rd.of_own h
theorem szN_yes {n m : Nat} {left : Int} (h : (n : Int) + m ≤ left) : szN n m left = left - n - m := if_pos h
theorem szN_no {n m : Nat} {left : Int} (h : ¬ (n : Int) + m ≤ left) : szN n m left = -1 := if_neg h
theorem eqNfa_same (s : Int) (A B A' B' : Option Addr) (c d c' d' : Nat) (es : List Ed) (bs : List Bool) (w : World) (hx : RdE w A es) (hx' : RdE w A' es) (hy : RdB w B bs.length bs) (hy' : RdB w B' bs.length bs)
    (hn : es.length ≤ 4294967296) (hm : bs.length ≤ 4294967296) :
    Calls Try.prog 8 #[.agg #[.int .i64 s, .slice A es.length c, .slice B bs.length d], .agg #[.int .i64 s, .slice A' es.length c', .slice B' bs.length d']] w fun e w' => e = .returned (.bool true) ∧ Below w.heap.size w w' := by
  refine (eqNfa_any s s A B A' B' c d c' d' es es bs bs w hx hx' hy hy' hn hn hm).mono ?_
  rintro e w1 ⟨rfl, hb⟩
  exact ⟨by rw [eqE_yes rfl, eqLB_yes rfl]; simp, hb⟩
end Go.Proofs.Ytjlekcoikceidaa
namespace Go.Proofs.Ytjlekcoikceidaa
open Go.RowKit

/-- An automaton in blocks from lo up to hi. -/
structure OwnNI (w : World) (lo hi : Nat) (A : Option Addr) (c : Nat) (B : Option Addr) (d : Nat) (es : List Ed) (bs : List Bool) : Prop where
  arcs : OwnR w lo hi 64 3 A c es.length (edCells es)
  ends : OwnR w lo hi 4 1 B d bs.length (bs.map Value.bool)
theorem OwnNI.of {w : World} {lo c d : Nat} {A B : Option Addr} {es : List Ed} {bs : List Bool} (h : w.ownsRow lo 64 3 (.slice A es.length c) es.length (edCells es)) (h2 : w.ownsRow lo 4 1 (.slice B bs.length d) bs.length (bs.map Value.bool)) : OwnNI w lo w.heap.size A c B d es bs := ⟨OwnR.of h, OwnR.of h2⟩
theorem OwnNI.keep {w w' : World} {lo hi c d : Nat} {A B : Option Addr} {es : List Ed} {bs : List Bool} (h : OwnNI w lo hi A c B d es bs) (hb : Below w.heap.size w w') : OwnNI w' lo hi A c B d es bs := ⟨h.arcs.keep hb, h.ends.keep hb⟩
theorem OwnNI.touch {w w' : World} {lo hi lo' hi' c d : Nat} {A B : Option Addr} {es : List Ed} {bs : List Bool} (h : OwnNI w lo hi A c B d es bs) (ht : Touch lo' hi' w w') (hb : hi' ≤ lo) : OwnNI w' lo hi A c B d es bs := ⟨h.arcs.touch ht hb, h.ends.touch ht hb⟩
/-- An automaton reads as its arcs and its ends. -/
def RdN (w : World) (A B : Option Addr) (es : List Ed) (bs : List Bool) : Prop := RdE w A es ∧ RdB w B bs.length bs
theorem RdN.below {w w' : World} {A B : Option Addr} {es : List Ed} {bs : List Bool} (h : RdN w A B es bs) (hb : Below w.heap.size w w') : RdN w' A B es bs := ⟨h.1.below hb, h.2.below hb⟩
theorem OwnNI.rd {w : World} {lo hi c d : Nat} {A B : Option Addr} {es : List Ed} {bs : List Bool} (h : OwnNI w lo hi A c B d es bs) : RdN w A B es bs := ⟨Rd.of_own h.arcs.own, Rd.of_own h.ends.own⟩
/-- The bundle of what a call leaves. -/
def OwnN0 (w : World) (lo : Nat) (A : Option Addr) (c : Nat) (B : Option Addr) (d : Nat) (es : List Ed) (bs : List Bool) : Prop := w.ownsRow lo 64 3 (.slice A es.length c) es.length (edCells es) ∧ w.ownsRow lo 4 1 (.slice B bs.length d) bs.length (bs.map Value.bool)
theorem OwnNI.of0 {w : World} {lo c d : Nat} {A B : Option Addr} {es : List Ed} {bs : List Bool} (h : OwnN0 w lo A c B d es bs) : OwnNI w lo w.heap.size A c B d es bs := OwnNI.of h.1 h.2
set_option maxRecDepth 100000 in
set_option maxHeartbeats 1600000 in
theorem markNfaT_any (lo hi : Nat) (s : Int) (A B : Option Addr) (c d : Nat) (es : List Ed) (bs : List Bool) (k : Int) (w : World) (h : OwnNI w lo hi A c B d es bs) (hk : 0 ≤ k ∧ k ≤ 4194304) (hn : es.length ≤ 1048576) (hm : bs.length ≤ 1048576) :
    Calls Try.prog 11 #[.agg #[.int .i64 s, .slice A es.length c, .slice B bs.length d], .int .i64 k] w fun e w' => e = .returned (.int .i64 (k + 3 * es.length + bs.length)) ∧ (OwnR w' lo hi 64 3 A c es.length (edCells (marksE k es.length)) ∧ OwnR w' lo hi 4 1 B d bs.length ((marksB (k + 3 * es.length) bs.length).map Value.bool)) ∧ Touch lo hi w w' := by
  have ka := below_alloc w (.cells #[.int .i64 s, .slice A es.length c, .slice B bs.length d] 29)
  have TA : Touch lo hi w (w.alloc (.cells #[.int .i64 s, .slice A es.length c, .slice B bs.length d] 29)) := ⟨rfl, rfl, rfl, by simp, fun i hi _ => Below.heap_alloc _ _ _ hi⟩
  have p0 := heap_alloc_new w (.cells #[.int .i64 s, .slice A es.length c, .slice B bs.length d] 29)
  have h1 := h.keep ka
  obtain ⟨W1, hW1⟩ : ∃ W, w.alloc (.cells #[.int .i64 s, .slice A es.length c, .slice B bs.length d] 29) = W := ⟨_, rfl⟩
  obtain ⟨g0, hg0⟩ : ∃ g, w.heap.size = g := ⟨_, rfl⟩
  rw [hW1] at TA p0 h1
  rw [hg0] at p0
  have H1 := Lib.hid h1
  have P0 := Lib.hid p0
  have TA := Lib.hid TA
  obtain ⟨hk0, hk1⟩ := hk
  have b1 := blk_cell (o := 1) p0 rfl
  clear ka h h1 p0
  go_enter Try.func11, Try.ntmps11
  go_wp2_with fail
  clear hW1 hg0
  refine (markArcS_any lo A es.length c _ k W1 H1.out.arcs.own (by omega) (by omega)).mono ?_
  rintro e w2 ⟨rfl, o2, g2⟩
  have HA := Lib.hid (H1.out.arcs.grown o2 g2)
  have OB := Lib.hid (H1.out.ends.own.kept g2 (own_ne H1.out.ends.own H1.out.arcs.own (by decide)))
  have P2 := Lib.hid ((g2.block _ (blk_lt P0.out) (fun e => row_ne H1.out.arcs.own P0.out (by decide) e.symm)).trans P0.out)
  have b2 := blk_cell (o := 2) P2.out rfl
  clear o2 g2 b1
  go_wp2_with fail
  refine (markBoolS_any lo B bs.length d _ (k + 3 * es.length) w2 OB.out (by omega) (by omega)).mono ?_
  rintro e w3 ⟨rfl, o3, g3⟩
  have HB := Lib.hid ((⟨OB.out, H1.out.ends.up⟩ : OwnR w2 lo hi 4 1 B d bs.length _).grown o3 g3)
  have OA := Lib.hid (HA.out.1.own.kept g3 (own_ne HA.out.1.own OB.out (by decide)))
  clear o3 g3 b2
  go_wp2
  go_ret
  exact ⟨rfl, ⟨⟨OA.out, HA.out.1.up⟩, HB.out.1⟩, (TA.out.trans HA.out.2).trans HB.out.2⟩
end Go.Proofs.Ytjlekcoikceidaa
namespace Go.Proofs.Ytjlekcoikceidaa
open Go.RowKit

/-- A marked automaton. -/
structure OwnNM (w : World) (lo hi : Nat) (A : Option Addr) (c : Nat) (B : Option Addr) (d : Nat) (n m : Nat) (k : Int) : Prop where
  arcs : OwnR w lo hi 64 3 A c n (edCells (marksE k n))
  ends : OwnR w lo hi 4 1 B d m ((marksB (k + 3 * n) m).map Value.bool)
theorem OwnNM.keep {w w' : World} {lo hi c d n m : Nat} {A B : Option Addr} {k : Int} (h : OwnNM w lo hi A c B d n m k) (hb : Below w.heap.size w w') : OwnNM w' lo hi A c B d n m k := ⟨h.arcs.keep hb, h.ends.keep hb⟩
theorem OwnNM.touch {w w' : World} {lo hi lo' hi' c d n m : Nat} {A B : Option Addr} {k : Int} (h : OwnNM w lo hi A c B d n m k) (ht : Touch lo' hi' w w') (hb : hi' ≤ lo) : OwnNM w' lo hi A c B d n m k := ⟨h.arcs.touch ht hb, h.ends.touch ht hb⟩
theorem OwnNM.rd {w : World} {lo hi c d n m : Nat} {A B : Option Addr} {k : Int} (h : OwnNM w lo hi A c B d n m k) : RdE w A (marksE k n) ∧ RdB w B m (marksB (k + 3 * n) m) := ⟨rdA_marks h.arcs.own, Rd.of_own h.ends.own⟩
theorem markNfaM_any (lo hi : Nat) (s : Int) (A B : Option Addr) (c d : Nat) (es : List Ed) (bs : List Bool) (w : World) (h : OwnNI w lo hi A c B d es bs) (hn : es.length ≤ 1048576) (hm : bs.length ≤ 1048576) :
    Calls Try.prog 11 #[.agg #[.int .i64 s, .slice A es.length c, .slice B bs.length d], .int .i64 1] w fun e w' => e = .returned (.int .i64 (1 + 3 * es.length + bs.length)) ∧ OwnNM w' lo hi A c B d es.length bs.length 1 ∧ Touch lo hi w w' :=
  (markNfaT_any lo hi s A B c d es bs 1 w h (by omega) hn hm).mono (fun _ _ ⟨h1, ⟨h2, h3⟩, h4⟩ => ⟨h1, ⟨h2, h3⟩, h4⟩)

set_option maxRecDepth 100000 in
set_option maxHeartbeats 1600000 in
theorem heldNfaM_any (s : Int) (A B : Option Addr) (c d n m : Nat) (w : World) (hx : RdE w A (marksE 1 n) ∧ RdB w B m (marksB (1 + 3 * n) m)) (hn : n ≤ 1048576) (hm : m ≤ 1048576) :
    Calls Try.prog 12 #[.agg #[.int .i64 s, .slice A n c, .slice B m d], .int .i64 1] w fun e w' => e = .returned (.int .i64 (1 + 3 * n + m)) ∧ Below w.heap.size w w' := by
  have ka := below_alloc w (.cells #[.int .i64 s, .slice A n c, .slice B m d] 29)
  have p0 := heap_alloc_new w (.cells #[.int .i64 s, .slice A n c, .slice B m d] 29)
  have h1 := hx.1.below ka
  have h2 := hx.2.below ka
  obtain ⟨W1, hW1⟩ : ∃ W, w.alloc (.cells #[.int .i64 s, .slice A n c, .slice B m d] 29) = W := ⟨_, rfl⟩
  obtain ⟨g0, hg0⟩ : ∃ g, w.heap.size = g := ⟨_, rfl⟩
  rw [hW1] at p0 h1 h2 ka
  rw [hg0] at p0
  have H1 := Lib.hid h1
  have H2 := Lib.hid h2
  have KA := Lib.hid ka
  have b1 := blk_cell (o := 1) p0 rfl
  have b2 := blk_cell (o := 2) p0 rfl
  have g1 : decide ((1 : Int) + 3 * (n : Int) < 0) = false := decide_eq_false (by omega)
  have g2 : decide ((1 : Int) + 3 * (n : Int) + (m : Int) < 0) = false := decide_eq_false (by omega)
  clear hx ka h1 h2 p0
  go_enter Try.func12, Try.ntmps12
  go_wp2_with fail
  clear hW1 hg0
  refine (heldArcS_any A n c 1 W1 H1.out (by omega) (by omega)).mono ?_
  rintro e w2 ⟨rfl, rfl⟩
  go_wp2_with fail
  refine (heldBoolS_any B m d (1 + 3 * n) W1 H2.out (by omega) (by omega)).mono ?_
  rintro e w2 ⟨rfl, rfl⟩
  go_wp2
  go_ret
  exact ⟨rfl, KA.out⟩
end Go.Proofs.Ytjlekcoikceidaa
