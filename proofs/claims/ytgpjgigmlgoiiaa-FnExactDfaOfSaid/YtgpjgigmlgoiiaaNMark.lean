/- Automata of the law's own with their marks. Conditions: the lengths. -/
import Derived.Test.YtgpjgigmlgoiiaaLawN
import Derived.Test.YtgpjgigmlgoiiaaNfaLaw
namespace Go.Proofs.Ytgpjgigmlgoiiaa
open Go.RowKit

/-- An automaton in blocks from lo up to hi. -/
structure OwnNI (w : World) (lo hi : Nat) (A : Option Addr) (c : Nat) (B : Option Addr) (d : Nat) (es : List Ed) (bs : List Bool) : Prop where
  arcs : OwnR w lo hi 76 3 A c es.length (edCells es)
  ends : OwnR w lo hi 4 1 B d bs.length (bs.map Value.bool)
theorem OwnNI.of {w : World} {lo c d : Nat} {A B : Option Addr} {es : List Ed} {bs : List Bool} (h : w.ownsRow lo 76 3 (.slice A es.length c) es.length (edCells es)) (h2 : w.ownsRow lo 4 1 (.slice B bs.length d) bs.length (bs.map Value.bool)) : OwnNI w lo w.heap.size A c B d es bs := ⟨OwnR.of h, OwnR.of h2⟩
theorem OwnNI.keep {w w' : World} {lo hi c d : Nat} {A B : Option Addr} {es : List Ed} {bs : List Bool} (h : OwnNI w lo hi A c B d es bs) (hb : Below w.heap.size w w') : OwnNI w' lo hi A c B d es bs := ⟨h.arcs.keep hb, h.ends.keep hb⟩
theorem OwnNI.touch {w w' : World} {lo hi lo' hi' c d : Nat} {A B : Option Addr} {es : List Ed} {bs : List Bool} (h : OwnNI w lo hi A c B d es bs) (ht : Touch lo' hi' w w') (hb : hi' ≤ lo) : OwnNI w' lo hi A c B d es bs := ⟨h.arcs.touch ht hb, h.ends.touch ht hb⟩
/-- An automaton reads as its arcs and its ends. -/
def RdN (w : World) (A B : Option Addr) (es : List Ed) (bs : List Bool) : Prop := RdE w A es ∧ RdB w B bs.length bs
theorem RdN.below {w w' : World} {A B : Option Addr} {es : List Ed} {bs : List Bool} (h : RdN w A B es bs) (hb : Below w.heap.size w w') : RdN w' A B es bs := ⟨h.1.below hb, h.2.below hb⟩
theorem OwnNI.rd {w : World} {lo hi c d : Nat} {A B : Option Addr} {es : List Ed} {bs : List Bool} (h : OwnNI w lo hi A c B d es bs) : RdN w A B es bs := ⟨Rd.of_own h.arcs.own, Rd.of_own h.ends.own⟩
/-- The bundle of what a call leaves. -/
def OwnN0 (w : World) (lo : Nat) (A : Option Addr) (c : Nat) (B : Option Addr) (d : Nat) (es : List Ed) (bs : List Bool) : Prop := w.ownsRow lo 76 3 (.slice A es.length c) es.length (edCells es) ∧ w.ownsRow lo 4 1 (.slice B bs.length d) bs.length (bs.map Value.bool)
theorem OwnNI.of0 {w : World} {lo c d : Nat} {A B : Option Addr} {es : List Ed} {bs : List Bool} (h : OwnN0 w lo A c B d es bs) : OwnNI w lo w.heap.size A c B d es bs := OwnNI.of h.1 h.2
theorem toNfaK_any (s : Int) (A B : Option Addr) (c d : Nat) (es : List Ed) (bs : List Bool) (w : World) (h : RdN w A B es bs) (hn : es.length ≤ 4294967296) (hm : bs.length ≤ 4294967296) :
    Calls Try.prog 11 #[.agg #[.int .i64 s, .slice A es.length c, .slice B bs.length d]] w fun e w' => ∃ A1 c1 B1 d1, e = .returned (.agg #[.int .i64 s, .slice A1 es.length c1, .slice B1 bs.length d1]) ∧ OwnN0 w' w.heap.size A1 c1 B1 d1 es bs ∧ Below w.heap.size w w' :=
  (toNfa_any s A B c d es bs w h.1 h.2 hn hm).mono (fun e w' h => by
    unfold MadeN at h
    obtain ⟨A1, c1, B1, d1, h1, h2, h3, h4⟩ := h
    exact ⟨A1, c1, B1, d1, h1, ⟨h2, h3⟩, h4⟩)

set_option maxRecDepth 100000 in
set_option maxHeartbeats 1600000 in
theorem markNfaT_any (lo hi : Nat) (s : Int) (A B : Option Addr) (c d : Nat) (es : List Ed) (bs : List Bool) (k : Int) (w : World) (h : OwnNI w lo hi A c B d es bs) (hk : 0 ≤ k ∧ k ≤ 4194304) (hn : es.length ≤ 1048576) (hm : bs.length ≤ 1048576) :
    Calls Try.prog 14 #[.agg #[.int .i64 s, .slice A es.length c, .slice B bs.length d], .int .i64 k] w fun e w' => e = .returned (.int .i64 (k + 3 * es.length + bs.length)) ∧ (OwnR w' lo hi 76 3 A c es.length (edCells (marksE k es.length)) ∧ OwnR w' lo hi 4 1 B d bs.length ((marksB (k + 3 * es.length) bs.length).map Value.bool)) ∧ Touch lo hi w w' := by
  have ka := below_alloc w (.cells #[.int .i64 s, .slice A es.length c, .slice B bs.length d] 29)
  have TA : Touch lo hi w (w.alloc (.cells #[.int .i64 s, .slice A es.length c, .slice B bs.length d] 29)) := ⟨rfl, rfl, rfl, by simp, fun i hi _ => Below.heap_alloc _ _ _ hi⟩
  have p0 := heap_alloc_new w (.cells #[.int .i64 s, .slice A es.length c, .slice B bs.length d] 29)
  have h1 := h.keep ka
  obtain ⟨W1, hW1⟩ : ∃ W, w.alloc (.cells #[.int .i64 s, .slice A es.length c, .slice B bs.length d] 29) = W := ⟨_, rfl⟩
  obtain ⟨g0, hg0⟩ : ∃ g, w.heap.size = g := ⟨_, rfl⟩
  rw [hW1] at TA p0 h1
  rw [hg0] at p0
  have H1 := Lib.hid h1
  have P0 := Lib.hid p0
  have TA := Lib.hid TA
  obtain ⟨hk0, hk1⟩ := hk
  have b1 := blk_cell (o := 1) p0 rfl
  clear ka h h1 p0
  go_enter Try.func14, Try.ntmps14
  go_wp2_with fail
  clear hW1 hg0
  refine (markArcS_any lo A es.length c _ k W1 H1.out.arcs.own (by omega) (by omega)).mono ?_
  rintro e w2 ⟨rfl, o2, g2⟩
  have HA := Lib.hid (H1.out.arcs.grown o2 g2)
  have OB := Lib.hid (H1.out.ends.own.kept g2 (own_ne H1.out.ends.own H1.out.arcs.own (by decide)))
  have P2 := Lib.hid ((g2.block _ (blk_lt P0.out) (fun e => row_ne H1.out.arcs.own P0.out (by decide) e.symm)).trans P0.out)
  have b2 := blk_cell (o := 2) P2.out rfl
  clear o2 g2 b1
  go_wp2_with fail
  refine (markBoolS_any lo B bs.length d _ (k + 3 * es.length) w2 OB.out (by omega) (by omega)).mono ?_
  rintro e w3 ⟨rfl, o3, g3⟩
  have HB := Lib.hid ((⟨OB.out, H1.out.ends.up⟩ : OwnR w2 lo hi 4 1 B d bs.length _).grown o3 g3)
  have OA := Lib.hid (HA.out.1.own.kept g3 (own_ne HA.out.1.own OB.out (by decide)))
  clear o3 g3 b2
  go_wp2
  go_ret
  exact ⟨rfl, ⟨⟨OA.out, HA.out.1.up⟩, HB.out.1⟩, (TA.out.trans HA.out.2).trans HB.out.2⟩
end Go.Proofs.Ytgpjgigmlgoiiaa
