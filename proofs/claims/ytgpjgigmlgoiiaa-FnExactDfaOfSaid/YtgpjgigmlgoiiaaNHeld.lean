/- Marked automata: kept and held. Conditions: the lengths. -/
import Derived.Test.YtgpjgigmlgoiiaaNMark
namespace Go.Proofs.Ytgpjgigmlgoiiaa
open Go.RowKit

/-- A marked automaton. -/
structure OwnNM (w : World) (lo hi : Nat) (A : Option Addr) (c : Nat) (B : Option Addr) (d : Nat) (n m : Nat) (k : Int) : Prop where
  arcs : OwnR w lo hi 76 3 A c n (edCells (marksE k n))
  ends : OwnR w lo hi 4 1 B d m ((marksB (k + 3 * n) m).map Value.bool)
theorem OwnNM.keep {w w' : World} {lo hi c d n m : Nat} {A B : Option Addr} {k : Int} (h : OwnNM w lo hi A c B d n m k) (hb : Below w.heap.size w w') : OwnNM w' lo hi A c B d n m k := ⟨h.arcs.keep hb, h.ends.keep hb⟩
theorem OwnNM.touch {w w' : World} {lo hi lo' hi' c d n m : Nat} {A B : Option Addr} {k : Int} (h : OwnNM w lo hi A c B d n m k) (ht : Touch lo' hi' w w') (hb : hi' ≤ lo) : OwnNM w' lo hi A c B d n m k := ⟨h.arcs.touch ht hb, h.ends.touch ht hb⟩
theorem OwnNM.rd {w : World} {lo hi c d n m : Nat} {A B : Option Addr} {k : Int} (h : OwnNM w lo hi A c B d n m k) : RdE w A (marksE k n) ∧ RdB w B m (marksB (k + 3 * n) m) := ⟨rdA_marks h.arcs.own, Rd.of_own h.ends.own⟩
theorem markNfaM_any (lo hi : Nat) (s : Int) (A B : Option Addr) (c d : Nat) (es : List Ed) (bs : List Bool) (w : World) (h : OwnNI w lo hi A c B d es bs) (hn : es.length ≤ 1048576) (hm : bs.length ≤ 1048576) :
    Calls Try.prog 14 #[.agg #[.int .i64 s, .slice A es.length c, .slice B bs.length d], .int .i64 1] w fun e w' => e = .returned (.int .i64 (1 + 3 * es.length + bs.length)) ∧ OwnNM w' lo hi A c B d es.length bs.length 1 ∧ Touch lo hi w w' :=
  (markNfaT_any lo hi s A B c d es bs 1 w h (by omega) hn hm).mono (fun _ _ ⟨h1, ⟨h2, h3⟩, h4⟩ => ⟨h1, ⟨h2, h3⟩, h4⟩)

set_option maxRecDepth 100000 in
set_option maxHeartbeats 1600000 in
theorem heldNfaM_any (s : Int) (A B : Option Addr) (c d n m : Nat) (w : World) (hx : RdE w A (marksE 1 n) ∧ RdB w B m (marksB (1 + 3 * n) m)) (hn : n ≤ 1048576) (hm : m ≤ 1048576) :
    Calls Try.prog 15 #[.agg #[.int .i64 s, .slice A n c, .slice B m d], .int .i64 1] w fun e w' => e = .returned (.int .i64 (1 + 3 * n + m)) ∧ Below w.heap.size w w' := by
  have ka := below_alloc w (.cells #[.int .i64 s, .slice A n c, .slice B m d] 29)
  have p0 := heap_alloc_new w (.cells #[.int .i64 s, .slice A n c, .slice B m d] 29)
  have h1 := hx.1.below ka
  have h2 := hx.2.below ka
  obtain ⟨W1, hW1⟩ : ∃ W, w.alloc (.cells #[.int .i64 s, .slice A n c, .slice B m d] 29) = W := ⟨_, rfl⟩
  obtain ⟨g0, hg0⟩ : ∃ g, w.heap.size = g := ⟨_, rfl⟩
  rw [hW1] at p0 h1 h2 ka
  rw [hg0] at p0
  have H1 := Lib.hid h1
  have H2 := Lib.hid h2
  have KA := Lib.hid ka
  have b1 := blk_cell (o := 1) p0 rfl
  have b2 := blk_cell (o := 2) p0 rfl
  have g1 : decide ((1 : Int) + 3 * (n : Int) < 0) = false := decide_eq_false (by omega)
  have g2 : decide ((1 : Int) + 3 * (n : Int) + (m : Int) < 0) = false := decide_eq_false (by omega)
  clear hx ka h1 h2 p0
  go_enter Try.func15, Try.ntmps15
  go_wp2_with fail
  clear hW1 hg0
  refine (heldArcS_any A n c 1 W1 H1.out (by omega) (by omega)).mono ?_
  rintro e w2 ⟨rfl, rfl⟩
  go_wp2_with fail
  refine (heldBoolS_any B m d (1 + 3 * n) W1 H2.out (by omega) (by omega)).mono ?_
  rintro e w2 ⟨rfl, rfl⟩
  go_wp2
  go_ret
  exact ⟨rfl, KA.out⟩
end Go.Proofs.Ytgpjgigmlgoiiaa
