/- Rows of the law's own with their marks: of edges and of ints. No conditions but the lengths. -/
import Derived.Test.YtgpjgigmlgoiiaaGraph
import Derived.Test.YtgpjgigmlgoiiaaMark
import Derived.Test.YtgpjgigmlgoiiaaTouch
namespace Go.Proofs.Ytgpjgigmlgoiiaa
open Go.RowKit

/-- A row whose block lies from lo up to hi. -/
structure OwnR (w : World) (lo hi : Nat) (e : TypeId) (sz : Nat) (A : Option Addr) (c n : Nat) (xs : List Value) : Prop where
  own : w.ownsRow lo e sz (.slice A n c) n xs
  up : ∀ r, (Value.slice A n c).ownBlock = some r → r < hi
theorem OwnR.of {w : World} {lo : Nat} {e : TypeId} {sz : Nat} {A : Option Addr} {c n : Nat} {xs : List Value} (h : w.ownsRow lo e sz (.slice A n c) n xs) : OwnR w lo w.heap.size e sz A c n xs := ⟨h, fun r hr => (h.lt r hr).2⟩
theorem OwnR.keep {w w' : World} {lo hi : Nat} {e : TypeId} {sz : Nat} {A : Option Addr} {c n : Nat} {xs : List Value} (h : OwnR w lo hi e sz A c n xs) (hb : Below w.heap.size w w') : OwnR w' lo hi e sz A c n xs := ⟨own_below h.own hb, h.up⟩
theorem OwnR.touch {w w' : World} {lo hi lo' hi' : Nat} {e : TypeId} {sz : Nat} {A : Option Addr} {c n : Nat} {xs : List Value} (h : OwnR w lo hi e sz A c n xs) (ht : Touch lo' hi' w w') (hb : hi' ≤ lo) : OwnR w' lo hi e sz A c n xs := ⟨ht.own h.own hb, h.up⟩
def OwnGr (w : World) (lo hi : Nat) (A : Option Addr) (c : Nat) (es : List Ed) : Prop := OwnR w lo hi 119 3 A c es.length (edCells es)
def OwnIZ (w : World) (lo hi : Nat) (A : Option Addr) (c : Nat) (zs : List Int) : Prop := OwnR w lo hi 3 1 A c zs.length (zs.map (Value.int .i64))
theorem OwnGr.keep {w w' : World} {lo hi c : Nat} {A : Option Addr} {es : List Ed} (h : OwnGr w lo hi A c es) (hb : Below w.heap.size w w') : OwnGr w' lo hi A c es := OwnR.keep h hb
theorem OwnGr.touch {w w' : World} {lo hi lo' hi' c : Nat} {A : Option Addr} {es : List Ed} (h : OwnGr w lo hi A c es) (ht : Touch lo' hi' w w') (hb : hi' ≤ lo) : OwnGr w' lo hi A c es := OwnR.touch h ht hb
theorem OwnIZ.keep {w w' : World} {lo hi c : Nat} {A : Option Addr} {es : List Int} (h : OwnIZ w lo hi A c es) (hb : Below w.heap.size w w') : OwnIZ w' lo hi A c es := OwnR.keep h hb
theorem OwnIZ.touch {w w' : World} {lo hi lo' hi' c : Nat} {A : Option Addr} {es : List Int} (h : OwnIZ w lo hi A c es) (ht : Touch lo' hi' w w') (hb : hi' ≤ lo) : OwnIZ w' lo hi A c es := OwnR.touch h ht hb
theorem OwnGr.of {w : World} {lo : Nat} {A : Option Addr} {c : Nat} {es : List Ed} (h : w.ownsRow lo 119 3 (.slice A es.length c) es.length (edCells es)) : OwnGr w lo w.heap.size A c es := OwnR.of h
theorem OwnGr.rd {w : World} {lo hi : Nat} {A : Option Addr} {c : Nat} {es : List Ed} (h : OwnGr w lo hi A c es) : RdE w A es := Rd.of_own (OwnR.own h)
theorem OwnIZ.of {w : World} {lo : Nat} {A : Option Addr} {c : Nat} {zs : List Int} (h : w.ownsRow lo 3 1 (.slice A zs.length c) zs.length (zs.map (Value.int .i64))) : OwnIZ w lo w.heap.size A c zs := OwnR.of h
theorem OwnIZ.rd {w : World} {lo hi : Nat} {A : Option Addr} {c : Nat} {zs : List Int} (h : OwnIZ w lo hi A c zs) : RdI w A zs.length zs := Rd.of_own (OwnR.own h)
theorem OwnR.grown {w w' : World} {lo hi : Nat} {e : TypeId} {sz : Nat} {A : Option Addr} {c n : Nat} {xs ys : List Value} (h : OwnR w lo hi e sz A c n xs) (ho : w'.ownsRow lo e sz (.slice A n c) n ys) (hg : w.grownBy w' (Value.slice A n c).ownBlock) : OwnR w' lo hi e sz A c n ys ∧ Touch lo hi w w' :=
  ⟨⟨ho, h.up⟩, (Touch.refl lo hi w).grown hg (fun r hr => ⟨(h.own.lt r hr).1, h.up r hr⟩)⟩
theorem markGraphT_any (lo hi : Nat) (s : Int) (A : Option Addr) (c : Nat) (es : List Ed) (k : Int) (w : World) (h : OwnGr w lo hi A c es) (hk : 0 ≤ k ∧ k ≤ 4294967296) (hn : es.length ≤ 4294967296) :
    Calls Try.prog 24 #[.agg #[.int .i64 s, .slice A es.length c], .int .i64 k] w fun e w' => e = .returned (.int .i64 (k + 3 * es.length)) ∧ OwnR w' lo hi 119 3 A c es.length (edCells (marksE k es.length)) ∧ Touch lo hi w w' :=
  (markGraph_any lo s A es.length c _ k w (OwnR.own h) hk hn).mono (fun _ _ ⟨h1, h2, h3⟩ => ⟨h1, OwnR.grown h h2 h3⟩)
theorem markIntST_any (lo hi : Nat) (A : Option Addr) (c : Nat) (zs : List Int) (k : Int) (w : World) (h : OwnIZ w lo hi A c zs) (hk : 0 ≤ k ∧ k ≤ 4294967296) (hn : zs.length ≤ 4294967296) :
    Calls Try.prog 36 #[.slice A zs.length c, .int .i64 k] w fun e w' => e = .returned (.int .i64 (k + zs.length)) ∧ OwnR w' lo hi 3 1 A c zs.length ((marksI k zs.length).map (Value.int .i64)) ∧ Touch lo hi w w' :=
  (markIntS_any lo A zs.length c _ k w (OwnR.own h) hk hn).mono (fun _ _ ⟨h1, h2, h3⟩ => ⟨h1, OwnR.grown h h2 h3⟩)
theorem eqGraph_sameK (s : Int) (A B : Option Addr) (c d : Nat) (xs : List Ed) (w : World) (hx : RdE w A xs) (hy : RdE w B xs) (hn : xs.length ≤ 4294967296) :
    Calls Try.prog 23 #[.agg #[.int .i64 s, .slice A xs.length c], .agg #[.int .i64 s, .slice B xs.length d]] w fun e w' => e = .returned (.bool true) ∧ Below w.heap.size w w' := by
  refine (eqGraph_any s s A B c d xs xs w hx hy hn hn).mono ?_
  rintro e w1 ⟨rfl, hb⟩
  exact ⟨by simp [eqE_yes (rfl : xs = xs)], hb⟩
theorem eqIntS_sameK (A B : Option Addr) (c d : Nat) (xs : List Int) (w : World) (hx : RdI w A xs.length xs) (hy : RdI w B xs.length xs) (hn : xs.length ≤ 4294967296) :
    Calls Try.prog 34 #[.slice A xs.length c, .slice B xs.length d] w fun e w' => e = .returned (.bool true) ∧ Below w.heap.size w w' := by
  refine (eqIntS_any A B _ _ c d xs xs w hx hy hn).mono ?_
  rintro e w1 ⟨rfl, hb⟩
  exact ⟨by rw [eqL_yes rfl], hb⟩
theorem heldIntSB_any (A : Option Addr) (n c : Nat) (w : World) (hx : RdI w A n (marksI 1 n)) (hn : n ≤ 4294967296) :
    Calls Try.prog 37 #[.slice A n c, .int .i64 1] w fun e w' => e = .returned (.int .i64 (1 + n)) ∧ Below w.heap.size w w' :=
  (heldIntS_any A n c 1 w hx (by omega) hn).mono (fun e w' ⟨h1, h2⟩ => by subst h2; exact ⟨h1, Below.refl _ _⟩)
end Go.Proofs.Ytgpjgigmlgoiiaa
