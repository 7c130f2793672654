/- Slices of ints that lie in a range of blocks: kept, marked, asked for. No conditions but the bounds. -/
import Derived.Test.YtdikkfhdogkniaaMarkI
import Derived.Test.YtdikkfhdogkniaaTouch
namespace Go.Proofs.Ytdikkfhdogkniaa
open Go.RowKit

/-- A slice of ints that is the call's own and lies in blocks from lo up to hi. -/
def OwnII (w : World) (lo hi : Nat) (A : Option Addr) (c : Nat) (zs : List Int) : Prop :=
  w.ownsRow lo 3 1 (.slice A zs.length c) zs.length (zs.map (Value.int .i64)) ∧ ∀ r, (Value.slice A zs.length c).ownBlock = some r → r < hi
theorem OwnII.of {w : World} {lo c : Nat} {A : Option Addr} {zs : List Int} (h : w.ownsRow lo 3 1 (.slice A zs.length c) zs.length (zs.map (Value.int .i64))) : OwnII w lo w.heap.size A c zs :=
  ⟨h, fun r hr => (h.lt r hr).2⟩
theorem OwnII.keep {w w' : World} {lo hi c : Nat} {A : Option Addr} {zs : List Int} (h : OwnII w lo hi A c zs) (hb : Below w.heap.size w w') : OwnII w' lo hi A c zs :=
  ⟨own_below h.1 hb, h.2⟩
theorem OwnII.touch {w w' : World} {lo hi lo' hi' c : Nat} {A : Option Addr} {zs : List Int} (h : OwnII w lo hi A c zs) (ht : Touch lo' hi' w w') (hb : hi' ≤ lo) : OwnII w' lo hi A c zs :=
  ⟨ht.own h.1 hb, h.2⟩
theorem OwnII.rd {w : World} {lo hi c : Nat} {A : Option Addr} {zs : List Int} (h : OwnII w lo hi A c zs) : RdI w A zs.length zs := Rd.of_own h.1
def MarkedII (w : World) (lo hi : Nat) (A : Option Addr) (c : Nat) (zs : List Int) (k : Int) (e : Ending) (w' : World) : Prop :=
  e = .returned (.int .i64 (k + zs.length)) ∧ OwnII w' lo hi A c (marksI k zs.length) ∧ Touch lo hi w w'
theorem markInts_any (lo hi : Nat) (A : Option Addr) (c : Nat) (zs : List Int) (k : Int) (w : World) (h : OwnII w lo hi A c zs) (hk : 0 ≤ k ∧ k ≤ 4294967296) (hn : zs.length ≤ 4294967296) :
    Calls Try.prog 29 #[.slice A zs.length c, .int .i64 k] w (MarkedII w lo hi A c zs k) := by
  refine (markIntS_any lo A zs.length c _ k w h.1 hk hn).mono ?_
  rintro e w' ⟨he, ho, hg⟩
  refine ⟨he, ⟨by rw [marksI_len]; exact ho, fun r hr => h.2 r (by rw [marksI_len] at hr; exact hr)⟩, (Touch.refl _ _ _).grown hg (fun r hr => ⟨(h.1.lt r hr).1, h.2 r hr⟩)⟩
theorem heldInts_any (A : Option Addr) (c : Nat) (zs : List Int) (k : Int) (w : World) (hx : RdI w A zs.length (marksI k zs.length)) (hk : 0 ≤ k ∧ k ≤ 4294967296) (hn : zs.length ≤ 4294967296) :
    Calls Try.prog 80 #[.slice A zs.length c, .int .i64 k] w fun e w' => e = .returned (.int .i64 (k + zs.length)) ∧ Below w.heap.size w w' := by
  refine (heldIntS_any A zs.length c k w hx hk hn).mono ?_
  rintro e w' ⟨he, rfl⟩
  exact ⟨he, Below.refl _ _⟩
end Go.Proofs.Ytdikkfhdogkniaa
