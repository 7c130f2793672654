/- spec.l01PickInt. No conditions but the list's length. (From XDrawH.) -/
import Derived.Test.YtgdilhkdeeodhaaDoorDraw
import Derived.Test.YtgdilhkdeeodhaaDoorIntS
namespace Go.Proofs.YtgdilhkdeeodhaaDoor
open Go.RowKit

/-- What the drawing of a number leaves. -/
def DrawnN (w0 : World) (g : Nat) (w : World) (e : Ending) (w' : World) : Prop := ∃ x : Int, e = .returned (.int .i64 x) ∧ CurAt w0 g w' ∧ w.grownBy w' (some g)
set_option maxRecDepth 100000 in
theorem l01PickInt_any (w0 : World) (g : Nat) (w : World) (A : Option Addr) (n c : Nat) (zs : List Int) (hx : RdI w A n zs) (hn : 1 ≤ n ∧ n ≤ 1000) (hcur : CurAt w0 g w) (hB : Below w0.heap.size w0 w) (hne : ∀ ad, A = some ad → ad.block ≠ g) :
    Calls Tryd.prog 29 #[.pointer (some ⟨g, 0, none⟩), .slice A n c] w (DrawnN w0 g w) := by
  obtain ⟨hn1, hn2⟩ := hn
  have C := Lib.hid (l01Below_any w0 g w n (by omega) hcur hB)
  have HX := Lib.hid hx
  have HNE := Lib.hid hne
  clear hcur hx hne
  go_enter Tryd.func29, Tryd.ntmps29
  go_wp2_with fail
  refine C.out.mono ?_
  rintro e w1 ⟨x, rfl, ⟨hx0, hx1⟩, hc1, hg1⟩
  obtain ⟨k, rfl⟩ : ∃ k : Nat, x = k := ⟨x.toNat, by omega⟩
  have hkn : k < n := by omega
  obtain ⟨ad, rfl, hcell⟩ := HX.out.at_ hkn
  have hcell1 := hg1.cell hcell (fun e => HNE.out ad rfl (by
    have : (ad.add k).block = ad.block := block_of_add ad k
    injection e with e
    rw [← this, e]))
  obtain ⟨z, hz⟩ : ∃ z, zs.getD k 0 = z := ⟨_, rfl⟩
  rw [hz] at hcell1
  clear hcell hz hx1
  have k0 : (0 : Int) ≤ (k : Int) := by omega
  have k1 : (k : Int) < (n : Int) := by omega
  go_wp2
  go_ret
  exact ⟨_, rfl, hc1, hg1⟩
end Go.Proofs.YtgdilhkdeeodhaaDoor
