/- Words for the laws on automata. No conditions. -/
import Derived.Test.YtgpjgigmlgoiiaaNfa
namespace Go.Proofs.Ytgpjgigmlgoiiaa
open Go.RowKit
theorem RdE.own {w : World} {base : Nat} {e : TypeId} {A : Option Addr} {c : Nat} {es : List Ed} (h : w.ownsRow base e 3 (.slice A es.length c) es.length (edCells es)) : RdE w A es := Rd.of_own h
theorem szN_yes {n m : Nat} {left : Int} (h : (n : Int) + m ≤ left) : szN n m left = left - n - m := if_pos h
theorem szN_no {n m : Nat} {left : Int} (h : ¬ (n : Int) + m ≤ left) : szN n m left = -1 := if_neg h
theorem eqNfa_same (s : Int) (A B A' B' : Option Addr) (c d c' d' : Nat) (es : List Ed) (bs : List Bool) (w : World) (hx : RdE w A es) (hx' : RdE w A' es) (hy : RdB w B bs.length bs) (hy' : RdB w B' bs.length bs)
    (hn : es.length ≤ 4294967296) (hm : bs.length ≤ 4294967296) :
    Calls Try.prog 13 #[.agg #[.int .i64 s, .slice A es.length c, .slice B bs.length d], .agg #[.int .i64 s, .slice A' es.length c', .slice B' bs.length d']] w fun e w' => e = .returned (.bool true) ∧ Below w.heap.size w w' := by
  refine (eqNfa_any s s A B A' B' c d c' d' es es bs bs w hx hx' hy hy' hn hn hm).mono ?_
  rintro e w1 ⟨rfl, hb⟩
  exact ⟨by rw [eqE_yes rfl, eqLB_yes rfl]; simp, hb⟩
end Go.Proofs.Ytgpjgigmlgoiiaa
