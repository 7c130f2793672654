/- GraphOk: the program's function. No conditions but the labels' range. -/
import Derived.Test.YtjlekcoikceidaaGraph
import Derived.Deep.QuietTactic
import Derived.BigQuiet
namespace Go.Proofs.Ytjlekcoikceidaa
open Go.RowKit

noncomputable def PP (p : Prop) : Bool := @decide p (Classical.propDecidable p)
theorem PP_yes {p : Prop} (h : p) : PP p = true := by simp [PP, h]
theorem PP_no {p : Prop} (h : ¬ p) : PP p = false := by simp [PP, h]

def vtxB (s v : Int) : Bool := decide (0 ≤ v) && decide (v < s)
def lblB (l : Int) : Bool := decide (97 ≤ l) && decide (l ≤ 100)
/-- An edge of a graph with s vertices. -/
def EdOk (s : Int) (e : Ed) : Prop := vtxB s e.f = true ∧ vtxB s e.t = true ∧ lblB e.l = true
/-- A valid graph. -/
def GOk (s : Int) (es : List Ed) : Prop := (1 ≤ s ∧ s ≤ 12) ∧ es.length ≤ 40 ∧ ∀ i (h : i < es.length), EdOk s es[i] ∧ ∀ j (hj : j + 1 = i), edLess (es[j]'(by omega)) es[i] = true

set_option maxRecDepth 100000 in
theorem isLabel_any (l : Int) (w : World) : Calls Try.prog 49 #[.int .u8 l] w fun e w' => e = .returned (.bool (lblB l)) ∧ w = w' := by
  unfold lblB
  by_cases h1 : 97 ≤ l <;> by_cases h2 : l ≤ 100
  all_goals
    go_enter Try.func49, Try.ntmps49
    go_wp2
    go_ret
    simp [*]

/-- The first k edges are in order. -/
def OkTo (s : Int) (es : List Ed) (k : Nat) : Prop := ∀ i (h : i < es.length), i < k → EdOk s es[i] ∧ ∀ j (hj : j + 1 = i), edLess (es[j]'(by omega)) es[i] = true
theorem OkTo.next {s : Int} {es : List Ed} {k : Nat} (h : OkTo s es k) (hk : k < es.length) (he : EdOk s es[k]) (hl : ∀ j (hj : j + 1 = k), edLess (es[j]'(by omega)) es[k] = true) : OkTo s es (k + 1) := by
  intro i hi hik
  by_cases e : i = k
  · subst e; exact ⟨he, hl⟩
  · exact h i hi (by omega)
theorem ret_b2 {a b : Bool} (h : a = b) : Ending.returned (.bool a) = .returned (.bool b) := by rw [h]

end Go.Proofs.Ytjlekcoikceidaa
