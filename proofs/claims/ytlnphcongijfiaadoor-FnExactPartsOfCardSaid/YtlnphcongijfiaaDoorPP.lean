/- A proposition as a Bool. No conditions. -/
import Derived.Test.YtlnphcongijfiaaDoorKit
namespace Go.Proofs.YtlnphcongijfiaaDoor
open Go.RowKit
noncomputable def PP (p : Prop) : Bool := @decide p (Classical.propDecidable p)
theorem PP_yes {p : Prop} (h : p) : PP p = true := by simp [PP, h]
theorem PP_no {p : Prop} (h : ¬ p) : PP p = false := by simp [PP, h]
theorem PP_iff {p q : Prop} (h : p ↔ q) : PP p = PP q := by rw [propext h]
theorem PP_of {p : Prop} (h : PP p = true) : p := by unfold PP at h; exact @of_decide_eq_true _ (Classical.propDecidable _) h
theorem PP_not {p : Prop} (h : PP p = false) : ¬ p := fun hp => by rw [PP_yes hp] at h; cases h
theorem ret_b2 {a b : Bool} (h : a = b) : Ending.returned (.bool a) = .returned (.bool b) := by rw [h]
end Go.Proofs.YtlnphcongijfiaaDoor
