/- Two boxes that a call lays at its entry; a bool that a region leaves. (From XSSame, XSameF.) No conditions. -/
import Derived.Test.YtlnphcongijfiaaBlk
namespace Go.Proofs.Ytlnphcongijfiaa
open Go.RowKit
theorem new_two (w : World) (o1 o2 : Obj) : ∃ W, (w.alloc o1).alloc o2 = W ∧ W.heap[w.heap.size]? = some o1 ∧ W.heap[w.heap.size + 1]? = some o2 ∧ Below w.heap.size w W ∧ W.heap.size = w.heap.size + 2 := by
  refine ⟨_, rfl, blk_below (below_alloc _ _) (heap_alloc_new w o1), ?_, below_step (below_alloc _ _) (below_alloc _ _), by simp⟩
  have := heap_alloc_new (w.alloc o1) o2
  simpa using this
def HasBox (w : World) (p q : Obj) (wr : World) : Prop := wr.heap[w.heap.size]? = some p ∧ wr.heap[w.heap.size + 1]? = some q ∧ Below w.heap.size w wr
theorem HasBox.bel {w wr : World} {p q : Obj} (h : HasBox w p q wr) : Below w.heap.size w wr := h.2.2
theorem HasBox.keep {w wr w' : World} {p q : Obj} (h : HasBox w p q wr) (hb : Below wr.heap.size wr w') : HasBox w p q w' := ⟨blk_below hb h.1, blk_below hb h.2.1, below_step h.2.2 hb⟩
/-- What a region leaves: a bool. -/
def CutB (wy : World) (r : Bool) (v : Value) (wz : World) : Prop := v = .bool r ∧ Below wy.heap.size wy wz
end Go.Proofs.Ytlnphcongijfiaa
