/- toIntS copies a slice of ints into a new one; eqIntS, sameInts compare two. No conditions but the lengths. -/
import Derived.Test.YtlnphcongijfiaaDoorMem
import Derived.Deep.QuietTactic
import Derived.BigQuiet
namespace Go.Proofs.YtlnphcongijfiaaDoor
open Go.RowKit

theorem Tryd.infoInt : (Tryd.prog.info? 3).map (fun i => (i.zero, i.size, i.bytes)) = some (some (.int .i64 0), 1, 8) := by kernel_rfl

/-- A new slice that owns the ints zs. -/
def NewI (w0 w : World) (v : Value) (zs : List Int) : Prop := w.ownsRow w0.heap.size 3 1 v zs.length (zs.map (Value.int .i64))

/-- What a call that makes a slice of ints leaves. -/
def MadeI (w : World) (zs : List Int) (e : Ending) (w' : World) : Prop := ∃ A c, e = .returned (.slice A zs.length c) ∧ w'.ownsRow w.heap.size 3 1 (.slice A zs.length c) zs.length (zs.map (Value.int .i64)) ∧ Below w.heap.size w w'

theorem MadeI.rd {w w' : World} {zs : List Int} {A : Option Addr} {c : Nat} (h : w'.ownsRow w.heap.size 3 1 (.slice A zs.length c) zs.length (zs.map (Value.int .i64))) : RdI w' A zs.length zs := Rd.of_own h

theorem map_take_set (zs : List Int) (ys : List Value) (k : Nat) (hk : k < zs.length) (hl : ys.length = zs.length) (h : ys.take k = (zs.take k).map (Value.int .i64)) :
    (ys.set k (.int .i64 (zs.getD k 0))).take (k + 1) = (zs.take (k + 1)).map (Value.int .i64) := by
  rw [List.take_succ_eq_append_getElem (by simp; omega), List.take_succ_eq_append_getElem (l := zs) hk, List.map_append, List.take_set_of_le (by omega), h]
  simp [List.getD, List.getElem?_eq_getElem hk]

def eqL (xs ys : List Int) : Bool := decide (xs = ys)
theorem eqL_yes {xs ys : List Int} (h : xs = ys) : eqL xs ys = true := by simp [eqL, h]
theorem eqL_no {xs ys : List Int} (h : ¬ xs = ys) : eqL xs ys = false := by simp [eqL, h]
theorem take_next {l : List Int} {k : Nat} (h : k < l.length) : l.take (k + 1) = l.take k ++ [l.getD k 0] := by
  rw [List.take_succ_eq_append_getElem h]
  simp [List.getD, List.getElem?_eq_getElem h]
theorem ret_b {a b : Bool} (h : a = b) : Ending.returned (.bool a) = .returned (.bool b) := by rw [h]

end Go.Proofs.YtlnphcongijfiaaDoor
