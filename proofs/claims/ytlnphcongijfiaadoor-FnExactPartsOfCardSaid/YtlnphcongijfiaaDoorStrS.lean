/- Slices of strings in memory. No conditions. -/
import Derived.Test.YtlnphcongijfiaaDoorApp
import Derived.Test.YtlnphcongijfiaaDoorBlk
namespace Go.Proofs.YtlnphcongijfiaaDoor
open Go.RowKit

theorem Tryd.infoStr : (Tryd.prog.info? 9).map (fun i => (i.zero, i.size, i.bytes)) = some (some (.string ⟨#[]⟩), 1, 16) := by kernel_rfl
/-- A slice of strings reads as ws. -/
def RdS (w : World) (A : Option Addr) (ws : List ByteArray) : Prop := Rd w 1 A ws.length (ws.map Value.string)
theorem RdS.at_ {w : World} {A : Option Addr} {ws : List ByteArray} {k : Nat} (h : RdS w A ws) (hk : k < ws.length) : ∃ ad, A = some ad ∧ w.cell? (ad.add k) = some (.string ws[k]) := by
  obtain ⟨ad, u, e, hu, hc⟩ := Rd.at_ h hk
  refine ⟨ad, e, ?_⟩
  rw [hc, ← hu, List.getElem?_map, List.getElem?_eq_getElem hk]
  rfl
theorem RdS.cell {w : World} {ad : Addr} {ws : List ByteArray} {k : Nat} {u : ByteArray} (h : RdS w (some ad) ws) (hu : ws[k]? = some u) : w.cell? (ad.add k) = some (.string u) := by
  obtain ⟨hk, e⟩ := List.getElem?_eq_some_iff.1 hu
  obtain ⟨ad', e1, hc⟩ := h.at_ hk
  cases e1
  rw [hc, e]
theorem RdS.below {w w' : World} {A : Option Addr} {ws : List ByteArray} (h : RdS w A ws) (hb : Below w.heap.size w w') : RdS w' A ws := Rd.below h hb
theorem RdS.own {w : World} {b0 : Nat} {e : TypeId} {A : Option Addr} {c : Nat} {ws : List ByteArray} (h : w.ownsRow b0 e 1 (.slice A ws.length c) ws.length (ws.map Value.string)) : RdS w A ws := Rd.of_own h
theorem oneCell_strs (ws : List ByteArray) : ∀ u ∈ ws.map Value.string, u.oneCell' = true := by
  intro u hu
  obtain ⟨z, _, rfl⟩ := List.mem_map.1 hu
  rfl
theorem own_newr (w : World) {base n : Nat} {e : TypeId} {size : Nat} {cur : Array Value} {xs : List Value} (hb : base ≤ w.heap.size) (hm : n ≤ maxLen) (hx : xs.length = n * size) (hc : cur.toList = xs) :
    (w.alloc (.cells cur e)).ownsRow base e size (.slice (some ⟨w.heap.size, 0, none⟩) n n) n xs :=
  ⟨hx, .inr ⟨w.heap.size, n, cur, rfl, hb, heap_alloc_new w _, Nat.le_refl _, hm, by rw [← hx, ← hc]; simp, by rw [hc, ← hx, List.take_length]⟩⟩
theorem run_cats {P : Program} (a b : ByteArray) (h : a.size + b.size ≤ 4294967296) (w : World) : (Op.stringOp .add a b).run P w = .ok (.string (a ++ b)) w := by
  have h2 : ¬ (9223372036854775807 < a.size + b.size) := by omega
  go_simp
theorem take_nextS {ws : List ByteArray} {k : Nat} (h : k < ws.length) : ws.take (k + 1) = ws.take k ++ [ws[k]] := by
  rw [List.take_succ_eq_append_getElem h]
end Go.Proofs.YtlnphcongijfiaaDoor
