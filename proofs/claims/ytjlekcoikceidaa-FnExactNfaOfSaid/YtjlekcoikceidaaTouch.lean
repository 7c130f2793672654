/- Worlds that differ in a range of blocks only; rows of different types are different blocks. No conditions. -/
import Derived.Test.YtjlekcoikceidaaBlk
namespace Go.Proofs.Ytjlekcoikceidaa
open Go.RowKit

/-- Only blocks from lo up to hi have turned. -/
structure Touch (lo hi : Nat) (w w' : World) : Prop where
  os : w'.os = w.os
  tape : w'.tape = w.tape
  output : w'.output = w.output
  size : w.heap.size ≤ w'.heap.size
  block : ∀ k, k < w.heap.size → ¬ (lo ≤ k ∧ k < hi) → w'.heap[k]? = w.heap[k]?
theorem Touch.refl (lo hi : Nat) (w : World) : Touch lo hi w w := ⟨rfl, rfl, rfl, Nat.le_refl _, fun _ _ _ => rfl⟩
theorem Touch.trans {lo hi : Nat} {a b c : World} (h : Touch lo hi a b) (k : Touch lo hi b c) : Touch lo hi a c :=
  ⟨k.os.trans h.os, k.tape.trans h.tape, k.output.trans h.output, Nat.le_trans h.size k.size, fun i hi hn => (k.block i (Nat.lt_of_lt_of_le hi h.size) hn).trans (h.block i hi hn)⟩
theorem Touch.grown {lo hi : Nat} {a w w' : World} {row : Option Nat} (h : Touch lo hi a w) (hg : w.grownBy w' row) (hr : ∀ k, row = some k → lo ≤ k ∧ k < hi) : Touch lo hi a w' :=
  h.trans ⟨hg.os, hg.tape, hg.output, hg.size, fun k hk hn => hg.block k hk (fun e => hn (hr k e.symm))⟩
theorem Touch.below {lo hi : Nat} {w w' : World} (h : Touch lo hi w w') (hl : lo ≤ w.heap.size) : Below lo w w' :=
  ⟨h.os, h.tape, h.output, h.size, fun k hk => h.block k (by omega) (by omega)⟩
theorem Touch.cell {lo hi : Nat} {w w' : World} (h : Touch lo hi w w') {a : Addr} {v : Value} (hc : w.cell? a = some v) (ha : ¬ (lo ≤ a.block ∧ a.block < hi)) : w'.cell? a = some v :=
  (World.cell?_of_block (h.block _ (World.block_lt_of_cell? w a hc) ha)).trans hc
theorem Touch.blk {lo hi : Nat} {w w' : World} (h : Touch lo hi w w') {g : Nat} {o : Obj} (hc : w.heap[g]? = some o) (ha : ¬ (lo ≤ g ∧ g < hi)) : w'.heap[g]? = some o :=
  (h.block _ (Array.getElem?_eq_some_iff.1 hc).1 ha).trans hc
theorem Touch.own {lo hi : Nat} {w w' : World} (h : Touch lo hi w w') {base : Nat} {e : TypeId} {size : Nat} {v : Value} {n : Nat} {xs : List Value} (ho : w.ownsRow base e size v n xs) (hb : hi ≤ base) : w'.ownsRow base e size v n xs := by
  refine ⟨ho.1, ?_⟩
  rcases ho.2 with hn | ⟨g, cap, cur, rfl, hbg, hgg, rest⟩
  · exact .inl hn
  · exact .inr ⟨g, cap, cur, rfl, hbg, h.blk hgg (by omega), rest⟩

theorem ownBlock_eq (K : Option Addr) (n c : Nat) : (Value.slice K n c).ownBlock = K.map Addr.block := by cases K <;> rfl
theorem own_ne {w : World} {b b' : Nat} {e e' : TypeId} {s s' : Nat} {v v' : Value} {n n' : Nat} {ys ys' : List Value} (h : w.ownsRow b e s v n ys) (h' : w.ownsRow b' e' s' v' n' ys') (ht : e ≠ e') : v.ownBlock = none ∨ v.ownBlock ≠ v'.ownBlock := by
  rcases h.2 with ⟨rfl, _⟩ | ⟨g, cap, cur, rfl, _, hg, _⟩
  · exact .inl rfl
  · refine .inr fun hr => ?_
    rcases h'.2 with ⟨rfl, _⟩ | ⟨g2, cap2, cur2, rfl, _, hg2, _⟩
    · cases hr
    · simp only [Value.ownBlock, Option.some.injEq] at hr
      subst hr
      rw [hg] at hg2
      injection hg2 with hg2
      injection hg2 with _ h2 _
      exact ht h2
theorem blk_set1 {w : World} {g : Nat} {u0 u : Value} {t : TypeId} (h : w.heap[g]? = some (.cells #[u0] t (0, 0))) : (w.setCell ⟨g, 0, none⟩ u).heap[g]? = some (.cells #[u] t (0, 0)) := by
  simp [World.setCell, Array.getElem?_modify, h]
theorem blk_set_ne {w : World} {g g' : Nat} {j : Nat} {u : Value} {o : Obj} (h : w.heap[g]? = some o) (hne : g ≠ g') : (w.setCell ⟨g', j, none⟩ u).heap[g]? = some o := by
  rw [Below.heap_setCell _ _ _ _ hne]; exact h
theorem row_ne {w : World} {q b : Nat} {e : TypeId} {sz : Nat} {v : Value} {m : Nat} {ys : List Value} {cs : Array Value} {t : TypeId} {fz : Nat × Nat} (ho : w.ownsRow b e sz v m ys) (hq : w.heap[q]? = some (.cells cs t fz)) (ht : t ≠ e) : v.ownBlock ≠ some q := by
  intro hr
  rcases ho.2 with ⟨rfl, _⟩ | ⟨g, cap, cur, rfl, _, hg, _⟩
  · simp [Value.ownBlock] at hr
  · simp only [Value.ownBlock, Option.some.injEq] at hr
    subst hr
    rw [hg] at hq
    injection hq with hq
    injection hq with _ h2 _
    exact ht h2.symm
end Go.Proofs.Ytjlekcoikceidaa
