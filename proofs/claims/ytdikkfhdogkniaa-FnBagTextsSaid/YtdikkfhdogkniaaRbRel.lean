/- Reading a bag: what the loops keep, plain and in memory. No conditions. -/
import Derived.Test.YtdikkfhdogkniaaBagT
import Derived.Test.YtdikkfhdogkniaaBagM
import Derived.Test.YtdikkfhdogkniaaApp
import Derived.Test.YtdikkfhdogkniaaTouch
namespace Go.Proofs.Ytdikkfhdogkniaa
open Go.RowKit

/-- What is read of a row so far, k numbers being left. -/
def NumsRel (s : ByteArray) (F : List Int × Option Nat) (vs : List Int) (k : Nat) (st : Option Nat) : Prop :=
  (st = none → F.2 = none) ∧ ∀ b, st = some b → (vs ++ (rdNums s k (some b)).1, (rdNums s k (some b)).2) = F
theorem NumsRel.next {s : ByteArray} {F : List Int × Option Nat} {vs : List Int} {k : Nat} {st : Option Nat} (h : NumsRel s F vs (k + 1) st) : NumsRel s F (vs ++ [(scVal (scNum s st) : Int)]) k ((scNum s st).map Prod.snd) := by
  cases st with
  | none => exact ⟨fun _ => h.1 rfl, fun b hb => by cases hb⟩
  | some a =>
    have h2 := h.2 a rfl
    simp only [rdNums] at h2
    refine ⟨fun hn => ?_, fun b hb => ?_⟩
    · rw [hn, rdNums_none] at h2
      rw [← h2]
    · rw [hb] at h2
      rw [← h2]
      simp
theorem NumsRel.done {s : ByteArray} {F : List Int × Option Nat} {vs : List Int} {st : Option Nat} (h : NumsRel s F vs 0 st) : F.2 = st ∧ (st ≠ none → F.1 = vs) := by
  cases st with
  | none => exact ⟨h.1 rfl, fun h => absurd rfl h⟩
  | some a =>
    have h2 := h.2 a rfl
    simp only [rdNums, List.append_nil] at h2
    rw [← h2]
    exact ⟨rfl, fun _ => rfl⟩
/-- What is read of the items so far, k items being left. -/
def ItsRel (s : ByteArray) (F : List It × Option Nat) (xs : List It) (k : Nat) (st : Option Nat) : Prop :=
  (st = none → F.2 = none) ∧ ∀ b, st = some b → (xs ++ (rdIts s k (some b)).1, (rdIts s k (some b)).2) = F
theorem ItsRel.next {s : ByteArray} {F : List It × Option Nat} {xs : List It} {k a : Nat} {G : List Int × Option Nat} {vs : List Int} {st : Option Nat} (h : ItsRel s F xs (k + 1) (some a)) (hG : rdRow s a = G) (hF : G.2 = st ∧ (st ≠ none → G.1 = vs)) :
    ItsRel s F (xs ++ [⟨vs, scVal (scNum s st)⟩]) k ((scNum s st).map Prod.snd) := by
  have h2 := h.2 a rfl
  simp only [rdIts] at h2
  have hst : (rdIt s a).2 = (scNum s st).map Prod.snd := by unfold rdIt; rw [hG, hF.1]
  rw [hst] at h2
  refine ⟨fun hn => ?_, fun b hb => ?_⟩
  · rw [hn, rdIts_none] at h2
    rw [← h2]
  · rw [hb] at h2
    have hne : st ≠ none := fun e => by rw [e] at hb; cases hb
    have hit : (rdIt s a).1 = ⟨vs, scVal (scNum s st)⟩ := by unfold rdIt; rw [hG, hF.1, hF.2 hne]
    rw [hit] at h2
    rw [← h2]
    simp
theorem ItsRel.done {s : ByteArray} {F : List It × Option Nat} {xs : List It} {st : Option Nat} (h : ItsRel s F xs 0 st) : F.2 = st ∧ (st ≠ none → F.1 = xs) := by
  cases st with
  | none => exact ⟨h.1 rfl, fun h => absurd rfl h⟩
  | some a =>
    have h2 := h.2 a rfl
    simp only [rdIts, List.append_nil] at h2
    rw [← h2]
    exact ⟨rfl, fun _ => rfl⟩
theorem rdNums_full (s : ByteArray) : ∀ (k : Nat) (st : Option Nat), (rdNums s k st).2 ≠ none → (rdNums s k st).1.length = k
  | 0, _, _ => rfl
  | k + 1, none, h => absurd rfl h
  | k + 1, some a, h => by
    simp only [rdNums] at h ⊢
    rw [List.length_cons, rdNums_full s k _ h]
theorem ItsRel.wide {s : ByteArray} {F : List It × Option Nat} {xs : List It} {k a : Nat} (h : ItsRel s F xs (k + 1) (some a)) (hw : 4 < scVal (scNum s (some a))) (hF : F.2 ≠ none) : ¬ BgOk F.1 := by
  have h2 := h.2 a rfl
  simp only [rdIts] at h2
  intro hok
  have hne : (rdIt s a).2 ≠ none := fun e => by rw [e, rdIts_none] at h2; rw [← h2] at hF; exact hF rfl
  have hrow : (rdRow s a).2 ≠ none := fun e => hne (by unfold rdIt; rw [e]; rfl)
  have hlen : (rdRow s a).1.length = min (scVal (scNum s (some a))) 10 := rdNums_full s _ _ hrow
  have hm : (rdIt s a).1 ∈ F.1 := by rw [← h2]; simp
  have := (hok.it hm).1.1
  have e : (rdIt s a).1.r = (rdRow s a).1 := rfl
  rw [e, hlen] at this
  omega
theorem rb_long {s : ByteArray} (h : 300 < scVal (rbCount s)) (hF : (rbIts s).2 ≠ none) : ¬ BgOk (rbIts s).1 := by
  intro hok
  have h1 := rdIts_full s _ _ hF
  have h2 := hok.1
  have h3 : (rbIts s).1.length = min (scVal (rbCount s)) 310 := h1
  omega
theorem rbOut_no {s : ByteArray} (h : (rbIts s).2 ≠ none → ¬ BgOk (rbIts s).1) : rbOut s = none := by
  unfold rbOut
  rw [if_neg]
  rintro ⟨h1, h2⟩
  exact h (by rw [h1]; simp) h2

theorem rdRow_len (s : ByteArray) (a : Nat) : (rdRow s a).1.length ≤ 10 := by
  unfold rdRow
  have := rdNums_len s (min (scVal (scNum s (some a))) 10) ((scNum s (some a)).map Prod.snd)
  omega
theorem rdIts_row (s : ByteArray) : ∀ (k : Nat) (st : Option Nat), ∀ p ∈ (rdIts s k st).1, p.r.length ≤ 10
  | 0, _ => by simp [rdIts]
  | k + 1, none => by simp [rdIts]
  | k + 1, some a => by
    intro p hp
    simp only [rdIts, List.mem_cons] at hp
    rcases hp with rfl | hp
    · exact rdRow_len s a
    · exact rdIts_row s k _ p hp
def oB (o : Option (List It)) : List It := o.getD []
/-- What a call that makes a bag and a bool leaves. -/
def MadeBB (w : World) (o : Option (List It)) (e : Ending) (w' : World) : Prop :=
  ∃ A c, e = .returned (.tuple #[.agg #[.slice A (oB o).length c], .bool o.isSome]) ∧ OwnB w' w.heap.size A c (oB o) ∧ Below w.heap.size w w'
theorem MadeBB.of {w w' : World} {o o' : Option (List It)} {e : Ending} (h : o = o') (hm : MadeBB w o' e w') : MadeBB w o e w' := h ▸ hm
theorem rd_new2 (w : World) (a b : Value) (e : TypeId) : Rd (w.alloc (.cells #[a, b] e)) 2 (some ⟨w.heap.size, 0, none⟩) 1 [a, b] := by
  refine ⟨rfl, fun _ => ⟨_, rfl, fun j u hu => ?_⟩⟩
  have hadd : (⟨w.heap.size, 0, none⟩ : Addr).add j = ⟨w.heap.size, j, none⟩ := by unfold Addr.add; split <;> simp_all
  rw [hadd, cell_of_row _ w.heap.size j #[a, b] e (0, 0) (heap_alloc_new w _)]
  simpa using hu
/-- Items of the call's own are kept where another row grows. -/
theorem OwnBx.grown {w w' : World} {base c : Nat} {A : Option Addr} {xs : List ItX} {row : Option Nat} (h : OwnBx w base A c xs) (hg : w.grownBy w' row) (h1 : (Value.slice A xs.length c).ownBlock = none ∨ (Value.slice A xs.length c).ownBlock ≠ row) (h2 : ∀ x ∈ xs, x.v.ownBlock = none ∨ x.v.ownBlock ≠ row) : OwnBx w' base A c xs :=
  ⟨h.row.kept hg h1, fun x hx => (h.kids x hx).kept hg (h2 x hx), h.apart⟩
/-- The items with one more. -/
theorem OwnBx.push {w1 w3 : World} {base B c c1 kc : Nat} {A A1 K : Option Addr} {xs : List ItX} {p : It} {o : Obj} (h : OwnBx w1 base A c xs) (hB : base ≤ B) (hx : ∀ x ∈ xs, ∀ r, x.v.ownBlock = some r → r < B)
    (hk : w1.ownsRow B 3 1 (.slice K p.r.length kc) p.r.length (p.r.map (Value.int .i64)))
    (hown : w3.ownsRow base 54 2 (.slice A1 (xs.length + 1) c1) (xs.length + 1) (ixCells xs ++ [.slice K p.r.length kc, .int .i64 p.t]))
    (hg : (w1.alloc o).grownBy w3 (Value.slice A xs.length c).ownBlock) : OwnBx w3 base A1 c1 (xs ++ [⟨p, K, kc⟩]) := by
  have h2 := h.keep (below_alloc w1 o)
  have hk2 := own_below hk (below_alloc w1 o)
  have hlen : (xs ++ [(⟨p, K, kc⟩ : ItX)]).length = xs.length + 1 := by simp
  refine ⟨?_, ?_, ?_⟩
  · rw [hlen, ixCells_append]
    exact hown
  · intro x hx'
    rcases List.mem_append.1 hx' with hx' | hx'
    · exact (h2.kids x hx').kept hg (own_ne (h2.kids x hx') h2.row (by decide))
    · simp only [List.mem_cons, List.not_mem_nil, or_false] at hx'
      subst hx'
      exact own_mono (hk2.kept hg (own_ne hk2 h2.row (by decide))) hB
  · rw [List.pairwise_append]
    refine ⟨h.apart, List.pairwise_singleton _ _, fun x hx' y hy => ?_⟩
    simp only [List.mem_cons, List.not_mem_nil, or_false] at hy
    subst hy
    unfold ApartB
    cases hv : x.v.ownBlock with
    | none => exact .inl rfl
    | some r =>
      refine .inr fun e => ?_
      have h3 := hx x hx' r hv
      have h4 := (hk.lt r e.symm).1
      omega
theorem OwnBx.setCell {w : World} {base c g j : Nat} {A : Option Addr} {xs : List ItX} {u : Value} (h : OwnBx w base A c xs) (hg : g < base) : OwnBx (w.setCell ⟨g, j, none⟩ u) base A c xs :=
  ⟨ownsRow_setCell_below h.row (by simpa using hg) _, fun x hx => ownsRow_setCell_below (h.kids x hx) (by simpa using hg) _, h.apart⟩

/-- What the loops of ReadBag keep: the scanner, the bag's box, the result's, the items. -/
structure RB (T : TypeId) (w : World) (s : ByteArray) (st : Option Nat) (A : Option Addr) (c : Nat) (xs : List ItX) (wr : World) : Prop where
  sc : ScAt T (w.heap.size + 1) s st wr
  bx : wr.heap[w.heap.size + 1 + 1]? = some (.cells #[.slice A xs.length c] 29 (0, 0))
  res : wr.heap[w.heap.size]? = some (.cells #[.slice none 0 0] 29 (0, 0))
  own : OwnBx wr (w.heap.size + 3) A c xs
  bel : Below w.heap.size w wr
section
variable {T : TypeId} {w wr wr' : World} {s : ByteArray} {st st' : Option Nat} {A : Option Addr} {c : Nat} {xs : List ItX}
theorem RB.sz (h : RB T w s st A c xs wr) : w.heap.size + 3 ≤ wr.heap.size := blk_lt h.bx
theorem RB.rowNe (h : RB T w s st A c xs wr) (g : Nat) (hg : g < w.heap.size + 3) : (Value.slice A xs.length c).ownBlock = none ∨ (Value.slice A xs.length c).ownBlock ≠ some g :=
  .inr fun e => by have := (h.own.row.lt g e).1; omega
theorem RB.kidNe (h : RB T w s st A c xs wr) (g : Nat) (hg : g < w.heap.size + 3) : ∀ x ∈ xs, x.v.ownBlock = none ∨ x.v.ownBlock ≠ some g := fun x hx =>
  .inr fun e => by have := ((h.own.kids x hx).lt g e).1; omega
theorem RB.scan (h : RB T w s st A c xs wr) (hs : ScAt T (w.heap.size + 1) s st' wr') (hg : wr.grownBy wr' (some (w.heap.size + 1))) : RB T w s st' A c xs wr' where
  sc := hs
  bx := (hg.block _ (blk_lt h.bx) (fun e => by injection e; omega)).trans h.bx
  res := (hg.block _ (blk_lt h.res) (fun e => by injection e; omega)).trans h.res
  own := h.own.grown hg (h.rowNe _ (by omega)) (h.kidNe _ (by omega))
  bel := h.bel.grown hg h.bel.size (fun k hk => by injection hk; omega)
theorem RB.keep (h : RB T w s st A c xs wr) (hb : Below wr.heap.size wr wr') : RB T w s st A c xs wr' where
  sc := h.sc.below hb
  bx := blk_below hb h.bx
  res := blk_below hb h.res
  own := h.own.keep hb
  bel := below_step h.bel hb
/-- Another row, from block B on, grows. -/
theorem RB.other (h : RB T w s st A c xs wr) {B : Nat} {row : Option Nat} (hg : wr.grownBy wr' row) (hr : ∀ r, row = some r → B ≤ r) (hB : w.heap.size + 3 ≤ B)
    (hA : ∀ r, (Value.slice A xs.length c).ownBlock = some r → r < B) (hx : ∀ x ∈ xs, ∀ r, x.v.ownBlock = some r → r < B) : RB T w s st A c xs wr' where
  sc := h.sc.grown hg (fun e => by have := hr _ e.symm; omega)
  bx := (hg.block _ (blk_lt h.bx) (fun e => by have := hr _ e.symm; omega)).trans h.bx
  res := (hg.block _ (blk_lt h.res) (fun e => by have := hr _ e.symm; omega)).trans h.res
  own := by
    have ne : ∀ u : Option Nat, (∀ r, u = some r → r < B) → u = none ∨ u ≠ row := fun u hu => by
      cases hu' : u with
      | none => exact .inl rfl
      | some r => exact .inr fun e => by have h1 := hu r hu'; have h2 := hr r e.symm; omega
    exact h.own.grown hg (ne _ hA) (fun x hx' => ne _ (hx x hx'))
  bel := h.bel.grown hg h.bel.size (fun k hk => by have := hr k hk; omega)
/-- One item more. -/
theorem RB.put (h : RB T w s st A c xs wr) {B c1 kc : Nat} {A1 K : Option Addr} {p : It} {o : Obj} {w3 : World} (hB : w.heap.size + 3 ≤ B) (hx : ∀ x ∈ xs, ∀ r, x.v.ownBlock = some r → r < B)
    (hk : wr.ownsRow B 3 1 (.slice K p.r.length kc) p.r.length (p.r.map (Value.int .i64)))
    (hown : w3.ownsRow (w.heap.size + 3) 54 2 (.slice A1 (xs.length + 1) c1) (xs.length + 1) (ixCells xs ++ [.slice K p.r.length kc, .int .i64 p.t]))
    (hg : (wr.alloc o).grownBy w3 (Value.slice A xs.length c).ownBlock) : RB T w s st A1 c1 (xs ++ [⟨p, K, kc⟩]) (w3.setCell ⟨w.heap.size + 1 + 1, 0, none⟩ (.slice A1 (xs.length + 1) c1)) := by
  have ha := below_alloc wr o
  have hs := h.sz
  have ne : ∀ g, g < w.heap.size + 3 → some g ≠ (Value.slice A xs.length c).ownBlock := fun g hg e => by have := (h.own.row.lt g e.symm).1; omega
  have hblk : ∀ g o', g < w.heap.size + 3 → wr.heap[g]? = some o' → w3.heap[g]? = some o' := fun g o' hl ho => (hg.block g (by have := blk_lt ho; simp; omega) (ne g hl)).trans (blk_below ha ho)
  have hlen : (xs ++ [(⟨p, K, kc⟩ : ItX)]).length = xs.length + 1 := by simp
  refine ⟨?_, ?_, ?_, ?_, ?_⟩
  · exact ((h.sc.below ha).grown hg (ne _ (by omega))).of_block (Below.heap_setCell w3 ⟨w.heap.size + 1 + 1, 0, none⟩ _ _ (by simp))
  · rw [hlen]
    exact blk_set1 (hblk _ _ (by omega) h.bx)
  · exact blk_set_ne (hblk _ _ (by omega) h.res) (by omega)
  · exact (h.own.push hB hx hk hown hg).setCell (by omega)
  · exact ((below_step h.bel ha).grown hg (by simp; omega) (fun k hk => by have := (h.own.row.lt k hk).1; omega)).setCell (by simp; omega) _
end
end Go.Proofs.Ytdikkfhdogkniaa
