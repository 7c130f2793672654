/- Lists of pairs: plain, and while they are made. No conditions. -/
import Derived.Test.YtgpjgigmlgoiiaaMarkSS
import Derived.Test.YtgpjgigmlgoiiaaSem
import Derived.Test.YtgpjgigmlgoiiaaGraphOk
namespace Go.Proofs.Ytgpjgigmlgoiiaa
open Go.RowKit

theorem Rd.new1 (w : World) (a : Value) (e : TypeId) : Rd (w.alloc (.cells #[a] e)) 1 (some ⟨w.heap.size, 0, none⟩) 1 [a] := by
  refine ⟨rfl, fun _ => ⟨_, rfl, fun j u hu => ?_⟩⟩
  have hadd : (⟨w.heap.size, 0, none⟩ : Addr).add j = ⟨w.heap.size, j, none⟩ := by unfold Addr.add; split <;> simp_all
  rw [hadd, cell_of_row _ w.heap.size j #[a] e (0, 0) (heap_alloc_new w _)]
  simpa using hu
theorem PP_inv {p : Prop} (h : PP p = true) : p := by unfold PP at h; exact @of_decide_eq_true _ (Classical.propDecidable _) h
/-- The ends of a place, as far as the first k places. -/
noncomputable def endsTo (R : Rl) (i k : Nat) : List Int := ((List.range k).filter (fun j => PP (R i j))).map (fun (j : Nat) => (j : Int))
theorem endsTo_succ (R : Rl) (i k : Nat) : endsTo R i (k + 1) = endsTo R i k ++ (if PP (R i k) = true then [(k : Int)] else []) := by
  unfold endsTo
  rw [List.range_succ, List.filter_append, List.map_append]
  by_cases h : PP (R i k) = true <;> simp [h]
theorem endsTo_len (R : Rl) (i k : Nat) : (endsTo R i k).length ≤ k := by
  unfold endsTo
  rw [List.length_map]
  refine Nat.le_trans (List.length_filter_le _ _) ?_
  simp
theorem gOk_er {n : Nat} {es : List Ed} (h : GOk n es) : ∀ e ∈ es, (0 ≤ e.f ∧ e.f < n) ∧ (0 ≤ e.t ∧ e.t < n) := by
  intro e he
  obtain ⟨i, hi, rfl⟩ := List.getElem_of_mem he
  have h1 := (h.2.2 i hi).1
  have h2 := h1.1
  have h3 := h1.2.1
  unfold vtxB at h2 h3
  rw [Bool.and_eq_true] at h2 h3
  exact ⟨⟨of_decide_eq_true h2.1, of_decide_eq_true h2.2⟩, of_decide_eq_true h3.1, of_decide_eq_true h3.2⟩

/-- The pairs of a vertex. -/
def prs (v : Nat) (zs : List Int) : List (List Int) := zs.map (fun z => [(v : Int), z])
/-- The pairs of the vertices below k. -/
noncomputable def ppTo (R : Rl) (n k : Nat) : List (List Int) := (List.range k).flatMap (fun v => prs v (endsTo R v n))
theorem ppTo_succ (R : Rl) (n k : Nat) : ppTo R n (k + 1) = ppTo R n k ++ prs k (endsTo R k n) := by simp [ppTo, List.range_succ]
theorem prs_len (v : Nat) (zs : List Int) : (prs v zs).length = zs.length := by simp [prs]
theorem prs_take (v : Nat) (zs : List Int) (j : Nat) (h : j < zs.length) : prs v (zs.take (j + 1)) = prs v (zs.take j) ++ [[(v : Int), zs.getD j 0]] := by
  unfold prs
  have e : zs.getD j 0 = zs[j] := by simp [List.getD, h]
  rw [List.take_succ_eq_append_getElem h, List.map_append, e]
  rfl
theorem ppTo_len (R : Rl) (n : Nat) : ∀ k, (ppTo R n k).length ≤ k * n
  | 0 => by simp [ppTo]
  | k + 1 => by
    rw [ppTo_succ, List.length_append, prs_len, Nat.add_mul]
    have := ppTo_len R n k
    have := endsTo_len R k n
    omega
theorem ppTo_row (R : Rl) (n k : Nat) : ∀ p ∈ ppTo R n k, p.length = 2 := by
  intro p hp
  obtain ⟨v, _, hv⟩ := List.mem_flatMap.1 hp
  obtain ⟨z, _, rfl⟩ := List.mem_map.1 hv
  rfl
theorem cntR_two {ps : List (List Int)} (h : ∀ p ∈ ps, p.length = 2) : cntR ps = 2 * ps.length := by
  induction ps with
  | nil => rfl
  | cons p ps ih =>
    have h1 := ih (fun q hq => h q (by simp [hq]))
    have h2 := h p (by simp)
    simp only [cntR, List.map_cons, List.sum_cons, List.length_cons] at h1 ⊢
    omega
/-- The pairs while they are made. -/
structure PrI (B : Nat) (v : Value) (rs : List (List Int)) (xs : List IrX) (wr : World) : Prop where
  eq : xs.map IrX.r = rs
  row : wr.ownsRow B 63 1 v rs.length (xs.map IrX.v)
  kids : ∀ x ∈ xs, wr.ownsRow B 3 1 x.v x.r.length (x.r.map (Value.int .i64))
  apart : xs.Pairwise ApartI
theorem PrI.keep {B : Nat} {v : Value} {rs : List (List Int)} {xs : List IrX} {wr w' : World} (h : PrI B v rs xs wr) (hb : Below wr.heap.size wr w') : PrI B v rs xs w' := ⟨h.eq, own_below h.row hb, fun x hx => own_below (h.kids x hx) hb, h.apart⟩
theorem PrI.xlen {B : Nat} {v : Value} {rs : List (List Int)} {xs : List IrX} {wr : World} (h : PrI B v rs xs wr) : xs.length = rs.length := by have := congrArg List.length h.eq; simpa using this
theorem PrI.ss {B : Nat} {A : Option Addr} {c : Nat} {rs : List (List Int)} {xs : List IrX} {wr : World} (h : PrI B (.slice A rs.length c) rs xs wr) : OwnSS wr B A c rs :=
  ⟨xs, h.eq, by rw [h.xlen]; exact h.row, h.kids, h.apart⟩
/-- One pair more: the pair's block, then the appended cell. -/
theorem PrI.push {B : Nat} {v v1 : Value} {rs : List (List Int)} {xs : List IrX} {wr w3 : World} {a b : Int} {Wa : World} {gq : Nat} (h : PrI B v rs xs wr) (hB : B ≤ gq) (hWa : wr.alloc (.cells #[.int .i64 a, .int .i64 b] 3) = Wa) (hq : wr.heap.size = gq)
    (ho : w3.ownsRow B 63 1 v1 (rs.length + 1) (xs.map IrX.v ++ [.slice (some ⟨gq, 0, none⟩) 2 2])) {o : Obj}
    (hg : (Wa.alloc o).grownBy w3 v.ownBlock) :
    PrI B v1 (rs ++ [[a, b]]) (xs ++ [⟨[a, b], some ⟨gq, 0, none⟩, 2⟩]) w3 := by
  subst hWa hq
  have k1 := below_alloc wr (.cells #[.int .i64 a, .int .i64 b] 3)
  have k2 := below_alloc (wr.alloc (.cells #[.int .i64 a, .int .i64 b] 3)) o
  have hr := own_below (own_below h.row k1) k2
  have hnew : (wr.alloc (.cells #[.int .i64 a, .int .i64 b] 3)).ownsRow B 3 1 (.slice (some ⟨wr.heap.size, 0, none⟩) 2 2) 2 [.int .i64 a, .int .i64 b] :=
    ⟨rfl, .inr ⟨wr.heap.size, 2, #[.int .i64 a, .int .i64 b], rfl, hB, heap_alloc_new wr _, Nat.le_refl _, by unfold maxLen; omega, rfl, rfl⟩⟩
  refine ⟨by rw [List.map_append, h.eq]; rfl, by rw [List.length_append, List.map_append]; exact ho, fun x hx => ?_, ?_⟩
  · rcases List.mem_append.1 hx with hx | hx
    · have h1 := own_below (own_below (h.kids x hx) k1) k2
      exact h1.kept hg (own_ne h1 hr (by decide))
    · simp only [List.mem_cons, List.not_mem_nil, or_false] at hx
      subst hx
      have h1 := own_below hnew k2
      exact h1.kept hg (own_ne h1 hr (by decide))
  · rw [List.pairwise_append]
    refine ⟨h.apart, List.pairwise_singleton _ _, fun x hx y hy => ?_⟩
    simp only [List.mem_cons, List.not_mem_nil, or_false] at hy
    subst hy
    unfold ApartI
    cases hv : x.v.ownBlock with
    | none => exact .inl rfl
    | some r =>
      refine .inr fun e => ?_
      have h3 := ((h.kids x hx).lt r hv).2
      have h4 : some r = some wr.heap.size := e
      injection h4 with h4
      omega
/-- What a call that makes a list of rows leaves. -/
def MadeSS (w : World) (zs : List (List Int)) (e : Ending) (w' : World) : Prop := ∃ A c, e = .returned (.slice A zs.length c) ∧ OwnSS w' w.heap.size A c zs ∧ Below w.heap.size w w'
theorem MadeSS.nil {w w' : World} (h : Below w.heap.size w w') : MadeSS w [] (.returned (.slice none 0 0)) w' := ⟨none, 0, rfl, ⟨[], rfl, World.ownsRow_nil _ _ _ _, by simp, List.Pairwise.nil⟩, h⟩
theorem Try.infoIntS : (Try.prog.info? 63).map (fun i => (i.zero, i.size, i.bytes)) = some (some (.slice none 0 0), 1, 24) := by kernel_rfl

end Go.Proofs.Ytgpjgigmlgoiiaa
