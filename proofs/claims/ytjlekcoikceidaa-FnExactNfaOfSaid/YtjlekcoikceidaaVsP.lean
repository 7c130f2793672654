/- Sets of steps as bits; who may follow whom as a row of such sets. Plain. -/
import Derived.Test.YtjlekcoikceidaaLkP
import Derived.Test.YtjlekcoikceidaaRel
namespace Go.Proofs.Ytjlekcoikceidaa
open Go.RowKit

theorem or_pow32 (o t : Nat) (ho : o < 4294967296) (ht : t < 32) : bits .or .u32 (o : Int) (2 ^ t % 4294967296) = ((o ||| 2 ^ t : Nat) : Int) := by
  have h1 : 2 ^ t < 4294967296 := by rw [show 4294967296 = 2 ^ 32 by rfl]; exact Nat.pow_lt_pow_right (by omega) ht
  have h2 : (2 : Int) ^ t % 4294967296 = ((2 ^ t : Nat) : Int) := by
    have h3 : (2 : Int) ^ t = ((2 ^ t : Nat) : Int) := (Int.natCast_pow 2 t).symm
    rw [h3]
    obtain ⟨p, hp⟩ : ∃ p : Nat, 2 ^ t = p := ⟨_, rfl⟩
    rw [hp] at h1 ⊢
    omega
  rw [h2, u32_or_nat _ _ ho h1]

/-- The steps xs (numbers from 1) as bits (from 0). -/
def bitsOf (xs : List Nat) : Nat := xs.foldl (fun o x => o ||| 2 ^ (x - 1)) 0
theorem bitsOf_fold (xs : List Nat) : ∀ (o j : Nat), (xs.foldl (fun o x => o ||| 2 ^ (x - 1)) o).testBit j = (o.testBit j || xs.any (fun x => decide (x - 1 = j))) := by
  induction xs with
  | nil => simp
  | cons x r ih =>
    intro o j
    rw [List.foldl_cons, ih, List.any_cons, Nat.testBit_or, Nat.testBit_two_pow]
    simp [Bool.or_assoc]
theorem bitsOf_bit (xs : List Nat) (j : Nat) : (bitsOf xs).testBit j = xs.any (fun x => decide (x - 1 = j)) := by
  unfold bitsOf
  rw [bitsOf_fold]
  simp
theorem bitsOf_iff {xs : List Nat} {j : Nat} (h : ∀ x ∈ xs, 1 ≤ x) : (bitsOf xs).testBit j = true ↔ j + 1 ∈ xs := by
  rw [bitsOf_bit, List.any_eq_true]
  constructor
  · rintro ⟨x, hx, e⟩
    have := h x hx
    have e2 : x - 1 = j := of_decide_eq_true e
    have : x = j + 1 := by omega
    exact this ▸ hx
  · intro hx
    exact ⟨j + 1, hx, by simp⟩
theorem bitsOf_app (xs ys : List Nat) : bitsOf (xs ++ ys) = bitsOf xs ||| bitsOf ys := by
  apply Nat.eq_of_testBit_eq
  intro j
  rw [Nat.testBit_or, bitsOf_bit, bitsOf_bit, bitsOf_bit, List.any_append]
theorem bitsOf_nil : bitsOf [] = 0 := rfl
theorem bitsOf_one (n : Nat) : bitsOf [n + 1] = 2 ^ n := by
  show 0 ||| 2 ^ (n + 1 - 1) = _
  simp
theorem fold_lt32 (n : Nat) : ∀ (xs : List Nat) (o : Nat), (∀ x ∈ xs, 1 ≤ x ∧ x ≤ n) → o < 2 ^ n → xs.foldl (fun o x => o ||| 2 ^ (x - 1)) o < 2 ^ n
  | [], _, _, h => h
  | x :: r, o, hx, h => by
    rw [List.foldl_cons]
    refine fold_lt32 n r _ (fun y hy => hx y (List.mem_cons_of_mem _ hy)) ?_
    have := hx x (by simp)
    exact Nat.or_lt_two_pow h (Nat.pow_lt_pow_right (by omega) (by omega))
theorem bitsOf_lt {xs : List Nat} {n : Nat} (h : ∀ x ∈ xs, 1 ≤ x ∧ x ≤ n) : bitsOf xs < 2 ^ n := fold_lt32 n xs 0 h (Nat.pow_pos (by omega))
theorem bitsOf_lt24 {xs : List Nat} {n : Nat} (h : ∀ x ∈ xs, 1 ≤ x ∧ x ≤ n) (hn : n ≤ 24) : bitsOf xs < 16777216 :=
  Nat.lt_of_lt_of_le (bitsOf_lt h) (by rw [show 16777216 = 2 ^ 24 by rfl]; exact Nat.pow_le_pow_right (by omega) hn)

/-- Who may follow the step i + 1. -/
def fwAt (prs : List (Nat × Nat)) (i : Nat) : Nat := bitsOf ((prs.filter (fun p => p.1 == i + 1)).map (·.2))
def fwOf (n : Nat) (prs : List (Nat × Nat)) : List Nat := rowF n (fwAt prs)
theorem fwOf_len (n : Nat) (prs : List (Nat × Nat)) : (fwOf n prs).length = n := rowF_len _ _
theorem fwOf_at {n : Nat} {prs : List (Nat × Nat)} {k : Nat} (h : k < n) : (fwOf n prs).getD k 0 = fwAt prs k := rowF_at h
theorem fwAt_iff {prs : List (Nat × Nat)} {i j : Nat} (h : ∀ p ∈ prs, 1 ≤ p.2) : (fwAt prs i).testBit j = true ↔ (i + 1, j + 1) ∈ prs := by
  unfold fwAt
  rw [bitsOf_iff (by
    intro x hx
    obtain ⟨p, hp, rfl⟩ := List.mem_map.1 hx
    exact h p (List.mem_filter.1 hp).1)]
  constructor
  · intro hx
    obtain ⟨p, hp, e⟩ := List.mem_map.1 hx
    obtain ⟨h1, h2⟩ := List.mem_filter.1 hp
    obtain ⟨a, b⟩ := p
    simp only [beq_iff_eq] at h2 e
    subst h2 e
    exact h1
  · intro hx
    exact List.mem_map.2 ⟨(i + 1, j + 1), List.mem_filter.2 ⟨hx, by simp⟩, rfl⟩
theorem fwAt_lt {prs : List (Nat × Nat)} {i n : Nat} (h : ∀ p ∈ prs, 1 ≤ p.2 ∧ p.2 ≤ n) : fwAt prs i < 2 ^ n := by
  unfold fwAt
  refine bitsOf_lt (fun x hx => ?_)
  obtain ⟨p, hp, rfl⟩ := List.mem_map.1 hx
  exact h p (List.mem_filter.1 hp).1
theorem pow_24 {n x : Nat} (hn : n ≤ 24) (h : x < 2 ^ n) : x < 16777216 :=
  Nat.lt_of_lt_of_le h (by rw [show 16777216 = 2 ^ 24 by rfl]; exact Nat.pow_le_pow_right (by omega) hn)
/-- A step is put behind the others. -/
theorem fwOf_more {s : LkS} (h : StOk s) : fwOf (s.labs.length + 1) s.prs = fwOf s.labs.length s.prs ++ [0] := by
  unfold fwOf rowF
  rw [List.range_succ, List.map_append]
  congr 1
  have e : s.prs.filter (fun p => p.1 == s.labs.length + 1) = [] := by
    rw [List.filter_eq_nil_iff]
    intro p hp
    have := (h.prs p hp).1
    simp only [beq_iff_eq]
    omega
  show [fwAt s.prs s.labs.length] = [0]
  unfold fwAt
  rw [e]
  rfl

/-- What connect makes of the row. -/
def conStep (N : Nat) (fw : List Nat) (z : Int) : List Nat := fw.set z.toNat (fw.getD z.toNat 0 ||| N)
def conN (N : Nat) (fw : List Nat) (zs : List Int) : List Nat := zs.foldl (conStep N) fw
theorem conN_len (N : Nat) : ∀ (zs : List Int) (fw : List Nat), (conN N fw zs).length = fw.length
  | [], _ => rfl
  | z :: r, fw => by
    show (conN N (conStep N fw z) r).length = _
    rw [conN_len N r]
    simp [conStep]
theorem conN_at (N : Nat) : ∀ (zs : List Int) (fw : List Nat) (i : Nat), i < fw.length → (conN N fw zs).getD i 0 = if zs.any (fun z => decide (z.toNat = i)) = true then fw.getD i 0 ||| N else fw.getD i 0
  | [], fw, i, _ => by simp [conN]
  | z :: r, fw, i, hi => by
    show (conN N (conStep N fw z) r).getD i 0 = _
    have hl : (conStep N fw z).length = fw.length := by simp [conStep]
    rw [conN_at N r _ i (by omega), List.any_cons]
    have he : (conStep N fw z).getD i 0 = if z.toNat = i then fw.getD i 0 ||| N else fw.getD i 0 := by
      unfold conStep
      by_cases e : z.toNat = i
      · rw [if_pos e]
        subst e
        simp [List.getD, hi]
      · rw [if_neg e]
        simp [List.getD, e]
    rw [he]
    by_cases e : z.toNat = i
    · simp only [e, decide_true, Bool.true_or, if_true]
      split
      · rw [Nat.or_assoc, Nat.or_self]
      · rfl
    · simp only [e, decide_false, Bool.false_or, if_false]
theorem conN_take {N : Nat} {fw : List Nat} {zs : List Int} {k : Nat} (h : k < zs.length) : conN N fw (zs.take (k + 1)) = conStep N (conN N fw (zs.take k)) (zs.getD k 0) := by
  unfold conN
  rw [List.take_succ_eq_append_getElem h, List.foldl_append]
  simp [List.getD, h]
theorem list_ext {xs ys : List Nat} (h : xs.length = ys.length) (h2 : ∀ i, i < xs.length → xs.getD i 0 = ys.getD i 0) : xs = ys := by
  refine List.ext_getElem h (fun i h1 h3 => ?_)
  have := h2 i h1
  simpa [List.getD, h1, h3] using this
/-- The joined pairs, as connect leaves them. -/
theorem conN_join {n : Nat} (hn : n ≤ 24) {prs : List (Nat × Nat)} {xs ys : List Nat} (hx : ∀ x ∈ xs, 1 ≤ x ∧ x ≤ n) (hy : ∀ y ∈ ys, 1 ≤ y) (hp : ∀ p ∈ prs, 1 ≤ p.2) :
    conN (bitsOf ys) (fwOf n prs) (bitsTo (bitsOf xs) 32) = fwOf n (prs ++ prsOf xs ys) := by
  refine list_ext (by rw [conN_len, fwOf_len, fwOf_len]) (fun i hi => ?_)
  rw [conN_len, fwOf_len] at hi
  rw [conN_at _ _ _ i (by rw [fwOf_len]; exact hi), fwOf_at hi, fwOf_at hi]
  have hany : (bitsTo (bitsOf xs) 32).any (fun z => decide (z.toNat = i)) = true ↔ i + 1 ∈ xs := by
    rw [List.any_eq_true]
    constructor
    · rintro ⟨z, hz, e⟩
      obtain ⟨j, rfl, _, hb⟩ := bitsTo_mem.1 hz
      have e2 : j = i := of_decide_eq_true e
      subst e2
      exact (bitsOf_iff (fun x h => (hx x h).1)).1 hb
    · intro h
      exact ⟨(i : Int), bitsTo_mem.2 ⟨i, rfl, by omega, (bitsOf_iff (fun x h => (hx x h).1)).2 h⟩, by simp⟩
  have hpp : ∀ p ∈ prs ++ prsOf xs ys, 1 ≤ p.2 := by
    intro p h
    rcases List.mem_append.1 h with h | h
    · exact hp p h
    · obtain ⟨a, b⟩ := p
      exact hy b (prsOf_mem.1 h).2
  apply Nat.eq_of_testBit_eq
  intro j
  rw [Bool.eq_iff_iff, fwAt_iff hpp, List.mem_append, prsOf_mem]
  split
  next h =>
    rw [Nat.testBit_or, Bool.or_eq_true, fwAt_iff hp, bitsOf_iff hy]
    simp [hany.1 h]
  next h =>
    rw [fwAt_iff hp]
    have : ¬ i + 1 ∈ xs := fun h2 => h (hany.2 h2)
    simp [this]
end Go.Proofs.Ytjlekcoikceidaa
