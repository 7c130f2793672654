/- What the pieces of a path mean between n places, as relations; rows of sets and matrices of bools that say a relation. Plain. -/
import Derived.Test.YtgpjgigmlgoiiaaRnd
import Derived.Test.YtgpjgigmlgoiiaaThen
import Derived.Test.YtgpjgigmlgoiiaaPcs
namespace Go.Proofs.Ytgpjgigmlgoiiaa
open Go.RowKit

abbrev Rl := Nat → Nat → Prop
def idR : Rl := fun i j => i = j
def cmpR (n : Nat) (R S : Rl) : Rl := fun i j => ∃ k, k < n ∧ R i k ∧ S k j
def orR (R S : Rl) : Rl := fun i j => R i j ∨ S i j
def noR : Rl := fun _ _ => False
/-- The composition of the kids; of none the identity. -/
def rowR (n : Nat) (all : Nat → Rl) : List Int → Rl
  | [] => idR
  | k :: ks => ks.foldl (fun R k => cmpR n R (all k.toNat)) (all k.toNat)
def altR (all : Nat → Rl) (ks : List Int) : Rl := fun i j => ∃ k ∈ ks, all k.toNat i j
def pcR (n : Nat) (st : Int → Rl) (all : Nat → Rl) (p : Pc) : Rl :=
  if p.op = 1 then st p.l else if p.op = 2 then rowR n all p.k else if p.op = 3 then altR all p.k
  else if p.op = 4 then orR (Pth (all (p.k.getD 0 0).toNat) n) idR else if p.op = 5 then Pth (all (p.k.getD 0 0).toNat) n
  else if p.op = 6 then orR (all (p.k.getD 0 0).toNat) idR else noR
def semT (n : Nat) (st : Int → Rl) (ps : List Pc) : Nat → Nat → Rl
  | 0 => fun _ => noR
  | k + 1 => fun i => if i = k then pcR n st (semT n st ps k) (ps.getD k ⟨0, 0, []⟩) else semT n st ps k i
theorem semT_old {n : Nat} {st : Int → Rl} {ps : List Pc} {k i : Nat} (h : i < k) : semT n st ps (k + 1) i = semT n st ps k i := by
  show (if i = k then _ else _) = _
  rw [if_neg (by omega)]
theorem semT_new {n : Nat} {st : Int → Rl} {ps : List Pc} {k : Nat} (h : k < ps.length) : semT n st ps (k + 1) k = pcR n st (semT n st ps k) ps[k] := by
  show (if k = k then _ else _) = _
  rw [if_pos rfl]
  simp [List.getD, h]
/-- Relations alike between n places. -/
def AsR (n : Nat) (R S : Rl) : Prop := ∀ i j, i < n → j < n → (R i j ↔ S i j)
theorem AsR.refl (n : Nat) (R : Rl) : AsR n R R := fun _ _ _ _ => Iff.rfl
theorem AsR.symm {n : Nat} {R S : Rl} (h : AsR n R S) : AsR n S R := fun i j hi hj => (h i j hi hj).symm
theorem AsR.trans {n : Nat} {R S T : Rl} (h : AsR n R S) (h2 : AsR n S T) : AsR n R T := fun i j hi hj => (h i j hi hj).trans (h2 i j hi hj)
theorem pth_in {n : Nat} {R S : Rl} (h : AsR n R S) {i j : Nat} (hp : Pth R n i j) : i < n → j < n → Pth S n i j := by
  induction hp with
  | one h1 => exact fun hi hj => .one ((h _ _ hi hj).1 h1)
  | cat _ hm _ ih1 ih2 => exact fun hi hj => .cat (ih1 hi hm) hm (ih2 hm hj)
theorem AsR.pth {n : Nat} {R S : Rl} (h : AsR n R S) : AsR n (Pth R n) (Pth S n) := fun _ _ hi hj => ⟨fun hp => pth_in h hp hi hj, fun hp => pth_in h.symm hp hi hj⟩
theorem rowR_one (n : Nat) (all : Nat → Rl) (k : Int) : rowR n all [k] = all k.toNat := rfl
theorem rowR_more (n : Nat) (all : Nat → Rl) (ks : List Int) (k : Int) (h : 0 < ks.length) : rowR n all (ks ++ [k]) = cmpR n (rowR n all ks) (all k.toNat) := by
  cases ks with
  | nil => exact absurd h (by simp)
  | cons a ks => simp [rowR, List.foldl_append]
theorem rowR_next (n : Nat) (all : Nat → Rl) (ks : List Int) (k : Int) : AsR n (cmpR n (rowR n all ks) (all k.toNat)) (rowR n all (ks ++ [k])) := by
  cases ks with
  | nil =>
    intro i j hi hj
    constructor
    · rintro ⟨m, _, h1, h2⟩
      have : i = m := h1
      subst this
      exact h2
    · intro h
      exact ⟨i, hi, rfl, h⟩
  | cons a ks =>
    rw [rowR_more n all (a :: ks) k (by simp)]
    exact AsR.refl _ _
theorem altR_next (n : Nat) (all : Nat → Rl) (ks : List Int) (k : Int) : AsR n (orR (altR all ks) (all k.toNat)) (altR all (ks ++ [k])) := by
  intro i j _ _
  constructor
  · rintro (⟨m, h1, h2⟩ | h)
    · exact ⟨m, by simp [h1], h2⟩
    · exact ⟨k, by simp, h⟩
  · rintro ⟨m, h1, h2⟩
    rcases List.mem_append.1 h1 with h1 | h1
    · exact .inl ⟨m, h1, h2⟩
    · simp only [List.mem_cons, List.not_mem_nil, or_false] at h1
      subst h1
      exact .inr h2

/-- A row of sets of bits says a relation. -/
structure IsU (n : Nat) (rs : List Nat) (R : Rl) : Prop where
  len : rs.length = n
  lo : Lo32 rs
  bit : ∀ i, i < n → ∀ j, RB rs i j ↔ (j < n ∧ R i j)
theorem IsU.as {n : Nat} {rs : List Nat} {R S : Rl} (h : IsU n rs R) (hs : AsR n R S) : IsU n rs S :=
  ⟨h.len, h.lo, fun i hi j => (h.bit i hi j).trans ⟨fun ⟨h1, h2⟩ => ⟨h1, (hs i j hi h1).1 h2⟩, fun ⟨h1, h2⟩ => ⟨h1, (hs i j hi h1).2 h2⟩⟩⟩
theorem lo_rowF {n : Nat} {f : Nat → Nat} (h : ∀ i, i < n → f i < 4294967296) : Lo32 (rowF n f) := by
  intro i
  by_cases hi : i < n
  · rw [rowF_at hi]; exact h i hi
  · rw [gd_far (by rw [rowF_len]; omega)]; omega
theorem IsU.one {n : Nat} (hn : n ≤ 32) : IsU n (idN n) idR := by
  refine ⟨rowF_len _ _, lo_rowF (fun i hi => ?_), fun i hi j => ?_⟩
  · exact Nat.pow_lt_pow_right (by omega) (show i < 32 by omega)
  · rw [idN_rb hi]
    exact ⟨fun h => ⟨by omega, h⟩, fun h => h.2⟩
theorem IsU.none (n : Nat) : IsU n (rowF n (fun _ => 0)) noR := by
  refine ⟨rowF_len _ _, lo_rowF (fun i _ => by omega), fun i hi j => ?_⟩
  unfold RB
  rw [rowF_at hi]
  simp [noR]
theorem IsU.or {n : Nat} {a b : List Nat} {R S : Rl} (h : IsU n a R) (h2 : IsU n b S) : IsU n (orN a b) (orR R S) := by
  refine ⟨by rw [orN, rowF_len, h.len], lo_rowF (fun i _ => Nat.or_lt_two_pow (n := 32) (h.lo i) (h2.lo i)), fun i hi j => ?_⟩
  rw [orN_rb (by rw [h.len]; exact hi), h.bit i hi j, h2.bit i hi j]
  constructor
  · rintro (⟨h1, h2⟩ | ⟨h1, h2⟩)
    · exact ⟨h1, .inl h2⟩
    · exact ⟨h1, .inr h2⟩
  · rintro ⟨h1, h2 | h2⟩
    · exact .inl ⟨h1, h2⟩
    · exact .inr ⟨h1, h2⟩
theorem IsU.then {n : Nat} {a b : List Nat} {R S : Rl} (h : IsU n a R) (h2 : IsU n b S) : IsU n (thenN a b) (cmpR n R S) := by
  refine ⟨by rw [thenN, rowF_len, h.len], lo_rowF (fun i _ => thTo_lt h2.lo _ _), fun i hi j => ?_⟩
  rw [thenN_rb (by rw [h.len]; exact hi), h2.len]
  constructor
  · rintro ⟨k, hk, h3, h4⟩
    have h5 := (h.bit i hi k).1 h3
    have h6 := (h2.bit k hk j).1 h4
    exact ⟨h6.1, k, hk, h5.2, h6.2⟩
  · rintro ⟨hj, k, hk, h3, h4⟩
    exact ⟨k, hk, (h.bit i hi k).2 ⟨hk, h3⟩, (h2.bit k hk j).2 ⟨hj, h4⟩⟩
theorem IsU.plus {n : Nat} {a : List Nat} {R : Rl} (h : IsU n a R) : IsU n (plusN a) (Pth R n) := by
  have hp := h.len
  have hA : AsR n (RB a) R := fun i j hi hj => (h.bit i hi j).trans ⟨fun h => h.2, fun h => ⟨hj, h⟩⟩
  refine ⟨by rw [plusN, plK_len, h.len], plK_lo h.lo _, fun i hi j => ?_⟩
  rw [plusN_pth, h.len]
  constructor
  · intro hp
    have hj : ∀ x y, Pth (RB a) n x y → x < n → y < n := by
      intro x y hp
      induction hp with
      | one h1 => exact fun hx => ((h.bit _ hx _).1 h1).1
      | cat _ hm _ _ ih2 => exact fun _ => ih2 hm
    have hjn := hj i j hp hi
    exact ⟨hjn, pth_in hA hp hi hjn⟩
  · rintro ⟨hj, hp⟩
    exact pth_in hA.symm hp hi hj
/-- A matrix of bools says a relation. -/
structure IsB (n : Nat) (bs : List Bool) (R : Rl) : Prop where
  len : bs.length = n * n
  bit : ∀ i j, i < n → j < n → (bs.getD (i * n + j) false = true ↔ R i j)
theorem IsB.as {n : Nat} {bs : List Bool} {R S : Rl} (h : IsB n bs R) (hs : AsR n R S) : IsB n bs S := ⟨h.len, fun i j hi hj => (h.bit i j hi hj).trans (hs i j hi hj)⟩
/-- A row and a matrix of one relation say the same. -/
theorem same_bits {n : Nat} {rs : List Nat} {bs : List Bool} {R : Rl} (h : IsU n rs R) (h2 : IsB n bs R) {i j : Nat} (hi : i < n) (hj : j < n) : (rs.getD i 0).testBit j = bs.getD (i * n + j) false := by
  rw [Bool.eq_iff_iff]
  have h3 := h.bit i hi j
  unfold RB at h3
  rw [h3, h2.bit i j hi hj]
  exact ⟨fun h => h.2, fun h => ⟨hj, h⟩⟩
theorem far_bit {n : Nat} {rs : List Nat} {R : Rl} (h : IsU n rs R) {i j : Nat} (hi : i < n) (hj : n ≤ j) : (rs.getD i 0).testBit j = false := by
  have h3 := h.bit i hi j
  unfold RB at h3
  cases hb : (rs.getD i 0).testBit j with
  | false => rfl
  | true => have := (h3.1 hb).1; omega
end Go.Proofs.Ytgpjgigmlgoiiaa
