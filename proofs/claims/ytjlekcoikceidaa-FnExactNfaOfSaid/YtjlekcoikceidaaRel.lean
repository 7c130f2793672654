/- Relations as rows of sets of bits: identity, or, then. Conditions: the lengths, the values in 32 bits. -/
import Derived.Test.YtjlekcoikceidaaBits
import Derived.Test.YtjlekcoikceidaaMark
import Derived.Deep.RegionLaw
import Derived.Deep.RegionHeld3
namespace Go.Proofs.Ytjlekcoikceidaa
open Go.RowKit

def u32s (rs : List Nat) : List Value := rs.map (fun (S : Nat) => Value.int .u32 (S : Int))
theorem u32s_len (rs : List Nat) : (u32s rs).length = rs.length := by simp [u32s]
theorem u32s_at {rs : List Nat} {k : Nat} (h : k < rs.length) : (u32s rs)[k]? = some (.int .u32 ((rs.getD k 0 : Nat) : Int)) := by
  simp [u32s, List.getD, h]
theorem u32s_set (rs : List Nat) (k S : Nat) : (u32s rs).set k (.int .u32 (S : Int)) = u32s (rs.set k S) := by simp [u32s, List.map_set]
/-- A relation reads as rs. -/
def RdU (w : World) (A : Option Addr) (rs : List Nat) : Prop := Rd w 1 A rs.length (u32s rs)
theorem RdU.below {w w' : World} {A : Option Addr} {rs : List Nat} (h : RdU w A rs) (hb : Below w.heap.size w w') : RdU w' A rs := Rd.below h hb
theorem RdU.at_ {w : World} {A : Option Addr} {rs : List Nat} {k : Nat} (h : RdU w A rs) (hk : k < rs.length) : ∃ ad, A = some ad ∧ w.cell? (ad.add k) = some (.int .u32 ((rs.getD k 0 : Nat) : Int)) := by
  obtain ⟨ad, e, hc⟩ := h.2 (by omega)
  exact ⟨ad, e, hc _ _ (u32s_at hk)⟩
/-- What a call that makes a relation leaves. -/
def MadeU (w : World) (rs : List Nat) (e : Ending) (w' : World) : Prop := ∃ A c, e = .returned (.slice A rs.length c) ∧ w'.ownsRow w.heap.size 58 1 (.slice A rs.length c) rs.length (u32s rs) ∧ Below w.heap.size w w'
theorem Try.infoU32 : (Try.prog.info? 58).map (fun i => (i.zero, i.size, i.bytes)) = some (some (.int .u32 0), 1, 4) := by kernel_rfl
/-- All values lie in 32 bits. -/
def Lo32 (rs : List Nat) : Prop := ∀ k, rs.getD k 0 < 4294967296
/-- A row by its places. -/
def rowF (n : Nat) (f : Nat → Nat) : List Nat := (List.range n).map f
theorem rowF_len (n : Nat) (f : Nat → Nat) : (rowF n f).length = n := by simp [rowF]
theorem rowF_at {n : Nat} {f : Nat → Nat} {k : Nat} (h : k < n) : (rowF n f).getD k 0 = f k := by simp [rowF, List.getD, h]
theorem rowF_set (n : Nat) (f : Nat → Nat) (k S : Nat) : (rowF n f).set k S = rowF n (fun i => if i = k then S else f i) := by
  apply List.ext_getElem (by simp [rowF])
  intro i h1 h2
  rw [List.getElem_set]
  simp only [rowF, List.getElem_map, List.getElem_range]
  by_cases e : k = i
  · rw [if_pos e, if_pos e.symm]
  · rw [if_neg e, if_neg (fun h => e h.symm)]
theorem rowF_ext {n : Nat} {f g : Nat → Nat} (h : ∀ i, i < n → f i = g i) : rowF n f = rowF n g := by
  unfold rowF
  exact List.map_congr_left (fun i hi => h i (List.mem_range.1 hi))
theorem rowF_self (rs : List Nat) : rs = rowF rs.length (fun i => rs.getD i 0) := by
  apply List.ext_getElem (by simp [rowF])
  intro i h1 h2
  simp [rowF, List.getD, h1]
theorem made_zero (n : Nat) : (madeCells #[Value.int .u32 0] n).toList = u32s (rowF n (fun _ => 0)) := by
  apply List.ext_getElem
  · simp [madeCells, u32s, rowF]
  · intro i h1 h2
    simp [madeCells, u32s, rowF, Nat.mod_one]
def idN (n : Nat) : List Nat := rowF n (fun i => 2 ^ i)
def orN (a b : List Nat) : List Nat := rowF a.length (fun i => a.getD i 0 ||| b.getD i 0)
/-- What is reached from a set by the first j rows. -/
def thTo (b : List Nat) (S : Nat) : Nat → Nat
  | 0 => 0
  | j + 1 => if S.testBit j = true then thTo b S j ||| b.getD j 0 else thTo b S j
def thenN (a b : List Nat) : List Nat := rowF a.length (fun i => thTo b (a.getD i 0) b.length)
theorem thTo_lt {b : List Nat} (h : Lo32 b) (S : Nat) : ∀ j, thTo b S j < 4294967296
  | 0 => by simp [thTo]
  | j + 1 => by
    have h1 := thTo_lt h S j
    unfold thTo
    split
    · have := Nat.or_lt_two_pow (n := 32) h1 (h j)
      exact this
    · exact h1
theorem pow_32 (k : Nat) (h : k < 32) : (2 : Int) ^ k % 4294967296 = ((2 ^ k : Nat) : Int) := by
  have h1 : 2 ^ k < 4294967296 := by rw [show 4294967296 = 2 ^ 32 by rfl]; exact Nat.pow_lt_pow_right (by omega) h
  have h3 : (2 : Int) ^ k = ((2 ^ k : Nat) : Int) := (Int.natCast_pow 2 k).symm
  rw [h3]
  obtain ⟨p, hp⟩ : ∃ p : Nat, 2 ^ k = p := ⟨_, rfl⟩
  rw [hp] at h1 ⊢
  omega

end Go.Proofs.Ytjlekcoikceidaa
