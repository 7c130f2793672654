/- The parts of a line: cutting at spaces, empty pieces left out, is what the reference's scan gathers. Plain. -/
import Derived.Lib.SplitLaws
import Derived.Lib.IndexBytes
import Derived.Lib.IndexLaws
import Derived.Test.YtlnphcongijfiaaDoorTxtS
namespace Go.Proofs.YtlnphcongijfiaaDoor
open Go.Lib

def SP : ByteArray := ⟨#[32]⟩
def pieces (s : ByteArray) : List ByteArray := Lib.splitB SP 0 (Lib.countB s SP) s
def full (ws : List ByteArray) : List ByteArray := ws.filter (fun x => decide (x ≠ noT))
def isSp (s : ByteArray) (i : Nat) : Prop := s.data.toList[i]? = some 32
instance (s : ByteArray) (i : Nat) : Decidable (isSp s i) := by unfold isSp; infer_instance
/-- What the reference still gathers at place i with the part begun at b; n places are left. -/
def go (s : ByteArray) : Nat → Nat → Nat → List ByteArray
  | 0, _, _ => []
  | n + 1, i, b => if i < s.size ∧ ¬ isSp s i then go s n (i + 1) b else (if b < i then [s.extract b i] else []) ++ go s n (i + 1) (i + 1)
theorem go_on {s : ByteArray} {n i b : Nat} (h : i < s.size) (h' : ¬ isSp s i) : go s (n + 1) i b = go s n (i + 1) b := by
  rw [go, if_pos ⟨h, h'⟩]
theorem go_cut {s : ByteArray} {n i b : Nat} (h : ¬ (i < s.size ∧ ¬ isSp s i)) : go s (n + 1) i b = (if b < i then [s.extract b i] else []) ++ go s n (i + 1) (i + 1) := by
  rw [go, if_neg h]
theorem go_far (s : ByteArray) : ∀ (d n i b : Nat), i + d ≤ s.size → (∀ j, i ≤ j → j < i + d → ¬ isSp s j) → go s (n + d) i b = go s n (i + d) b
  | 0, n, i, b, _, _ => rfl
  | d + 1, n, i, b, h, hn => by
    rw [show n + (d + 1) = (n + d) + 1 by omega, go_on (by omega) (hn i (Nat.le_refl _) (by omega)), go_far s d n (i + 1) b (by omega) (fun j h1 h2 => hn j (by omega) (by omega)), show i + 1 + d = i + (d + 1) by omega]
theorem ext_at (s : ByteArray) (b k : Nat) : (s.extract b s.size).data.toList[k]? = s.data.toList[b + k]? := by
  rw [Lib.extract_to_end, List.getElem?_drop]
theorem ext_no {s : ByteArray} {a b : Nat} (h : a < b) (hb : b ≤ s.size) : s.extract a b ≠ noT := by
  intro e
  have h2 := congrArg ByteArray.size e
  have h3 : (s.extract a b).size = b - a := by rw [ByteArray.size_extract]; omega
  have h4 : noT.size = 0 := rfl
  omega
theorem full_cons (x : ByteArray) (ws : List ByteArray) : full (x :: ws) = (if x ≠ noT then [x] else []) ++ full ws := by
  unfold full
  by_cases h : x = noT
  · simp [h]
  · simp [h]
theorem full_one (s : ByteArray) (b i : Nat) (hb : b ≤ i) (hi : i ≤ s.size) : (if s.extract b i ≠ noT then [s.extract b i] else []) = (if b < i then [s.extract b i] else []) := by
  by_cases h : b < i
  · rw [if_pos h, if_pos (ext_no h hi)]
  · obtain rfl : b = i := by omega
    rw [if_neg h, if_neg]
    intro e
    apply e
    apply ByteArray.ext
    simp [noT]
theorem go_pieces (s : ByteArray) : ∀ (d b : Nat), b + d = s.size → go s (d + 1) b b = full (Lib.splitB SP 0 (Lib.countB (s.extract b s.size) SP) (s.extract b s.size)) := by
  intro d
  induction d using Nat.strongRecOn with
  | ind d ih =>
    intro b hb
    obtain ⟨r, hr⟩ : ∃ r, s.extract b s.size = r := ⟨_, rfl⟩
    have hrs : r.size = d := by rw [← hr]; simp; omega
    have hat : ∀ k, r.data.toList[k]? = s.data.toList[b + k]? := fun k => by rw [← hr]; exact ext_at s b k
    have e1 : Lib.indexB r SP = Lib.indexByte r.data.toList 32 := by
      have h := Go.Lib.one r SP rfl
      rw [h]; rfl
    rw [hr]
    rcases Lib.indexB_cases r SP with hm | ⟨i, hi, hil⟩
    · rw [Lib.countB_miss r SP hm, Lib.splitB_zero]
      have hn := Lib.indexByte_none (e1 ▸ hm)
      rw [show d + 1 = 1 + d by omega, go_far s d 1 b b (by omega) (fun j h1 h2 hs => hn (j - b) (by rw [hat, show b + (j - b) = j by omega]; exact hs)), go_cut (by omega)]
      rw [full_cons, ← hr, show b + d = s.size by omega, full_one s b s.size (by omega) (Nat.le_refl _)]
      rfl
    · have hil' : i + 1 ≤ d := by
        have : SP.size = 1 := rfl
        omega
      obtain ⟨hsp, hno⟩ := Lib.indexByte_some (e1 ▸ hi)
      have hsp' : isSp s (b + i) := by unfold isSp; rw [← hat]; exact hsp
      rw [Lib.countB_hit r SP i (Nat.le_refl 1) hi, show 1 + Lib.countB (r.extract (i + SP.size) r.size) SP = Lib.countB (r.extract (i + SP.size) r.size) SP + 1 by omega, Lib.splitB_hit SP 0 _ r i hi]
      rw [show d + 1 = ((d - i - 1 + 1) + 1) + i - 0 by omega, Nat.sub_zero, go_far s i _ b b (by omega) (fun j h1 h2 hs => hno (j - b) (by omega) (by rw [hat, show b + (j - b) = j by omega]; exact hs)), go_cut (by intro h; exact h.2 hsp')]
      have e2 : r.extract (i + SP.size) r.size = s.extract (b + i + 1) s.size := by
        apply ByteArray.ext
        apply Array.ext'
        rw [Lib.extract_to_end, ← hr, Lib.extract_to_end, Lib.extract_to_end, List.drop_drop]
        congr 1
      have e3 : r.extract 0 (i + 0) = s.extract b (b + i) := by
        apply ByteArray.ext
        apply Array.ext'
        rw [Lib.extract_from_zero, ← hr, Lib.extract_to_end, Lib.extract_data]
        simp
      rw [full_cons, e2, e3, full_one s b (b + i) (by omega) (by omega), ih (d - i - 1) (by omega) (b + i + 1) (by omega)]
theorem parts_go (s : ByteArray) : go s (s.size + 1) 0 0 = full (pieces s) := by
  have h := go_pieces s s.size 0 (by omega)
  have e : s.extract 0 s.size = s := by
    apply ByteArray.ext
    apply Array.ext'
    rw [Lib.extract_to_end]; simp
  rw [h, e]
  rfl
end Go.Proofs.YtlnphcongijfiaaDoor
