/- Texts of numbers: their bytes and lengths; strings put together. No conditions. -/
import Derived.Test.YtdikkfhdogkniaaBld
import Derived.Test.YtdikkfhdogkniaaBlk
import Derived.Test.YtdikkfhdogkniaaVar
import Derived.Deep.DrawnRows
namespace Go.Proofs.Ytdikkfhdogkniaa
open Go.RowKit

theorem vt_byte : ∀ (n : Nat), ∀ z ∈ vt n, 0 ≤ z ∧ z ≤ 255 := by
  intro n
  induction n using Nat.strongRecOn with
  | _ n ih =>
    intro z hz
    by_cases h : 127 < n
    · rw [vt_big h] at hz
      rcases List.mem_cons.1 hz with rfl | hz
      · omega
      · exact ih (n / 128) (by omega) z hz
    · rw [vt_small h] at hz
      simp at hz
      omega
theorem vt_len5 {n : Nat} (h : n ≤ 1000000000) : (vt n).length ≤ 5 := vt_len 4 n (by omega)
theorem vt_ne (n : Nat) : vt n ≠ [] := by
  by_cases h : 127 < n
  · rw [vt_big h]; simp
  · rw [vt_small h]; simp
theorem byte_app {a b : List Int} (ha : ∀ z ∈ a, 0 ≤ z ∧ z ≤ 255) (hb : ∀ z ∈ b, 0 ≤ z ∧ z ≤ 255) : ∀ z ∈ a ++ b, 0 ≤ z ∧ z ≤ 255 := fun z hz => (List.mem_append.1 hz).elim (ha z) (hb z)
theorem strOfNums_app (a b : List Int) : strOfNums a ++ strOfNums b = strOfNums (a ++ b) := by
  apply ByteArray.ext
  simp [strOfNums, ByteArray.data_append]
theorem run_cat {P : Program} (a b : List Int) (h : a.length + b.length ≤ 4294967296) (w : World) : (Op.stringOp .add (strOfNums a) (strOfNums b)).run P w = .ok (.string (strOfNums (a ++ b))) w := by
  rw [run_string_add_sum (a := strOfNums a) (b := strOfNums b) (h := by rw [strOfNums_size, strOfNums_size]; omega), strOfNums_app]
theorem run_string_one {P : Program} (src dst e : TypeId) (hs : P.underlying src = some (.slice e)) (he : P.underlying e = some (.int .u8)) (hd : P.underlying dst = some .string) (l : Int) (g : Nat) (w : World)
    (h : w.cell? ⟨g, 0, none⟩ = some (.int .u8 l)) : (convert src dst (.slice (some ⟨g, 0, none⟩) 1 1)).run P w = .ok (.string (strOfNums [l])) w :=
  run_convert_bytes_arg (xs := [l]) w src e hs he g 0 1 1 rfl (fun i hi => by
    obtain rfl : i = 0 := by omega
    simpa using h) dst hd
theorem blk_wrote {w w' : World} {b g : Nat} {cs : Array Value} {t : TypeId} {fz : Nat × Nat} (hk : Lib.OthersKept 5 (some b) w w') (h : w.heap[g]? = some (.cells cs t fz)) (hne : g ≠ b) (ht : t ≠ 5) : w'.heap[g]? = some (.cells cs t fz) :=
  hk g _ h (by simpa using hne) (by
    intro c f h
    injection h with _ h2 _
    exact ht h2)
theorem new1 (w : World) (e : TypeId) (u : Value) : (w.alloc (.cells #[u] e)).cell? ⟨w.heap.size, 0, none⟩ = some u := cell_one_new w e u 0 u rfl
theorem new1d (w : World) (e : TypeId) (u : Value) : (w.alloc (.cells #[u] e)).drew.cell? ⟨w.heap.size, 0, none⟩ = some u := cell_one_new w e u 0 u rfl
theorem nat_of {x : Int} (h : 0 ≤ x) : ∃ n : Nat, x = n := ⟨x.toNat, by omega⟩
end Go.Proofs.Ytdikkfhdogkniaa
