/- ReadShort: both functions return the same. No conditions but the text's size. -/
import Derived.Test.YtgdilhkdeeodhaaDoorReadVar
namespace Go.Proofs.YtgdilhkdeeodhaaDoor
open Go.RowKit

def rsVal : Option (ByteArray × Nat) → Value
  | some (t, e) => .tuple #[.string t, .int .i64 e, .bool true]
  | none => .tuple #[.string ⟨#[]⟩, .int .i64 0, .bool false]
theorem rsVal_is (o : Option (ByteArray × Nat)) : ∃ (t : ByteArray) (e : Int) (b : Bool), rsVal o = .tuple #[.string t, .int .i64 e, .bool b] := by
  rcases o with _ | ⟨n, e⟩
  · exact ⟨_, _, _, rfl⟩
  · exact ⟨_, _, _, rfl⟩
def rsOut (s : ByteArray) (i : Int) : Option (ByteArray × Nat) :=
  match rvOut s i with
  | some (n, e) => if n ≤ 20000 ∧ e + n ≤ s.size then some (s.extract e (e + n), e + n) else none
  | none => none
theorem rvGo_bd (s : ByteArray) (a : Nat) : ∀ (f k n e : Nat), rvGo s a f k = some (n, e) → n ≤ 1000000000 ∧ e ≤ s.size
  | 0, _, _, _, h => by cases h
  | f + 1, k, n, e, h => by
    rw [rvGo] at h
    split at h
    · split at h
      · split at h
        · rename_i h1 _ h3
          injection h with h
          injection h with h4 h5
          omega
        · cases h
      · exact rvGo_bd s a f (k + 1) n e h
    · cases h
theorem rvOut_bd {s : ByteArray} {i : Int} {n e : Nat} (h : rvOut s i = some (n, e)) : n ≤ 1000000000 ∧ e ≤ s.size := by
  unfold rvOut at h
  split at h
  · exact rvGo_bd s _ _ _ _ _ h
  · cases h

set_option maxRecDepth 100000 in
set_option maxHeartbeats 800000 in
theorem impl_ReadShort_any (s : ByteArray) (hs : s.size ≤ 4294967296) (i : Int) (w : World) : Calls Tryd.prog 14 #[.string s, .int .i64 i] w fun e w' => e = .returned (rsVal (rsOut s i)) ∧ Below w.heap.size w w' := by
  have C := fun w => impl_ReadVar_any s hs i w
  unfold rsOut
  cases hr : rvOut s i with
  | none =>
    rw [hr] at C
    have C1 := Lib.hid C
    clear C hr
    go_enter Tryd.func14, Tryd.ntmps14
    go_wp2_with (go_at_call 9; refine (C1.out _).mono ?_; unfold rvVal; rintro e w1 ⟨rfl, rfl⟩)
    go_ret3
    exact ⟨rfl, Below.refl _ _⟩
  | some p =>
    obtain ⟨n, e⟩ := p
    have hbd := rvOut_bd hr
    obtain ⟨hn, he⟩ := hbd
    rw [hr] at C
    have C1 := Lib.hid C
    clear C hr
    by_cases h1 : n ≤ 20000
    · by_cases h2 : e + n ≤ s.size
      · show Calls _ _ _ _ fun x w' => x = .returned (rsVal (if n ≤ 20000 ∧ e + n ≤ s.size then some (s.extract e (e + n), e + n) else none)) ∧ Below w.heap.size w w'
        rw [if_pos ⟨h1, h2⟩]
        go_enter Tryd.func14, Tryd.ntmps14
        go_wp2_with (go_at_call 9; refine (C1.out _).mono ?_; unfold rvVal; rintro e w1 ⟨rfl, rfl⟩)
        go_ret3
        exact ⟨rfl, Below.refl _ _⟩
      · show Calls _ _ _ _ fun x w' => x = .returned (rsVal (if n ≤ 20000 ∧ e + n ≤ s.size then some (s.extract e (e + n), e + n) else none)) ∧ Below w.heap.size w w'
        rw [if_neg (fun h => h2 h.2)]
        go_enter Tryd.func14, Tryd.ntmps14
        go_wp2_with (go_at_call 9; refine (C1.out _).mono ?_; unfold rvVal; rintro e w1 ⟨rfl, rfl⟩)
        go_ret3
        exact ⟨rfl, Below.refl _ _⟩
    · show Calls _ _ _ _ fun x w' => x = .returned (rsVal (if n ≤ 20000 ∧ e + n ≤ s.size then some (s.extract e (e + n), e + n) else none)) ∧ Below w.heap.size w w'
      rw [if_neg (fun h => h1 h.1)]
      go_enter Tryd.func14, Tryd.ntmps14
      go_wp2_with (go_at_call 9; refine (C1.out _).mono ?_; unfold rvVal; rintro e w1 ⟨rfl, rfl⟩)
      go_ret3
      exact ⟨rfl, Below.refl _ _⟩

end Go.Proofs.YtgdilhkdeeodhaaDoor
