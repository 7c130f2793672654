/- The scanner over a text: a number, a byte, the end; the reference's cursor likewise. Conditions: the text's length. -/
import Derived.Test.YtdikkfhdogkniaaReadVar
import Derived.Test.YtdikkfhdogkniaaDraw
import Derived.Deep.RegionHeld3
namespace Go.Proofs.Ytdikkfhdogkniaa
open Go.RowKit

/-- A scanner of type T in block g over the text s: st is where it stands; none: it is bad. -/
def ScAt (T : TypeId) (g : Nat) (s : ByteArray) (st : Option Nat) (w : World) : Prop :=
  ∃ (a : Nat) (b : Bool), w.heap[g]? = some (.cells #[.string s, .int .i64 a, .bool b] T (0, 0)) ∧ a ≤ s.size ∧ b = st.isNone ∧ ∀ x, st = some x → a = x
theorem ScAt.of_block {T : TypeId} {g : Nat} {s : ByteArray} {st : Option Nat} {w w' : World} (h : ScAt T g s st w) (hb : w'.heap[g]? = w.heap[g]?) : ScAt T g s st w' := by
  obtain ⟨a, b, h1, r⟩ := h
  exact ⟨a, b, hb.trans h1, r⟩
theorem ScAt.lt {T : TypeId} {g : Nat} {s : ByteArray} {st : Option Nat} {w : World} (h : ScAt T g s st w) : g < w.heap.size := by
  obtain ⟨a, b, h1, r⟩ := h
  exact (Array.getElem?_eq_some_iff.1 h1).1
theorem ScAt.below {T : TypeId} {g : Nat} {s : ByteArray} {st : Option Nat} {w w' : World} (h : ScAt T g s st w) (hb : Below w.heap.size w w') : ScAt T g s st w' := h.of_block (hb.block g h.lt)
theorem ScAt.grown {T : TypeId} {g : Nat} {s : ByteArray} {st : Option Nat} {w w' : World} {row : Option Nat} (h : ScAt T g s st w) (hg : w.grownBy w' row) (hne : some g ≠ row) : ScAt T g s st w' := h.of_block (hg.block g h.lt hne)

theorem blk_below' {w w' : World} {g : Nat} {o : Obj} (hb : Below w.heap.size w w') (h : w.heap[g]? = some o) : w'.heap[g]? = some o := (hb.block g (Array.getElem?_eq_some_iff.1 h).1).trans h
def scNum (s : ByteArray) : Option Nat → Option (Nat × Nat)
  | none => none
  | some a => rvOut s a
def scByte (s : ByteArray) : Option Nat → Option (Nat × Nat)
  | none => none
  | some a => if a < s.size then some (byteAt s a, a + 1) else none
def scVal (r : Option (Nat × Nat)) : Nat := (r.map Prod.fst).getD 0
/-- What a step of the scanner leaves. -/
def Scans (T : TypeId) (g : Nat) (s : ByteArray) (w : World) (k : IntKind) (r : Option (Nat × Nat)) (e : Ending) (w' : World) : Prop :=
  e = .returned (.int k (scVal r : Nat)) ∧ ScAt T g s (r.map Prod.snd) w' ∧ w.grownBy w' (some g)

theorem rvGo_bd2 (s : ByteArray) (a : Nat) : ∀ (f k n e : Nat), rvGo s a f k = some (n, e) → n ≤ 1000000000 ∧ e ≤ s.size ∧ a < e
  | 0, _, _, _, h => by cases h
  | f + 1, k, n, e, h => by
    rw [rvGo] at h
    split at h
    · split at h
      · split at h
        · rename_i h1 _ h3
          injection h with h
          injection h with h4 h5
          omega
        · cases h
      · exact rvGo_bd2 s a f (k + 1) n e h
    · cases h
theorem rvOut_bd2 {s : ByteArray} {a n e : Nat} (h : rvOut s a = some (n, e)) : n ≤ 1000000000 ∧ e ≤ s.size ∧ a < e := by
  unfold rvOut at h
  split at h
  · exact rvGo_bd2 s _ _ _ _ _ h
  · cases h
theorem scVal_bd {s : ByteArray} {st : Option Nat} : scVal (scNum s st) ≤ 1000000000 := by
  cases st with
  | none => simp [scNum, scVal]
  | some a =>
    unfold scVal scNum
    simp only
    cases h : rvOut s a with
    | none => simp
    | some p =>
      obtain ⟨n, e⟩ := p
      simpa using (rvOut_bd2 h).1

theorem impl_ReadVar_same (s : ByteArray) (hs : s.size ≤ 4294967296) (i : Int) (n : Nat) (w : World) : Calls Try.prog 79 #[.string s, .int .i64 i] (w.drewN n) fun e w' => e = .returned (rvVal (rvOut s i)) ∧ w' = w.drewN n := by
  refine (impl_ReadVar_any s hs i _).mono ?_
  rintro e w1 ⟨rfl, rfl⟩
  exact ⟨rfl, rfl⟩

set_option maxRecDepth 100000 in
set_option maxHeartbeats 1600000 in
theorem number_any (g : Nat) (s : ByteArray) (hs : s.size ≤ 4294967296) (st : Option Nat) (w : World) (h : ScAt 79 g s st w) :
    Calls Try.prog 56 #[.pointer (some ⟨g, 0, none⟩)] w (Scans 79 g s w .i64 (scNum s st)) := by
  obtain ⟨a, b, hh, ha, hb, hst⟩ := h
  have c0 := cell_of_row w g 0 _ _ (0, 0) hh
  have c1 := cell_of_row w g 1 _ _ (0, 0) hh
  have c2 := cell_of_row w g 2 _ _ (0, 0) hh
  simp at c0 c1 c2
  have f2 : w.frozen? ⟨g, 2, none⟩ = false := frozen_of_row w g 2 _ _ hh
  have f1 : w.frozen? ⟨g, 1, none⟩ = false := frozen_of_row w g 1 _ _ hh
  have HH := Lib.hid hh
  clear hh
  have C := Lib.hid (fun n w => impl_ReadVar_same s hs a n w)
  obtain ⟨r, hr⟩ : ∃ r, rvOut s a = r := ⟨_, rfl⟩
  rw [hr] at C
  have HR := Lib.hid hr
  clear hr
  cases st with
  | none =>
    obtain rfl : b = true := by simpa using hb
    clear hb hst
    rcases r with _ | ⟨n, e⟩
    all_goals
      unfold rvVal at C
      go_enter Try.func56, Try.ntmps56
      go_wp2_with fail
      go_quiet ((go_at_call 79; exact Calls.quiet_of_same (C.out _ _)))
      go_wp2
      try go_quiet (fail)
      go_wp2
      go_ret
      exact ⟨rfl, ⟨a, true, heap_setCell_same _ g 2 _ _ _ HH.out, ha, rfl, fun x hx => by cases hx⟩, only_setCell (only_drewN (World.grownBy.refl w _) _) 2 _⟩
  | some x =>
    obtain rfl : b = false := by simpa using hb
    obtain rfl : a = x := hst x rfl
    clear hb hst
    rcases r with _ | ⟨n, e⟩
    · have hs1 : scNum s (some a) = none := HR.out
      rw [hs1]
      clear hs1
      unfold rvVal at C
      go_enter Try.func56, Try.ntmps56
      go_wp2_with fail
      go_quiet ((go_at_call 79; exact Calls.quiet_of_same (C.out _ _)))
      go_wp2
      try go_quiet (fail)
      go_wp2
      go_ret
      exact ⟨rfl, ⟨a, true, heap_setCell_same _ g 2 _ _ _ HH.out, ha, rfl, fun x hx => by cases hx⟩, only_setCell (only_drewN (World.grownBy.refl w _) _) 2 _⟩
    · have hs1 : scNum s (some a) = some (n, e) := HR.out
      have hbd := rvOut_bd2 HR.out
      rw [hs1]
      clear hs1
      unfold rvVal at C
      go_enter Try.func56, Try.ntmps56
      go_wp2_with fail
      go_quiet ((go_at_call 79; exact Calls.quiet_of_same (C.out _ _)))
      go_wp2
      try go_quiet (fail)
      go_wp2
      go_ret
      exact ⟨rfl, ⟨e, false, heap_setCell_same _ g 1 _ _ _ HH.out, hbd.2.1, rfl, fun x hx => by injection hx⟩, only_setCell (only_drewN (World.grownBy.refl w _) _) 1 _⟩

set_option maxRecDepth 100000 in
set_option maxHeartbeats 1600000 in
theorem done_any (g : Nat) (s : ByteArray) (st : Option Nat) (w : World) (h : ScAt 79 g s st w) :
    Calls Try.prog 57 #[.pointer (some ⟨g, 0, none⟩)] w fun e w' => e = .returned (.bool (decide (st = some s.size))) ∧ Below w.heap.size w w' := by
  obtain ⟨a, b, hh, ha, hb, hst⟩ := h
  have c0 := cell_of_row w g 0 _ _ (0, 0) hh
  have c1 := cell_of_row w g 1 _ _ (0, 0) hh
  have c2 := cell_of_row w g 2 _ _ (0, 0) hh
  simp at c0 c1 c2
  clear hh
  cases st with
  | none =>
    obtain rfl : b = true := by simpa using hb
    clear hb hst
    rw [show decide ((none : Option Nat) = some s.size) = false by simp]
    go_enter Try.func57, Try.ntmps57
    go_wp2_with fail
    go_quiet (fail)
    go_wp2
    go_ret
    exact ⟨rfl, below_drewN (Below.refl _ _) _⟩
  | some x =>
    obtain rfl : b = false := by simpa using hb
    obtain rfl : a = x := hst x rfl
    clear hb hst
    by_cases hlt : a = s.size
    · rw [show decide (some a = some s.size) = true by simp [hlt]]
      have q1 : ((a : Int) == (s.size : Int)) = true := by rw [beq_iff_eq]; omega
      have q2 : (a == s.size) = true := by rw [beq_iff_eq]; omega
      clear hlt
      go_enter Try.func57, Try.ntmps57
      go_wp2_with fail
      go_quiet (fail)
      go_wp2
      go_ret
      exact ⟨rfl, below_drewN (Below.refl _ _) _⟩
    · rw [show decide (some a = some s.size) = false by simp [hlt]]
      have q1 : ((a : Int) == (s.size : Int)) = false := by rw [beq_eq_false_iff_ne]; omega
      have q2 : (a == s.size) = false := by rw [beq_eq_false_iff_ne]; omega
      clear hlt
      go_enter Try.func57, Try.ntmps57
      go_wp2_with fail
      go_quiet (fail)
      go_wp2
      go_ret
      exact ⟨rfl, below_drewN (Below.refl _ _) _⟩
end Go.Proofs.Ytdikkfhdogkniaa
