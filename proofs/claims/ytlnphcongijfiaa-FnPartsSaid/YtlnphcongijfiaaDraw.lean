/- The cursor over the bytes of a draw: it hands out numbers in their range, and turns nothing but itself. No conditions but the length. -/
import Derived.Test.YtlnphcongijfiaaMem
import Derived.Deep.QuietTactic
import Derived.BigQuiet
namespace Go.Proofs.Ytlnphcongijfiaa
open Go.RowKit

/-- The bytes of a draw, as they lie in w0. -/
structure Code0 (w0 : World) (A : Option Addr) (n : Nat) (zs : List Int) : Prop where
  rd : Rd w0 1 A n (zs.map (Value.int .u8))
  le : n ≤ 4294967296
  bd : ∀ z ∈ zs, 0 ≤ z ∧ z ≤ 255

/-- A cursor in block g, over bytes that lie in w0, an older world. -/
def CurAt (w0 : World) (g : Nat) (w : World) : Prop :=
  ∃ (A : Option Addr) (n c : Nat) (zs : List Int) (i : Nat) (h : Int), Code0 w0 A n zs ∧ w0.heap.size ≤ g ∧ i ≤ n ∧ w.heap[g]? = some (.cells #[.slice A n c, .int .i64 i, .int .i64 h] 167 (0, 0))

theorem CurAt.lt {w0 w : World} {g : Nat} (h : CurAt w0 g w) : g < w.heap.size := by
  obtain ⟨A, n, c, zs, i, x, _, _, _, hh⟩ := h
  rcases Nat.lt_or_ge g w.heap.size with hlt | hge
  · exact hlt
  · rw [Array.getElem?_eq_none hge] at hh; cases hh
theorem CurAt.ge {w0 w : World} {g : Nat} (h : CurAt w0 g w) : w0.heap.size ≤ g := by
  obtain ⟨A, n, c, zs, i, x, _, h1, _⟩ := h
  exact h1
theorem CurAt.of_block {w0 w w' : World} {g : Nat} (h : CurAt w0 g w) (hb : w'.heap[g]? = w.heap[g]?) : CurAt w0 g w' := by
  obtain ⟨A, n, c, zs, i, x, h1, h2, h3, hh⟩ := h
  exact ⟨A, n, c, zs, i, x, h1, h2, h3, hb.trans hh⟩
theorem CurAt.below {w0 w w' : World} {g : Nat} (h : CurAt w0 g w) (hb : Below w.heap.size w w') : CurAt w0 g w' := h.of_block (hb.block g h.lt)
theorem CurAt.grown {w0 w w' : World} {g : Nat} {row : Option Nat} (h : CurAt w0 g w) (hg : w.grownBy w' row) (hne : some g ≠ row) : CurAt w0 g w' := h.of_block (hg.block g h.lt hne)

/-- What a draw leaves: a number with p, the cursor moved on, and nothing else turned. -/
def Drawn (w0 : World) (g : Nat) (w : World) (p : Int → Prop) (e : Ending) (w' : World) : Prop :=
  ∃ x : Int, e = .returned (.int .i64 x) ∧ p x ∧ CurAt w0 g w' ∧ w.grownBy w' (some g)

theorem only_drewN {a w : World} {row : Option Nat} (h : a.grownBy w row) (n : Nat) : a.grownBy (w.drewN n) row := ⟨h.os, h.tape, h.output, h.size, h.block⟩
theorem only_setCell {a w : World} {g : Nat} (h : a.grownBy w (some g)) (o : Nat) (u : Value) : a.grownBy (w.setCell ⟨g, o, none⟩ u) (some g) :=
  ⟨h.os, h.tape, h.output, by simpa [World.setCell] using h.size, fun i hi hne => (Below.heap_setCell w ⟨g, o, none⟩ u i (by
    rintro rfl
    exact hne rfl)).trans (h.block i hi hne)⟩
theorem only_trans {a b c : World} {g : Nat} (h : a.grownBy b (some g)) (k : b.grownBy c (some g)) : a.grownBy c (some g) :=
  ⟨k.os.trans h.os, k.tape.trans h.tape, k.output.trans h.output, Nat.le_trans h.size k.size, fun i hi hne => (k.block i (Nat.lt_of_lt_of_le hi h.size) hne).trans (h.block i hi hne)⟩
theorem below_only {w0 w w' : World} {g : Nat} (hb : Below w0.heap.size w0 w) (hg : w.grownBy w' (some g)) (hge : w0.heap.size ≤ g) : Below w0.heap.size w0 w' :=
  hb.grown hg hb.size (fun k hk => by cases hk; exact hge)

theorem and255 (x : Int) : 0 ≤ bits .and .i64 x 255 ∧ bits .and .i64 x 255 ≤ 255 := by
  show 0 ≤ IntKind.i64.wrap ((BitVec.ofInt 64 x &&& BitVec.ofInt 64 255).toNat : Int) ∧ IntKind.i64.wrap ((BitVec.ofInt 64 x &&& BitVec.ofInt 64 255).toNat : Int) ≤ 255
  have h : (BitVec.ofInt 64 x &&& BitVec.ofInt 64 255).toNat ≤ 255 := by
    rw [BitVec.toNat_and]
    exact Nat.le_trans Nat.and_le_right (by decide)
  rw [IntKind.wrap_i64]
  omega

set_option maxHeartbeats 1600000 in
set_option maxRecDepth 100000 in
theorem l01New_any (A : Option Addr) (n c : Nat) (zs : List Int) (w : World) (hc : Code0 w A n zs) :
    Calls Try.prog 71 #[.slice A n c] w fun e w' => e = .returned (.pointer (some ⟨w.heap.size, 0, none⟩)) ∧ CurAt w w.heap.size w' ∧ Below w.heap.size w w' := by
  have hle := hc.le
  have HC := Lib.hid hc
  clear hc
  go_enter Try.func71, Try.ntmps71
  go_wp2
  go_loop [3, 4] (fun h i => ∃ (k : Nat) (x : Int), k ≤ n ∧ k ≤ 4000 ∧ i = .int .i64 k ∧ h = .int .i64 x) (fun _ i => n - (intOf i).toNat)
  case atStart => exact ⟨0, _, Nat.zero_le _, by omega, rfl, rfl⟩
  case round =>
    obtain ⟨k, x, hk, hk4, rfl, rfl⟩ := hrel
    by_cases hlt : k < n
    · by_cases h4 : k < 4000
      · obtain ⟨ad, u, rfl, hu, hcell⟩ := Rd.at_ HC.out.rd hlt
        have hz : ∃ z, u = .int .u8 z := by
          rw [List.getElem?_map] at hu
          cases hz : zs[k]? with
          | none => rw [hz] at hu; cases hu
          | some z => rw [hz] at hu; exact ⟨z, by simpa using hu.symm⟩
        obtain ⟨z, rfl⟩ := hz
        clear hu
        go_wp2
        go_round
        case rel => exact ⟨k + 1, _, by omega, by omega, by go_num, rfl⟩
        case measure => simp [intOf]; omega
      · go_wp2
        go_ret
        exact ⟨rfl, ⟨_, n, c, zs, 0, x, HC.out, Nat.le_refl _, Nat.zero_le _, heap_alloc_new w _⟩, (Below.refl _ _).alloc (Nat.le_refl _) _⟩
    · go_wp2
      go_ret
      exact ⟨rfl, ⟨_, n, c, zs, 0, x, HC.out, Nat.le_refl _, Nat.zero_le _, heap_alloc_new w _⟩, (Below.refl _ _).alloc (Nat.le_refl _) _⟩

set_option maxHeartbeats 1600000 in
set_option maxRecDepth 100000 in
theorem l01Byte_any (w0 : World) (g : Nat) (w : World) (hcur : CurAt w0 g w) (hB : Below w0.heap.size w0 w) :
    Calls Try.prog 72 #[.pointer (some ⟨g, 0, none⟩)] w (Drawn w0 g w fun x => 0 ≤ x ∧ x ≤ 255) := by
  obtain ⟨A, n, c, zs, i, h, HC, hge, hin, hh⟩ := hcur
  have c0 := cell_of_row w g 0 _ _ (0, 0) hh
  have c1 := cell_of_row w g 1 _ _ (0, 0) hh
  have c2 := cell_of_row w g 2 _ _ (0, 0) hh
  simp at c0 c1 c2
  have f2 : w.frozen? ⟨g, 2, none⟩ = false := frozen_of_row w g 2 _ _ hh
  have f1 : w.frozen? ⟨g, 1, none⟩ = false := frozen_of_row w g 1 _ _ hh
  have hle := HC.le
  have HC := Lib.hid HC
  have HH := Lib.hid hh
  clear hh
  go_enter Try.func72, Try.ntmps72
  go_wp2_with fail
  generalize wrap64 (wrap64 (h * 6364136223846793005) + 1442695040888963407) = H1
  generalize wrap64 (h * 6364136223846793005) = H0
  go_quiet (fail)
  have hx0 := and255 (bits .xor .i64 (H1 / 8589934592) (H1 / 35184372088832))
  generalize bits .and .i64 (bits .xor .i64 (H1 / 8589934592) (H1 / 35184372088832)) 255 = x0 at hx0 ⊢
  generalize bits .xor .i64 (H1 / 8589934592) (H1 / 35184372088832) = x1
  generalize H1 / 35184372088832 = x2
  generalize H1 / 8589934592 = x3
  obtain ⟨hx1, hx2⟩ := hx0
  have hrow : (w.setCell ⟨g, 2, none⟩ (.int .i64 H1)).heap[g]? = some (.cells #[.slice A n c, .int .i64 i, .int .i64 H1] 167 (0, 0)) := heap_setCell_same w g 2 _ _ _ HH.out
  have HROW := Lib.hid hrow
  clear hrow
  by_cases hlt : i < n
  · obtain ⟨ad, u, rfl, hu, hcell⟩ := Rd.at_ HC.out.rd hlt
    have hz : ∃ z, u = .int .u8 z ∧ 0 ≤ z ∧ z ≤ 255 := by
      rw [List.getElem?_map] at hu
      cases hz : zs[i]? with
      | none => rw [hz] at hu; cases hu
      | some z => rw [hz] at hu; exact ⟨z, by simpa using hu.symm, HC.out.bd z (List.mem_of_getElem? hz)⟩
    obtain ⟨z, rfl, hz0, hz1⟩ := hz
    clear hu
    have hblk := World.block_lt_of_cell? w0 _ hcell
    have hcw : (w.setCell ⟨g, 2, none⟩ (.int .i64 H1)).cell? (ad.add i) = some (.int .u8 z) := by
      rw [World.cell?_setCell_other w ⟨g, 2, none⟩ (ad.add i) _ (by intro e; rw [← e] at hblk; simp at hblk; omega)]
      exact (hB.cell hblk).trans hcell
    clear hcell hblk
    have i0 : (0 : Int) ≤ (i : Int) := by omega
    have i1 : (i : Int) < (n : Int) := by omega
    have a1 := and255 (x0 + z)
    have e1 : IntKind.i64.wrap (x0 + z) = x0 + z := IntWalk.i64_in _ (by omega)
    have e2 : IntKind.i64.wrap z = z := IntWalk.i64_in _ (by omega)
    have E := Lib.hid a1
    clear a1
    go_wp2_with fail
    go_quiet (fail)
    go_wp2_with fail
    go_quiet (fail)
    clear e1 e2
    go_wp2
    go_ret
    refine ⟨_, rfl, E.out, ?_, ?_⟩
    · exact ⟨_, n, c, zs, i + 1, H1, HC.out, hge, by omega, heap_setCell_same _ g 1 _ _ _ HROW.out⟩
    · exact only_setCell (only_drewN (only_setCell (World.grownBy.refl w _) 2 _) _) 1 _
  · go_wp2_with fail
    go_quiet (fail)
    go_wp2
    go_ret
    refine ⟨x0, rfl, ⟨hx1, hx2⟩, ?_, ?_⟩
    · exact ⟨A, n, c, zs, i, H1, HC.out, hge, hin, HROW.out⟩
    · exact only_drewN (only_drewN (only_setCell (World.grownBy.refl w _) 2 _) _) _

theorem Drawn.step {w0 w w1 : World} {g : Nat} {p : Int → Prop} {e : Ending} (h : Drawn w0 g w p e w1) (hB : Below w0.heap.size w0 w) : ∃ x : Int, e = .returned (.int .i64 x) ∧ p x ∧ CurAt w0 g w1 ∧ w.grownBy w1 (some g) ∧ Below w0.heap.size w0 w1 := by
  obtain ⟨x, he, hp, hc, hg⟩ := h
  exact ⟨x, he, hp, hc, hg, below_only hB hg hc.ge⟩

set_option maxHeartbeats 1600000 in
set_option maxRecDepth 100000 in
theorem l01Below_any (w0 : World) (g : Nat) (w : World) (n : Int) (hn : n ≤ 2000000000) (hcur : CurAt w0 g w) (hB : Below w0.heap.size w0 w) :
    Calls Try.prog 73 #[.pointer (some ⟨g, 0, none⟩), .int .i64 n] w (Drawn w0 g w fun x => 0 ≤ x ∧ (x < n ∨ (n ≤ 0 ∧ x = 0))) := by
  by_cases h0 : n ≤ 0
  · go_enter Try.func73, Try.ntmps73
    go_wp2
    go_ret
    exact ⟨0, rfl, ⟨Int.le_refl _, .inr ⟨h0, rfl⟩⟩, hcur, World.grownBy.refl w _⟩
  · by_cases h1 : n ≤ 256
    · have C := Lib.hid (l01Byte_any w0 g w hcur hB)
      clear hcur
      go_enter Try.func73, Try.ntmps73
      go_wp2_with fail
      refine C.out.mono ?_
      rintro e w1 ⟨x, rfl, ⟨hx0, hx1⟩, hc1, hg1⟩
      have m0 : 0 ≤ x % n := Int.emod_nonneg _ (by omega)
      have m1 : x % n < n := Int.emod_lt_of_pos _ (by omega)
      go_wp2
      go_ret
      exact ⟨_, rfl, ⟨m0, .inl m1⟩, hc1, hg1⟩
    · have C := Lib.hid (l01Byte_any w0 g w hcur hB)
      clear hcur
      go_enter Try.func73, Try.ntmps73
      go_wp2_with fail
      refine C.out.mono ?_
      rintro e w1 h
      obtain ⟨x, rfl, ⟨hx0, hx1⟩, hc1, hg1, hb1⟩ := h.step hB
      clear C h
      go_wp2_with fail
      refine (l01Byte_any w0 g w1 hc1 hb1).mono ?_
      rintro e w2 h
      obtain ⟨y, rfl, ⟨hy0, hy1⟩, hc2, hg2, hb2⟩ := h.step hb1
      clear h
      go_wp2_with fail
      refine (l01Byte_any w0 g w2 hc2 hb2).mono ?_
      rintro e w3 h
      obtain ⟨z, rfl, ⟨hz0, hz1⟩, hc3, hg3, hb3⟩ := h.step hb2
      clear h
      go_wp2_with fail
      refine (l01Byte_any w0 g w3 hc3 hb3).mono ?_
      rintro e w4 h
      obtain ⟨v, rfl, ⟨hv0, hv1⟩, hc4, hg4, hb4⟩ := h.step hb3
      clear h
      have m0 : 0 ≤ (x * 16777216 + y * 65536 + z * 256 + v) % n := Int.emod_nonneg _ (by omega)
      have m1 : (x * 16777216 + y * 65536 + z * 256 + v) % n < n := Int.emod_lt_of_pos _ (by omega)
      go_wp2
      go_ret
      exact ⟨_, rfl, ⟨m0, .inl m1⟩, hc4, only_trans (only_trans (only_trans hg1 hg2) hg3) hg4⟩

theorem only_alloc {a w : World} {row : Option Nat} (h : a.grownBy w row) (o : Obj) : a.grownBy (w.alloc o) row :=
  ⟨h.os, h.tape, h.output, Nat.le_trans h.size (by simp), fun i hi hne => (Below.heap_alloc w o i (Nat.lt_of_lt_of_le hi h.size)).trans (h.block i hi hne)⟩
theorem only_row {a b c : World} {g : Nat} {row : Option Nat} (h : a.grownBy b (some g)) (k : b.grownBy c row) (hr : ∀ r, row = some r → a.heap.size ≤ r) : a.grownBy c (some g) :=
  ⟨k.os.trans h.os, k.tape.trans h.tape, k.output.trans h.output, Nat.le_trans h.size k.size, fun i hi hne => (k.block i (Nat.lt_of_lt_of_le hi h.size) (fun e => by have := hr i e.symm; omega)).trans (h.block i hi hne)⟩
theorem only_below {a b c : World} {g : Nat} (h : a.grownBy b (some g)) (k : Below b.heap.size b c) : a.grownBy c (some g) :=
  ⟨k.os.trans h.os, k.tape.trans h.tape, k.output.trans h.output, Nat.le_trans h.size k.size, fun i hi hne => (k.block i (Nat.lt_of_lt_of_le hi h.size)).trans (h.block i hi hne)⟩
theorem own_only {w w' : World} {g base : Nat} {e : TypeId} {size : Nat} {v : Value} {n : Nat} {xs : List Value} (h : w.ownsRow base e size v n xs) (hg : w.grownBy w' (some g)) (hlt : g < base) : w'.ownsRow base e size v n xs :=
  h.kept hg (.inr fun he => by have := (h.lt g he).1; omega)

/-- What the drawing of a text leaves. -/
def DrawnText (w0 : World) (g : Nat) (w : World) (n : Int) (e : Ending) (w' : World) : Prop :=
  ∃ zs : List Int, e = .returned (.string (strOfNums zs)) ∧ (zs.length : Int) ≤ max n 0 ∧ zs.length ≤ 5000 ∧ CurAt w0 g w' ∧ w.grownBy w' (some g)

end Go.Proofs.Ytlnphcongijfiaa
