/- Marks of atoms, filters and queries. No conditions but the bounds. Printed by flatm.py. -/
import Derived.Test.YtlnphcongijfiaaQuery
import Derived.Test.YtlnphcongijfiaaTouch
namespace Go.Proofs.Ytlnphcongijfiaa
open Go.RowKit

/-- The marks. -/
def markA_ (z : Int) : At := ⟨mkT (z), mkT (z + 1), mkT (z + 1 + 1)⟩
def marksA_ (k : Int) (n : Nat) : List At := (List.range n).map (fun (i : Nat) => markA_ (k + 3 * (i : Int)))
theorem marksA__len (k : Int) (n : Nat) : (marksA_ k n).length = n := by simp [marksA_]
theorem marksA__succ (k : Int) (n : Nat) : marksA_ k (n + 1) = marksA_ k n ++ [markA_ (k + 3 * (n : Int))] := by simp [marksA_, List.range_succ]
def MarkedA_ (w : World) (base : Nat) (A : Option Addr) (n c : Nat) (k : Int) (e : Ending) (w' : World) : Prop :=
  e = .returned (.int .i64 (k + 3 * n)) ∧ w'.ownsRow base 86 3 (.slice A n c) n (cA_ (marksA_ k n)) ∧ w.grownBy w' (Value.slice A n c).ownBlock

set_option maxRecDepth 100000 in
set_option maxHeartbeats 3200000 in
theorem markAtomS_any (base : Nat) (A : Option Addr) (n c : Nat) (xs : List Value) (k : Int) (w : World) (hown : w.ownsRow base 86 3 (.slice A n c) n xs) (hk : 1 ≤ k ∧ k ≤ 4294967296) (hn : n ≤ 4294967296) :
    Calls Try.prog 58 #[.slice A n c, .int .i64 k] w (MarkedA_ w base A n c k) := by
  have H0 := Lib.hid hown
  clear hown
  obtain ⟨hk0, hk1⟩ := hk
  go_enter Try.func58, Try.ntmps58
  go_wp2_with fail
  go_loopw [1, 5] (fun v i wr => ∃ (j : Nat) (ys : List Value), j ≤ n ∧ v = .int .i64 (k + 3 * j) ∧ i = .int .i64 j ∧ ys.length ≤ n * 3 ∧ n * 3 ≤ ys.length ∧ Hid (ys.take (j * 3) = cA_ (marksA_ k j)) ∧ wr.ownsRow base 86 3 (.slice A n c) n ys ∧ w.grownBy wr (Value.slice A n c).ownBlock) (fun _ i _ => n - (intOf i).toNat)
  case atStart =>
    have := H0.out.1
    exact ⟨0, xs, Nat.zero_le _, by simp, rfl, by omega, by omega, by show _ = _; simp [cA_, marksA_], H0.out, World.grownBy.refl w _⟩
  case round =>
    obtain ⟨j, ys, hj, rfl, rfl, hy1, hy2, HT, hown, hb⟩ := hrel
    by_cases hlt : j < n
    · obtain ⟨g, cap, hv, _, _⟩ := hown.form (by omega)
      injection hv with e1 e2 e3
      subst e1 e3
      obtain ⟨z, hz⟩ : ∃ z : Int, k + 3 * (j : Int) = z := ⟨_, rfl⟩
      have hz0 : 1 ≤ z := by omega
      have hz1 : z ≤ 9223372036854775800 := by omega
      have HZ := Lib.hid hz
      rw [hz]
      have j0 : (0 : Int) ≤ (j : Int) := by omega
      have j1 : (j : Int) < (n : Int) := by omega
      obtain ⟨t0, ht0⟩ : ∃ t, mkT (z) = t := ⟨_, rfl⟩
      have C0 := Lib.hid (fun w => markText_any (z) (by omega) (by omega) w)
      rw [ht0] at C0
      have HT0 := Lib.hid ht0
      clear ht0
      obtain ⟨t1, ht1⟩ : ∃ t, mkT (z + 1) = t := ⟨_, rfl⟩
      have C1 := Lib.hid (fun w => markText_any (z + 1) (by omega) (by omega) w)
      rw [ht1] at C1
      have HT1 := Lib.hid ht1
      clear ht1
      obtain ⟨t2, ht2⟩ : ∃ t, mkT (z + 1 + 1) = t := ⟨_, rfl⟩
      have C2 := Lib.hid (fun w => markText_any (z + 1 + 1) (by omega) (by omega) w)
      rw [ht2] at C2
      have HT2 := Lib.hid ht2
      clear ht2
      have HOW := Lib.hid hown
      have HB := Lib.hid hb
      clear hz hown hb
      go_wp2_with fail
      refine (C0.out _).mono ?_
      rintro e w0 ⟨rfl, k0⟩
      have o0 := own_below HOW.out k0
      have b0 := grown_on HB.out k0
      obtain ⟨u0_, u1_, u2_, d0, d1, d2, f0, f1, f2⟩ := own_A_ o0 hlt
      clear d1 f1
      clear d2 f2
      have s0 := (o0).stored (j * 3) (.string t0)
      have S0 := Lib.hid s0.1
      have G0 := Lib.hid (b0.trans s0.2)
      clear o0 b0 k0 s0
      obtain ⟨W0, hW0⟩ : ∃ W, (w0.setCell ⟨g, j * 3, none⟩ (.string t0)) = W := ⟨_, rfl⟩
      rw [hW0] at S0 G0
      go_wp2_with fail
      clear hW0 d0 f0
      refine (C1.out _).mono ?_
      rintro e w1 ⟨rfl, k1⟩
      have o1 := own_below S0.out k1
      have b1 := grown_on G0.out k1
      obtain ⟨u0_, u1_, u2_, d0, d1, d2, f0, f1, f2⟩ := own_A_ o1 hlt
      clear d0 f0
      clear d2 f2
      have s1 := (o1).stored (j * 3 + 1) (.string t1)
      have S1 := Lib.hid s1.1
      have G1 := Lib.hid (b1.trans s1.2)
      clear o1 b1 k1 s1
      obtain ⟨W1, hW1⟩ : ∃ W, (w1.setCell ⟨g, j * 3 + 1, none⟩ (.string t1)) = W := ⟨_, rfl⟩
      rw [hW1] at S1 G1
      go_wp2_with fail
      clear hW1 d1 f1
      refine (C2.out _).mono ?_
      rintro e w2 ⟨rfl, k2⟩
      have o2 := own_below S1.out k2
      have b2 := grown_on G1.out k2
      obtain ⟨u0_, u1_, u2_, d0, d1, d2, f0, f1, f2⟩ := own_A_ o2 hlt
      clear d0 f0
      clear d1 f1
      have s2 := (o2).stored (j * 3 + 2) (.string t2)
      have S2 := Lib.hid s2.1
      have G2 := Lib.hid (b2.trans s2.2)
      clear o2 b2 k2 s2
      go_wp2
      go_roundw
      case rel =>
        refine ⟨j + 1, (((ys.set (j * 3) (.string t0)).set (j * 3 + 1) (.string t1)).set (j * 3 + 2) (.string t2)), by omega, by have := HZ.out; congr 1; omega, by go_num, by simp; omega, by simp; omega, ?_, S2.out, G2.out⟩
        show _ = _
        rw [take_setA_ ys j _ _ _ (by omega), HT.out, marksA__succ, cA__append, HZ.out]
        rw [show cA_ [markA_ z] = (markA_ z).cells by simp [cA_]]
        unfold markA_ At.cells
        simp only [HT0.out, HT1.out, HT2.out]
      case measure => simp [intOf]; omega
    · obtain rfl : j = n := by omega
      have e1 : ys = cA_ (marksA_ k j) := by
        have := HT.out
        rw [List.take_of_length_le (by omega)] at this
        exact this
      subst e1
      have HO := Lib.hid hown
      have HB := Lib.hid hb
      clear hown hb
      go_wp2
      go_ret
      exact ⟨rfl, HO.out, HB.out⟩

/-- The marks. -/
def markF_ (z : Int) : Fl := ⟨mkT (z), z + 1, mkT (z + 1 + 1), z + 1 + 1 + 1⟩
def marksF_ (k : Int) (n : Nat) : List Fl := (List.range n).map (fun (i : Nat) => markF_ (k + 4 * (i : Int)))
theorem marksF__len (k : Int) (n : Nat) : (marksF_ k n).length = n := by simp [marksF_]
theorem marksF__succ (k : Int) (n : Nat) : marksF_ k (n + 1) = marksF_ k n ++ [markF_ (k + 4 * (n : Int))] := by simp [marksF_, List.range_succ]
def MarkedF_ (w : World) (base : Nat) (A : Option Addr) (n c : Nat) (k : Int) (e : Ending) (w' : World) : Prop :=
  e = .returned (.int .i64 (k + 4 * n)) ∧ w'.ownsRow base 88 4 (.slice A n c) n (cF_ (marksF_ k n)) ∧ w.grownBy w' (Value.slice A n c).ownBlock

set_option maxRecDepth 100000 in
set_option maxHeartbeats 3200000 in
theorem markFilterS_any (base : Nat) (A : Option Addr) (n c : Nat) (xs : List Value) (k : Int) (w : World) (hown : w.ownsRow base 88 4 (.slice A n c) n xs) (hk : 1 ≤ k ∧ k ≤ 4294967296) (hn : n ≤ 4294967296) :
    Calls Try.prog 59 #[.slice A n c, .int .i64 k] w (MarkedF_ w base A n c k) := by
  have H0 := Lib.hid hown
  clear hown
  obtain ⟨hk0, hk1⟩ := hk
  go_enter Try.func59, Try.ntmps59
  go_wp2_with fail
  go_loopw [1, 5] (fun v i wr => ∃ (j : Nat) (ys : List Value), j ≤ n ∧ v = .int .i64 (k + 4 * j) ∧ i = .int .i64 j ∧ ys.length ≤ n * 4 ∧ n * 4 ≤ ys.length ∧ Hid (ys.take (j * 4) = cF_ (marksF_ k j)) ∧ wr.ownsRow base 88 4 (.slice A n c) n ys ∧ w.grownBy wr (Value.slice A n c).ownBlock) (fun _ i _ => n - (intOf i).toNat)
  case atStart =>
    have := H0.out.1
    exact ⟨0, xs, Nat.zero_le _, by simp, rfl, by omega, by omega, by show _ = _; simp [cF_, marksF_], H0.out, World.grownBy.refl w _⟩
  case round =>
    obtain ⟨j, ys, hj, rfl, rfl, hy1, hy2, HT, hown, hb⟩ := hrel
    by_cases hlt : j < n
    · obtain ⟨g, cap, hv, _, _⟩ := hown.form (by omega)
      injection hv with e1 e2 e3
      subst e1 e3
      obtain ⟨z, hz⟩ : ∃ z : Int, k + 4 * (j : Int) = z := ⟨_, rfl⟩
      have hz0 : 1 ≤ z := by omega
      have hz1 : z ≤ 9223372036854775800 := by omega
      have HZ := Lib.hid hz
      rw [hz]
      have j0 : (0 : Int) ≤ (j : Int) := by omega
      have j1 : (j : Int) < (n : Int) := by omega
      obtain ⟨t0, ht0⟩ : ∃ t, mkT (z) = t := ⟨_, rfl⟩
      have C0 := Lib.hid (fun w => markText_any (z) (by omega) (by omega) w)
      rw [ht0] at C0
      have HT0 := Lib.hid ht0
      clear ht0
      obtain ⟨t2, ht2⟩ : ∃ t, mkT (z + 1 + 1) = t := ⟨_, rfl⟩
      have C2 := Lib.hid (fun w => markText_any (z + 1 + 1) (by omega) (by omega) w)
      rw [ht2] at C2
      have HT2 := Lib.hid ht2
      clear ht2
      have HOW := Lib.hid hown
      have HB := Lib.hid hb
      clear hz hown hb
      go_wp2_with fail
      refine (C0.out _).mono ?_
      rintro e w0 ⟨rfl, k0⟩
      have o0 := own_below HOW.out k0
      have b0 := grown_on HB.out k0
      obtain ⟨u0_, u1_, u2_, u3_, d0, d1, d2, d3, f0, f1, f2, f3⟩ := own_F_ o0 hlt
      clear d2 f2
      clear d3 f3
      have s0 := (o0).stored (j * 4) (.string t0)
      have s1 := (s0.1).stored (j * 4 + 1) (.int .i64 (z + 1))
      have S0 := Lib.hid s1.1
      have G0 := Lib.hid ((b0.trans s0.2).trans s1.2)
      clear o0 b0 k0 s0 s1
      obtain ⟨W0, hW0⟩ : ∃ W, ((w0.setCell ⟨g, j * 4, none⟩ (.string t0)).setCell ⟨g, j * 4 + 1, none⟩ (.int .i64 (z + 1))) = W := ⟨_, rfl⟩
      rw [hW0] at S0 G0
      go_wp2_with fail
      clear hW0 d0 f0 d1 f1
      refine (C2.out _).mono ?_
      rintro e w2 ⟨rfl, k2⟩
      have o2 := own_below S0.out k2
      have b2 := grown_on G0.out k2
      obtain ⟨u0_, u1_, u2_, u3_, d0, d1, d2, d3, f0, f1, f2, f3⟩ := own_F_ o2 hlt
      clear d0 f0
      clear d1 f1
      have s2 := (o2).stored (j * 4 + 2) (.string t2)
      have s3 := (s2.1).stored (j * 4 + 3) (.int .i64 (z + 1 + 1 + 1))
      have S2 := Lib.hid s3.1
      have G2 := Lib.hid ((b2.trans s2.2).trans s3.2)
      clear o2 b2 k2 s2 s3
      go_wp2
      go_roundw
      case rel =>
        refine ⟨j + 1, ((((ys.set (j * 4) (.string t0)).set (j * 4 + 1) (.int .i64 (z + 1))).set (j * 4 + 2) (.string t2)).set (j * 4 + 3) (.int .i64 (z + 1 + 1 + 1))), by omega, by have := HZ.out; congr 1; omega, by go_num, by simp; omega, by simp; omega, ?_, S2.out, G2.out⟩
        show _ = _
        rw [take_setF_ ys j _ _ _ _ (by omega), HT.out, marksF__succ, cF__append, HZ.out]
        rw [show cF_ [markF_ z] = (markF_ z).cells by simp [cF_]]
        unfold markF_ Fl.cells
        simp only [HT0.out, HT2.out]
      case measure => simp [intOf]; omega
    · obtain rfl : j = n := by omega
      have e1 : ys = cF_ (marksF_ k j) := by
        have := HT.out
        rw [List.take_of_length_le (by omega)] at this
        exact this
      subst e1
      have HO := Lib.hid hown
      have HB := Lib.hid hb
      clear hown hb
      go_wp2
      go_ret
      exact ⟨rfl, HO.out, HB.out⟩

/-- A query that is the call's own, its rows in blocks from lo up to hi. -/
structure OwnQI (w : World) (lo hi : Nat) (A B C : Option Addr) (c d f : Nat) (os : List ByteArray) (as_ : List At) (fs : List Fl) : Prop where
  q : OwnQ w lo A B C c d f os as_ fs
  o : ∀ r, (Value.slice A os.length c).ownBlock = some r → r < hi
  a : ∀ r, (Value.slice B as_.length d).ownBlock = some r → r < hi
  f : ∀ r, (Value.slice C fs.length f).ownBlock = some r → r < hi
theorem OwnQI.of {w : World} {lo : Nat} {A B C : Option Addr} {c d f : Nat} {os : List ByteArray} {as_ : List At} {fs : List Fl} (h : OwnQ w lo A B C c d f os as_ fs) : OwnQI w lo w.heap.size A B C c d f os as_ fs :=
  ⟨h, fun r hr => (h.o.lt r hr).2, fun r hr => (h.a.lt r hr).2, fun r hr => (h.f.lt r hr).2⟩
theorem OwnQI.keep {w w' : World} {lo hi : Nat} {A B C : Option Addr} {c d f : Nat} {os : List ByteArray} {as_ : List At} {fs : List Fl} (h : OwnQI w lo hi A B C c d f os as_ fs) (hb : Below w.heap.size w w') : OwnQI w' lo hi A B C c d f os as_ fs := ⟨h.q.below hb, h.o, h.a, h.f⟩
theorem OwnQI.rd {w : World} {lo hi : Nat} {A B C : Option Addr} {c d f : Nat} {os : List ByteArray} {as_ : List At} {fs : List Fl} (h : OwnQI w lo hi A B C c d f os as_ fs) : RdQ w A B C os as_ fs := h.q.rd
/-- Strings of the call's own. -/
def OwnTI (w : World) (lo hi : Nat) (A : Option Addr) (c : Nat) (zs : List ByteArray) : Prop :=
  w.ownsRow lo 9 1 (.slice A zs.length c) zs.length (zs.map Value.string) ∧ ∀ r, (Value.slice A zs.length c).ownBlock = some r → r < hi
theorem OwnTI.of {w : World} {lo c : Nat} {A : Option Addr} {zs : List ByteArray} (h : w.ownsRow lo 9 1 (.slice A zs.length c) zs.length (zs.map Value.string)) : OwnTI w lo w.heap.size A c zs := ⟨h, fun r hr => (h.lt r hr).2⟩
theorem OwnTI.keep {w w' : World} {lo hi c : Nat} {A : Option Addr} {zs : List ByteArray} (h : OwnTI w lo hi A c zs) (hb : Below w.heap.size w w') : OwnTI w' lo hi A c zs := ⟨own_below h.1 hb, h.2⟩
theorem OwnTI.touch {w w' : World} {lo hi lo' hi' c : Nat} {A : Option Addr} {zs : List ByteArray} (h : OwnTI w lo hi A c zs) (ht : Touch lo' hi' w w') (hb : hi' ≤ lo) : OwnTI w' lo hi A c zs := ⟨ht.own h.1 hb, h.2⟩
theorem OwnTI.rd {w : World} {lo hi c : Nat} {A : Option Addr} {zs : List ByteArray} (h : OwnTI w lo hi A c zs) : RdS w A zs := RdS.own h.1
def MarkedTI (w : World) (lo hi : Nat) (A : Option Addr) (c : Nat) (zs : List ByteArray) (k : Int) (e : Ending) (w' : World) : Prop :=
  e = .returned (.int .i64 (k + zs.length)) ∧ OwnTI w' lo hi A c (marksT k zs.length) ∧ Touch lo hi w w'
theorem markTexts_any (lo hi : Nat) (A : Option Addr) (c : Nat) (zs : List ByteArray) (k : Int) (w : World) (h : OwnTI w lo hi A c zs) (hk : 1 ≤ k ∧ k ≤ 4294967296) (hn : zs.length ≤ 4294967296) :
    Calls Try.prog 17 #[.slice A zs.length c, .int .i64 k] w (MarkedTI w lo hi A c zs k) := by
  refine (markStringS_any lo A zs.length c _ k w h.1 hk hn).mono ?_
  rintro e w' ⟨he, ho, hg⟩
  refine ⟨he, ⟨by rw [marksT_len]; exact ho, fun r hr => h.2 r (by rw [marksT_len] at hr; exact hr)⟩, (Touch.refl _ _ _).grown hg (fun r hr => ⟨(h.1.lt r hr).1, h.2 r hr⟩)⟩

/-- What a marking of a query leaves. -/
def MarkedQ (w : World) (lo hi : Nat) (e : Ending) (w' : World) : Prop := ∃ k : Int, e = .returned (.int .i64 k) ∧ 0 ≤ k ∧ Touch lo hi w w'
set_option maxRecDepth 100000 in
set_option maxHeartbeats 1600000 in
theorem markQuery_any (lo hi : Nat) (ea : Bool) (A B C : Option Addr) (c d f : Nat) (os : List ByteArray) (as_ : List At) (fs : List Fl) (w : World) (h : OwnQI w lo hi A B C c d f os as_ fs) (hn : os.length ≤ 1048576) (hm : as_.length ≤ 1048576) (hf : fs.length ≤ 1048576) (hlo : hi ≤ w.heap.size) :
    Calls Try.prog 16 #[.agg #[.bool ea, .slice A os.length c, .slice B as_.length d, .slice C fs.length f], .int .i64 1] w (MarkedQ w lo hi) := by
  have p1 := heap_alloc_new w (.cells #[.bool ea, .slice A os.length c, .slice B as_.length d, .slice C fs.length f] 32)
  have hb1 := below_alloc w (.cells #[.bool ea, .slice A os.length c, .slice B as_.length d, .slice C fs.length f] 32)
  have H := Lib.hid (h.keep hb1)
  have HL := Lib.hid hlo
  obtain ⟨W, hW⟩ : ∃ W, w.alloc (.cells #[.bool ea, .slice A os.length c, .slice B as_.length d, .slice C fs.length f] 32) = W := ⟨_, rfl⟩
  rw [hW] at p1 hb1 H
  have T0 : Touch lo hi w W := ⟨hb1.os, hb1.tape, hb1.output, hb1.size, fun k hk _ => hb1.block k hk⟩
  have TT := Lib.hid T0
  have b1 := blk_cell (o := 1) p1 rfl
  have b2 := blk_cell (o := 2) p1 rfl
  have b3 := blk_cell (o := 3) p1 rfl
  have P1 := Lib.hid p1
  clear h hlo p1 hb1 T0
  go_enter Try.func16, Try.ntmps16
  go_wp2_with fail
  clear hW b1 b2 b3
  refine (markStringS_any lo A os.length c _ 1 W H.out.q.o (by omega) (by omega)).mono ?_
  rintro e w1 ⟨rfl, o1, g1⟩
  have t1 := (Touch.refl lo hi W).grown g1 (fun r hr => ⟨(H.out.q.o.lt r hr).1, H.out.o r hr⟩)
  have Q1 := Lib.hid (t1.blk P1.out (by have := HL.out; omega))
  have A1 := Lib.hid (H.out.q.a.kept g1 (own_ne H.out.q.a H.out.q.o (by decide)))
  have F1 := Lib.hid (H.out.q.f.kept g1 (own_ne H.out.q.f H.out.q.o (by decide)))
  have TT1 := Lib.hid (TT.out.trans t1)
  have b2 := blk_cell (o := 2) Q1.out rfl
  obtain ⟨k1, hk1⟩ : ∃ k : Int, 1 + (os.length : Int) = k := ⟨_, rfl⟩
  rw [hk1]
  have hk10 : 1 ≤ k1 ∧ k1 ≤ 2097152 := by omega
  clear o1 g1 t1 hk1
  go_wp2_with fail
  clear b2
  refine (markAtomS_any lo B as_.length d _ k1 w1 A1.out (by omega) (by omega)).mono ?_
  rintro e w2 ⟨rfl, o2, g2⟩
  have t2 := (Touch.refl lo hi w1).grown g2 (fun r hr => ⟨(A1.out.lt r hr).1, H.out.a r hr⟩)
  have Q2 := Lib.hid (t2.blk Q1.out (by have := HL.out; omega))
  have F2 := Lib.hid (F1.out.kept g2 (own_ne F1.out A1.out (by decide)))
  have TT2 := Lib.hid (TT1.out.trans t2)
  have b3 := blk_cell (o := 3) Q2.out rfl
  obtain ⟨k2, hk2⟩ : ∃ k : Int, k1 + 3 * (as_.length : Int) = k := ⟨_, rfl⟩
  rw [hk2]
  have hk20 : 1 ≤ k2 ∧ k2 ≤ 8388608 := by omega
  clear o2 g2 t2 hk2
  go_wp2_with fail
  clear b3
  refine (markFilterS_any lo C fs.length f _ k2 w2 F2.out (by omega) (by omega)).mono ?_
  rintro e w3 ⟨rfl, o3, g3⟩
  have t3 := (Touch.refl lo hi w2).grown g3 (fun r hr => ⟨(F2.out.lt r hr).1, H.out.f r hr⟩)
  have TT3 := Lib.hid (TT2.out.trans t3)
  obtain ⟨k3, hk3⟩ : ∃ k : Int, k2 + 4 * (fs.length : Int) = k := ⟨_, rfl⟩
  rw [hk3]
  have hk30 : 0 ≤ k3 := by omega
  clear o3 g3 t3 hk3
  go_wp2
  go_ret
  exact ⟨k3, rfl, hk30, TT3.out⟩
end Go.Proofs.Ytlnphcongijfiaa
