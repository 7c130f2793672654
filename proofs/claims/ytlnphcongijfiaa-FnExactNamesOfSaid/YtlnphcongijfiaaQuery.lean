/- Queries: sized, copied, compared; opened. No conditions but the lengths. Printed by xquery.py. -/
import Derived.Test.YtlnphcongijfiaaAtom
import Derived.Test.YtlnphcongijfiaaFilter
namespace Go.Proofs.Ytlnphcongijfiaa
open Go.ChangeShapes Go.WideShapes Go.ChangeAt Go.RowKit Go.Joins Go.Deep

theorem ret_bQ {a b : Bool} (h : a = b) : Ending.returned (.bool a) = .returned (.bool b) := by rw [h]
/-- Sizes of strings. -/
def totS (ws : List ByteArray) : Nat := (ws.map ByteArray.size).sum
theorem totS_next {es : List ByteArray} {k : Nat} (h : k < es.length) : totS (es.take (k + 1)) = totS (es.take k) + es[k].size := by
  unfold totS
  rw [List.take_succ_eq_append_getElem h, List.map_append, List.sum_append]
  simp only [List.map_cons, List.map_nil, List.sum_cons, List.sum_nil, Nat.add_zero]
theorem totS_le (es : List ByteArray) (k : Nat) : totS (es.take k) ≤ totS es := by
  unfold totS
  conv => rhs; rw [← List.take_append_drop k es]
  rw [List.map_append, List.sum_append]
  omega
def szT (t : Nat) (left : Int) : Int := if (t : Int) ≤ left then left - t else -1
theorem szT_A (t : Nat) (left : Int) : szA_ t left = szT t left := rfl
theorem szT_F (t : Nat) (left : Int) : szF_ t left = szT t left := rfl
set_option maxRecDepth 100000 in
set_option maxHeartbeats 1600000 in
theorem szStringS_any (A : Option Addr) (c : Nat) (es : List ByteArray) (left : Int) (w : World) (hx : RdS w A es) (hl : 0 ≤ left ∧ left ≤ 4611686018427387904) (hn : es.length ≤ 9223372036854775807) (hok : ∀ e ∈ es, e.size ≤ maxLen) :
    Calls Try.prog 44 #[.slice A es.length c, .int .i64 left] w fun r w' => r = .returned (.int .i64 (szT (es.length + totS es) left)) ∧ Below w.heap.size w w' := by
  obtain ⟨hl0, hl1⟩ := hl
  have HX := Lib.hid hx
  have HOK := Lib.hid hok
  clear hx hok
  obtain ⟨R, hR⟩ : ∃ R, szT (es.length + totS es) left = R := ⟨_, rfl⟩
  have HR := Lib.hid hR
  rw [hR]
  clear hR
  by_cases hn1 : (es.length : Int) ≤ left
  rotate_left
  · have HN := Lib.hid (show R = -1 by rw [← HR.out]; unfold szT; rw [if_neg (by omega)])
    go_enter Try.func44, Try.ntmps44
    go_wp2
    go_ret
    exact ⟨ret_iA_ HN.out.symm, Below.refl _ _⟩
  go_enter Try.func44, Try.ntmps44
  go_wp2_with fail
  go_loop [1, 5] (fun v i => ∃ (k : Nat) (m : Int), k ≤ es.length ∧ i = .int .i64 k ∧ v = .int .i64 m ∧ 0 ≤ m ∧ m ≤ left ∧ Hid (m + (es.length : Int) + (totS (es.take k) : Int) = left)) (fun _ i => es.length - (intOf i).toNat)
  case atStart => exact ⟨0, _, by omega, rfl, rfl, by omega, by omega, by show _ = _; simp [totS]⟩
  case round =>
    obtain ⟨k, m, hk, rfl, rfl, hm0, hm1, HM⟩ := hrel
    by_cases hlt : k < es.length
    · obtain ⟨ad, rfl, hc⟩ := HX.out.at_ hlt
      have hnx := totS_next hlt
      have hle := totS_le es (k + 1)
      have hxo := HOK.out es[k] (List.getElem_mem hlt)
      obtain ⟨x, hxx⟩ : ∃ x, es[k] = x := ⟨_, rfl⟩
      rw [hxx] at hc hnx hxo
      have HNX := Lib.hid hnx
      have HLE := Lib.hid hle
      unfold maxLen at hxo
      have k0 : (0 : Int) ≤ (k : Int) := by omega
      have k1 : (k : Int) < (es.length : Int) := by omega
      clear hxx hnx hle
      by_cases htm : (x.size : Int) ≤ m
      · go_wp2
        go_round
        case rel => exact ⟨k + 1, _, by omega, by go_num, rfl, by omega, by omega, by show _ = _; have h1 := HM.out; have h2 := HNX.out; omega⟩
        case measure => simp [intOf]; omega
      · go_wp2
        go_ret
        exact ⟨ret_iA_ (by rw [← HR.out]; unfold szT; rw [if_neg (by have h1 := HM.out; have h2 := HNX.out; have h4 := HLE.out; omega)]), Below.refl _ _⟩
    · obtain rfl : k = es.length := by omega
      have h1 := HM.out
      rw [List.take_of_length_le (Nat.le_refl _)] at h1
      have H1 := Lib.hid h1
      clear h1
      go_wp2
      go_ret
      exact ⟨ret_iA_ (by rw [← HR.out]; unfold szT; have h1 := H1.out; rw [if_pos (by omega)]; omega), Below.refl _ _⟩

/-- A query that came in, or was made: it reads so. -/
structure RdQ (w : World) (A B C : Option Addr) (os : List ByteArray) (as_ : List At) (fs : List Fl) : Prop where
  o : RdS w A os
  a : RdA_ w B as_
  f : RdF_ w C fs
theorem RdQ.below {w w' : World} {A B C : Option Addr} {os : List ByteArray} {as_ : List At} {fs : List Fl} (h : RdQ w A B C os as_ fs) (hb : Below w.heap.size w w') : RdQ w' A B C os as_ fs := ⟨h.o.below hb, h.a.below hb, h.f.below hb⟩
def totQ (os : List ByteArray) (as_ : List At) (fs : List Fl) : Nat := (os.length + totS os) + (as_.length + totA_ as_) + (fs.length + totF_ fs)
structure OkQ (os : List ByteArray) (as_ : List At) (fs : List Fl) : Prop where
  o : ∀ e ∈ os, e.size ≤ maxLen
  a : ∀ e ∈ as_, e.ok
  f : ∀ e ∈ fs, e.ok

set_option maxRecDepth 100000 in
set_option maxHeartbeats 1600000 in
theorem szQuery_any (ea : Bool) (A B C : Option Addr) (c d f : Nat) (os : List ByteArray) (as_ : List At) (fs : List Fl) (left : Int) (w : World) (hx : RdQ w A B C os as_ fs) (hok : OkQ os as_ fs) (hl : 0 ≤ left ∧ left ≤ 4611686018427387904)
    (hn : os.length ≤ 9223372036854775807 ∧ as_.length ≤ 9223372036854775807 ∧ fs.length ≤ 9223372036854775807) :
    Calls Try.prog 8 #[.agg #[.bool ea, .slice A os.length c, .slice B as_.length d, .slice C fs.length f], .int .i64 left] w fun r w' => r = .returned (.int .i64 (szT (totQ os as_ fs) left)) ∧ Below w.heap.size w w' := by
  obtain ⟨hn1, hn2, hn3⟩ := hn
  obtain ⟨hl0, hl1⟩ := hl
  have p1 := heap_alloc_new w (.cells #[.bool ea, .slice A os.length c, .slice B as_.length d, .slice C fs.length f] 26)
  have hb1 := below_alloc w (.cells #[.bool ea, .slice A os.length c, .slice B as_.length d, .slice C fs.length f] 26)
  have HX := Lib.hid hx
  have C1 := Lib.hid (fun w h => szStringS_any A c os left w h ⟨hl0, hl1⟩ hn1 hok.o)
  have C2 := Lib.hid (fun w m h (hm : 0 ≤ m ∧ m ≤ 4611686018427387904) => szAtomS_any B d as_ m w h hm hn2 hok.a)
  have C3 := Lib.hid (fun w m h (hm : 0 ≤ m ∧ m ≤ 4611686018427387904) => szFilterS_any C f fs m w h hm hn3 hok.f)
  have HT : Hid (totQ os as_ fs = (os.length + totS os) + (as_.length + totA_ as_) + (fs.length + totF_ fs)) := Lib.hid rfl
  obtain ⟨t, ht⟩ : ∃ t, totQ os as_ fs = t := ⟨_, rfl⟩
  obtain ⟨t1, ht1⟩ : ∃ t, os.length + totS os = t := ⟨_, rfl⟩
  obtain ⟨t2, ht2⟩ : ∃ t, as_.length + totA_ as_ = t := ⟨_, rfl⟩
  obtain ⟨t3, ht3⟩ : ∃ t, fs.length + totF_ fs = t := ⟨_, rfl⟩
  simp only [szT_A, szT_F, ht1, ht2, ht3] at C1 C2 C3
  rw [ht, ht1, ht2, ht3] at HT
  rw [ht]
  have htt : t = t1 + t2 + t3 := HT.out
  obtain ⟨R, hR⟩ : ∃ R, szT t left = R := ⟨_, rfl⟩
  have HR := Lib.hid hR
  rw [hR]
  have HTT := Lib.hid htt
  clear hx hok ht ht1 ht2 ht3 HT hR htt hn1 hn2 hn3
  have b1 := blk_cell (o := 1) p1 rfl
  have b2 := blk_cell (o := 2) p1 rfl
  have b3 := blk_cell (o := 3) p1 rfl
  by_cases g1 : (t1 : Int) ≤ left
  rotate_left
  · rw [show szT t1 left = -1 by unfold szT; rw [if_neg g1]] at C1
    have HN := Lib.hid (show R = -1 by rw [← HR.out]; unfold szT; rw [if_neg (by have := HTT.out; omega)])
    go_enter Try.func8, Try.ntmps8
    go_wp2_with fail
    refine (C1.out _ (HX.out.below hb1).o).mono ?_
    rintro e w1 ⟨rfl, k1⟩
    go_wp2
    go_ret
    exact ⟨ret_iA_ HN.out.symm, below_step hb1 k1⟩
  obtain ⟨m1, hm1⟩ : ∃ m, left - (t1 : Int) = m := ⟨_, rfl⟩
  rw [show szT t1 left = m1 by unfold szT; rw [if_pos g1, hm1]] at C1
  have hm10 : 0 ≤ m1 ∧ m1 ≤ left := by omega
  have HM1 := Lib.hid hm1
  obtain ⟨hm10, hm11⟩ := hm10
  go_enter Try.func8, Try.ntmps8
  go_wp2_with fail
  clear hm1
  refine (C1.out _ (HX.out.below hb1).o).mono ?_
  rintro e w1 ⟨rfl, k1⟩
  have Q1 := Lib.hid (blk_below k1 p1)
  have B1 := Lib.hid (below_step hb1 k1)
  clear k1 b1 b2 b3 p1 hb1
  have b2 := blk_cell (o := 2) Q1.out rfl
  by_cases g2 : (t2 : Int) ≤ m1
  rotate_left
  · have HN := Lib.hid (show R = -1 by rw [← HR.out]; unfold szT; rw [if_neg (by have := HTT.out; have := HM1.out; omega)])
    have C2' := C2.out w1 m1 (HX.out.below B1.out).a (by omega)
    rw [show szT t2 m1 = -1 by unfold szT; rw [if_neg g2]] at C2'
    have C2h := Lib.hid C2'
    clear C2'
    go_wp2_with fail
    refine C2h.out.mono ?_
    rintro e w2 ⟨rfl, k2⟩
    go_wp2
    go_ret
    exact ⟨ret_iA_ HN.out.symm, below_step B1.out k2⟩
  obtain ⟨m2, hm2⟩ : ∃ m, m1 - (t2 : Int) = m := ⟨_, rfl⟩
  have C2' := C2.out w1 m1 (HX.out.below B1.out).a (by omega)
  rw [show szT t2 m1 = m2 by unfold szT; rw [if_pos g2, hm2]] at C2'
  have C2h := Lib.hid C2'
  have hm20 : 0 ≤ m2 ∧ m2 ≤ m1 := by omega
  have HM2 := Lib.hid hm2
  obtain ⟨hm20, hm21⟩ := hm20
  clear C2' hm2
  go_wp2_with fail
  refine C2h.out.mono ?_
  rintro e w2 ⟨rfl, k2⟩
  have Q2 := Lib.hid (blk_below k2 Q1.out)
  have B2 := Lib.hid (below_step B1.out k2)
  clear k2 b2 Q1
  have b3 := blk_cell (o := 3) Q2.out rfl
  have C3' := C3.out w2 m2 (HX.out.below B2.out).f (by omega)
  obtain ⟨r3, hr3⟩ : ∃ r, szT t3 m2 = r := ⟨_, rfl⟩
  rw [hr3] at C3'
  have C3h := Lib.hid C3'
  have HN := Lib.hid (show R = r3 by
    rw [← HR.out, ← hr3]
    have h1 := HTT.out; have h2 := HM1.out; have h3 := HM2.out
    unfold szT
    by_cases g3 : (t3 : Int) ≤ m2
    · rw [if_pos (by omega), if_pos g3]; omega
    · rw [if_neg (by omega), if_neg g3])
  have hr30 : r3 = -1 ∨ 0 ≤ r3 := by
    rw [← hr3]
    unfold szT
    split
    · right; omega
    · exact .inl rfl
  clear C3' hr3
  rcases hr30 with rfl | hr30
  all_goals
    go_wp2_with fail
    refine C3h.out.mono ?_
    rintro e w3 ⟨rfl, k3⟩
    go_wp2
    go_ret
    exact ⟨ret_iA_ HN.out.symm, below_step B2.out k3⟩

/-- What a call that makes a query leaves. -/
structure OwnQ (w : World) (base : Nat) (A B C : Option Addr) (c d f : Nat) (os : List ByteArray) (as_ : List At) (fs : List Fl) : Prop where
  o : w.ownsRow base 9 1 (.slice A os.length c) os.length (os.map Value.string)
  a : w.ownsRow base 86 3 (.slice B as_.length d) as_.length (cA_ as_)
  f : w.ownsRow base 88 4 (.slice C fs.length f) fs.length (cF_ fs)
theorem OwnQ.rd {w : World} {base : Nat} {A B C : Option Addr} {c d f : Nat} {os : List ByteArray} {as_ : List At} {fs : List Fl} (h : OwnQ w base A B C c d f os as_ fs) : RdQ w A B C os as_ fs := ⟨RdS.own h.o, RdA_.own h.a, RdF_.own h.f⟩
theorem OwnQ.below {w w' : World} {base : Nat} {A B C : Option Addr} {c d f : Nat} {os : List ByteArray} {as_ : List At} {fs : List Fl} (h : OwnQ w base A B C c d f os as_ fs) (hb : Below w.heap.size w w') : OwnQ w' base A B C c d f os as_ fs := ⟨own_below h.o hb, own_below h.a hb, own_below h.f hb⟩
def MadeQ (w : World) (ea : Bool) (os : List ByteArray) (as_ : List At) (fs : List Fl) (e : Ending) (w' : World) : Prop :=
  ∃ A c B d C f, e = .returned (.agg #[.bool ea, .slice A os.length c, .slice B as_.length d, .slice C fs.length f]) ∧ OwnQ w' w.heap.size A B C c d f os as_ fs ∧ Below w.heap.size w w'

theorem row_neQ {w : World} {q b : Nat} {e : TypeId} {sz : Nat} {v : Value} {m : Nat} {ys : List Value} {cs : Array Value} {t : TypeId} {fz : Nat × Nat} (ho : w.ownsRow b e sz v m ys) (hq : w.heap[q]? = some (.cells cs t fz)) (ht : t ≠ e) : v.ownBlock ≠ some q := by
  intro hr
  rcases ho.2 with ⟨rfl, _⟩ | ⟨g, cap, cur, rfl, _, hg, _⟩
  · simp [Value.ownBlock] at hr
  · simp only [Value.ownBlock, Option.some.injEq] at hr
    subst hr
    rw [hg] at hq
    injection hq with hq
    injection hq with _ h2 _
    exact ht h2.symm
theorem own_setQ {w : World} {b : Nat} {e : TypeId} {sz : Nat} {v : Value} {m : Nat} {ys : List Value} (ho : w.ownsRow b e sz v m ys) {a : Addr} (hne : v.ownBlock ≠ some a.block) (u : Value) : (w.setCell a u).ownsRow b e sz v m ys := by
  refine ho.kept (row := some a.block) ⟨rfl, rfl, rfl, by simp [World.setCell], fun i _ hi => Below.heap_setCell _ _ _ _ (fun h => hi (by rw [h]))⟩ ?_
  exact .inr hne

set_option maxRecDepth 100000 in
set_option maxHeartbeats 3200000 in
theorem toQuery_any (ea : Bool) (A B C : Option Addr) (c d f : Nat) (os : List ByteArray) (as_ : List At) (fs : List Fl) (w : World) (hx : RdQ w A B C os as_ fs) (hn : os.length ≤ 4294967296) (hm : as_.length ≤ 4294967296) (hf : fs.length ≤ 4294967296) :
    Calls Try.prog 10 #[.agg #[.bool ea, .slice A os.length c, .slice B as_.length d, .slice C fs.length f]] w (MadeQ w ea os as_ fs) := by
  have p1 : (((w.alloc (.cells #[.bool ea, .slice A os.length c, .slice B as_.length d, .slice C fs.length f] 26)).alloc (.cells #[.bool false, .slice none 0 0, .slice none 0 0, .slice none 0 0] 32)).alloc (.cells #[.bool ea, .slice none 0 0, .slice none 0 0, .slice none 0 0] 32)).heap[w.heap.size]? = some (.cells #[.bool ea, .slice A os.length c, .slice B as_.length d, .slice C fs.length f] 26 (0, 0)) := blk_below (below_alloc _ _) (blk_below (below_alloc _ _) (heap_alloc_new w (.cells #[.bool ea, .slice A os.length c, .slice B as_.length d, .slice C fs.length f] 26)))
  have p2 : (((w.alloc (.cells #[.bool ea, .slice A os.length c, .slice B as_.length d, .slice C fs.length f] 26)).alloc (.cells #[.bool false, .slice none 0 0, .slice none 0 0, .slice none 0 0] 32)).alloc (.cells #[.bool ea, .slice none 0 0, .slice none 0 0, .slice none 0 0] 32)).heap[w.heap.size + 1]? = some (.cells #[.bool false, .slice none 0 0, .slice none 0 0, .slice none 0 0] 32 (0, 0)) := by
    have := blk_below (below_alloc _ (.cells #[.bool ea, .slice none 0 0, .slice none 0 0, .slice none 0 0] 32)) (heap_alloc_new (w.alloc (.cells #[.bool ea, .slice A os.length c, .slice B as_.length d, .slice C fs.length f] 26)) (.cells #[.bool false, .slice none 0 0, .slice none 0 0, .slice none 0 0] 32))
    simpa using this
  have p3 : (((w.alloc (.cells #[.bool ea, .slice A os.length c, .slice B as_.length d, .slice C fs.length f] 26)).alloc (.cells #[.bool false, .slice none 0 0, .slice none 0 0, .slice none 0 0] 32)).alloc (.cells #[.bool ea, .slice none 0 0, .slice none 0 0, .slice none 0 0] 32)).heap[w.heap.size + 2]? = some (.cells #[.bool ea, .slice none 0 0, .slice none 0 0, .slice none 0 0] 32 (0, 0)) := by
    have := heap_alloc_new ((w.alloc (.cells #[.bool ea, .slice A os.length c, .slice B as_.length d, .slice C fs.length f] 26)).alloc (.cells #[.bool false, .slice none 0 0, .slice none 0 0, .slice none 0 0] 32)) (.cells #[.bool ea, .slice none 0 0, .slice none 0 0, .slice none 0 0] 32)
    simpa using this
  have B3 : Below w.heap.size w (((w.alloc (.cells #[.bool ea, .slice A os.length c, .slice B as_.length d, .slice C fs.length f] 26)).alloc (.cells #[.bool false, .slice none 0 0, .slice none 0 0, .slice none 0 0] 32)).alloc (.cells #[.bool ea, .slice none 0 0, .slice none 0 0, .slice none 0 0] 32)) := below_step (below_step (below_alloc _ _) (below_alloc _ _)) (below_alloc _ _)
  have hs3 : (((w.alloc (.cells #[.bool ea, .slice A os.length c, .slice B as_.length d, .slice C fs.length f] 26)).alloc (.cells #[.bool false, .slice none 0 0, .slice none 0 0, .slice none 0 0] 32)).alloc (.cells #[.bool ea, .slice none 0 0, .slice none 0 0, .slice none 0 0] 32)).heap.size = w.heap.size + 3 := by simp
  have HX := Lib.hid hx
  clear hx
  obtain ⟨W0, hW0⟩ : ∃ W, (((w.alloc (.cells #[.bool ea, .slice A os.length c, .slice B as_.length d, .slice C fs.length f] 26)).alloc (.cells #[.bool false, .slice none 0 0, .slice none 0 0, .slice none 0 0] 32)).alloc (.cells #[.bool ea, .slice none 0 0, .slice none 0 0, .slice none 0 0] 32)) = W := ⟨_, rfl⟩
  rw [hW0] at p1 p2 p3 B3 hs3
  have q1 := p1
  have q2 := p2
  have q3 := p3
  have BB := B3
  have hsz : w.heap.size + 3 ≤ W0.heap.size := by omega
  have b1 := blk_cell (o := 1) q1 rfl
  have b2 := blk_cell (o := 2) q1 rfl
  have b3 := blk_cell (o := 3) q1 rfl
  clear p1 p2 p3 B3 hs3
  go_enter Try.func10, Try.ntmps10
  go_wp2_with fail
  clear hW0 b1 b2 b3
  refine (toStringS_any A os.length c os W0 (HX.out.below BB).o hn).mono ?_
  rintro e w1 ⟨A1, c1, rfl, o1, k1⟩
  have q1 := blk_below k1 q1
  have q2 := blk_below k1 q2
  have q3 := blk_below k1 q3
  have BB := below_step BB k1
  have hs1 := k1.size
  have fr : w1.frozen? ⟨w.heap.size + 2, 1, none⟩ = false := frozen_of_row w1 _ 1 _ _ q3
  have ce := blk_cell (o := 1) q3 rfl
  have o1' := own_setQ o1 (a := ⟨w.heap.size + 2, 1, none⟩) (row_neQ o1 q3 (by decide)) (.slice A1 os.length c1)
  have q3' := heap_setCell_same w1 (w.heap.size + 2) 1 _ _ (.slice A1 os.length c1) q3
  have q1' := (Below.heap_setCell w1 ⟨w.heap.size + 2, 1, none⟩ (.slice A1 os.length c1) w.heap.size (by simp)).trans q1
  have q2' := (Below.heap_setCell w1 ⟨w.heap.size + 2, 1, none⟩ (.slice A1 os.length c1) (w.heap.size + 1) (by simp)).trans q2
  have BB' := BB.setCell (p := ⟨w.heap.size + 2, 1, none⟩) (by simp) (.slice A1 os.length c1)
  obtain ⟨W1, hW1⟩ : ∃ W, w1.setCell ⟨w.heap.size + 2, 1, none⟩ (.slice A1 os.length c1) = W := ⟨_, rfl⟩
  have hz1 : w.heap.size + 3 ≤ W1.heap.size := by rw [← hW1]; simp [World.setCell]; omega
  rw [hW1] at o1' q1' q2' q3' BB'
  have bs1 : w.heap.size ≤ W0.heap.size := by omega
  clear q1 q2 q3 BB k1 o1
  have q1 := q1'
  have q2 := q2'
  have q3 := q3'
  have BB := BB'
  have o1 := o1'
  clear q1' q2' q3' BB' o1'
  have b2 := blk_cell (o := 2) q1 rfl
  go_wp2_with fail
  clear hW1 fr ce b2
  refine (toAtomS_any B d as_ W1 (HX.out.below BB).a hm).mono ?_
  rintro e w2 ⟨A2, c2, rfl, o2, k2⟩
  have q1 := blk_below k2 q1
  have q2 := blk_below k2 q2
  have q3 := blk_below k2 q3
  have BB := below_step BB k2
  have hs2 := k2.size
  have o1 := own_below o1 k2
  have fr : w2.frozen? ⟨w.heap.size + 2, 2, none⟩ = false := frozen_of_row w2 _ 2 _ _ q3
  have ce := blk_cell (o := 2) q3 rfl
  have o1' := own_setQ o1 (a := ⟨w.heap.size + 2, 2, none⟩) (row_neQ o1 q3 (by decide)) (.slice A2 as_.length c2)
  have o2' := own_setQ o2 (a := ⟨w.heap.size + 2, 2, none⟩) (row_neQ o2 q3 (by decide)) (.slice A2 as_.length c2)
  have q3' := heap_setCell_same w2 (w.heap.size + 2) 2 _ _ (.slice A2 as_.length c2) q3
  have q1' := (Below.heap_setCell w2 ⟨w.heap.size + 2, 2, none⟩ (.slice A2 as_.length c2) w.heap.size (by simp)).trans q1
  have q2' := (Below.heap_setCell w2 ⟨w.heap.size + 2, 2, none⟩ (.slice A2 as_.length c2) (w.heap.size + 1) (by simp)).trans q2
  have BB' := BB.setCell (p := ⟨w.heap.size + 2, 2, none⟩) (by simp) (.slice A2 as_.length c2)
  obtain ⟨W2, hW2⟩ : ∃ W, w2.setCell ⟨w.heap.size + 2, 2, none⟩ (.slice A2 as_.length c2) = W := ⟨_, rfl⟩
  have hz2 : w.heap.size + 3 ≤ W2.heap.size := by rw [← hW2]; simp [World.setCell]; omega
  rw [hW2] at o1' o2' q1' q2' q3' BB'
  have bs2 : w.heap.size ≤ W1.heap.size := by omega
  clear q1 q2 q3 BB k2 o1 o2
  have q1 := q1'
  have q2 := q2'
  have q3 := q3'
  have BB := BB'
  have o1 := o1'
  have o2 := o2'
  clear q1' q2' q3' BB' o1' o2'
  have b3 := blk_cell (o := 3) q1 rfl
  go_wp2_with fail
  clear hW2 fr ce b3
  refine (toFilterS_any C f fs W2 (HX.out.below BB).f hf).mono ?_
  rintro e w3 ⟨A3, c3, rfl, o3, k3⟩
  have q1 := blk_below k3 q1
  have q2 := blk_below k3 q2
  have q3 := blk_below k3 q3
  have BB := below_step BB k3
  have hs3 := k3.size
  have o1 := own_below o1 k3
  have o2 := own_below o2 k3
  have fr : w3.frozen? ⟨w.heap.size + 2, 3, none⟩ = false := frozen_of_row w3 _ 3 _ _ q3
  have ce := blk_cell (o := 3) q3 rfl
  have o1' := own_setQ o1 (a := ⟨w.heap.size + 2, 3, none⟩) (row_neQ o1 q3 (by decide)) (.slice A3 fs.length c3)
  have o2' := own_setQ o2 (a := ⟨w.heap.size + 2, 3, none⟩) (row_neQ o2 q3 (by decide)) (.slice A3 fs.length c3)
  have o3' := own_setQ o3 (a := ⟨w.heap.size + 2, 3, none⟩) (row_neQ o3 q3 (by decide)) (.slice A3 fs.length c3)
  have q3' := heap_setCell_same w3 (w.heap.size + 2) 3 _ _ (.slice A3 fs.length c3) q3
  have q1' := (Below.heap_setCell w3 ⟨w.heap.size + 2, 3, none⟩ (.slice A3 fs.length c3) w.heap.size (by simp)).trans q1
  have q2' := (Below.heap_setCell w3 ⟨w.heap.size + 2, 3, none⟩ (.slice A3 fs.length c3) (w.heap.size + 1) (by simp)).trans q2
  have BB' := BB.setCell (p := ⟨w.heap.size + 2, 3, none⟩) (by simp) (.slice A3 fs.length c3)
  obtain ⟨W3, hW3⟩ : ∃ W, w3.setCell ⟨w.heap.size + 2, 3, none⟩ (.slice A3 fs.length c3) = W := ⟨_, rfl⟩
  have hz3 : w.heap.size + 3 ≤ W3.heap.size := by rw [← hW3]; simp [World.setCell]; omega
  rw [hW3] at o1' o2' o3' q1' q2' q3' BB'
  have bs3 : w.heap.size ≤ W2.heap.size := by omega
  clear q1 q2 q3 BB k3 o1 o2 o3
  have q1 := q1'
  have q2 := q2'
  have q3 := q3'
  have BB := BB'
  have o1 := o1'
  have o2 := o2'
  have o3 := o3'
  clear q1' q2' q3' BB' o1' o2' o3'
  have t0 := blk_cell (o := 0) q3 rfl
  have t1 := blk_cell (o := 1) q3 rfl
  have t2 := blk_cell (o := 2) q3 rfl
  have t3 := blk_cell (o := 3) q3 rfl
  have d0 := blk_cell (o := 0) q2 rfl
  have d1 := blk_cell (o := 1) q2 rfl
  have d2 := blk_cell (o := 2) q2 rfl
  have d3 := blk_cell (o := 3) q2 rfl
  have g0 : W3.frozen? ⟨w.heap.size + 1, 0, none⟩ = false := frozen_of_row W3 _ 0 _ _ q2
  have g1 : W3.frozen? ⟨w.heap.size + 1, 1, none⟩ = false := frozen_of_row W3 _ 1 _ _ q2
  have g2 : W3.frozen? ⟨w.heap.size + 1, 2, none⟩ = false := frozen_of_row W3 _ 2 _ _ q2
  have g3 : W3.frozen? ⟨w.heap.size + 1, 3, none⟩ = false := frozen_of_row W3 _ 3 _ _ q2
  have n1 := row_neQ o1 q2 (by decide)
  have n2 := row_neQ o2 q2 (by decide)
  have n3 := row_neQ o3 q2 (by decide)
  have HO1 := Lib.hid o1
  have HO2 := Lib.hid o2
  have HO3 := Lib.hid o3
  have HB := Lib.hid BB
  have N1 := Lib.hid n1
  have N2 := Lib.hid n2
  have N3 := Lib.hid n3
  clear o1 o2 o3 BB n1 n2 n3 q1 q2 q3
  go_wp2
  refine bodyPost_ret (v := .agg #[.bool ea, .slice A1 os.length c1, .slice A2 as_.length c2, .slice A3 fs.length c3]) (by simp [results, Try.results10, go_sem, d0, d1, d2, d3]) rfl ⟨A1, c1, A2, c2, A3, c3, rfl, ⟨?_, ?_, ?_⟩, ?_⟩
  · exact own_mono (own_setQ (own_setQ (own_setQ (own_setQ HO1.out (a := ⟨w.heap.size + 1, 0, none⟩) N1.out _) (a := ⟨w.heap.size + 1, 1, none⟩) N1.out _) (a := ⟨w.heap.size + 1, 2, none⟩) N1.out _) (a := ⟨w.heap.size + 1, 3, none⟩) N1.out _) bs1
  · exact own_mono (own_setQ (own_setQ (own_setQ (own_setQ HO2.out (a := ⟨w.heap.size + 1, 0, none⟩) N2.out _) (a := ⟨w.heap.size + 1, 1, none⟩) N2.out _) (a := ⟨w.heap.size + 1, 2, none⟩) N2.out _) (a := ⟨w.heap.size + 1, 3, none⟩) N2.out _) bs2
  · exact own_mono (own_setQ (own_setQ (own_setQ (own_setQ HO3.out (a := ⟨w.heap.size + 1, 0, none⟩) N3.out _) (a := ⟨w.heap.size + 1, 1, none⟩) N3.out _) (a := ⟨w.heap.size + 1, 2, none⟩) N3.out _) (a := ⟨w.heap.size + 1, 3, none⟩) N3.out _) bs3
  · exact ((((HB.out.setCell (p := ⟨w.heap.size + 1, 0, none⟩) (by simp) _).setCell (p := ⟨w.heap.size + 1, 1, none⟩) (by simp) _).setCell (p := ⟨w.heap.size + 1, 2, none⟩) (by simp) _).setCell (p := ⟨w.heap.size + 1, 3, none⟩) (by simp) _)

set_option maxRecDepth 100000 in
set_option maxHeartbeats 3200000 in
theorem eqQuery_any (ea eb : Bool) (A B C A' B' C' : Option Addr) (c d f c' d' f' : Nat) (os os' : List ByteArray) (as_ as' : List At) (fs fs' : List Fl) (w : World) (hx : RdQ w A B C os as_ fs) (hy : RdQ w A' B' C' os' as' fs')
    (hn : os.length ≤ 4294967296) (hm : as_.length ≤ 4294967296 ∧ as'.length ≤ 4294967296) (hf : fs.length ≤ 4294967296 ∧ fs'.length ≤ 4294967296) :
    Calls Try.prog 12 #[.agg #[.bool ea, .slice A os.length c, .slice B as_.length d, .slice C fs.length f], .agg #[.bool eb, .slice A' os'.length c', .slice B' as'.length d', .slice C' fs'.length f']] w fun e w' => e = .returned (.bool (PP (ea = eb ∧ os = os' ∧ as_ = as' ∧ fs = fs'))) ∧ Below w.heap.size w w' := by
  obtain ⟨W, hW, p1, p2, bW, hs⟩ : ∃ W, (w.alloc (.cells #[.bool ea, .slice A os.length c, .slice B as_.length d, .slice C fs.length f] 32)).alloc (.cells #[.bool eb, .slice A' os'.length c', .slice B' as'.length d', .slice C' fs'.length f'] 32) = W ∧ W.heap[w.heap.size]? = some (.cells #[.bool ea, .slice A os.length c, .slice B as_.length d, .slice C fs.length f] 32 (0, 0)) ∧ W.heap[w.heap.size + 1]? = some (.cells #[.bool eb, .slice A' os'.length c', .slice B' as'.length d', .slice C' fs'.length f'] 32 (0, 0)) ∧ Below w.heap.size w W ∧ W.heap.size = w.heap.size + 2 := by
    refine ⟨_, rfl, blk_below (below_alloc _ _) (heap_alloc_new w _), ?_, below_step (below_alloc _ _) (below_alloc _ _), by simp⟩
    have := heap_alloc_new (w.alloc (.cells #[.bool ea, .slice A os.length c, .slice B as_.length d, .slice C fs.length f] 32)) (.cells #[.bool eb, .slice A' os'.length c', .slice B' as'.length d', .slice C' fs'.length f'] 32)
    simpa using this
  have HX := Lib.hid hx
  have HY := Lib.hid hy
  have C1 := Lib.hid (fun w h1 h2 => eqStringS_any A A' os.length os'.length c c' os os' w h1 h2 hn)
  have C2 := Lib.hid (fun w h1 h2 => eqAtomS_any B B' d d' as_ as' w h1 h2 hm.1 hm.2)
  have C3 := Lib.hid (fun w h1 h2 => eqFilterS_any C C' f f' fs fs' w h1 h2 hf.1 hf.2)
  have P1 := Lib.hid p1
  have P2 := Lib.hid p2
  have BW := Lib.hid bW
  rw [show eqLT os os' = PP (os = os') by by_cases h : os = os' <;> simp [eqLT, PP, h]] at C1
  obtain ⟨R, hR⟩ : ∃ R, PP (ea = eb ∧ os = os' ∧ as_ = as' ∧ fs = fs') = R := ⟨_, rfl⟩
  have HR := Lib.hid hR
  rw [hR]
  clear hx hy hs p1 p2 bW hR
  have t1 : ∀ j, j < 4 → True := fun _ _ => trivial
  clear t1
  have a0 := blk_cell (o := 0) P1.out rfl
  have a1 := blk_cell (o := 1) P1.out rfl
  have b0 := blk_cell (o := 0) P2.out rfl
  have b1 := blk_cell (o := 1) P2.out rfl
  by_cases h0 : ea = eb
  rotate_left
  · have HN := Lib.hid (show R = false by rw [← HR.out]; exact PP_no fun h => h0 h.1)
    have q0 : (ea == eb) = false := by simpa using h0
    clear h0
    go_enter Try.func12, Try.ntmps12
    go_wp2
    go_ret
    exact ⟨ret_bQ HN.out.symm, BW.out⟩
  subst h0
  go_enter Try.func12, Try.ntmps12
  go_wp2_with fail
  clear hW a0 a1 b0 b1
  have D1 := Lib.hid (C1.out _ (HX.out.below BW.out).o (HY.out.below BW.out).o)
  by_cases h1 : os = os'
  rotate_left
  · have HN := Lib.hid (show R = false by rw [← HR.out]; exact PP_no fun h => h1 h.2.1)
    rw [PP_no h1] at D1
    clear h1
    refine D1.out.mono ?_
    rintro e wz ⟨rfl, kz⟩
    go_wp2
    go_ret
    exact ⟨ret_bQ HN.out.symm, below_step BW.out kz⟩
  rw [PP_yes h1] at D1
  have H1 := Lib.hid h1
  clear h1
  refine D1.out.mono ?_
  rintro e w1 ⟨rfl, k1⟩
  have Q1 := Lib.hid (blk_below k1 P1.out)
  have S1 := Lib.hid (blk_below k1 P2.out)
  have B1 := Lib.hid (below_step BW.out k1)
  clear k1 D1 
  have a := blk_cell (o := 2) Q1.out rfl
  have b := blk_cell (o := 2) S1.out rfl
  have D2 := Lib.hid (C2.out _ (HX.out.below B1.out).a (HY.out.below B1.out).a)
  by_cases h2 : as_ = as'
  rotate_left
  · have HN := Lib.hid (show R = false by rw [← HR.out]; exact PP_no fun h => h2 h.2.2.1)
    rw [PP_no h2] at D2
    clear h2
    go_wp2_with fail
    refine D2.out.mono ?_
    rintro e wz ⟨rfl, kz⟩
    go_wp2
    go_ret
    exact ⟨ret_bQ HN.out.symm, below_step B1.out kz⟩
  rw [PP_yes h2] at D2
  have H2 := Lib.hid h2
  clear h2
  go_wp2_with fail
  refine D2.out.mono ?_
  rintro e w2 ⟨rfl, k2⟩
  have Q2 := Lib.hid (blk_below k2 Q1.out)
  have S2 := Lib.hid (blk_below k2 S1.out)
  have B2 := Lib.hid (below_step B1.out k2)
  clear k2 D2 a b
  have a := blk_cell (o := 3) Q2.out rfl
  have b := blk_cell (o := 3) S2.out rfl
  have D3 := Lib.hid (C3.out _ (HX.out.below B2.out).f (HY.out.below B2.out).f)
  by_cases h3 : fs = fs'
  rotate_left
  · have HN := Lib.hid (show R = false by rw [← HR.out]; exact PP_no fun h => h3 h.2.2.2)
    rw [PP_no h3] at D3
    clear h3
    go_wp2_with fail
    refine D3.out.mono ?_
    rintro e wz ⟨rfl, kz⟩
    go_wp2
    go_ret
    exact ⟨ret_bQ HN.out.symm, below_step B2.out kz⟩
  rw [PP_yes h3] at D3
  have H3 := Lib.hid h3
  clear h3
  go_wp2_with fail
  refine D3.out.mono ?_
  rintro e w3 ⟨rfl, k3⟩
  have Q3 := Lib.hid (blk_below k3 Q2.out)
  have S3 := Lib.hid (blk_below k3 S2.out)
  have B3 := Lib.hid (below_step B2.out k3)
  clear k3 D3 a b
  have HN := Lib.hid (show R = true by rw [← HR.out]; exact PP_yes ⟨by first | rfl | trivial, H1.out, H2.out, H3.out⟩)
  go_wp2
  go_ret
  exact ⟨ret_bQ HN.out.symm, B3.out⟩

section
variable {H : Type} {enc : TypeId × Value → H}
theorem Try.cellsQuery : Try.prog.cellsOf 26 = 4 := by kernel_rfl
/-- A query that came in. -/
def QrK (w : World) (v : Value) (ea : Bool) (os : List ByteArray) (as_ : List At) (fs : List Fl) : Prop :=
  ∃ A c B d C f, v = .agg #[.bool ea, .slice A os.length c, .slice B as_.length d, .slice C fs.length f] ∧ RdQ w A B C os as_ fs ∧ OkQ os as_ fs ∧ (os.length ≤ 9223372036854775807 ∧ as_.length ≤ 9223372036854775807 ∧ fs.length ≤ 9223372036854775807)
set_option maxRecDepth 100000 in
theorem open_query {w : World} {base : Nat} {spare : Nat → Bool} {held : Bool} {b0 : Nat} {r : Reach} {v : Value} {d : DataW H} {p : List MemPlace}
    (hv : Value.okWide Try.prog w r b0 26 v) (h : DataW.Trod enc Try.prog w base spare held 26 v d p) : ∃ ea os as_ fs, QrK w v ea os as_ fs := by
  obtain ⟨v0, v1, v2, v3, y0, y1, y2, y3, n, rfl, _, _, h0, h1, h2, h3⟩ := open_agg4 Try.underlying26 (by kernel_rfl) Try.cellsQuery hv h
  obtain ⟨ea, e0, _⟩ := DataW.trod_bool Try.underlying4 h0
  simp at e0
  subst e0
  obtain ⟨A, c, os, rfl, hro, hlo, hmo, hoo⟩ := open_strS h1
  obtain ⟨B, d, as_, rfl, hra, hla, hma, hoa⟩ := open_atomS h2
  obtain ⟨C, f, fs, rfl, hrf, hlf, hmf, hof⟩ := open_filterS h3
  unfold maxLen at hmo hma hmf
  exact ⟨ea, os, as_, fs, A, c, B, d, C, f, rfl, ⟨hro, hra, hrf⟩, ⟨hoo, hoa, hof⟩, by omega, by omega, by omega⟩
end
end Go.Proofs.Ytlnphcongijfiaa
