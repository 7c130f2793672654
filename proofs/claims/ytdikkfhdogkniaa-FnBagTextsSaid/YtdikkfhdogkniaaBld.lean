/- strings.Builder: a builder that the call itself made, written byte by byte and read once. No conditions but the lengths. -/
import Derived.Test.YtdikkfhdogkniaaMem
import Derived.Lib.FrozenHead2
import Derived.Lib.OthersKept
import Derived.Lib.UnsafeStr
import Derived.RegionTactic
import Derived.Deep.RegionLaw
namespace Go.Proofs.Ytdikkfhdogkniaa
open Go.RowKit

theorem Try.cellsU8b : Try.prog.cellsOf 5 = 1 := by kernel_rfl
theorem Try.sizeBld : (Try.prog.info? 68).map (·.size) = some 2 := by kernel_rfl

/-- A builder in block b that holds the bytes bs. -/
def Bld (w : World) (b : Nat) (bs : List Int) : Prop := Lib.IsBuilderF 68 5 b b (bs.map (Value.int .u8)) w
/-- What a write leaves. -/
def Wrote (w : World) (b : Nat) (bs : List Int) (v : Value) (e : Ending) (w' : World) : Prop :=
  e = .returned v ∧ Bld w' b bs ∧ Below b w w' ∧ Lib.OthersKept 5 (some b) w w'

theorem Bld.fresh (w : World) : Bld (w.alloc (.cells #[.pointer none, .slice none 0 0] 68)) w.heap.size [] := Lib.IsBuilderF.of (Lib.fresh_isBuilder 68 5 w)
theorem bldAt_below {w w' : World} {b : Nat} {p : Value} {bs : List Value} (h : Lib.BuilderAtF 68 5 b b p bs w) (hb : Below w.heap.size w w') : Lib.BuilderAtF 68 5 b b p bs w' := by
  have hlt := h.lt
  obtain ⟨hB, v, hh, hown, hne⟩ := h
  exact ⟨hB, v, (hb.block b hlt).trans hh, hown.kept (row := none) ⟨hb.os, hb.tape, hb.output, hb.size, fun i hi _ => hb.block i hi⟩ (by cases v.ownBlock <;> simp), hne⟩
theorem Bld.below {w w' : World} {b : Nat} {bs : List Int} (h : Bld w b bs) (hb : Below w.heap.size w w') : Bld w' b bs :=
  h.elim (fun x => .inl (bldAt_below x hb)) (fun x => .inr (bldAt_below x hb))
theorem Bld.lt {w : World} {b : Nat} {bs : List Int} (h : Bld w b bs) : b < w.heap.size := h.elim (fun x => x.lt) (fun x => x.lt)
/-- A block of another type is kept by a write. -/
theorem kept_cell {w w' : World} {b g o : Nat} {cs : Array Value} {t : TypeId} {fz : Nat × Nat} (hk : Lib.OthersKept 5 (some b) w w') (hg : w.heap[g]? = some (.cells cs t fz)) (hne : g ≠ b) (ht : t ≠ 5) : w'.cell? ⟨g, o, none⟩ = w.cell? ⟨g, o, none⟩ := by
  have h1 := hk g _ hg (by simpa using hne) (by
    intro c f h
    injection h with _ h2 _
    exact ht h2)
  simp [World.cell?, hg, h1]

set_option maxHeartbeats 1000000 in
set_option maxRecDepth 100000 in
theorem copyCheck_any (b : Nat) (bs : List Int) (w : World) (h : Bld w b bs) :
    Calls Try.prog 77 #[.pointer (some ⟨b, 0, none⟩)] w fun e w' => e = .returned (.tuple #[]) ∧ Lib.BuilderAtF 68 5 b b (.pointer (some ⟨b, 0, none⟩)) (bs.map (Value.int .u8)) w' ∧ Below b w w' ∧ Lib.OthersKept 5 (some b) w w' := by
  obtain ⟨j, hj, hjs⟩ := Option.map_eq_some_iff.1 Try.sizeBld
  rcases h with h | h
  · have c0 := h.cell0
    have f0 := h.frozen0
    have hsh := h.shape
    have HH := Lib.hid h
    clear h
    go_enter Try.func77, Try.ntmps77
    go_wp2
    rw [Lib.run_to_unsafe w ⟨b, 0, none⟩ Try.underlying66 Try.underlying110 hj (by rw [hjs]; decide) hsh (Nat.zero_lt_succ 1)]
    simp only [Result.andThen]
    rw [Oper.upon_value]
    go_wp2
    rw [run_callFunc_extern Try.func88 (by kernel_rfl) (by kernel_rfl) (by kernel_rfl) (e := Extern.AbiNoEscape.same) (by kernel_rfl)]
    rw [Lib.run_noEscape]
    simp only [Result.andThen]
    rw [Oper.upon_value]
    go_wp2
    rw [Lib.run_from_unsafe w ⟨b, 0, none⟩ Try.underlying110 Try.underlying66 hj hsh (by kernel_rfl)]
    simp only [Result.andThen]
    rw [Oper.upon_value]
    go_wp2
    go_end0
    exact ⟨rfl, HH.out.used _, (Below.refl b w).setCell (p := ⟨b, 0, none⟩) HH.out.1 _, (Lib.OthersKept.refl _ _ w).setCell ⟨b, 0, none⟩ rfl _⟩
  · have c0 := h.cell0
    have HH := Lib.hid h
    clear h
    go_enter Try.func77, Try.ntmps77
    go_wp2
    rw [Lib.run_neq_ptr_same w _ Try.underlying66 hj]
    go_wp2
    go_end0
    exact ⟨rfl, HH.out, Below.refl b _, Lib.OthersKept.refl _ _ _⟩

theorem strCells_nums (zs : List Int) (hz : ∀ z ∈ zs, 0 ≤ z ∧ z ≤ 255) : Lib.strCells (strOfNums zs) = zs.map (Value.int .u8) := by
  unfold Lib.strCells strOfNums
  simp only [List.map_map]
  apply List.map_congr_left
  intro z h
  obtain ⟨h0, h1⟩ := hz z h
  simp only [Function.comp]
  congr 1
  simp only [UInt8.toNat_ofNat']
  omega

set_option maxHeartbeats 2000000 in
set_option maxRecDepth 100000 in
theorem writeString_any (b : Nat) (bs zs : List Int) (w : World) (h : Bld w b bs) (hz : ∀ z ∈ zs, 0 ≤ z ∧ z ≤ 255) (hlen : bs.length + zs.length ≤ 1099511627776) :
    Calls Try.prog 52 #[.pointer (some ⟨b, 0, none⟩), .string (strOfNums zs)] w (Wrote w b (bs ++ zs) (.tuple #[.int .i64 zs.length, .nilIface])) := by
  obtain ⟨i0, hi, hz0, hz1, hz2⟩ := info_parts Try.infoU8
  have hss := strOfNums_size zs
  have HZ := Lib.hid (strCells_nums zs hz)
  clear hz
  obtain ⟨s, hs⟩ : ∃ s, strOfNums zs = s := ⟨_, rfl⟩
  rw [hs] at hss HZ ⊢
  have hsl : s.size ≤ 1099511627776 := by omega
  have hbl : bs.length + s.size ≤ 1099511627776 := by omega
  have HS := Lib.hid hss
  clear hs hss hlen
  have C := Lib.hid (copyCheck_any b bs w h)
  have hbw := h.lt
  clear h
  go_enter Try.func52, Try.ntmps52
  go_wp2_with fail
  refine C.out.mono ?_
  rintro e w1 ⟨rfl, h1, hb1, hk1⟩
  clear C
  have hlt := h1.lt
  obtain ⟨hB, v, hbk, hown, hne⟩ := h1
  have c0 : w1.cell? ⟨b, 0, none⟩ = some (.pointer (some ⟨b, 0, none⟩)) := by rw [Lib.cell_of_heap hbk]; rfl
  have c1 : w1.cell? ⟨b, 1, none⟩ = some v := by rw [Lib.cell_of_heap hbk]; rfl
  rw [List.length_map] at hown
  have hs1 := hb1.size
  have HBK := Lib.hid hbk
  have HNE := Lib.hid hne
  have HB1 := Lib.hid hb1
  have HK1 := Lib.hid hk1
  clear hbk hne hb1 hk1
  go_wp2_with (at_builtin; refine Lib.wpList_append_own_stringF _ rfl _ _ 48 9 rfl b 5 i0 Try.underlying48 Try.underlying9 hi hz0 hz1 hz2 _ _ _ rfl hown s rfl ?c3 ?c4 ?c5 ?_)
  case c3 => unfold maxLen; omega
  case c4 => omega
  case c5 => omega
  intro v' w2 hown' hgrow _
  have hb2 : w2.heap[b]? = some (.cells #[.pointer (some ⟨b, 0, none⟩), v] 68 (0, 0)) := by
    rw [hgrow.block b hlt (fun e => HNE.out e.symm)]
    exact HBK.out
  have d0 : w2.cell? ⟨b, 0, none⟩ = some (.pointer (some ⟨b, 0, none⟩)) := by rw [Lib.cell_of_heap hb2]; rfl
  have d1 : w2.cell? ⟨b, 1, none⟩ = some v := by rw [Lib.cell_of_heap hb2]; rfl
  have f1 : w2.frozen? ⟨b, 1, none⟩ = false := Lib.frozen_of_heap hb2 1
  have HO := Lib.hid hown'
  have HG := Lib.hid hgrow
  have HB2 := Lib.hid hb2
  obtain ⟨ao, n', cap, rfl⟩ : ∃ ao n' cap, v' = .slice ao n' cap := by
    rcases hown'.2 with ⟨hv, _⟩ | ⟨g, cap, cur, fz, hv, _⟩
    · exact ⟨_, _, _, hv⟩
    · exact ⟨_, _, _, hv⟩
  clear hown' hgrow hb2
  go_wp2
  go_ret2
  refine ⟨by rw [HS.out]; rfl, ?_, ?_, (HK1.out.grown HG.out (Lib.ownsRowF_kind hown)).setCell ⟨b, 1, none⟩ rfl _⟩
  · have hown2 := HO.out
    rw [HZ.out, ← List.map_append] at hown2
    have e1 : bs.length + s.size = ((bs ++ zs).map (Value.int .u8)).length := by simp [HS.out]
    rw [e1] at hown2
    exact .inr (Lib.BuilderAtF.put hB HB2.out (bs' := (bs ++ zs).map (Value.int .u8)) hown2 (by decide))
  · exact (HB1.out.grown HG.out (by have := HB1.out.size; omega) (fun k hk => (hown.lt k hk).1)).setCell (p := ⟨b, 1, none⟩) hB _

theorem byteCells_nums (zs : List Int) (hz : ∀ z ∈ zs, 0 ≤ z ∧ z ≤ 255) : zs.map (Value.int .u8) = Lib.byteCells (zs.map fun n => UInt8.ofNat n.toNat) := by
  unfold Lib.byteCells
  rw [List.map_map]
  apply List.map_congr_left
  intro z h
  obtain ⟨h0, h1⟩ := hz z h
  simp only [Function.comp]
  congr 1
  simp only [UInt8.toNat_ofNat']
  omega

set_option maxHeartbeats 2000000 in
set_option maxRecDepth 100000 in
theorem builderString_any (b : Nat) (bs : List Int) (w : World) (h : Bld w b bs) (hz : ∀ z ∈ bs, 0 ≤ z ∧ z ≤ 255) (h0 : bs ≠ []) (hlen : bs.length ≤ 1099511627776) :
    Calls Try.prog 54 #[.pointer (some ⟨b, 0, none⟩)] w fun e w' => e = .returned (.string (strOfNums bs)) ∧ Below b w w' := by
  obtain ⟨p, hAt⟩ : ∃ p, Lib.BuilderAtF 68 5 b b p (bs.map (Value.int .u8)) w := by
    rcases h with h | h
    · exact ⟨_, h⟩
    · exact ⟨_, h⟩
  have hl0 : bs.length ≠ 0 := by simpa using h0
  obtain ⟨hB, v, hbk, hown, hne⟩ := hAt
  rw [List.length_map] at hown
  obtain ⟨g, cap, cur, fz, rfl, hbg, hg, hfz, hnc, hcm, hcs, htake⟩ : ∃ g cap cur fz, v = .slice (some ⟨g, 0, none⟩) bs.length cap ∧ b ≤ g ∧ w.heap[g]? = some (.cells cur 5 fz) ∧ fz.2 ≤ bs.length * 1 ∧ bs.length ≤ cap ∧ cap ≤ maxLen ∧ cur.size = cap * 1 ∧ cur.toList.take (bs.length * 1) = bs.map (Value.int .u8) := by
    rcases hown.2 with ⟨_, hz⟩ | ⟨g, cap, cur, fz, hv, r⟩
    · exact absurd hz hl0
    · exact ⟨g, cap, cur, fz, hv, r⟩
  have c1 : w.drew.cell? ⟨b, 1, none⟩ = some (.slice (some ⟨g, 0, none⟩) bs.length cap) := by
    have : w.drew.heap[b]? = some (.cells #[p, .slice (some ⟨g, 0, none⟩) bs.length cap] 68 (0, 0)) := hbk
    rw [Lib.cell_of_heap this]; rfl
  have c2 : w.cell? ⟨b, 1, none⟩ = some (.slice (some ⟨g, 0, none⟩) bs.length cap) := c1
  have hSD : (Builtin.unsafeSliceData_ #[48] 96 #[.slice (some ⟨g, 0, none⟩) bs.length cap]).run Try.prog w.drew = .ok (.pointer (some ⟨g, 0, none⟩)) w.drew :=
    Lib.run_unsafeSliceData_row _ _ _ _ _ _ (by omega)
  have hll : (bs.map fun n => UInt8.ofNat n.toNat).length = bs.length := by simp
  have hUS : (Builtin.unsafeString_ #[96, 3] 9 #[.pointer (some ⟨g, 0, none⟩), .int .i64 bs.length]).run Try.prog w.drew = .ok (.string (strOfNums bs)) (w.drew.freeze ⟨g, 0, none⟩ bs.length) := by
    have := Lib.run_unsafeString_row (P := Try.prog) w.drew 96 3 9 5 Try.underlying96 Try.cellsU8b g cur.size (by have hg' : w.drew.heap[g]? = some (.cells cur 5 fz) := hg; simp [World.shape?, hg']) (bs.map fun n => UInt8.ofNat n.toNat) (by simpa using h0) (by rw [hll]; omega) (by rw [hll]; omega) (by
      intro j x hx
      have := hown.cells (g := g) rfl j (.int .u8 x.toNat) (by rw [byteCells_nums bs hz]; simp only [Lib.byteCells, List.getElem?_map, hx]; rfl)
      exact this)
    rw [hll] at this
    exact this
  have HH : Below b w (w.drew.freeze ⟨g, 0, none⟩ bs.length) := Lib.below_freeze (Below.drew (Below.refl b w)) (p := ⟨g, 0, none⟩) hbg _
  clear hbk hown hne hg hfz hcs htake h hz h0 hll
  go_enter Try.func54, Try.ntmps54
  go_wp2
  go_region
  all_goals (go_wp2; go_ret; exact ⟨rfl, HH⟩)
end Go.Proofs.Ytdikkfhdogkniaa
