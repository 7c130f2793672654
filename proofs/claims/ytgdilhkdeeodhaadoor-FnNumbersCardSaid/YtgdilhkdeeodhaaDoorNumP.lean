/- Numbers and texts that were written read back. Plain; no conditions. -/
import Derived.Test.YtgdilhkdeeodhaaDoorRDec
import Derived.Test.YtgdilhkdeeodhaaDoorReadShort
import Derived.Test.YtgdilhkdeeodhaaDoorVarText
import Derived.Test.YtgdilhkdeeodhaaDoorShortText
import Derived.Test.YtgdilhkdeeodhaaDoorUnhex
import Derived.Test.YtgdilhkdeeodhaaDoorVtQ
namespace Go.Proofs.YtgdilhkdeeodhaaDoor
open Go.RowKit

/-- The figures of a number say it. -/
theorem dvTo_dec (s : ByteArray) (m : Nat) : (∀ j (h : j < (dec m).length), (byteAt s j : Int) = (dec m)[j]) → dvTo s (dec m).length = m := by
  induction m using Nat.strongRecOn with
  | _ m ih =>
    intro h
    by_cases h10 : m < 10
    · have e := dec_small h10
      have h0 := h 0 (by rw [e]; simp)
      simp only [e, List.getElem_cons_zero] at h0
      rw [e]
      show dvTo s 0 * 10 + (byteAt s 0 - 48) = m
      rw [dvTo]
      omega
    · have e := dec_big h10
      have hl : (dec m).length = (dec (m / 10)).length + 1 := by rw [e]; simp
      have h1 := ih (m / 10) (by omega) (fun j hj => by
        have := h j (by omega)
        simp only [e] at this
        rw [this, List.getElem_append_left hj])
      have h2 := h (dec (m / 10)).length (by omega)
      simp only [e, List.getElem_concat_length] at h2
      rw [hl, dvTo, h1]
      omega
theorem rd_dec {n : Nat} (hn : n ≤ 1000000000) : rdOk (strOfNums (decI (n : Int))) ∧ rdN (strOfNums (decI (n : Int))) = n := by
  have e : decI (n : Int) = dec n := by unfold decI; rw [if_neg (by omega)]; simp
  rw [e]
  have hsz : (strOfNums (dec n)).size = (dec n).length := strOfNums_size _
  have hb : ∀ j (h : j < (dec n).length), (byteAt (strOfNums (dec n)) j : Int) = (dec n)[j] := fun j h => byteAt_str h (by have := dec_digit n _ (List.getElem_mem h); omega)
  have hv := dvTo_dec (strOfNums (dec n)) n hb
  have hok : rdOk (strOfNums (dec n)) := by
    refine ⟨?_, fun j hj => ?_, ?_, ?_⟩
    · rw [hsz]; exact dec_len 9 n (by omega)
    · rw [hsz] at hj
      have h1 := hb j hj
      have h2 := dec_digit n _ (List.getElem_mem hj)
      omega
    · rw [hsz, hv]; exact hn
    · rw [hsz, hv, e]
  refine ⟨hok, ?_⟩
  unfold rdN
  rw [PP_yes hok, if_pos rfl, hsz, hv]

/-- A short text reads back. -/
theorem str_toList (t : ByteArray) : strOfNums (t.data.toList.map fun c => (c.toNat : Int)) = t := by
  apply Go.WideShapes.bytes_inj
  rw [strOfNums_data]
  simp only [List.map_map]
  rw [List.map_congr_left (g := id) (fun c _ => by simp)]
  simp
theorem rv_shift {t : ByteArray} (h : t.size ≤ 300) : rvOut (strOfNums (vt t.size) ++ t) 0 = some (t.size, (vt t.size).length) := by
  have h1 := rvOut_vt (a := []) (b := t.data.toList.map fun c => (c.toNat : Int)) (n := t.size) (by omega)
  rw [List.nil_append] at h1
  have e : strOfNums (vt t.size ++ t.data.toList.map fun c => (c.toNat : Int)) = strOfNums (vt t.size) ++ t := by
    rw [← strOfNums_app, str_toList]
  rw [e] at h1
  simpa using h1
theorem rs_short {t : ByteArray} (h : t.size ≤ 300) : rsOut (strOfNums (vt t.size) ++ t) 0 = some (t, (strOfNums (vt t.size) ++ t).size) := by
  unfold rsOut
  rw [rv_shift h]
  have hs : (strOfNums (vt t.size) ++ t).size = (vt t.size).length + t.size := by rw [ByteArray.size_append, strOfNums_size]
  show (if t.size ≤ 20000 ∧ (vt t.size).length + t.size ≤ (strOfNums (vt t.size) ++ t).size then some ((strOfNums (vt t.size) ++ t).extract (vt t.size).length ((vt t.size).length + t.size), (vt t.size).length + t.size) else none) = _
  rw [if_pos ⟨by omega, by omega⟩, hs]
  congr 2
  apply Go.WideShapes.bytes_inj
  have hv : (strOfNums (vt t.size)).data.toList.length = (vt t.size).length := by rw [strOfNums_data]; simp
  have hv2 : (strOfNums (vt t.size)).size = (vt t.size).length := strOfNums_size _
  have ht2 : t.data.toList.length = t.size := by simp
  simp only [ByteArray.data_extract, Array.toList_extract, ByteArray.data_append, Array.toList_append, List.extract_eq_take_drop, List.drop_append, hv, Nat.sub_self, List.drop_zero, Nat.add_sub_cancel_left]
  rw [List.drop_of_length_le (by omega), List.nil_append, List.take_of_length_le (by omega)]
/-- Figures read back. -/
theorem hexVal_fig {x : Int} (h0 : 0 ≤ x) (h : x < 16) : hexVal (fig x) = x := by
  unfold hexVal fig
  split <;> split <;> (try split) <;> omega
theorem hx_at (t : ByteArray) {k : Nat} (h : k < t.size) : (hxTo t t.size)[2 * k]? = some (fig ((t[k].toNat : Int) / 16)) ∧ (hxTo t t.size)[2 * k + 1]? = some (fig ((t[k].toNat : Int) % 16)) := by
  have e : hxTo t t.size = hxTo t k ++ (hx2 t[k] ++ (t.data.toList.drop (k + 1)).flatMap hx2) := by
    unfold hxTo
    rw [List.take_of_length_le (by simp)]
    conv => lhs; rw [← List.take_append_drop k t.data.toList, List.flatMap_append]
    rw [List.drop_eq_getElem_cons (by simpa using h), List.flatMap_cons]
    rfl
  have hl := hxTo_len t k (by omega)
  have hl2 : (hx2 t[k]).length = 2 := rfl
  constructor
  · rw [e, List.getElem?_append_right (by omega), hl, show 2 * k - 2 * k = 0 by omega, List.getElem?_append_left (by omega)]
    rfl
  · rw [e, List.getElem?_append_right (by omega), hl, show 2 * k + 1 - 2 * k = 1 by omega, List.getElem?_append_left (by omega)]
    rfl
theorem hv_hx (t : ByteArray) {k : Nat} (h : k < t.size) : hv (strOfNums (hxTo t t.size)) (2 * k) = (t[k].toNat : Int) / 16 ∧ hv (strOfNums (hxTo t t.size)) (2 * k + 1) = (t[k].toNat : Int) % 16 := by
  obtain ⟨h1, h2⟩ := hx_at t h
  have hc : t[k].toNat < 256 := t[k].toNat_lt
  have f1 := fig_bd (x := (t[k].toNat : Int) / 16) (by omega) (by omega)
  have f2 := fig_bd (x := (t[k].toNat : Int) % 16) (by omega) (by omega)
  unfold hv
  rw [strOfNums_data, List.getD_eq_getElem?_getD, List.getD_eq_getElem?_getD, List.getElem?_map, List.getElem?_map, h1, h2]
  simp only [Option.map_some, Option.getD_some, UInt8.toNat_ofNat']
  rw [show (((fig ((t[k].toNat : Int) / 16)).toNat % 2 ^ 8 : Nat) : Int) = fig ((t[k].toNat : Int) / 16) by omega, show (((fig ((t[k].toNat : Int) % 16)).toNat % 2 ^ 8 : Nat) : Int) = fig ((t[k].toNat : Int) % 16) by omega]
  exact ⟨hexVal_fig (by omega) (by omega), hexVal_fig (by omega) (by omega)⟩
theorem unGo_hx (t : ByteArray) : ∀ k, k ≤ t.size → unGo (strOfNums (hxTo t t.size)) k = (t.data.toList.take k).map fun c => (c.toNat : Int)
  | 0, _ => by simp [unGo]
  | k + 1, h => by
    obtain ⟨h1, h2⟩ := hv_hx t (k := k) (by omega)
    rw [unGo, unGo_hx t k (by omega), h1, h2, List.take_succ_eq_append_getElem (by simp; omega), List.map_append]
    congr 1
    show [_] = [_]
    congr 1
    show 16 * ((t[k].toNat : Int) / 16) + (t[k].toNat : Int) % 16 = (t[k].toNat : Int)
    omega
theorem un_hex {t : ByteArray} (h : t.size ≤ 300) : unOut (strOfNums (hxTo t t.size)) = .tuple #[.string t, .bool true] := by
  have hs : (strOfNums (hxTo t t.size)).size = 2 * t.size := by rw [strOfNums_size, hxTo_len t t.size (Nat.le_refl _)]
  have hok : UnOk (strOfNums (hxTo t t.size)) := by
    refine ⟨by omega, by omega, fun j hj => ?_⟩
    rw [hs] at hj
    obtain ⟨h1, h2⟩ := hv_hx t (k := j / 2) (by omega)
    have hc : t[j / 2].toNat < 256 := t[j / 2].toNat_lt
    rcases (by omega : j = 2 * (j / 2) ∨ j = 2 * (j / 2) + 1) with e | e
    · rw [e, h1]; omega
    · rw [e, h2]; omega
  rw [unOut_yes hok, hs, show 2 * t.size / 2 = t.size by omega, unGo_hx t t.size (Nat.le_refl _), List.take_of_length_le (by simp), str_toList]
end Go.Proofs.YtgdilhkdeeodhaaDoor
