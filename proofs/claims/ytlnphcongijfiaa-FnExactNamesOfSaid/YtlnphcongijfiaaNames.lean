/- NamesOf: the program's function and the reference's. No conditions but the lengths. -/
import Derived.Test.YtlnphcongijfiaaQuery
namespace Go.Proofs.Ytlnphcongijfiaa
open Go.RowKit

noncomputable def inB (ws : List ByteArray) (u : ByteArray) : Bool := PP (u ∈ ws)
/-- A name that is put to those that are there, if it is new. -/
noncomputable def addN (ws : List ByteArray) (u : ByteArray) : List ByteArray := if inB ws u = true then ws else ws ++ [u]
noncomputable def namesL (as_ : List At) : List ByteArray := as_.foldl (fun out a => addN (addN out a.f) a.t) []
theorem addN_yes {ws : List ByteArray} {u : ByteArray} (h : inB ws u = true) : addN ws u = ws := by unfold addN; rw [if_pos h]
theorem addN_no {ws : List ByteArray} {u : ByteArray} (h : inB ws u = false) : addN ws u = ws ++ [u] := by unfold addN; rw [if_neg (by rw [h]; simp)]
theorem addN_len (ws : List ByteArray) (u : ByteArray) : (addN ws u).length ≤ ws.length + 1 := by
  unfold addN
  split
  · omega
  · simp
theorem namesL_next {as_ : List At} {k : Nat} (h : k < as_.length) : namesL (as_.take (k + 1)) = addN (addN (namesL (as_.take k)) as_[k].f) as_[k].t := by
  unfold namesL
  rw [List.take_succ_eq_append_getElem h, List.foldl_append]
  rfl
theorem foldN_len : ∀ (as_ : List At) (ws : List ByteArray), (as_.foldl (fun out a => addN (addN out a.f) a.t) ws).length ≤ ws.length + 2 * as_.length
  | [], ws => by simp
  | a :: as_, ws => by
    have h1 := foldN_len as_ (addN (addN ws a.f) a.t)
    have h2 := addN_len (addN ws a.f) a.t
    have h3 := addN_len ws a.f
    simp only [List.foldl_cons, List.length_cons]
    omega
theorem namesL_len (as_ : List At) : (namesL as_).length ≤ 2 * as_.length := by
  have := foldN_len as_ []
  simpa [namesL] using this

set_option maxRecDepth 100000 in
set_option maxHeartbeats 800000 in
theorem l08In_any (A : Option Addr) (c : Nat) (ws : List ByteArray) (u : ByteArray) (w : World) (hx : RdS w A ws) (hn : ws.length ≤ 4294967296) :
    Calls Try.prog 56 #[.slice A ws.length c, .string u] w fun e w' => e = .returned (.bool (inB ws u)) ∧ w = w' := by
  have HX := Lib.hid hx
  clear hx
  obtain ⟨R, hR⟩ : ∃ R, inB ws u = R := ⟨_, rfl⟩
  have HR := Lib.hid hR
  rw [hR]
  clear hR
  go_enter Try.func56, Try.ntmps56
  go_wp2_with fail
  go_loop [5] (fun i => ∃ k : Nat, k ≤ ws.length ∧ i = .int .i64 k ∧ Hid (∀ j (h : j < ws.length), j < k → ws[j] ≠ u)) (fun i => ws.length - (intOf i).toNat)
  case atStart => exact ⟨0, Nat.zero_le _, rfl, Lib.hid (fun j _ hj => absurd hj (by omega))⟩
  case round =>
    obtain ⟨k, hk, rfl, HK⟩ := hrel
    by_cases hlt : k < ws.length
    · obtain ⟨ad, rfl, hc⟩ := HX.out.at_ hlt
      obtain ⟨x, hxx⟩ : ∃ x, ws[k] = x := ⟨_, rfl⟩
      rw [hxx] at hc
      have k0 : (0 : Int) ≤ (k : Int) := by omega
      have k1 : (k : Int) < (ws.length : Int) := by omega
      by_cases hxu : x = u
      · have q := toList_yes hxu
        have HN := Lib.hid (show R = true by rw [← HR.out]; exact PP_yes (by rw [← hxu, ← hxx]; exact List.getElem_mem hlt))
        clear hxx hxu
        go_wp2
        go_ret
        exact ⟨ret_bQ HN.out.symm, rfl⟩
      · have q := toList_no hxu
        have HXX := Lib.hid hxx
        have HXU := Lib.hid hxu
        clear hxx hxu
        go_wp2
        go_round
        case rel => exact ⟨k + 1, by omega, by go_num, Lib.hid (fun j h hj => by
          by_cases e : j = k
          · subst e; rw [HXX.out]; exact HXU.out
          · exact HK.out j h (by omega))⟩
        case measure => simp [intOf]; omega
    · obtain rfl : k = ws.length := by omega
      have HN := Lib.hid (show R = false by
        rw [← HR.out]
        refine PP_no fun h => ?_
        obtain ⟨j, hj, e⟩ := List.getElem_of_mem h
        exact HK.out j hj hj e)
      go_wp2
      go_ret
      exact ⟨ret_bQ HN.out.symm, rfl⟩

/-- What slices.Index leaves: its sign tells. -/
def IndexT (w : World) (ws : List ByteArray) (u : ByteArray) (e : Ending) (w' : World) : Prop := ∃ r : Int, e = .returned (.int .i64 r) ∧ decide (0 ≤ r) = inB ws u ∧ -1 ≤ r ∧ r ≤ 4294967296 ∧ w = w'
set_option maxRecDepth 100000 in
set_option maxHeartbeats 800000 in
theorem IndexS_any (A : Option Addr) (c : Nat) (ws : List ByteArray) (u : ByteArray) (w : World) (hx : RdS w A ws) (hn : ws.length ≤ 4294967296) :
    Calls Try.prog 105 #[.slice A ws.length c, .string u] w (IndexT w ws u) := by
  have HX := Lib.hid hx
  clear hx
  go_enter Try.func105, Try.ntmps105
  go_wp2_with fail
  go_loop [8] (fun i => ∃ k : Nat, k ≤ ws.length ∧ i = .int .i64 k ∧ Hid (∀ j (h : j < ws.length), j < k → ws[j] ≠ u)) (fun i => ws.length - (intOf i).toNat)
  case atStart => exact ⟨0, Nat.zero_le _, rfl, Lib.hid (fun j _ hj => absurd hj (by omega))⟩
  case round =>
    obtain ⟨k, hk, rfl, HK⟩ := hrel
    by_cases hlt : k < ws.length
    · obtain ⟨ad, rfl, hc⟩ := HX.out.at_ hlt
      obtain ⟨x, hxx⟩ : ∃ x, ws[k] = x := ⟨_, rfl⟩
      rw [hxx] at hc
      have k0 : (0 : Int) ≤ (k : Int) := by omega
      have k1 : (k : Int) < (ws.length : Int) := by omega
      by_cases hxu : u = x
      · have q := toList_yes hxu
        have HN := Lib.hid (show inB ws u = true from PP_yes (by rw [hxu, ← hxx]; exact List.getElem_mem hlt))
        clear hxx hxu
        go_wp2
        go_ret
        exact ⟨(k : Int), rfl, by rw [HN.out, decide_eq_true_eq]; omega, by omega, by omega, rfl⟩
      · have q := toList_no hxu
        have HXX := Lib.hid hxx
        have HXU := Lib.hid hxu
        clear hxx hxu
        go_wp2
        go_round
        case rel => exact ⟨k + 1, by omega, by go_num, Lib.hid (fun j h hj => by
          by_cases e : j = k
          · subst e; rw [HXX.out]; exact fun e => HXU.out e.symm
          · exact HK.out j h (by omega))⟩
        case measure => simp [intOf]; omega
    · obtain rfl : k = ws.length := by omega
      have HN := Lib.hid (show inB ws u = false by
        refine PP_no fun h => ?_
        obtain ⟨j, hj, e⟩ := List.getElem_of_mem h
        exact HK.out j hj hj e)
      go_wp2
      go_ret
      exact ⟨-1, rfl, by rw [HN.out]; rfl, by omega, by omega, rfl⟩
set_option maxRecDepth 100000 in
theorem ContainsS_any (A : Option Addr) (c : Nat) (ws : List ByteArray) (u : ByteArray) (w : World) (hx : RdS w A ws) (hn : ws.length ≤ 4294967296) :
    Calls Try.prog 57 #[.slice A ws.length c, .string u] w fun e w' => e = .returned (.bool (inB ws u)) ∧ w = w' := by
  have C := Lib.hid (IndexS_any A c ws u w hx hn)
  obtain ⟨R, hR⟩ : ∃ R, inB ws u = R := ⟨_, rfl⟩
  have HR := Lib.hid hR
  rw [hR]
  clear hx hR
  go_enter Try.func57, Try.ntmps57
  go_wp2_with fail
  refine C.out.mono ?_
  rintro e w1 ⟨r, rfl, hr, hr1, hr2, rfl⟩
  rw [HR.out] at hr
  have HRR := Lib.hid hr
  clear hr
  go_wp2
  go_ret
  exact ⟨ret_bQ HRR.out, rfl⟩

theorem l08In_own {base : Nat} {v : Value} (ws : List ByteArray) (u : ByteArray) (w : World) (h : w.ownsRow base 9 1 v ws.length (ws.map Value.string)) (hn : ws.length ≤ 4294967296) :
    Calls Try.prog 56 #[v, .string u] w fun e w' => e = .returned (.bool (inB ws u)) ∧ w = w' := by
  obtain ⟨A, c, rfl, _, _⟩ := own_slice h
  exact l08In_any A c ws u w (RdS.own h) hn
theorem ContainsS_own {base : Nat} {v : Value} (ws : List ByteArray) (u : ByteArray) (w : World) (h : w.ownsRow base 9 1 v ws.length (ws.map Value.string)) (hn : ws.length ≤ 4294967296) :
    Calls Try.prog 57 #[v, .string u] w fun e w' => e = .returned (.bool (inB ws u)) ∧ w = w' := by
  obtain ⟨A, c, rfl, _, _⟩ := own_slice h
  exact ContainsS_any A c ws u w (RdS.own h) hn
/-- The names so far, as a row of the call's own. -/
structure NameI (w : World) (v : Value) (vs : List ByteArray) (wr : World) : Prop where
  own : wr.ownsRow w.heap.size 9 1 v vs.length (vs.map Value.string)
  bel : Below w.heap.size w wr
theorem NameI.keep {w wr w' : World} {v : Value} {vs : List ByteArray} (h : NameI w v vs wr) (hb : Below wr.heap.size wr w') : NameI w v vs w' := ⟨own_below h.own hb, below_step h.bel hb⟩
theorem NameI.push {w wr w3 : World} {v v1 : Value} {vs : List ByteArray} {u : ByteArray} {o : Obj} (h : NameI w v vs wr) (ho : w3.ownsRow w.heap.size 9 1 v1 (vs.length + 1) (vs.map Value.string ++ [.string u])) (hg : (wr.alloc o).grownBy w3 v.ownBlock) : NameI w v1 (vs ++ [u]) w3 := by
  refine ⟨?_, (h.bel.alloc h.bel.size o).grown hg (by have := h.bel.size; simp; omega) (fun g hg => (h.own.lt g hg).1)⟩
  simpa using ho
theorem MadeT_.of {w W wr : World} {v : Value} {vs ws : List ByteArray} (h : vs = ws) (n : NameI W v vs wr) (hb : Below w.heap.size w W) : MadeT_ w ws (.returned v) wr := by
  subst h
  obtain ⟨A, c, rfl, _, _⟩ := own_slice n.own
  exact ⟨A, c, rfl, own_mono n.own hb.size, below_step hb n.bel⟩
end Go.Proofs.Ytlnphcongijfiaa
