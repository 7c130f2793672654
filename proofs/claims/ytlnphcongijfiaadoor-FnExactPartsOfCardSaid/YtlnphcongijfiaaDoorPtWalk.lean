/- PartsOf: the program's function and the reference's. The one condition: the line's length. -/
import Derived.Test.YtlnphcongijfiaaDoorPtSplit
import Derived.Test.YtlnphcongijfiaaDoorPtLaw
import Derived.Test.YtlnphcongijfiaaDoorPP
namespace Go.Proofs.YtlnphcongijfiaaDoor
open Go.RowKit

/-- The first k bytes can be printed. -/
def chOk (s : ByteArray) (k : Nat) : Prop := ∀ j (h : j < s.size), j < k → 32 ≤ s[j].toNat ∧ s[j].toNat ≤ 126
def ptOk (s : ByteArray) : Prop := s.size ≤ 600 ∧ chOk s s.size ∧ (full (pieces s)).length ≤ 10
noncomputable def ptL (s : ByteArray) : List ByteArray := if PP (ptOk s) = true then full (pieces s) else []
noncomputable def ptB (s : ByteArray) : Bool := PP (ptOk s)
theorem ptL_yes {s : ByteArray} (h : ptOk s) : ptL s = full (pieces s) := by unfold ptL; rw [if_pos (PP_yes h)]
theorem ptL_no {s : ByteArray} (h : ¬ ptOk s) : ptL s = [] := by unfold ptL; rw [if_neg (by rw [PP_no h]; simp)]
/-- A row of strings of the call's own, and a Bool. -/
def MadeTB (w : World) (zs : List ByteArray) (b : Bool) (e : Ending) (w' : World) : Prop := ∃ A c, e = .returned (.tuple #[.slice A zs.length c, .bool b]) ∧ w'.ownsRow w.heap.size 9 1 (.slice A zs.length c) zs.length (zs.map Value.string) ∧ Below w.heap.size w w'
structure PtI (w : World) (v : Value) (vs : List ByteArray) (wr : World) : Prop where
  own : wr.ownsRow w.heap.size 9 1 v vs.length (vs.map Value.string)
  bel : Below w.heap.size w wr
theorem PtI.keep {w wr w' : World} {v : Value} {vs : List ByteArray} (h : PtI w v vs wr) (hb : Below wr.heap.size wr w') : PtI w v vs w' := ⟨own_below h.own hb, below_step h.bel hb⟩
theorem PtI.push {w wr w3 : World} {v v1 : Value} {vs : List ByteArray} {u : ByteArray} {o : Obj} (h : PtI w v vs wr) (ho : w3.ownsRow w.heap.size 9 1 v1 (vs.length + 1) (vs.map Value.string ++ [.string u])) (hg : (wr.alloc o).grownBy w3 v.ownBlock) : PtI w v1 (vs ++ [u]) w3 := by
  refine ⟨?_, (h.bel.alloc h.bel.size o).grown hg (by have := h.bel.size; simp; omega) (fun g hg => (h.own.lt g hg).1)⟩
  simpa using ho
theorem PtI.out {s : ByteArray} {w W wr : World} {A : Option Addr} {c : Nat} {vs : List ByteArray} (h : ptOk s) (hv : vs = full (pieces s)) (n : PtI W (.slice A vs.length c) vs wr) (hb : Below w.heap.size w W) : MadeTB w (ptL s) (ptB s) (.returned (.tuple #[.slice A vs.length c, .bool true])) wr := by
  rw [ptL_yes h]
  subst hv
  exact ⟨A, c, by unfold ptB; rw [PP_yes h], own_mono n.own hb.size, below_step hb n.bel⟩
theorem out_nil {s : ByteArray} {w wr : World} (h : ¬ ptOk s) (hb : Below w.heap.size w wr) : MadeTB w (ptL s) (ptB s) (.returned (.tuple #[.slice none 0 0, .bool false])) wr := by
  rw [ptL_no h]
  exact ⟨none, 0, by unfold ptB; rw [PP_no h]; rfl, World.ownsRow_nil _ _ _ _, hb⟩
theorem out_new {s : ByteArray} {w wr : World} (h : ¬ ptOk s) (hb : Below w.heap.size w wr) : MadeTB w (ptL s) (ptB s) (.returned (.tuple #[.slice (some ⟨wr.heap.size, 0, none⟩) 0 0, .bool false])) (wr.alloc (.cells #[] 9)) := by
  rw [ptL_no h]
  exact ⟨some ⟨wr.heap.size, 0, none⟩, 0, by unfold ptB; rw [PP_no h]; rfl, World.ownsRow_made wr #[] 0 hb.size (by unfold maxLen; omega) rfl, below_step hb (below_alloc _ _)⟩
theorem isSp_at {s : ByteArray} {k c : Nat} (h : k < s.size) (hc : s[k].toNat = c) : isSp s k ↔ c = 32 := by
  unfold isSp
  rw [Lib.data_getElem? s k h, ← hc]
  constructor
  · intro e
    have e' : s[k] = 32 := by simpa using e
    rw [e']; rfl
  · intro e
    have : s[k] = 32 := UInt8.toNat_inj.1 e
    rw [this]

/-- What strings.Split leaves, as the walk wants it. -/
theorem Split_ps (s : ByteArray) (w : World) (hs : s.size < 4294967281) :
    Calls Tryd.prog 9 #[.string s, .string ⟨#[32]⟩] w fun e w' => ∃ A, e = .returned (.slice A (pieces s).length (pieces s).length) ∧ RdT w' A (pieces s).length (pieces s) ∧ Below w.heap.size w w' := by
  have hl : (pieces s).length = Lib.countB s ⟨#[32]⟩ + 1 := Lib.splitB_all SP (Nat.le_refl 1) 0 _ s rfl
  refine (Split_sp s w hs).mono ?_
  rintro e w' ⟨rfl, rfl⟩
  refine ⟨some ⟨w.heap.size, 0, none⟩, by rw [hl], ?_, below_alloc _ _⟩
  have h := Rd.new w ((pieces s).map Value.string).toArray 9 (g := w.heap.size) (n := (pieces s).length) rfl (by simp)
  rw [List.toList_toArray] at h
  exact h
theorem pieces_len (s : ByteArray) : (pieces s).length ≤ s.size + 1 := by
  have h1 : (pieces s).length = Lib.countB s SP + 1 := Lib.splitB_all SP (Nat.le_refl 1) 0 _ s rfl
  have h2 := Lib.countB_le SP (Nat.le_refl 1) s.size s (Nat.le_refl _)
  omega
theorem full_next {l : List ByteArray} {k : Nat} (h : k < l.length) : full (l.take (k + 1)) = full (l.take k) ++ (if l.getD k noT ≠ noT then [l.getD k noT] else []) := by
  unfold full
  rw [take_nextT h, List.filter_append]
  congr 1
  obtain ⟨x, hx⟩ : ∃ x, l.getD k noT = x := ⟨_, rfl⟩
  rw [hx]
  by_cases e : x = noT
  · rw [if_neg (fun h => h e), e]; rfl
  · rw [if_pos e, List.filter_cons_of_pos (by simpa using e)]; rfl
theorem emp_yes {u : ByteArray} (h : u = noT) : u.toList.isEmpty = true := by rw [h, Lib.toList_data]; rfl
theorem emp_no {u : ByteArray} (h : u ≠ noT) : u.toList.isEmpty = false := by
  rw [Lib.toList_data]
  cases e : u.data.toList with
  | nil => exact absurd (ByteArray.ext (Array.ext' e)) h
  | cons _ _ => rfl
theorem full_len (l : List ByteArray) : (full l).length ≤ l.length := List.length_filter_le _ _

set_option maxRecDepth 100000 in
set_option maxHeartbeats 3200000 in
theorem impl_PartsOf_any (s : ByteArray) (hs : s.size ≤ 1048576) (w : World) :
    Calls Tryd.prog 5 #[.string s] w (MadeTB w (ptL s) (ptB s)) := by
  obtain ⟨i0, hi, hz0, hz1, hz2⟩ := info_parts Tryd.infoStr
  by_cases h6 : s.size ≤ 600
  · have h60 : (s.size : Int) ≤ 600 := by omega
    have C := Lib.hid (Split_ps s w (by omega))
    have PL := Lib.hid (pieces_len s)
    go_enter Tryd.func5, Tryd.ntmps5
    go_wp2_with fail
    go_loop [4] (fun i => ∃ k : Nat, k ≤ s.size ∧ i = .int .i64 k ∧ Hid (chOk s k)) (fun i => s.size - (intOf i).toNat)
    case atStart => exact ⟨0, Nat.zero_le _, rfl, Lib.hid (fun j _ hj => absurd hj (by omega))⟩
    case round =>
      obtain ⟨k, hk, rfl, HD⟩ := hrel
      by_cases hlt : k < s.size
      · obtain ⟨c, hc⟩ : ∃ c, s[k].toNat = c := ⟨_, rfl⟩
        by_cases hd : 32 ≤ c ∧ c ≤ 126
        · obtain ⟨hd1, hd2⟩ := hd
          have HA := Lib.hid (show chOk s (k + 1) from fun j h hj => by
            by_cases e : j = k
            · subst e; rw [hc]; exact ⟨hd1, hd2⟩
            · exact HD.out j h (by omega))
          go_wp2
          go_round
          case rel => exact ⟨k + 1, by omega, by go_num, HA⟩
          case measure => simp [intOf]; omega
        · have NO := Lib.hid (show ¬ ptOk s from fun h => by have := h.2.1 k hlt hlt; rw [hc] at this; exact hd this)
          have hor : c < 32 ∨ (32 ≤ c ∧ 126 < c) := by omega
          clear hd
          rcases hor with h | ⟨h, h'⟩
          all_goals
            go_wp2
            go_ret2
            exact out_nil NO.out (Below.refl _ _)
      · obtain rfl : k = s.size := by omega
        obtain ⟨ps, hps⟩ : ∃ ps, pieces s = ps := ⟨_, rfl⟩
        have HPS := Lib.hid hps
        rw [hps] at C PL
        have hpl : ps.length ≤ 601 := by have := PL.out; omega
        clear hps PL hlt
        go_wp2_with (go_at_call 9; refine C.out.mono ?_; rintro e W ⟨A, rfl, hrd, hb⟩)
        have HRD := Lib.hid hrd
        have HB := Lib.hid hb
        have N0 := Lib.hid (show PtI W (.slice none 0 0) [] W from ⟨World.ownsRow_nil _ _ _ _, Below.refl _ _⟩)
        clear hrd hb C
        go_wp2_with fail
        go_loopw [5, 7, 30] (fun v p i wr => ∃ (m : Nat) (vs : List ByteArray), m ≤ ps.length ∧ i = .int .i64 m ∧ Hid (vs = full (ps.take m)) ∧ vs.length ≤ m ∧ PtI W v vs wr) (fun _ _ i _ => ps.length - (intOf i).toNat)
        case atStart => exact ⟨0, [], Nat.zero_le _, rfl, Lib.hid (by simp [full]), Nat.le_refl _, N0.out⟩
        case round =>
          clear N0
          obtain ⟨m, vs, hm, rfl, HV, hvl, hni⟩ := hrel
          have NI := Lib.hid hni
          by_cases hml : m < ps.length
          · obtain ⟨ad, hA, hc⟩ := (HRD.out.below hni.bel).at_ hml
            subst hA
            clear hni
            obtain ⟨u, hu⟩ : ∃ u, ps.getD m noT = u := ⟨_, rfl⟩
            have hnx := full_next hml
            rw [hu, ← HV.out] at hnx
            rw [hu] at hc
            have HNX := Lib.hid hnx
            clear hu hnx
            have m0 : (0 : Int) ≤ (m : Int) := by omega
            have m1 : (m : Int) < (ps.length : Int) := by omega
            by_cases hun : u = noT
            · have q := emp_yes hun
              have HU := Lib.hid hun
              clear hun
              go_wp2
              go_roundw
              case rel => exact ⟨m + 1, vs, by omega, by go_num, Lib.hid (by rw [HNX.out, if_neg (by rw [HU.out]; simp), List.append_nil]), by omega, NI.out⟩
              case measure => simp [intOf]; omega
            · have q := emp_no hun
              have HU := Lib.hid hun
              clear hun
              go_wp2_with (first
                | (at_builtin
                   refine wpList_append_any _ rfl (.tmp 36) (.tmp 38) 22 rfl W.heap.size 9 i0 (.string ⟨#[]⟩) 1 16 Tryd.underlying22 hi hz0 hz1 hz2 rfl (by decide) _ (vs).length _ rfl (own_below NI.out.own (below_alloc _ _)) (some ⟨wr.heap.size, 0, none⟩) 1 1 [.string u] rfl (Rd.new wr #[.string u] 9 rfl rfl) (by intro v hv; simp at hv; subst hv; rfl) (by unfold maxLen; first | omega | (simp; omega)) (by first | omega | (simp; omega)) (by have := NI.out.bel.size; simp; omega) ?_
                   intro v9 w9 hown hg hob
                   have N9 := Lib.hid (NI.out.push hown hg)))
              go_roundw
              case rel => exact ⟨m + 1, _, by omega, by go_num, Lib.hid (by rw [HNX.out, if_pos HU.out]), by first | omega | (simp; omega), N9.out⟩
              case measure => simp [intOf]; omega
          · obtain rfl : m = ps.length := by omega
            have hv := HV.out
            rw [List.take_of_length_le (Nat.le_refl _)] at hv
            have HH := Lib.hid hv
            obtain ⟨A2, c2, rfl, _, _⟩ := own_slice hni.own
            clear hv hni
            by_cases h10 : vs.length ≤ 10
            · have h10' : (vs.length : Int) ≤ 10 := by omega
              have OK := Lib.hid (show ptOk s from ⟨h6, HD.out, by rw [HPS.out, ← HH.out]; exact h10⟩)
              go_wp2
              go_ret2
              exact PtI.out OK.out (by rw [HPS.out]; exact HH.out) NI.out HB.out
            · have h10' : (10 : Int) < (vs.length : Int) := by omega
              have NO := Lib.hid (show ¬ ptOk s from fun h => h10 (by have := h.2.2; rw [HPS.out, ← HH.out] at this; exact this))
              clear h10
              go_wp2
              go_ret2
              exact out_nil NO.out (below_step HB.out NI.out.bel)
  · have h60 : (600 : Int) < (s.size : Int) := by omega
    have NO := Lib.hid (show ¬ ptOk s from fun h => h6 h.1)
    clear h6
    go_enter Tryd.func5, Tryd.ntmps5
    go_wp2
    go_ret2
    exact out_nil NO.out (Below.refl _ _)

set_option maxRecDepth 100000 in
set_option maxHeartbeats 3200000 in
theorem spec_PartsOf_any (s : ByteArray) (hs : s.size ≤ 1048576) (w : World) :
    Calls Tryd.prog 4 #[.string s] w (MadeTB w (ptL s) (ptB s)) := by
  obtain ⟨i0, hi, hz0, hz1, hz2⟩ := info_parts Tryd.infoStr
  by_cases h6 : s.size ≤ 600
  · have h60 : (s.size : Int) ≤ 600 := by omega
    have N0 := Lib.hid (show PtI w (.slice (some ⟨w.heap.size, 0, none⟩) 0 0) [] (w.alloc (.cells #[] 9)) from ⟨World.ownsRow_made w #[] 0 (Nat.le_refl _) (by unfold maxLen; omega) rfl, below_alloc _ _⟩)
    obtain ⟨F, hF⟩ : ∃ F, full (pieces s) = F := ⟨_, rfl⟩
    have hg0 := parts_go s
    rw [hF] at hg0
    have HF := Lib.hid hF
    have HG0 := Lib.hid hg0
    clear hF hg0
    go_enter Tryd.func4, Tryd.ntmps4
    go_wp2_with fail
    go_loopw [4, 5, 6] (fun v b i wr => ∃ (k bb : Nat) (vs : List ByteArray), k ≤ s.size + 1 ∧ bb ≤ k ∧ i = .int .i64 k ∧ b = .int .i64 bb ∧ Hid (vs ++ go s (s.size + 1 - k) k bb = F) ∧ vs.length ≤ k ∧ Hid (chOk s k) ∧ PtI w v vs wr) (fun _ _ i _ => s.size + 1 - (intOf i).toNat)
    case atStart => exact ⟨0, 0, [], Nat.zero_le _, Nat.le_refl _, rfl, rfl, Lib.hid (by simpa using HG0.out), Nat.le_refl _, Lib.hid (fun j _ hj => absurd hj (by omega)), N0.out⟩
    case round =>
      clear N0 HG0
      obtain ⟨k, bb, vs, hk, hbb, rfl, rfl, HG, hvl, HD, hni⟩ := hrel
      have NI := Lib.hid hni
      by_cases hlt : k < s.size
      · clear hni
        obtain ⟨c, hc⟩ : ∃ c, s[k].toNat = c := ⟨_, rfl⟩
        have hsp := isSp_at hlt hc
        have hks : k ≤ s.size := by omega
        have e1 : s.size + 1 - k = (s.size + 1 - (k + 1)) + 1 := by omega
        by_cases hd : 32 ≤ c ∧ c ≤ 126
        · obtain ⟨hd1, hd2⟩ := hd
          have HA := Lib.hid (show chOk s (k + 1) from fun j h hj => by
            by_cases e : j = k
            · subst e; rw [hc]; exact ⟨hd1, hd2⟩
            · exact HD.out j h (by omega))
          by_cases h32 : c = 32
          · have hg := HG.out
            rw [e1, go_cut (fun h => h.2 (hsp.2 h32)), ← List.append_assoc] at hg
            have HG2 := Lib.hid hg
            have q32 : ((c : Int) == 32) = true := by rw [beq_iff_eq]; omega
            clear hg hsp e1
            by_cases hlb : bb < k
            · have g2 := HG2.out
              rw [if_pos hlb] at g2
              have HG3 := Lib.hid g2
              clear g2
              go_wp2_with (first
                | (at_builtin
                   refine wpList_append_any _ rfl (.tmp 48) (.tmp 53) 22 rfl w.heap.size 9 i0 (.string ⟨#[]⟩) 1 16 Tryd.underlying22 hi hz0 hz1 hz2 rfl (by decide) _ (vs).length _ rfl (own_below NI.out.own (below_alloc _ _)) (some ⟨wr.heap.size, 0, none⟩) 1 1 [.string (s.extract bb k)] rfl (Rd.new wr #[.string (s.extract bb k)] 9 rfl rfl) (by intro v hv; simp at hv; subst hv; rfl) (by unfold maxLen; first | omega | (simp; omega)) (by first | omega | (simp; omega)) (by have := NI.out.bel.size; simp; omega) ?_
                   intro v9 w9 hown hg hob
                   have N9 := Lib.hid (NI.out.push hown hg)))
              go_roundw
              case rel => exact ⟨k + 1, k + 1, _, by omega, by omega, by go_num, by go_num, HG3, by first | omega | (simp; omega), HA, N9.out⟩
              case measure => simp [intOf]; omega
            · have g2 := HG2.out
              rw [if_neg hlb, List.append_nil] at g2
              have HG3 := Lib.hid g2
              have hlb' : k ≤ bb := by omega
              clear g2 hlb
              go_wp2
              go_roundw
              case rel => exact ⟨k + 1, k + 1, _, by omega, by omega, by go_num, by go_num, HG3, by omega, HA, NI.out⟩
              case measure => simp [intOf]; omega
          · have hg := HG.out
            rw [e1, go_on hlt (fun h => h32 (hsp.1 h))] at hg
            have HG2 := Lib.hid hg
            have q32 : ((c : Int) == 32) = false := by rw [beq_eq_false_iff_ne]; omega
            clear hg hsp e1 h32
            go_wp2
            go_roundw
            case rel => exact ⟨k + 1, bb, _, by omega, by omega, by go_num, rfl, HG2, by omega, HA, NI.out⟩
            case measure => simp [intOf]; omega
        · have NO := Lib.hid (show ¬ ptOk s from fun h => by have := h.2.1 k hlt hlt; rw [hc] at this; exact hd this)
          have hor : c < 32 ∨ (32 ≤ c ∧ 126 < c) := by omega
          clear hd hsp e1
          rcases hor with h | ⟨h, h'⟩
          all_goals
            go_wp2
            go_ret2
            exact out_new NO.out NI.out.bel
      · by_cases hlast : k = s.size
        · clear hni
          subst hlast
          have hg := HG.out
          rw [show s.size + 1 - s.size = 0 + 1 by omega, go_cut (by omega), ← List.append_assoc] at hg
          have e2 : ∀ i b, go s 0 i b = [] := fun _ _ => rfl
          have HG2 := Lib.hid hg
          have HA := Lib.hid (show chOk s (s.size + 1) from fun j h hj => HD.out j h h)
          clear hg hlt
          by_cases hlb : bb < s.size
          · have g2 := HG2.out
            rw [if_pos hlb] at g2
            have HG3 := Lib.hid g2
            clear g2
            go_wp2_with (first
              | (at_builtin
                 refine wpList_append_any _ rfl (.tmp 48) (.tmp 53) 22 rfl w.heap.size 9 i0 (.string ⟨#[]⟩) 1 16 Tryd.underlying22 hi hz0 hz1 hz2 rfl (by decide) _ (vs).length _ rfl (own_below NI.out.own (below_alloc _ _)) (some ⟨wr.heap.size, 0, none⟩) 1 1 [.string (s.extract bb s.size)] rfl (Rd.new wr #[.string (s.extract bb s.size)] 9 rfl rfl) (by intro v hv; simp at hv; subst hv; rfl) (by unfold maxLen; first | omega | (simp; omega)) (by first | omega | (simp; omega)) (by have := NI.out.bel.size; simp; omega) ?_
                 intro v9 w9 hown hg hob
                 have N9 := Lib.hid (NI.out.push hown hg)))
            go_roundw
            case rel => exact ⟨s.size + 1, s.size + 1, _, by omega, by omega, by go_num, by go_num, Lib.hid (by have e := HG3.out; rw [show s.size + 1 - (s.size + 1) = 0 by omega]; exact e), by first | omega | (simp; omega), HA, N9.out⟩
            case measure => simp [intOf]
          · have g2 := HG2.out
            rw [if_neg hlb, List.append_nil] at g2
            have HG3 := Lib.hid g2
            have hlb' : s.size ≤ bb := by omega
            clear g2 hlb
            go_wp2
            go_roundw
            case rel => exact ⟨s.size + 1, s.size + 1, _, by omega, by omega, by go_num, by go_num, Lib.hid (by have e := HG3.out; rw [show s.size + 1 - (s.size + 1) = 0 by omega]; exact e), by omega, HA, NI.out⟩
            case measure => simp [intOf]
        · obtain rfl : k = s.size + 1 := by omega
          have hg := HG.out
          rw [show s.size + 1 - (s.size + 1) = 0 by omega, show go s 0 (s.size + 1) bb = [] from rfl, List.append_nil, ← HF.out] at hg
          have HH := Lib.hid hg
          have HA := Lib.hid (show chOk s s.size from fun j h hj => HD.out j h (by omega))
          obtain ⟨A2, c2, rfl, _, _⟩ := own_slice hni.own
          clear hg hni hlt hlast
          by_cases h10 : vs.length ≤ 10
          · have h10' : (vs.length : Int) ≤ 10 := by omega
            have OK := Lib.hid (show ptOk s from ⟨h6, HA.out, by rw [← HH.out]; exact h10⟩)
            go_wp2
            go_ret2
            exact PtI.out OK.out HH.out NI.out (Below.refl _ _)
          · have h10' : (10 : Int) < (vs.length : Int) := by omega
            have NO := Lib.hid (show ¬ ptOk s from fun h => h10 (by have := h.2.2; rw [← HH.out] at this; exact this))
            clear h10
            go_wp2
            go_ret2
            exact out_new NO.out NI.out.bel
  · have h60 : (600 : Int) < (s.size : Int) := by omega
    have NO := Lib.hid (show ¬ ptOk s from fun h => h6 h.1)
    clear h6
    go_enter Tryd.func4, Tryd.ntmps4
    go_wp2
    go_ret2
    exact out_new NO.out (Below.refl _ _)
end Go.Proofs.YtlnphcongijfiaaDoor
