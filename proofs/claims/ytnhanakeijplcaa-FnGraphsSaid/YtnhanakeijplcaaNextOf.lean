/- NextOf: program and reference. No conditions but the length. -/
import Derived.Test.YtnhanakeijplcaaSSorted
import Derived.Test.YtnhanakeijplcaaSGraphOk
namespace Go.Proofs.Ytnhanakeijplcaa
open Go.RowKit

def nextP (f l : Int) (e : Ed) : Bool := (e.f == f) && (e.l == l)
def nextRaw (f l : Int) (es : List Ed) : List Int := (es.filter (nextP f l)).map Ed.t
theorem nextRaw_next {f l : Int} {es : List Ed} {k : Nat} (h : k < es.length) (hp : nextP f l es[k] = true) : nextRaw f l (es.take (k + 1)) = nextRaw f l (es.take k) ++ [es[k].t] := by
  unfold nextRaw
  rw [List.take_succ_eq_append_getElem h, List.filter_append]
  simp [hp]
theorem nextRaw_skip {f l : Int} {es : List Ed} {k : Nat} (h : k < es.length) (hp : nextP f l es[k] = false) : nextRaw f l (es.take (k + 1)) = nextRaw f l (es.take k) := by
  unfold nextRaw
  rw [List.take_succ_eq_append_getElem h, List.filter_append]
  simp [hp]
theorem nextRaw_len (f l : Int) (es : List Ed) : (nextRaw f l es).length ≤ es.length := by
  unfold nextRaw
  rw [List.length_map]
  exact List.length_filter_le _ _

theorem cell_one_at (w : World) (e : TypeId) (u : Value) {g : Nat} (hg : w.heap.size = g) : ∀ j u', [u][j]? = some u' → (w.alloc (.cells #[u] e)).cell? ((⟨g, 0, none⟩ : Addr).add j) = some u' := by
  subst hg
  exact cell_one_new w e u

set_option maxRecDepth 100000 in
set_option maxHeartbeats 3200000 in
theorem spec_NextOf_any (s : Int) (A : Option Addr) (c : Nat) (es : List Ed) (f l : Int) (w : World) (hx : RdE w A es) (hn : es.length ≤ 1073741824) :
    Calls Try.prog 20 #[.agg #[.int .i64 s, .slice A es.length c], .int .i64 f, .int .u8 l] w (MadeI w (setI (nextRaw f l es))) := by
  obtain ⟨i0, hi, hz0, hz1, hz2⟩ := info_parts Try.infoInt
  have HX := Lib.hid hx
  clear hx
  have b00 : (w.alloc (.cells #[.int .i64 s, .slice A es.length c] 26)).cell? ⟨w.heap.size, 1, none⟩ = some (.slice A es.length c) := by go_keep
  have hA : Below w.heap.size w (w.alloc (.cells #[.int .i64 s, .slice A es.length c] 26)) := (Below.refl _ _).alloc (Nat.le_refl _) _
  obtain ⟨W0, hW0⟩ : ∃ W0, w.alloc (.cells #[.int .i64 s, .slice A es.length c] 26) = W0 := ⟨_, rfl⟩
  have hW1 : w.heap.size + 1 = W0.heap.size := by rw [← hW0]; simp
  rw [hW0] at b00 hA
  have k0 : Below W0.heap.size W0 (W0.alloc (.cells #[] 3)) := (Below.refl _ _).alloc (Nat.le_refl _) _
  have hown0 : (W0.alloc (.cells #[] 3)).ownsRow W0.heap.size 3 1 (.slice (some ⟨W0.heap.size, 0, none⟩) 0 0) 0 [] := World.ownsRow_made W0 #[] 0 (Nat.le_refl _) (by unfold maxLen; omega) rfl
  have HK := Lib.hid k0
  have HO := Lib.hid hown0
  clear k0 hown0
  go_enter Try.func20, Try.ntmps20
  go_wp2
  go_loopw [7, 8] (fun v i wr => ∃ (k : Nat) (zs : List Int), k ≤ es.length ∧ i = .int .i64 k ∧ Hid (zs = nextRaw f l (es.take k)) ∧ zs.length ≤ k ∧ wr.ownsRow W0.heap.size 3 1 v zs.length (zs.map (Value.int .i64)) ∧ Below W0.heap.size W0 wr) (fun _ i _ => es.length - (intOf i).toNat)
  case atStart => exact ⟨0, [], Nat.zero_le _, rfl, Lib.hid (by simp [nextRaw]), Nat.le_refl _, HO.out, HK.out⟩
  case round =>
    obtain ⟨k, zs, hk, rfl, HZ, hz, hown, hb⟩ := hrel
    have hc0 := held_step hb b00
    have hbs := hb.size
    by_cases hlt : k < es.length
    · obtain ⟨b, o, rfl, c0, c1, c2⟩ := (RdE.below HX.out (below_step hA hb)).at_ hlt
      obtain ⟨x, hxx⟩ : ∃ x, es[k] = x := ⟨_, rfl⟩
      rw [hxx] at c0 c1 c2
      have EX := Lib.hid hxx
      clear hxx
      obtain ⟨xf, xl, xt⟩ := x
      simp only at c0 c1 c2
      have k0 : (0 : Int) ≤ (k : Int) := by omega
      have k1 : (k : Int) < (es.length : Int) := by omega
      obtain ⟨p, hp⟩ : ∃ p, nextP f l ⟨xf, xl, xt⟩ = p := ⟨_, rfl⟩
      have HP := Lib.hid hp
      have hcase : (p = true ∧ (xf == f) = true ∧ (xl == l) = true) ∨ (p = false ∧ (xf == f) = false) ∨ (p = false ∧ (xf == f) = true ∧ (xl == l) = false) := by
        rw [← hp]
        unfold nextP
        cases (xf == f) <;> cases (xl == l) <;> simp
      clear hp
      have hb2 : Below W0.heap.size W0 (wr.alloc (.cells #[.int .i64 xf, .int .u8 xl, .int .i64 xt] 31)) := hb.alloc hbs _
      rcases hcase with ⟨rfl, e1, e2⟩ | hcase
      · go_wp2_with (first
          | (at_builtin
             refine wpList_append_own _ rfl (.tmp 33) (.tmp 36) 28 rfl W0.heap.size 3 i0 (.int .i64 0) 1 8 Try.underlying28 hi hz0 hz1 hz2 rfl (by decide) _ _ _ rfl ((hown.alloc _).alloc _) ⟨wr.heap.size + 1, 0, none⟩ 1 1 [.int .i64 xt] rfl rfl (cell_one_at _ _ _ (by simp)) (by intro u hu; simp at hu; subst hu; rfl) (by unfold maxLen; omega) (by omega) (by simp; omega) ?_
             intro v1 w3 hown3 hg3 _))
        have hb3 : Below W0.heap.size W0 w3 := (hb2.alloc hb2.size (.cells #[.int .i64 xt] 3)).grown hg3 (by simp; omega) (fun r hr => by have := (hown.lt r hr).1; omega)
        clear e1 e2
        go_roundw
        case rel =>
          refine ⟨k + 1, zs ++ [xt], by omega, by go_num, Lib.hid ?_, by simp; omega, ?_, hb3⟩
          · rw [nextRaw_next hlt (by rw [EX.out]; exact HP.out), EX.out, HZ.out]
          · rw [List.map_append, List.length_append]
            exact hown3
        case measure => simp [intOf]; omega
      · have hpf : p = false := by rcases hcase with h | h <;> exact h.1
        subst hpf
        have HR : Hid (zs = nextRaw f l (es.take (k + 1))) := Lib.hid (by rw [nextRaw_skip hlt (by rw [EX.out]; exact HP.out), HZ.out])
        rcases hcase with ⟨_, e1⟩ | ⟨_, e1, e2⟩
        · go_wp2
          go_roundw
          case rel => exact ⟨k + 1, zs, by omega, by go_num, HR, by omega, hown.alloc _, hb2⟩
          case measure => simp [intOf]; omega
        · go_wp2
          go_roundw
          case rel => exact ⟨k + 1, zs, by omega, by go_num, HR, by omega, hown.alloc _, hb2⟩
          case measure => simp [intOf]; omega
    · obtain rfl : k = es.length := by omega
      have hz : nextRaw f l es = zs := by
        have := HZ.out
        rw [List.take_of_length_le (Nat.le_refl _)] at this
        exact this.symm
      have HN := Lib.hid hz
      obtain ⟨B, oc, rfl, _, _⟩ := own_slice hown
      have RO := Lib.hid (show RdI wr B zs.length zs from Rd.of_own hown)
      clear hz hown
      go_wp2_with fail
      refine (spec_l04Sorted_any B zs.length oc zs wr RO.out (by omega)).mono ?_
      rintro e w3 ⟨B2, c2, rfl, own3, k3⟩
      go_wp2
      go_ret
      unfold MadeI
      rw [HN.out]
      exact ⟨B2, c2, rfl, own_mono own3 (show w.heap.size ≤ wr.heap.size by omega), below_step hA (below_step hb k3)⟩

/-- What a call that makes a slice of ints leaves, cut to its length. -/
def MadeIc (w : World) (zs : List Int) (e : Ending) (w' : World) : Prop := ∃ A c d, e = .returned (.slice A zs.length d) ∧ w'.ownsRow w.heap.size 3 1 (.slice A zs.length c) zs.length (zs.map (Value.int .i64)) ∧ Below w.heap.size w w'
set_option maxRecDepth 100000 in
theorem slices_Clip_any (A : Option Addr) (n c : Nat) (w : World) (h : n ≤ c) :
    Calls Try.prog 62 #[.slice A n c] w fun e w' => (∃ d, e = .returned (.slice A n d)) ∧ w = w' := by
  go_enter Try.func62, Try.ntmps62
  go_wp2
  go_ret
  exact ⟨⟨_, rfl⟩, rfl⟩
theorem slices_Compact_at (base : Nat) (A : Option Addr) (n c : Nat) (zs : List Int) (w : World) (hl : zs.length = n) (hown : w.ownsRow base 3 1 (.slice A n c) n (zs.map (Value.int .i64))) (hn : n ≤ 4294967296) :
    Calls Try.prog 63 #[.slice A n c] w fun e w' => e = .returned (.slice A (Lib.compact zs).length c) ∧ w'.ownsRow base 3 1 (.slice A (Lib.compact zs).length c) (Lib.compact zs).length ((Lib.compact zs).map (Value.int .i64)) ∧ w.grownBy w' (Value.slice A n c).ownBlock ∧ (Lib.compact zs).length ≤ c := by
  subst hl
  exact slices_Compact_own base A c zs w hown hn

set_option maxRecDepth 100000 in
set_option maxHeartbeats 3200000 in
theorem impl_NextOf_any (s : Int) (A : Option Addr) (c : Nat) (es : List Ed) (f l : Int) (w : World) (hx : RdE w A es) (hn : es.length ≤ 1073741824) :
    Calls Try.prog 21 #[.agg #[.int .i64 s, .slice A es.length c], .int .i64 f, .int .u8 l] w (MadeIc w (setI (nextRaw f l es))) := by
  obtain ⟨i0, hi, hz0, hz1, hz2⟩ := info_parts Try.infoInt
  have HX := Lib.hid hx
  clear hx
  have hA : Below w.heap.size w (w.alloc (.cells #[.int .i64 s, .slice A es.length c] 26)) := (Below.refl _ _).alloc (Nat.le_refl _) _
  have b00 : (w.alloc (.cells #[.int .i64 s, .slice A es.length c] 26)).cell? ⟨w.heap.size, 1, none⟩ = some (.slice A es.length c) := by go_keep
  obtain ⟨W0, hW0⟩ : ∃ W0, w.alloc (.cells #[.int .i64 s, .slice A es.length c] 26) = W0 := ⟨_, rfl⟩
  have hW1 : w.heap.size + 1 = W0.heap.size := by rw [← hW0]; simp
  rw [hW0] at hA b00
  go_enter Try.func21, Try.ntmps21
  go_wp2
  go_loopw [7, 13] (fun v i wr => ∃ (k : Nat) (zs : List Int), k ≤ es.length ∧ i = .int .i64 k ∧ Hid (zs = nextRaw f l (es.take k)) ∧ zs.length ≤ k ∧ wr.ownsRow W0.heap.size 3 1 v zs.length (zs.map (Value.int .i64)) ∧ Below W0.heap.size W0 wr) (fun _ i _ => es.length - (intOf i).toNat)
  case atStart => exact ⟨0, [], Nat.zero_le _, rfl, Lib.hid (by simp [nextRaw]), Nat.le_refl _, World.ownsRow_nil _ _ _ _, Below.refl _ _⟩
  case round =>
    obtain ⟨k, zs, hk, rfl, HZ, hz, hown, hb⟩ := hrel
    have hbs := hb.size
    by_cases hlt : k < es.length
    · obtain ⟨b, o, rfl, c0, c1, c2⟩ := (RdE.below HX.out (below_step hA hb)).at_ hlt
      obtain ⟨x, hxx⟩ : ∃ x, es[k] = x := ⟨_, rfl⟩
      rw [hxx] at c0 c1 c2
      have EX := Lib.hid hxx
      clear hxx
      obtain ⟨xf, xl, xt⟩ := x
      simp only at c0 c1 c2
      have k0 : (0 : Int) ≤ (k : Int) := by omega
      have k1 : (k : Int) < (es.length : Int) := by omega
      obtain ⟨p, hp⟩ : ∃ p, nextP f l ⟨xf, xl, xt⟩ = p := ⟨_, rfl⟩
      have HP := Lib.hid hp
      have hcase : (p = true ∧ (xf == f) = true ∧ (xl == l) = true) ∨ (p = false ∧ (xf == f) = false) ∨ (p = false ∧ (xf == f) = true ∧ (xl == l) = false) := by
        rw [← hp]
        unfold nextP
        cases (xf == f) <;> cases (xl == l) <;> simp
      clear hp
      have hb2 : Below W0.heap.size W0 (wr.alloc (.cells #[.int .i64 xf, .int .u8 xl, .int .i64 xt] 31)) := hb.alloc hbs _
      rcases hcase with ⟨rfl, e1, e2⟩ | hcase
      · go_wp2_with (first
          | (at_builtin
             refine wpList_append_own _ rfl (.tmp 27) (.tmp 30) 28 rfl W0.heap.size 3 i0 (.int .i64 0) 1 8 Try.underlying28 hi hz0 hz1 hz2 rfl (by decide) _ _ _ rfl ((hown.alloc _).alloc _) ⟨wr.heap.size + 1, 0, none⟩ 1 1 [.int .i64 xt] rfl rfl (cell_one_at _ _ _ (by simp)) (by intro u hu; simp at hu; subst hu; rfl) (by unfold maxLen; omega) (by omega) (by simp; omega) ?_
             intro v1 w3 hown3 hg3 _))
        have hb3 : Below W0.heap.size W0 w3 := (hb2.alloc hb2.size (.cells #[.int .i64 xt] 3)).grown hg3 (by simp; omega) (fun r hr => by have := (hown.lt r hr).1; omega)
        clear e1 e2
        go_roundw
        case rel =>
          refine ⟨k + 1, zs ++ [xt], by omega, by go_num, Lib.hid ?_, by simp; omega, ?_, hb3⟩
          · rw [nextRaw_next hlt (by rw [EX.out]; exact HP.out), EX.out, HZ.out]
          · rw [List.map_append, List.length_append]
            exact hown3
        case measure => simp [intOf]; omega
      · have hpf : p = false := by rcases hcase with h | h <;> exact h.1
        subst hpf
        have HR : Hid (zs = nextRaw f l (es.take (k + 1))) := Lib.hid (by rw [nextRaw_skip hlt (by rw [EX.out]; exact HP.out), HZ.out])
        rcases hcase with ⟨_, e1⟩ | ⟨_, e1, e2⟩
        · go_wp2
          go_roundw
          case rel => exact ⟨k + 1, zs, by omega, by go_num, HR, by omega, hown.alloc _, hb2⟩
          case measure => simp [intOf]; omega
        · go_wp2
          go_roundw
          case rel => exact ⟨k + 1, zs, by omega, by go_num, HR, by omega, hown.alloc _, hb2⟩
          case measure => simp [intOf]; omega
    · obtain rfl : k = es.length := by omega
      have hz1 : nextRaw f l es = zs := by
        have := HZ.out
        rw [List.take_of_length_le (Nat.le_refl _)] at this
        exact this.symm
      have HN := Lib.hid hz1
      obtain ⟨B, oc, rfl, _, _⟩ := own_slice hown
      have CS := Lib.hid (slices_Sort_own W0.heap.size B oc zs wr hown (by omega))
      have hlt0 := Lib.hid hown.lt
      clear hz1 hown
      go_wp2_with fail
      refine CS.out.mono ?_
      rintro e w3 ⟨rfl, own3, g3⟩
      have hb3 := hb.grown g3 hbs (fun r hr => (hlt0.out r hr).1)
      rw [sortI_len] at own3
      have CC := Lib.hid (slices_Compact_at W0.heap.size B zs.length oc (sortI zs) w3 (sortI_len zs) own3 (by omega))
      rw [compact_sortI] at CC
      have hzl := setI_len zs
      obtain ⟨us, hus⟩ : ∃ us, setI zs = us := ⟨_, rfl⟩
      rw [hus] at CC hzl
      have HU := Lib.hid hus
      have hlt3 := Lib.hid own3.lt
      clear own3 g3 hb CS hlt0 hus
      go_wp2_with fail
      refine CC.out.mono ?_
      rintro e w4 ⟨rfl, own4, g4, hcap⟩
      have hb4 := hb3.grown g4 hb3.size (fun r hr => (hlt3.out r hr).1)
      have OWN4 := Lib.hid own4
      clear CC own4 g4 hlt3 hb3
      go_wp2_with fail
      refine (slices_Clip_any B us.length oc w4 hcap).mono ?_
      rintro e w5 ⟨⟨d, rfl⟩, rfl⟩
      go_wp2
      go_ret
      unfold MadeIc
      rw [HN.out, HU.out]
      exact ⟨B, oc, d, rfl, own_mono OWN4.out (show w.heap.size ≤ W0.heap.size by omega), below_step hA hb4⟩
end Go.Proofs.Ytnhanakeijplcaa
