/- GraphText: both functions return the same text. No conditions but the labels' range and the size of a length. -/
import Derived.Test.YtnhanakeijplcaaSGraphOk
import Derived.Test.YtnhanakeijplcaaBld
import Derived.Test.YtnhanakeijplcaaBlk
import Derived.Test.YtnhanakeijplcaaVar
import Derived.Deep.DrawnRows
namespace Go.Proofs.Ytnhanakeijplcaa
open Go.RowKit

theorem vt_byte : ∀ (n : Nat), ∀ z ∈ vt n, 0 ≤ z ∧ z ≤ 255 := by
  intro n
  induction n using Nat.strongRecOn with
  | _ n ih =>
    intro z hz
    by_cases h : 127 < n
    · rw [vt_big h] at hz
      rcases List.mem_cons.1 hz with rfl | hz
      · omega
      · exact ih (n / 128) (by omega) z hz
    · rw [vt_small h] at hz
      simp at hz
      omega
theorem vt_len5 {n : Nat} (h : n ≤ 1000000000) : (vt n).length ≤ 5 := vt_len 4 n (by omega)
theorem vt_ne (n : Nat) : vt n ≠ [] := by
  by_cases h : 127 < n
  · rw [vt_big h]; simp
  · rw [vt_small h]; simp
/-- The bytes of an edge; of edges; of a graph. -/
def edT (e : Ed) : List Int := vt e.f.toNat ++ ([e.l] ++ vt e.t.toNat)
def edsT : List Ed → List Int
  | [] => []
  | e :: r => edT e ++ edsT r
theorem edsT_append : ∀ a b : List Ed, edsT (a ++ b) = edsT a ++ edsT b
  | [], _ => rfl
  | e :: r, b => by simp only [List.cons_append, edsT, edsT_append r b, List.append_assoc]
def gText (s : Int) (es : List Ed) : List Int := (vt s.toNat ++ vt es.length) ++ edsT es
noncomputable def gtVal (s : Int) (es : List Ed) : Value := if PP (GOk s es) then .tuple #[.string (strOfNums (gText s es)), .bool true] else .tuple #[.string ⟨#[]⟩, .bool false]
theorem edsT_next {es : List Ed} {k : Nat} (h : k < es.length) : edsT (es.take (k + 1)) = edsT (es.take k) ++ edT es[k] := by
  rw [List.take_succ_eq_append_getElem h, edsT_append]
  simp [edsT]
theorem gOk_ed {s : Int} {es : List Ed} (h : GOk s es) {k : Nat} (hk : k < es.length) : 0 ≤ es[k].f ∧ es[k].f ≤ 11 ∧ 0 ≤ es[k].t ∧ es[k].t ≤ 11 ∧ 97 ≤ es[k].l ∧ es[k].l ≤ 100 := by
  obtain ⟨⟨h1, h2⟩, _, h3⟩ := h
  obtain ⟨⟨a, b, c⟩, _⟩ := h3 k hk
  simp [vtxB, lblB] at a b c
  omega
theorem edT_byte {e : Ed} (hl : 0 ≤ e.l ∧ e.l ≤ 255) : ∀ z ∈ edT e, 0 ≤ z ∧ z ≤ 255 := by
  intro z hz
  unfold edT at hz
  rcases List.mem_append.1 hz with h | h
  · exact vt_byte _ z h
  · rcases List.mem_append.1 h with h | h
    · simp at h; omega
    · exact vt_byte _ z h
theorem edsT_byte {es : List Ed} (hl : ∀ e ∈ es, 0 ≤ e.l ∧ e.l ≤ 255) : ∀ z ∈ edsT es, 0 ≤ z ∧ z ≤ 255 := by
  induction es with
  | nil => intro z hz; simp [edsT] at hz
  | cons e r ih =>
    intro z hz
    simp only [edsT] at hz
    rcases List.mem_append.1 hz with h | h
    · exact edT_byte (hl e (by simp)) z h
    · exact ih (fun x hx => hl x (by simp [hx])) z h
theorem byte_app {a b : List Int} (ha : ∀ z ∈ a, 0 ≤ z ∧ z ≤ 255) (hb : ∀ z ∈ b, 0 ≤ z ∧ z ≤ 255) : ∀ z ∈ a ++ b, 0 ≤ z ∧ z ≤ 255 := fun z hz => (List.mem_append.1 hz).elim (ha z) (hb z)
theorem strOfNums_app (a b : List Int) : strOfNums a ++ strOfNums b = strOfNums (a ++ b) := by
  apply ByteArray.ext
  simp [strOfNums, ByteArray.data_append]
theorem run_cat {P : Program} (a b : List Int) (h : a.length + b.length ≤ 4294967296) (w : World) : (Op.stringOp .add (strOfNums a) (strOfNums b)).run P w = .ok (.string (strOfNums (a ++ b))) w := by
  rw [run_string_add_sum (a := strOfNums a) (b := strOfNums b) (h := by rw [strOfNums_size, strOfNums_size]; omega), strOfNums_app]
theorem run_string_one {P : Program} (src dst e : TypeId) (hs : P.underlying src = some (.slice e)) (he : P.underlying e = some (.int .u8)) (hd : P.underlying dst = some .string) (l : Int) (g : Nat) (w : World)
    (h : w.cell? ⟨g, 0, none⟩ = some (.int .u8 l)) : (convert src dst (.slice (some ⟨g, 0, none⟩) 1 1)).run P w = .ok (.string (strOfNums [l])) w :=
  run_convert_bytes_arg (xs := [l]) w src e hs he g 0 1 1 rfl (fun i hi => by
    obtain rfl : i = 0 := by omega
    simpa using h) dst hd
theorem blk_wrote {w w' : World} {b g : Nat} {cs : Array Value} {t : TypeId} {fz : Nat × Nat} (hk : Lib.OthersKept 5 (some b) w w') (h : w.heap[g]? = some (.cells cs t fz)) (hne : g ≠ b) (ht : t ≠ 5) : w'.heap[g]? = some (.cells cs t fz) :=
  hk g _ h (by simpa using hne) (by
    intro c f h
    injection h with _ h2 _
    exact ht h2)
theorem new1 (w : World) (e : TypeId) (u : Value) : (w.alloc (.cells #[u] e)).cell? ⟨w.heap.size, 0, none⟩ = some u := cell_one_new w e u 0 u rfl
theorem new1d (w : World) (e : TypeId) (u : Value) : (w.alloc (.cells #[u] e)).drew.cell? ⟨w.heap.size, 0, none⟩ = some u := cell_one_new w e u 0 u rfl
theorem nat_of {x : Int} (h : 0 ≤ x) : ∃ n : Nat, x = n := ⟨x.toNat, by omega⟩

set_option maxRecDepth 100000 in
set_option maxHeartbeats 3200000 in
theorem impl_GraphText_any (s : Int) (A : Option Addr) (c : Nat) (es : List Ed) (w : World) (hx : RdE w A es) (hn : es.length ≤ 4294967296) (hl : ∀ e ∈ es, 0 ≤ e.l ∧ e.l ≤ 255) :
    Calls Try.prog 33 #[.agg #[.int .i64 s, .slice A es.length c]] w fun e w' => e = .returned (gtVal s es) ∧ Below w.heap.size w w' := by
  have G := Lib.hid (fun w hx => impl_GraphOk_any s A c es w hx hn hl)
  have HX := Lib.hid hx
  have HL := Lib.hid hl
  clear hx hl
  obtain ⟨r, hr⟩ : ∃ r, PP (GOk s es) = r := ⟨_, rfl⟩
  unfold gtVal
  rw [hr] at G ⊢
  have HR := Lib.hid hr
  clear hr
  have hB0 : Below w.heap.size w (w.alloc (.cells #[.int .i64 s, .slice A es.length c] 26)) := (Below.refl _ _).alloc (Nat.le_refl _) _
  cases r
  · go_enter Try.func33, Try.ntmps33
    go_wp2_with fail
    refine (G.out _ (HX.out.alloc _)).mono ?_
    rintro e w1 ⟨rfl, k1⟩
    go_wp2
    go_ret2
    exact ⟨rfl, below_step hB0 k1⟩
  · have hok : GOk s es := by
      by_cases h : GOk s es
      · exact h
      · have := HR.out; rw [PP_no h] at this; cases this
    obtain ⟨hs1, hs2⟩ := hok.1
    have hl40 := hok.2.1
    have HK := Lib.hid hok
    clear hok HR
    obtain ⟨sn, rfl⟩ := nat_of (show 0 ≤ s by omega)
    have hsn : sn ≤ 12 := by omega
    have V0 := Lib.hid (vt_len5 (show sn ≤ 1000000000 by omega))
    have V1 := Lib.hid (vt_len5 (show es.length ≤ 1000000000 by omega))
    have C1 := Lib.hid (fun w => impl_varText_any sn (by omega) w)
    have C2 := Lib.hid (fun w => impl_varText_any es.length (by omega) w)
    go_enter Try.func33, Try.ntmps33
    go_wp2_with fail
    refine (G.out _ (HX.out.alloc _)).mono ?_
    rintro e w1 ⟨rfl, k1⟩
    have q1 := Lib.hid (blk_below k1 (heap_alloc_new w (.cells #[.int .i64 sn, .slice A es.length c] 26)))
    have b0 := blk_cell (o := 0) q1.out rfl
    have hB1 := below_step hB0 k1
    have hbs : w.heap.size < w1.heap.size := (Array.getElem?_eq_some_iff.1 q1.out).1
    clear k1 hB0 G
    have D1 := Bld.fresh w1
    have k2 : Below w1.heap.size w1 (w1.alloc (.cells #[.pointer none, .slice none 0 0] 86)) := (Below.refl _ _).alloc (Nat.le_refl _) _
    have hB2 := below_step hB1 k2
    have q2 := Lib.hid (blk_below k2 q1.out)
    clear hB1 k2 q1
    go_wp2_with fail
    refine (C1.out _).mono ?_
    rintro e w2 ⟨rfl, k3⟩
    have D2 := D1.below k3
    have hB3 := below_step hB2 k3
    have q3 := Lib.hid (blk_below k3 q2.out)
    clear D1 hB2 k3 C1 b0 q2
    obtain ⟨g, hg⟩ : ∃ g, w1.heap.size = g := ⟨_, rfl⟩
    rw [hg] at D2 hbs
    go_wp2_with fail
    refine (writeString_any g [] (vt sn) w2 D2 (vt_byte sn) (by have := V0.out; simp; omega)).mono ?_
    rintro e w3 ⟨rfl, D3, k4, o4⟩
    clear hg D2
    have hB4 := hB3.trans (k4.mono (Nat.le_of_lt hbs))
    have q4 := Lib.hid (blk_wrote o4 q3.out (by omega) (by decide))
    have b1 := blk_cell (o := 1) q4.out rfl
    clear hB3 q3 k4 o4
    rw [List.nil_append] at D3
    go_wp2_with fail
    refine (C2.out _).mono ?_
    rintro e w4 ⟨rfl, k5⟩
    have D4 := D3.below k5
    have hB5 := below_step hB4 k5
    have q5 := Lib.hid (blk_below k5 q4.out)
    clear D3 hB4 k5 C2 b1 q4
    go_wp2_with fail
    refine (writeString_any g (vt sn) (vt es.length) w4 D4 (vt_byte _) (by have := V0.out; have := V1.out; omega)).mono ?_
    rintro e w5 ⟨rfl, D5, k6, o6⟩
    have hB6 := hB5.trans (k6.mono (Nat.le_of_lt hbs))
    have q6 := Lib.hid (blk_wrote o6 q5.out (by omega) (by decide))
    have b1 := blk_cell (o := 1) q6.out rfl
    clear hB5 q5 k6 o6 D4
    have hv : (vt sn ++ vt es.length).length ≤ 10 := by have := V0.out; have := V1.out; simp; omega
    have hvb := Lib.hid (byte_app (vt_byte sn) (vt_byte es.length))
    clear V0 V1
    go_wp2
    go_loopw [22] (fun i wr => ∃ (k : Nat) (bs : List Int), k ≤ es.length ∧ i = .int .i64 k ∧ Hid (bs = (vt sn ++ vt es.length) ++ edsT (es.take k)) ∧ bs.length ≤ 10 + 11 * k ∧ Bld wr g bs ∧ Below w.heap.size w wr) (fun i _ => es.length - (intOf i).toNat)
    case atStart => exact ⟨0, _, Nat.zero_le _, rfl, by show _ = _; simp [edsT], by omega, D5, hB6⟩
    case round =>
      clear q6 b1 D5 hB6
      obtain ⟨k, bs, hk, rfl, HE, hbl, hD, hB⟩ := hrel
      by_cases hlt : k < es.length
      · obtain ⟨b, o, rfl, c0, c1, c2⟩ := (RdE.below HX.out hB).at_ hlt
        have hrg := gOk_ed HK.out hlt
        obtain ⟨x, hxx⟩ : ∃ x, es[k] = x := ⟨_, rfl⟩
        rw [hxx] at c0 c1 c2 hrg
        have EX := Lib.hid hxx
        clear hxx
        obtain ⟨xf, xl, xt⟩ := x
        simp only at c0 c1 c2 hrg
        obtain ⟨r1, r2, r3, r4, r5, r6⟩ := hrg
        obtain ⟨fn, rfl⟩ := nat_of r1
        obtain ⟨tn, rfl⟩ := nat_of r3
        have k0 : (0 : Int) ≤ (k : Int) := by omega
        have k1 : (k : Int) < (es.length : Int) := by omega
        have VF := Lib.hid (vt_len5 (show fn ≤ 1000000000 by omega))
        have VT := Lib.hid (vt_len5 (show tn ≤ 1000000000 by omega))
        have C1 := Lib.hid (fun w => impl_varText_any fn (by omega) w)
        have C2 := Lib.hid (fun w => impl_varText_any tn (by omega) w)
        have hDl := hD.lt
        have z1 : Below wr.heap.size wr (wr.alloc (.cells #[.int .i64 fn, .int .u8 xl, .int .i64 tn] 31)) := (Below.refl _ _).alloc (Nat.le_refl _) _
        have p1 := Lib.hid (heap_alloc_new wr (.cells #[.int .i64 fn, .int .u8 xl, .int .i64 tn] 31))
        have D1 := hD.below z1
        have hB1 := below_step hB z1
        clear hD hB z1
        obtain ⟨h, hh⟩ : ∃ h, wr.heap.size = h := ⟨_, rfl⟩
        rw [hh] at p1 hDl
        go_wp2_with fail
        refine (C1.out _).mono ?_
        rintro e w1 ⟨rfl, k1'⟩
        clear hh
        have D2 := D1.below k1'
        have hB2 := below_step hB1 k1'
        have p2 := Lib.hid (blk_below k1' p1.out)
        clear D1 hB1 k1' p1 C1
        go_wp2_with fail
        refine (writeString_any g bs (vt fn) w1 D2 (vt_byte fn) (by have := VF.out; omega)).mono ?_
        rintro e w2 ⟨rfl, D3, z2, o2⟩
        have hB3 := hB2.trans (z2.mono (Nat.le_of_lt hbs))
        have p3 := Lib.hid (blk_wrote o2 p2.out (by omega) (by decide))
        have e1 := blk_cell (o := 1) p3.out rfl
        clear D2 hB2 z2 o2 p2
        go_wp2_with fail
        refine (writeByte_any g _ xl w2 D3 (by have := VF.out; simp; omega)).mono ?_
        rintro e w3 ⟨rfl, D4, z3, o3⟩
        have hB4 := hB3.trans (z3.mono (Nat.le_of_lt hbs))
        have p4 := Lib.hid (blk_wrote o3 p3.out (by omega) (by decide))
        have e2 := blk_cell (o := 2) p4.out rfl
        clear D3 hB3 z3 o3 p3 e1
        go_wp2_with fail
        refine (C2.out _).mono ?_
        rintro e w4 ⟨rfl, k4⟩
        have D5 := D4.below k4
        have hB5 := below_step hB4 k4
        clear D4 hB4 k4 p4 C2 e2
        go_wp2_with fail
        refine (writeString_any g _ (vt tn) w4 D5 (vt_byte tn) (by have := VF.out; have := VT.out; simp; omega)).mono ?_
        rintro e w5 ⟨rfl, D6, z5, o5⟩
        have hB6 := hB5.trans (z5.mono (Nat.le_of_lt hbs))
        clear D5 hB5 z5 o5
        go_wp2
        go_roundw
        case rel =>
          refine ⟨k + 1, _, by omega, by go_num, ?_, ?_, D6, hB6⟩
          · show _ = _
            rw [edsT_next hlt, EX.out, HE.out]
            simp [edT, List.append_assoc]
          · have := VF.out
            have := VT.out
            simp
            omega
        case measure => simp [intOf]; omega
      · obtain rfl : k = es.length := by omega
        have hbe : bs = gText sn es := by
          have := HE.out
          rw [List.take_of_length_le (Nat.le_refl _)] at this
          exact this
        have hby : ∀ z ∈ bs, 0 ≤ z ∧ z ≤ 255 := by
          rw [hbe]
          exact byte_app hvb.out (edsT_byte HL.out)
        have hbn : bs ≠ [] := by
          rw [hbe]
          unfold gText
          have := vt_ne sn
          simp [this]
        go_wp2_with fail
        refine (builderString_any g bs wr hD hby hbn (by omega)).mono ?_
        rintro e w1 ⟨rfl, z1⟩
        have hB1 := hB.trans (z1.mono (Nat.le_of_lt hbs))
        go_wp2
        go_ret2
        exact ⟨rfl, hB1⟩

set_option maxRecDepth 100000 in
set_option linter.unusedSimpArgs false in
set_option maxHeartbeats 3200000 in
theorem spec_GraphText_any (s : Int) (A : Option Addr) (c : Nat) (es : List Ed) (w : World) (hx : RdE w A es) (hn : es.length ≤ 4294967296) (hl : ∀ e ∈ es, 0 ≤ e.l ∧ e.l ≤ 255) :
    Calls Try.prog 32 #[.agg #[.int .i64 s, .slice A es.length c]] w fun e w' => e = .returned (gtVal s es) ∧ Below w.heap.size w w' := by
  have G := Lib.hid (fun w hx => spec_GraphOk_any s A c es w hx hn hl)
  have HX := Lib.hid hx
  have HL := Lib.hid hl
  clear hx hl
  obtain ⟨r, hr⟩ : ∃ r, PP (GOk s es) = r := ⟨_, rfl⟩
  unfold gtVal
  rw [hr] at G ⊢
  have HR := Lib.hid hr
  clear hr
  have hB0 : Below w.heap.size w (w.alloc (.cells #[.int .i64 s, .slice A es.length c] 26)) := (Below.refl _ _).alloc (Nat.le_refl _) _
  cases r
  · go_enter Try.func32, Try.ntmps32
    go_wp2_with fail
    refine (G.out _ (HX.out.alloc _)).mono ?_
    rintro e w1 ⟨rfl, k1⟩
    go_wp2
    go_ret2
    exact ⟨rfl, below_step hB0 k1⟩
  · have hok : GOk s es := by
      by_cases h : GOk s es
      · exact h
      · have := HR.out; rw [PP_no h] at this; cases this
    obtain ⟨hs1, hs2⟩ := hok.1
    have hl40 := hok.2.1
    have HK := Lib.hid hok
    clear hok HR
    obtain ⟨sn, rfl⟩ := nat_of (show 0 ≤ s by omega)
    have hsn : sn ≤ 12 := by omega
    have V0 := Lib.hid (vt_len5 (show sn ≤ 1000000000 by omega))
    have V1 := Lib.hid (vt_len5 (show es.length ≤ 1000000000 by omega))
    have C1 := Lib.hid (fun w => spec_l01Var_any sn (by omega) w)
    have C2 := Lib.hid (fun w => spec_l01Var_any es.length (by omega) w)
    go_enter Try.func32, Try.ntmps32
    go_wp2_with fail
    refine (G.out _ (HX.out.alloc _)).mono ?_
    rintro e w1 ⟨rfl, k1⟩
    have b0 : w1.cell? ⟨w.heap.size, 0, none⟩ = some (.int .i64 sn) := held_step k1 (by go_keep)
    have b1 : w1.cell? ⟨w.heap.size, 1, none⟩ = some (.slice A es.length c) := held_step k1 (by go_keep)
    have hB1 := below_step hB0 k1
    clear k1 hB0 G
    have hB1 := hB1.drew
    have hc0 := fun (w : World) => run_cat (P := Try.prog) (vt sn) (vt es.length) (by have := V0.out; have := V1.out; omega) w
    go_wp2_with fail
    go_region_held3 (fun w' => w'.cell? ⟨w.heap.size, 0, none⟩ = some (.int .i64 sn) ∧ w'.cell? ⟨w.heap.size, 1, none⟩ = some (.slice A es.length c) ∧ Below w.heap.size w w')
      ((first
        | (exact ⟨b0, b1, hB1⟩)
        | (go_split_ands; exact ⟨held_step hbk (by assumption), held_step hbk (by assumption), below_step (by assumption) hbk⟩)))
      ((go_at_call 75; first | ((with_reducible refine (C1.out _).mono ?_); rintro e w' ⟨rfl, hbk⟩) | ((with_reducible refine (C2.out _).mono ?_); rintro e w' ⟨rfl, hbk⟩)))
    clear b0 b1 hB1
    go_split_ands
    have hB3 : Below w.heap.size w w' := by assumption
    have b1 : w'.cell? ⟨w.heap.size, 1, none⟩ = some (.slice A es.length c) := by assumption
    have hv : (vt sn ++ vt es.length).length ≤ 10 := by have := V0.out; have := V1.out; simp; omega
    clear hc0 C1 C2 V0 V1
    go_wp2
    go_loopw [4, 5] (fun v i wr => ∃ (k : Nat) (bs : List Int), k ≤ es.length ∧ i = .int .i64 k ∧ v = .string (strOfNums bs) ∧ Hid (bs = (vt sn ++ vt es.length) ++ edsT (es.take k)) ∧ bs.length ≤ 10 + 11 * k ∧ wr.cell? ⟨w.heap.size, 1, none⟩ = some (.slice A es.length c) ∧ Below w.heap.size w wr) (fun _ i _ => es.length - (intOf i).toNat)
    case atStart => exact ⟨0, _, Nat.zero_le _, rfl, rfl, by show _ = _; simp [edsT], by omega, b1, hB3⟩
    case round =>
      clear b1 hB3
      obtain ⟨k, bs, hk, rfl, rfl, HE, hbl, b1, hB⟩ := hrel
      by_cases hlt : k < es.length
      · obtain ⟨b, o, rfl, c0, c1, c2⟩ := (RdE.below HX.out hB).at_ hlt
        have hrg := gOk_ed HK.out hlt
        obtain ⟨x, hxx⟩ : ∃ x, es[k] = x := ⟨_, rfl⟩
        rw [hxx] at c0 c1 c2 hrg
        have EX := Lib.hid hxx
        clear hxx
        obtain ⟨xf, xl, xt⟩ := x
        simp only at c0 c1 c2 hrg
        obtain ⟨r1, r2, r3, r4, r5, r6⟩ := hrg
        obtain ⟨fn, rfl⟩ := nat_of r1
        obtain ⟨tn, rfl⟩ := nat_of r3
        have k0 : (0 : Int) ≤ (k : Int) := by omega
        have k1 : (k : Int) < (es.length : Int) := by omega
        have VF := Lib.hid (vt_len5 (show fn ≤ 1000000000 by omega))
        have VT := Lib.hid (vt_len5 (show tn ≤ 1000000000 by omega))
        have C1 := Lib.hid (fun w => spec_l01Var_any fn (by omega) w)
        have C2 := Lib.hid (fun w => spec_l01Var_any tn (by omega) w)
        have hbk5 := VF.out
        have hbk6 := VT.out
        obtain ⟨y1, hy1⟩ : ∃ y, bs ++ vt fn = y := ⟨_, rfl⟩
        obtain ⟨y2, hy2⟩ : ∃ y, y1 ++ [xl] = y := ⟨_, rfl⟩
        obtain ⟨y3, hy3⟩ : ∃ y, y2 ++ vt tn = y := ⟨_, rfl⟩
        have hl1 : y1.length ≤ 2000 := by rw [← hy1, List.length_append]; omega
        have hl2 : y2.length ≤ 2001 := by rw [← hy2, List.length_append]; simp; omega
        have hc1 := fun (w : World) => run_cat (P := Try.prog) bs (vt fn) (by omega) w
        have hc2 := fun (w : World) => run_cat (P := Try.prog) y1 [xl] (by simp; omega) w
        have hc3 := fun (w : World) => run_cat (P := Try.prog) y2 (vt tn) (by omega) w
        rw [hy1] at hc1
        rw [hy2] at hc2
        rw [hy3] at hc3
        have HY1 := Lib.hid hy1
        have HY2 := Lib.hid hy2
        have HY3 := Lib.hid hy3
        clear hy1 hy2 hy3 hbk5 hbk6 hl1 hl2
        have kc := fun (g : Nat) (w : World) h => run_string_one (P := Try.prog) 22 9 5 Try.underlying22 Try.underlying5 Try.underlying9 xl g w h
        have hB1 := hB.drew
        go_wp2_with fail
        refine wp_region_noPanic ?_
        refine wp_region_held_drew (S := (fun w' => w'.cell? ⟨w.heap.size, 1, none⟩ = some (.slice (some ⟨b, o, none⟩) es.length c) ∧ w'.cell? ⟨b, o + k * 3, none⟩ = some (.int .i64 fn) ∧ w'.cell? ⟨b, o + k * 3 + 1, none⟩ = some (.int .u8 xl) ∧ w'.cell? ⟨b, o + k * 3 + 2, none⟩ = some (.int .i64 tn) ∧ Below w.heap.size w w')) (by kernel_rfl) ⟨b1, c0, c1, c2, hB1⟩ (fun hHeld => ?_)
        refine wpAnyH_take (i := 0) (v := ?_) rfl (by kernel_rfl) (by kernel_rfl) (by kernel_rfl) (fun _ _ _ h => h) (Or.inl ⟨by rfl, ?_⟩) hHeld ?_
        rotate_left
        · intro w hSw
          (try dsimp only at hSw)
          go_simp
          try with_reducible rfl
        try simp only [List.getElem_toArray, List.getElem_cons_zero, List.getElem_cons_succ, Act.put, List.setIfInBounds_toArray, List.set_cons_zero, List.set_cons_succ]
        refine wpAnyH_take (i := 1) (v := ?_) rfl (by kernel_rfl) (by kernel_rfl) (by kernel_rfl) (fun _ _ _ h => h) (Or.inl ⟨by rfl, ?_⟩) hHeld ?_
        rotate_left
        · intro w hSw
          (try dsimp only at hSw)
          go_simp
          try with_reducible rfl
        try simp only [List.getElem_toArray, List.getElem_cons_zero, List.getElem_cons_succ, Act.put, List.setIfInBounds_toArray, List.set_cons_zero, List.set_cons_succ]
        refine wpAnyH_take (i := 2) (v := ?_) rfl (by kernel_rfl) (by kernel_rfl) (by kernel_rfl) (fun _ _ _ h => h) (Or.inl ⟨by rfl, ?_⟩) hHeld ?_
        rotate_left
        · intro w hSw
          (try dsimp only at hSw)
          go_simp
          try with_reducible rfl
        try simp only [List.getElem_toArray, List.getElem_cons_zero, List.getElem_cons_succ, Act.put, List.setIfInBounds_toArray, List.set_cons_zero, List.set_cons_succ]
        refine wpAnyH_take (i := 3) (v := ?_) rfl (by kernel_rfl) (by kernel_rfl) (by kernel_rfl) (fun _ _ _ h => h) (Or.inl ⟨by rfl, ?_⟩) hHeld ?_
        rotate_left
        · intro w hSw
          (try dsimp only at hSw)
          go_simp
          try with_reducible rfl
        try simp only [List.getElem_toArray, List.getElem_cons_zero, List.getElem_cons_succ, Act.put, List.setIfInBounds_toArray, List.set_cons_zero, List.set_cons_succ]
        refine wpAnyH_take (i := 4) (v := ?_) rfl (by kernel_rfl) (by kernel_rfl) (by kernel_rfl) (fun _ _ _ h => h) (Or.inl ⟨by rfl, ?_⟩) hHeld ?_
        rotate_left
        · intro w hSw
          (try dsimp only at hSw)
          go_simp
          try with_reducible rfl
        try simp only [List.getElem_toArray, List.getElem_cons_zero, List.getElem_cons_succ, Act.put, List.setIfInBounds_toArray, List.set_cons_zero, List.set_cons_succ]
        refine wpAnyH_take (i := 5) (v := ?_) rfl (by kernel_rfl) (by kernel_rfl) (by kernel_rfl) (fun _ _ _ h => h) (Or.inl ⟨by rfl, ?_⟩) hHeld ?_
        rotate_left
        · intro w hSw
          (try dsimp only at hSw)
          go_simp
          try with_reducible rfl
        try simp only [List.getElem_toArray, List.getElem_cons_zero, List.getElem_cons_succ, Act.put, List.setIfInBounds_toArray, List.set_cons_zero, List.set_cons_succ]
        refine wpAnyH_take (i := 6) (v := ?_) rfl (by kernel_rfl) (by kernel_rfl) (by kernel_rfl) (fun _ _ _ h => h) (Or.inl ⟨by rfl, ?_⟩) hHeld ?_
        rotate_left
        · intro w hSw
          (try dsimp only at hSw)
          go_simp
          try with_reducible rfl
        try simp only [List.getElem_toArray, List.getElem_cons_zero, List.getElem_cons_succ, Act.put, List.setIfInBounds_toArray, List.set_cons_zero, List.set_cons_succ]
        refine wpAnyH_take (i := 9) (v := ?_) rfl (by kernel_rfl) (by kernel_rfl) (by kernel_rfl) (fun _ _ _ h => h) (Or.inl ⟨by rfl, ?_⟩) hHeld ?_
        rotate_left
        · intro w hSw
          (try dsimp only at hSw)
          go_simp
          try with_reducible rfl
        try simp only [List.getElem_toArray, List.getElem_cons_zero, List.getElem_cons_succ, Act.put, List.setIfInBounds_toArray, List.set_cons_zero, List.set_cons_succ]
        refine wpAnyH_take (i := 10) (v := ?_) rfl (by kernel_rfl) (by kernel_rfl) (by kernel_rfl) (fun _ _ _ h => h) (Or.inl ⟨by rfl, ?_⟩) hHeld ?_
        rotate_left
        · intro w hSw
          (try dsimp only at hSw)
          go_simp
          try with_reducible rfl
        try simp only [List.getElem_toArray, List.getElem_cons_zero, List.getElem_cons_succ, Act.put, List.setIfInBounds_toArray, List.set_cons_zero, List.set_cons_succ]
        refine wpAnyH_take (i := 11) (v := ?_) rfl (by kernel_rfl) (by kernel_rfl) (by kernel_rfl) (fun _ _ _ h => h) (Or.inl ⟨by rfl, ?_⟩) hHeld ?_
        rotate_left
        · intro w hSw
          (try dsimp only at hSw)
          go_simp
          try with_reducible rfl
        try simp only [List.getElem_toArray, List.getElem_cons_zero, List.getElem_cons_succ, Act.put, List.setIfInBounds_toArray, List.set_cons_zero, List.set_cons_succ]
        refine wpAnyH_take (i := 12) (v := ?_) rfl (by kernel_rfl) (by kernel_rfl) (by kernel_rfl) (fun _ _ _ h => h) (Or.inl ⟨by rfl, ?_⟩) hHeld ?_
        rotate_left
        · intro w hSw
          (try dsimp only at hSw)
          go_simp
          try with_reducible rfl
        try simp only [List.getElem_toArray, List.getElem_cons_zero, List.getElem_cons_succ, Act.put, List.setIfInBounds_toArray, List.set_cons_zero, List.set_cons_succ]
        refine wpAnyH_take (i := 13) (v := ?_) rfl (by kernel_rfl) (by kernel_rfl) (by kernel_rfl) (fun _ _ _ h => h) (Or.inl ⟨by rfl, ?_⟩) hHeld ?_
        rotate_left
        · intro w hSw
          (try dsimp only at hSw)
          go_simp
          try with_reducible rfl
        try simp only [List.getElem_toArray, List.getElem_cons_zero, List.getElem_cons_succ, Act.put, List.setIfInBounds_toArray, List.set_cons_zero, List.set_cons_succ]
        refine wpAnyH_take (i := 14) (v := ?_) rfl (by kernel_rfl) (by kernel_rfl) (by kernel_rfl) (fun _ _ _ h => h) (Or.inl ⟨by rfl, ?_⟩) hHeld ?_
        rotate_left
        · intro w hSw
          (try dsimp only at hSw)
          go_simp
          try with_reducible rfl
        try simp only [List.getElem_toArray, List.getElem_cons_zero, List.getElem_cons_succ, Act.put, List.setIfInBounds_toArray, List.set_cons_zero, List.set_cons_succ]
        refine wpAnyH_take (i := 18) (v := ?_) rfl (by kernel_rfl) (by kernel_rfl) (by kernel_rfl) (fun _ _ _ h => h) (Or.inl ⟨by rfl, ?_⟩) hHeld ?_
        rotate_left
        · intro w hSw
          (try dsimp only at hSw)
          go_simp
          try with_reducible rfl
        try simp only [List.getElem_toArray, List.getElem_cons_zero, List.getElem_cons_succ, Act.put, List.setIfInBounds_toArray, List.set_cons_zero, List.set_cons_succ]
        refine wpAnyH_take (i := 19) (v := ?_) rfl (by kernel_rfl) (by kernel_rfl) (by kernel_rfl) (fun _ _ _ h => h) (Or.inl ⟨by rfl, ?_⟩) hHeld ?_
        rotate_left
        · intro w hSw
          (try dsimp only at hSw)
          go_simp
          try with_reducible rfl
        try simp only [List.getElem_toArray, List.getElem_cons_zero, List.getElem_cons_succ, Act.put, List.setIfInBounds_toArray, List.set_cons_zero, List.set_cons_succ]
        refine wpAnyH_take (i := 20) (v := ?_) rfl (by kernel_rfl) (by kernel_rfl) (by kernel_rfl) (fun _ _ _ h => h) (Or.inl ⟨by rfl, ?_⟩) hHeld ?_
        rotate_left
        · intro w hSw
          (try dsimp only at hSw)
          go_simp
          try with_reducible rfl
        try simp only [List.getElem_toArray, List.getElem_cons_zero, List.getElem_cons_succ, Act.put, List.setIfInBounds_toArray, List.set_cons_zero, List.set_cons_succ]
        refine wpAnyH_take (i := 21) (v := ?_) rfl (by kernel_rfl) (by kernel_rfl) (by kernel_rfl) (fun _ _ _ h => h) (Or.inl ⟨by rfl, ?_⟩) hHeld ?_
        rotate_left
        · intro w hSw
          (try dsimp only at hSw)
          go_simp
          try with_reducible rfl
        try simp only [List.getElem_toArray, List.getElem_cons_zero, List.getElem_cons_succ, Act.put, List.setIfInBounds_toArray, List.set_cons_zero, List.set_cons_succ]
        refine wpAnyH_take (i := 22) (v := ?_) rfl (by kernel_rfl) (by kernel_rfl) (by kernel_rfl) (fun _ _ _ h => h) (Or.inl ⟨by rfl, ?_⟩) hHeld ?_
        rotate_left
        · intro w hSw
          (try dsimp only at hSw)
          go_simp
          try with_reducible rfl
        try simp only [List.getElem_toArray, List.getElem_cons_zero, List.getElem_cons_succ, Act.put, List.setIfInBounds_toArray, List.set_cons_zero, List.set_cons_succ]
        refine wpAnyH_take (i := 23) (v := ?_) rfl (by kernel_rfl) (by kernel_rfl) (by kernel_rfl) (fun _ _ _ h => h) (Or.inl ⟨by rfl, ?_⟩) hHeld ?_
        rotate_left
        · intro w hSw
          (try dsimp only at hSw)
          go_simp
          try with_reducible rfl
        try simp only [List.getElem_toArray, List.getElem_cons_zero, List.getElem_cons_succ, Act.put, List.setIfInBounds_toArray, List.set_cons_zero, List.set_cons_succ]
        refine wpAnyH_ready (rs := [7, 15]) (by kernel_rfl) (by simp) ?_
        refine AllReadyH.cons rfl (fun K hK => ?_) ?_
        · go_simp
          refine (C1.out _).mono ?_
          rintro e w7 ⟨rfl, k7⟩
          go_simp
          refine hK.out _ _ ⟨held_step k7 hHeld.1, held_step k7 hHeld.2.1, held_step k7 hHeld.2.2.1, held_step k7 hHeld.2.2.2.1, below_step hHeld.2.2.2.2 k7⟩ (fun hHeld => ?_)
          clear hK K
          try simp only [List.getElem_toArray, List.getElem_cons_zero, List.getElem_cons_succ, Act.put, List.setIfInBounds_toArray, List.set_cons_zero, List.set_cons_succ]
          refine wpAnyH_take (i := 8) (v := ?_) rfl (by kernel_rfl) (by kernel_rfl) (by kernel_rfl) (fun _ _ _ h => h) (Or.inl ⟨by rfl, ?_⟩) hHeld ?_
          rotate_left
          · intro w hSw
            (try dsimp only at hSw)
            go_simp
            try with_reducible rfl
          try simp only [List.getElem_toArray, List.getElem_cons_zero, List.getElem_cons_succ, Act.put, List.setIfInBounds_toArray, List.set_cons_zero, List.set_cons_succ]
          refine wpAnyH_ready (rs := [15, 24]) (by kernel_rfl) (by simp) ?_
          refine AllReadyH.cons rfl (fun K hK => ?_) ?_
          · go_simp
            refine hK.out _ _ ⟨held_step (below_alloc _ _) hHeld.1, held_step (below_alloc _ _) hHeld.2.1, held_step (below_alloc _ _) hHeld.2.2.1, held_step (below_alloc _ _) hHeld.2.2.2.1, below_step hHeld.2.2.2.2 (below_alloc _ _)⟩ (fun hHeld => ?_)
            clear hK K
            try simp only [List.getElem_toArray, List.getElem_cons_zero, List.getElem_cons_succ, Act.put, List.setIfInBounds_toArray, List.set_cons_zero, List.set_cons_succ]
            refine wpAnyH_ready (rs := [16, 24]) (by kernel_rfl) (by simp) ?_
            refine AllReadyH.cons rfl (fun K hK => ?_) ?_
            · have hcx := kc _ _ (new1 w7 5 (.int .u8 xl))
              go_simp
              clear hcx
              refine hK.out _ _ hHeld (fun hHeld => ?_)
              clear hK K
              try simp only [List.getElem_toArray, List.getElem_cons_zero, List.getElem_cons_succ, Act.put, List.setIfInBounds_toArray, List.set_cons_zero, List.set_cons_succ]
              refine wpAnyH_take (i := 17) (v := ?_) rfl (by kernel_rfl) (by kernel_rfl) (by kernel_rfl) (fun _ _ _ h => h) (Or.inl ⟨by rfl, ?_⟩) hHeld ?_
              rotate_left
              · intro w hSw
                (try dsimp only at hSw)
                go_simp
                try with_reducible rfl
              try simp only [List.getElem_toArray, List.getElem_cons_zero, List.getElem_cons_succ, Act.put, List.setIfInBounds_toArray, List.set_cons_zero, List.set_cons_succ]
              refine wpAnyH_ready (rs := [24]) (by kernel_rfl) (by simp) ?_
              refine AllReadyH.cons rfl (fun K hK => ?_) ?_
              · go_simp
                refine (C2.out _).mono ?_
                rintro e w24 ⟨rfl, k24⟩
                go_simp
                refine hK.out _ _ ⟨held_step k24 hHeld.1, held_step k24 hHeld.2.1, held_step k24 hHeld.2.2.1, held_step k24 hHeld.2.2.2.1, below_step hHeld.2.2.2.2 k24⟩ (fun hHeld => ?_)
                clear hK K
                try simp only [List.getElem_toArray, List.getElem_cons_zero, List.getElem_cons_succ, Act.put, List.setIfInBounds_toArray, List.set_cons_zero, List.set_cons_succ]
                refine wpAnyH_take (i := 25) (v := ?_) rfl (by kernel_rfl) (by kernel_rfl) (by kernel_rfl) (fun _ _ _ h => h) (Or.inl ⟨by rfl, ?_⟩) hHeld ?_
                rotate_left
                · intro w hSw
                  (try dsimp only at hSw)
                  go_simp
                  try with_reducible rfl
                try simp only [List.getElem_toArray, List.getElem_cons_zero, List.getElem_cons_succ, Act.put, List.setIfInBounds_toArray, List.set_cons_zero, List.set_cons_succ]
                refine wpAnyH_take (i := 26) (v := ?_) rfl (by kernel_rfl) (by kernel_rfl) (by kernel_rfl) (fun _ _ _ h => h) (Or.inl ⟨by rfl, ?_⟩) hHeld ?_
                rotate_left
                · intro w hSw
                  (try dsimp only at hSw)
                  go_simp
                  try with_reducible rfl
                try simp only [List.getElem_toArray, List.getElem_cons_zero, List.getElem_cons_succ, Act.put, List.setIfInBounds_toArray, List.set_cons_zero, List.set_cons_succ]
                refine wpAnyH_done (by kernel_rfl) ?_ _
                refine NoPanic.normal ?_
                clear hc1 hc2 hc3 kc
                obtain ⟨bn, _, _, _, hBn⟩ := hHeld
                go_wp2
                go_roundw
                case rel =>
                  refine ⟨k + 1, y3, by omega, by go_num, rfl, ?_, ?_, bn, hBn⟩
                  · show _ = _
                    rw [edsT_next hlt, EX.out, ← HY3.out, ← HY2.out, ← HY1.out, HE.out]
                    simp [edT, List.append_assoc]
                  · have := VF.out
                    have := VT.out
                    rw [← HY3.out, ← HY2.out, ← HY1.out]
                    simp
                    omega
                case measure => simp [intOf]; omega
              exact AllReadyH.nil
            refine AllReadyH.cons rfl (fun K hK => ?_) ?_
            · go_simp
              refine (C2.out _).mono ?_
              rintro e w24 ⟨rfl, k24⟩
              go_simp
              refine hK.out _ _ ⟨held_step k24 hHeld.1, held_step k24 hHeld.2.1, held_step k24 hHeld.2.2.1, held_step k24 hHeld.2.2.2.1, below_step hHeld.2.2.2.2 k24⟩ (fun hHeld => ?_)
              clear hK K
              try simp only [List.getElem_toArray, List.getElem_cons_zero, List.getElem_cons_succ, Act.put, List.setIfInBounds_toArray, List.set_cons_zero, List.set_cons_succ]
              refine wpAnyH_ready (rs := [16]) (by kernel_rfl) (by simp) ?_
              refine AllReadyH.cons rfl (fun K hK => ?_) ?_
              · have hcx := kc _ _ (held_step k24 (new1 w7 5 (.int .u8 xl)))
                go_simp
                clear hcx
                refine hK.out _ _ hHeld (fun hHeld => ?_)
                clear hK K
                try simp only [List.getElem_toArray, List.getElem_cons_zero, List.getElem_cons_succ, Act.put, List.setIfInBounds_toArray, List.set_cons_zero, List.set_cons_succ]
                refine wpAnyH_take (i := 17) (v := ?_) rfl (by kernel_rfl) (by kernel_rfl) (by kernel_rfl) (fun _ _ _ h => h) (Or.inl ⟨by rfl, ?_⟩) hHeld ?_
                rotate_left
                · intro w hSw
                  (try dsimp only at hSw)
                  go_simp
                  try with_reducible rfl
                try simp only [List.getElem_toArray, List.getElem_cons_zero, List.getElem_cons_succ, Act.put, List.setIfInBounds_toArray, List.set_cons_zero, List.set_cons_succ]
                refine wpAnyH_take (i := 25) (v := ?_) rfl (by kernel_rfl) (by kernel_rfl) (by kernel_rfl) (fun _ _ _ h => h) (Or.inl ⟨by rfl, ?_⟩) hHeld ?_
                rotate_left
                · intro w hSw
                  (try dsimp only at hSw)
                  go_simp
                  try with_reducible rfl
                try simp only [List.getElem_toArray, List.getElem_cons_zero, List.getElem_cons_succ, Act.put, List.setIfInBounds_toArray, List.set_cons_zero, List.set_cons_succ]
                refine wpAnyH_take (i := 26) (v := ?_) rfl (by kernel_rfl) (by kernel_rfl) (by kernel_rfl) (fun _ _ _ h => h) (Or.inl ⟨by rfl, ?_⟩) hHeld ?_
                rotate_left
                · intro w hSw
                  (try dsimp only at hSw)
                  go_simp
                  try with_reducible rfl
                try simp only [List.getElem_toArray, List.getElem_cons_zero, List.getElem_cons_succ, Act.put, List.setIfInBounds_toArray, List.set_cons_zero, List.set_cons_succ]
                refine wpAnyH_done (by kernel_rfl) ?_ _
                refine NoPanic.normal ?_
                clear hc1 hc2 hc3 kc
                obtain ⟨bn, _, _, _, hBn⟩ := hHeld
                go_wp2
                go_roundw
                case rel =>
                  refine ⟨k + 1, y3, by omega, by go_num, rfl, ?_, ?_, bn, hBn⟩
                  · show _ = _
                    rw [edsT_next hlt, EX.out, ← HY3.out, ← HY2.out, ← HY1.out, HE.out]
                    simp [edT, List.append_assoc]
                  · have := VF.out
                    have := VT.out
                    rw [← HY3.out, ← HY2.out, ← HY1.out]
                    simp
                    omega
                case measure => simp [intOf]; omega
              exact AllReadyH.nil
            exact AllReadyH.nil
          refine AllReadyH.cons rfl (fun K hK => ?_) ?_
          · go_simp
            refine (C2.out _).mono ?_
            rintro e w24 ⟨rfl, k24⟩
            go_simp
            refine hK.out _ _ ⟨held_step k24 hHeld.1, held_step k24 hHeld.2.1, held_step k24 hHeld.2.2.1, held_step k24 hHeld.2.2.2.1, below_step hHeld.2.2.2.2 k24⟩ (fun hHeld => ?_)
            clear hK K
            try simp only [List.getElem_toArray, List.getElem_cons_zero, List.getElem_cons_succ, Act.put, List.setIfInBounds_toArray, List.set_cons_zero, List.set_cons_succ]
            refine wpAnyH_ready (rs := [15]) (by kernel_rfl) (by simp) ?_
            refine AllReadyH.cons rfl (fun K hK => ?_) ?_
            · go_simp
              refine hK.out _ _ ⟨held_step (below_alloc _ _) hHeld.1, held_step (below_alloc _ _) hHeld.2.1, held_step (below_alloc _ _) hHeld.2.2.1, held_step (below_alloc _ _) hHeld.2.2.2.1, below_step hHeld.2.2.2.2 (below_alloc _ _)⟩ (fun hHeld => ?_)
              clear hK K
              try simp only [List.getElem_toArray, List.getElem_cons_zero, List.getElem_cons_succ, Act.put, List.setIfInBounds_toArray, List.set_cons_zero, List.set_cons_succ]
              refine wpAnyH_ready (rs := [16]) (by kernel_rfl) (by simp) ?_
              refine AllReadyH.cons rfl (fun K hK => ?_) ?_
              · have hcx := kc _ _ (new1 w24 5 (.int .u8 xl))
                go_simp
                clear hcx
                refine hK.out _ _ hHeld (fun hHeld => ?_)
                clear hK K
                try simp only [List.getElem_toArray, List.getElem_cons_zero, List.getElem_cons_succ, Act.put, List.setIfInBounds_toArray, List.set_cons_zero, List.set_cons_succ]
                refine wpAnyH_take (i := 17) (v := ?_) rfl (by kernel_rfl) (by kernel_rfl) (by kernel_rfl) (fun _ _ _ h => h) (Or.inl ⟨by rfl, ?_⟩) hHeld ?_
                rotate_left
                · intro w hSw
                  (try dsimp only at hSw)
                  go_simp
                  try with_reducible rfl
                try simp only [List.getElem_toArray, List.getElem_cons_zero, List.getElem_cons_succ, Act.put, List.setIfInBounds_toArray, List.set_cons_zero, List.set_cons_succ]
                refine wpAnyH_take (i := 25) (v := ?_) rfl (by kernel_rfl) (by kernel_rfl) (by kernel_rfl) (fun _ _ _ h => h) (Or.inl ⟨by rfl, ?_⟩) hHeld ?_
                rotate_left
                · intro w hSw
                  (try dsimp only at hSw)
                  go_simp
                  try with_reducible rfl
                try simp only [List.getElem_toArray, List.getElem_cons_zero, List.getElem_cons_succ, Act.put, List.setIfInBounds_toArray, List.set_cons_zero, List.set_cons_succ]
                refine wpAnyH_take (i := 26) (v := ?_) rfl (by kernel_rfl) (by kernel_rfl) (by kernel_rfl) (fun _ _ _ h => h) (Or.inl ⟨by rfl, ?_⟩) hHeld ?_
                rotate_left
                · intro w hSw
                  (try dsimp only at hSw)
                  go_simp
                  try with_reducible rfl
                try simp only [List.getElem_toArray, List.getElem_cons_zero, List.getElem_cons_succ, Act.put, List.setIfInBounds_toArray, List.set_cons_zero, List.set_cons_succ]
                refine wpAnyH_done (by kernel_rfl) ?_ _
                refine NoPanic.normal ?_
                clear hc1 hc2 hc3 kc
                obtain ⟨bn, _, _, _, hBn⟩ := hHeld
                go_wp2
                go_roundw
                case rel =>
                  refine ⟨k + 1, y3, by omega, by go_num, rfl, ?_, ?_, bn, hBn⟩
                  · show _ = _
                    rw [edsT_next hlt, EX.out, ← HY3.out, ← HY2.out, ← HY1.out, HE.out]
                    simp [edT, List.append_assoc]
                  · have := VF.out
                    have := VT.out
                    rw [← HY3.out, ← HY2.out, ← HY1.out]
                    simp
                    omega
                case measure => simp [intOf]; omega
              exact AllReadyH.nil
            exact AllReadyH.nil
          exact AllReadyH.nil
        refine AllReadyH.cons rfl (fun K hK => ?_) ?_
        · go_simp
          refine hK.out _ _ ⟨held_step (below_alloc _ _) hHeld.1, held_step (below_alloc _ _) hHeld.2.1, held_step (below_alloc _ _) hHeld.2.2.1, held_step (below_alloc _ _) hHeld.2.2.2.1, below_step hHeld.2.2.2.2 (below_alloc _ _)⟩ (fun hHeld => ?_)
          clear hK K
          try simp only [List.getElem_toArray, List.getElem_cons_zero, List.getElem_cons_succ, Act.put, List.setIfInBounds_toArray, List.set_cons_zero, List.set_cons_succ]
          refine wpAnyH_ready (rs := [7, 16]) (by kernel_rfl) (by simp) ?_
          refine AllReadyH.cons rfl (fun K hK => ?_) ?_
          · go_simp
            refine (C1.out _).mono ?_
            rintro e w7 ⟨rfl, k7⟩
            go_simp
            refine hK.out _ _ ⟨held_step k7 hHeld.1, held_step k7 hHeld.2.1, held_step k7 hHeld.2.2.1, held_step k7 hHeld.2.2.2.1, below_step hHeld.2.2.2.2 k7⟩ (fun hHeld => ?_)
            clear hK K
            try simp only [List.getElem_toArray, List.getElem_cons_zero, List.getElem_cons_succ, Act.put, List.setIfInBounds_toArray, List.set_cons_zero, List.set_cons_succ]
            refine wpAnyH_take (i := 8) (v := ?_) rfl (by kernel_rfl) (by kernel_rfl) (by kernel_rfl) (fun _ _ _ h => h) (Or.inl ⟨by rfl, ?_⟩) hHeld ?_
            rotate_left
            · intro w hSw
              (try dsimp only at hSw)
              go_simp
              try with_reducible rfl
            try simp only [List.getElem_toArray, List.getElem_cons_zero, List.getElem_cons_succ, Act.put, List.setIfInBounds_toArray, List.set_cons_zero, List.set_cons_succ]
            refine wpAnyH_ready (rs := [16, 24]) (by kernel_rfl) (by simp) ?_
            refine AllReadyH.cons rfl (fun K hK => ?_) ?_
            · have hcx := kc _ _ (held_step k7 (new1d wr 5 (.int .u8 xl)))
              go_simp
              clear hcx
              refine hK.out _ _ hHeld (fun hHeld => ?_)
              clear hK K
              try simp only [List.getElem_toArray, List.getElem_cons_zero, List.getElem_cons_succ, Act.put, List.setIfInBounds_toArray, List.set_cons_zero, List.set_cons_succ]
              refine wpAnyH_take (i := 17) (v := ?_) rfl (by kernel_rfl) (by kernel_rfl) (by kernel_rfl) (fun _ _ _ h => h) (Or.inl ⟨by rfl, ?_⟩) hHeld ?_
              rotate_left
              · intro w hSw
                (try dsimp only at hSw)
                go_simp
                try with_reducible rfl
              try simp only [List.getElem_toArray, List.getElem_cons_zero, List.getElem_cons_succ, Act.put, List.setIfInBounds_toArray, List.set_cons_zero, List.set_cons_succ]
              refine wpAnyH_ready (rs := [24]) (by kernel_rfl) (by simp) ?_
              refine AllReadyH.cons rfl (fun K hK => ?_) ?_
              · go_simp
                refine (C2.out _).mono ?_
                rintro e w24 ⟨rfl, k24⟩
                go_simp
                refine hK.out _ _ ⟨held_step k24 hHeld.1, held_step k24 hHeld.2.1, held_step k24 hHeld.2.2.1, held_step k24 hHeld.2.2.2.1, below_step hHeld.2.2.2.2 k24⟩ (fun hHeld => ?_)
                clear hK K
                try simp only [List.getElem_toArray, List.getElem_cons_zero, List.getElem_cons_succ, Act.put, List.setIfInBounds_toArray, List.set_cons_zero, List.set_cons_succ]
                refine wpAnyH_take (i := 25) (v := ?_) rfl (by kernel_rfl) (by kernel_rfl) (by kernel_rfl) (fun _ _ _ h => h) (Or.inl ⟨by rfl, ?_⟩) hHeld ?_
                rotate_left
                · intro w hSw
                  (try dsimp only at hSw)
                  go_simp
                  try with_reducible rfl
                try simp only [List.getElem_toArray, List.getElem_cons_zero, List.getElem_cons_succ, Act.put, List.setIfInBounds_toArray, List.set_cons_zero, List.set_cons_succ]
                refine wpAnyH_take (i := 26) (v := ?_) rfl (by kernel_rfl) (by kernel_rfl) (by kernel_rfl) (fun _ _ _ h => h) (Or.inl ⟨by rfl, ?_⟩) hHeld ?_
                rotate_left
                · intro w hSw
                  (try dsimp only at hSw)
                  go_simp
                  try with_reducible rfl
                try simp only [List.getElem_toArray, List.getElem_cons_zero, List.getElem_cons_succ, Act.put, List.setIfInBounds_toArray, List.set_cons_zero, List.set_cons_succ]
                refine wpAnyH_done (by kernel_rfl) ?_ _
                refine NoPanic.normal ?_
                clear hc1 hc2 hc3 kc
                obtain ⟨bn, _, _, _, hBn⟩ := hHeld
                go_wp2
                go_roundw
                case rel =>
                  refine ⟨k + 1, y3, by omega, by go_num, rfl, ?_, ?_, bn, hBn⟩
                  · show _ = _
                    rw [edsT_next hlt, EX.out, ← HY3.out, ← HY2.out, ← HY1.out, HE.out]
                    simp [edT, List.append_assoc]
                  · have := VF.out
                    have := VT.out
                    rw [← HY3.out, ← HY2.out, ← HY1.out]
                    simp
                    omega
                case measure => simp [intOf]; omega
              exact AllReadyH.nil
            refine AllReadyH.cons rfl (fun K hK => ?_) ?_
            · go_simp
              refine (C2.out _).mono ?_
              rintro e w24 ⟨rfl, k24⟩
              go_simp
              refine hK.out _ _ ⟨held_step k24 hHeld.1, held_step k24 hHeld.2.1, held_step k24 hHeld.2.2.1, held_step k24 hHeld.2.2.2.1, below_step hHeld.2.2.2.2 k24⟩ (fun hHeld => ?_)
              clear hK K
              try simp only [List.getElem_toArray, List.getElem_cons_zero, List.getElem_cons_succ, Act.put, List.setIfInBounds_toArray, List.set_cons_zero, List.set_cons_succ]
              refine wpAnyH_ready (rs := [16]) (by kernel_rfl) (by simp) ?_
              refine AllReadyH.cons rfl (fun K hK => ?_) ?_
              · have hcx := kc _ _ (held_step k24 (held_step k7 (new1d wr 5 (.int .u8 xl))))
                go_simp
                clear hcx
                refine hK.out _ _ hHeld (fun hHeld => ?_)
                clear hK K
                try simp only [List.getElem_toArray, List.getElem_cons_zero, List.getElem_cons_succ, Act.put, List.setIfInBounds_toArray, List.set_cons_zero, List.set_cons_succ]
                refine wpAnyH_take (i := 17) (v := ?_) rfl (by kernel_rfl) (by kernel_rfl) (by kernel_rfl) (fun _ _ _ h => h) (Or.inl ⟨by rfl, ?_⟩) hHeld ?_
                rotate_left
                · intro w hSw
                  (try dsimp only at hSw)
                  go_simp
                  try with_reducible rfl
                try simp only [List.getElem_toArray, List.getElem_cons_zero, List.getElem_cons_succ, Act.put, List.setIfInBounds_toArray, List.set_cons_zero, List.set_cons_succ]
                refine wpAnyH_take (i := 25) (v := ?_) rfl (by kernel_rfl) (by kernel_rfl) (by kernel_rfl) (fun _ _ _ h => h) (Or.inl ⟨by rfl, ?_⟩) hHeld ?_
                rotate_left
                · intro w hSw
                  (try dsimp only at hSw)
                  go_simp
                  try with_reducible rfl
                try simp only [List.getElem_toArray, List.getElem_cons_zero, List.getElem_cons_succ, Act.put, List.setIfInBounds_toArray, List.set_cons_zero, List.set_cons_succ]
                refine wpAnyH_take (i := 26) (v := ?_) rfl (by kernel_rfl) (by kernel_rfl) (by kernel_rfl) (fun _ _ _ h => h) (Or.inl ⟨by rfl, ?_⟩) hHeld ?_
                rotate_left
                · intro w hSw
                  (try dsimp only at hSw)
                  go_simp
                  try with_reducible rfl
                try simp only [List.getElem_toArray, List.getElem_cons_zero, List.getElem_cons_succ, Act.put, List.setIfInBounds_toArray, List.set_cons_zero, List.set_cons_succ]
                refine wpAnyH_done (by kernel_rfl) ?_ _
                refine NoPanic.normal ?_
                clear hc1 hc2 hc3 kc
                obtain ⟨bn, _, _, _, hBn⟩ := hHeld
                go_wp2
                go_roundw
                case rel =>
                  refine ⟨k + 1, y3, by omega, by go_num, rfl, ?_, ?_, bn, hBn⟩
                  · show _ = _
                    rw [edsT_next hlt, EX.out, ← HY3.out, ← HY2.out, ← HY1.out, HE.out]
                    simp [edT, List.append_assoc]
                  · have := VF.out
                    have := VT.out
                    rw [← HY3.out, ← HY2.out, ← HY1.out]
                    simp
                    omega
                case measure => simp [intOf]; omega
              exact AllReadyH.nil
            exact AllReadyH.nil
          refine AllReadyH.cons rfl (fun K hK => ?_) ?_
          · have hcx := kc _ _ (new1d wr 5 (.int .u8 xl))
            go_simp
            clear hcx
            refine hK.out _ _ hHeld (fun hHeld => ?_)
            clear hK K
            try simp only [List.getElem_toArray, List.getElem_cons_zero, List.getElem_cons_succ, Act.put, List.setIfInBounds_toArray, List.set_cons_zero, List.set_cons_succ]
            refine wpAnyH_ready (rs := [7]) (by kernel_rfl) (by simp) ?_
            refine AllReadyH.cons rfl (fun K hK => ?_) ?_
            · go_simp
              refine (C1.out _).mono ?_
              rintro e w7 ⟨rfl, k7⟩
              go_simp
              refine hK.out _ _ ⟨held_step k7 hHeld.1, held_step k7 hHeld.2.1, held_step k7 hHeld.2.2.1, held_step k7 hHeld.2.2.2.1, below_step hHeld.2.2.2.2 k7⟩ (fun hHeld => ?_)
              clear hK K
              try simp only [List.getElem_toArray, List.getElem_cons_zero, List.getElem_cons_succ, Act.put, List.setIfInBounds_toArray, List.set_cons_zero, List.set_cons_succ]
              refine wpAnyH_take (i := 8) (v := ?_) rfl (by kernel_rfl) (by kernel_rfl) (by kernel_rfl) (fun _ _ _ h => h) (Or.inl ⟨by rfl, ?_⟩) hHeld ?_
              rotate_left
              · intro w hSw
                (try dsimp only at hSw)
                go_simp
                try with_reducible rfl
              try simp only [List.getElem_toArray, List.getElem_cons_zero, List.getElem_cons_succ, Act.put, List.setIfInBounds_toArray, List.set_cons_zero, List.set_cons_succ]
              refine wpAnyH_take (i := 17) (v := ?_) rfl (by kernel_rfl) (by kernel_rfl) (by kernel_rfl) (fun _ _ _ h => h) (Or.inl ⟨by rfl, ?_⟩) hHeld ?_
              rotate_left
              · intro w hSw
                (try dsimp only at hSw)
                go_simp
                try with_reducible rfl
              try simp only [List.getElem_toArray, List.getElem_cons_zero, List.getElem_cons_succ, Act.put, List.setIfInBounds_toArray, List.set_cons_zero, List.set_cons_succ]
              refine wpAnyH_ready (rs := [24]) (by kernel_rfl) (by simp) ?_
              refine AllReadyH.cons rfl (fun K hK => ?_) ?_
              · go_simp
                refine (C2.out _).mono ?_
                rintro e w24 ⟨rfl, k24⟩
                go_simp
                refine hK.out _ _ ⟨held_step k24 hHeld.1, held_step k24 hHeld.2.1, held_step k24 hHeld.2.2.1, held_step k24 hHeld.2.2.2.1, below_step hHeld.2.2.2.2 k24⟩ (fun hHeld => ?_)
                clear hK K
                try simp only [List.getElem_toArray, List.getElem_cons_zero, List.getElem_cons_succ, Act.put, List.setIfInBounds_toArray, List.set_cons_zero, List.set_cons_succ]
                refine wpAnyH_take (i := 25) (v := ?_) rfl (by kernel_rfl) (by kernel_rfl) (by kernel_rfl) (fun _ _ _ h => h) (Or.inl ⟨by rfl, ?_⟩) hHeld ?_
                rotate_left
                · intro w hSw
                  (try dsimp only at hSw)
                  go_simp
                  try with_reducible rfl
                try simp only [List.getElem_toArray, List.getElem_cons_zero, List.getElem_cons_succ, Act.put, List.setIfInBounds_toArray, List.set_cons_zero, List.set_cons_succ]
                refine wpAnyH_take (i := 26) (v := ?_) rfl (by kernel_rfl) (by kernel_rfl) (by kernel_rfl) (fun _ _ _ h => h) (Or.inl ⟨by rfl, ?_⟩) hHeld ?_
                rotate_left
                · intro w hSw
                  (try dsimp only at hSw)
                  go_simp
                  try with_reducible rfl
                try simp only [List.getElem_toArray, List.getElem_cons_zero, List.getElem_cons_succ, Act.put, List.setIfInBounds_toArray, List.set_cons_zero, List.set_cons_succ]
                refine wpAnyH_done (by kernel_rfl) ?_ _
                refine NoPanic.normal ?_
                clear hc1 hc2 hc3 kc
                obtain ⟨bn, _, _, _, hBn⟩ := hHeld
                go_wp2
                go_roundw
                case rel =>
                  refine ⟨k + 1, y3, by omega, by go_num, rfl, ?_, ?_, bn, hBn⟩
                  · show _ = _
                    rw [edsT_next hlt, EX.out, ← HY3.out, ← HY2.out, ← HY1.out, HE.out]
                    simp [edT, List.append_assoc]
                  · have := VF.out
                    have := VT.out
                    rw [← HY3.out, ← HY2.out, ← HY1.out]
                    simp
                    omega
                case measure => simp [intOf]; omega
              exact AllReadyH.nil
            exact AllReadyH.nil
          exact AllReadyH.nil
        exact AllReadyH.nil
      · obtain rfl : k = es.length := by omega
        have hbe : bs = gText sn es := by
          have := HE.out
          rw [List.take_of_length_le (Nat.le_refl _)] at this
          exact this
        subst hbe
        go_wp2
        go_ret2
        exact ⟨rfl, hB⟩
end Go.Proofs.Ytnhanakeijplcaa
