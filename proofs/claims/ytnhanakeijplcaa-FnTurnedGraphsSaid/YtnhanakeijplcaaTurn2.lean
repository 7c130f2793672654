/- A right graph turned: right too, of the same size, turned back it is the graph. Plain; no program. -/
import Derived.Test.YtnhanakeijplcaaTurnE
import Derived.Test.YtnhanakeijplcaaNextOf
namespace Go.Proofs.Ytnhanakeijplcaa

theorem srt_ex (es : List Ed) : ∃ fs, SortedE es fs := by
  refine ⟨es.mergeSort fun x y => !(edLess y x), List.mergeSort_perm _ _, ?_⟩
  refine (List.pairwise_mergeSort (le := fun x y => !(edLess y x)) ?_ ?_ _).imp ?_
  · intro a b c h1 h2
    simp only [Bool.not_eq_true'] at *
    exact edLess_ntrans h2 h1
  · intro a b
    simp only [Bool.or_eq_true, Bool.not_eq_true']
    cases h : edLess b a with
    | false => exact .inl rfl
    | true => exact .inr (edLess_asymm h)
  · intro a b h
    simpa using h
theorem tu_perm {s : Int} {es : List Ed} (hg : GOk s es) : (tuL s es).Perm (es.map trE) := by
  obtain ⟨fs, hf⟩ := srt_ex (es.map trE)
  rw [← tuL_of hg hf]
  exact hf.1
theorem tu_len {s : Int} {es : List Ed} (hg : GOk s es) : (tuL s es).length = es.length := by
  rw [(tu_perm hg).length_eq]
  simp
theorem tr_ok {s : Int} {e : Ed} (h : EdOk s e) : EdOk s (trE e) := ⟨h.2.1, h.1, h.2.2⟩
theorem tu_asc {s : Int} {es : List Ed} (hg : GOk s es) : Asc (tuL s es) := by
  unfold tuL
  rw [PP_yes hg]
  exact (putsE_go _ [] List.Pairwise.nil).1
theorem tu_ok {s : Int} {es : List Ed} (hg : GOk s es) : GOk s (tuL s es) := by
  have h := gOk_iff.1 hg
  refine gOk_iff.2 ⟨h.1, by rw [tu_len hg]; exact h.2.1, fun e he => ?_, tu_asc hg⟩
  obtain ⟨y, hy, rfl⟩ := List.mem_map.1 ((tu_perm hg).mem_iff.1 he)
  exact tr_ok (h.2.2.1 y hy)
theorem tr_tr (e : Ed) : trE (trE e) = e := rfl
theorem tu_tu {s : Int} {es : List Ed} (hg : GOk s es) : tuL s (tuL s es) = es := by
  refine asc_ext (tu_asc (tu_ok hg)) (gOk_iff.1 hg).2.2.2 fun y => ?_
  rw [(tu_perm (tu_ok hg)).mem_iff, List.mem_map]
  constructor
  · rintro ⟨z, hz, rfl⟩
    obtain ⟨u, hu, rfl⟩ := List.mem_map.1 ((tu_perm hg).mem_iff.1 hz)
    rw [tr_tr]
    exact hu
  · intro hy
    exact ⟨trE y, (tu_perm hg).mem_iff.2 (List.mem_map.2 ⟨y, hy, rfl⟩), tr_tr y⟩
theorem tu_next {s : Int} {es : List Ed} {e : Ed} (hg : GOk s es) (he : e ∈ es) : decide (e.f ∈ setI (nextRaw e.t e.l (tuL s es))) = true := by
  rw [decide_eq_true_eq, setI_mem]
  unfold nextRaw
  refine List.mem_map.2 ⟨trE e, List.mem_filter.2 ⟨(tu_perm hg).mem_iff.2 (List.mem_map.2 ⟨e, he, rfl⟩), ?_⟩, rfl⟩
  simp [nextP, trE]
end Go.Proofs.Ytnhanakeijplcaa
