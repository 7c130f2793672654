/- Edges turned round and sorted: by insertion, and by sorting. Plain; no program. -/
import Derived.Test.YtnhanakeijplcaaSortE
namespace Go.Proofs.Ytnhanakeijplcaa

def trE (e : Ed) : Ed := ⟨e.t, e.l, e.f⟩
def putsE (es : List Ed) : List Ed := es.foldl putE []
noncomputable def tuL (s : Int) (es : List Ed) : List Ed := if PP (GOk s es) then putsE (es.map trE) else es
theorem putsE_go : ∀ (es out : List Ed), Asc out → Asc (es.foldl putE out) ∧ ∀ y, y ∈ es.foldl putE out ↔ y ∈ out ∨ y ∈ es
  | [], out, h => ⟨h, fun y => by simp⟩
  | z :: es, out, h => by
    obtain ⟨h1, h2⟩ := putsE_go es (putE out z) (asc_put h z)
    refine ⟨h1, fun y => ?_⟩
    rw [List.foldl_cons, h2, mem_put, List.mem_cons]
    constructor
    · rintro ((h | h) | h)
      · exact .inr (.inl h)
      · exact .inl h
      · exact .inr (.inr h)
    · rintro (h | h | h)
      · exact .inl (.inr h)
      · exact .inl (.inl h)
      · exact .inr h
theorem asc_nodup {es : List Ed} (h : Asc es) : es.Pairwise (· ≠ ·) :=
  List.Pairwise.imp (fun {a b} (hab : edLess a b = true) (e : a = b) => by subst e; rw [edLess_irrefl] at hab; cases hab) h
theorem tr_inj {a b : Ed} (h : trE a = trE b) : a = b := by
  obtain ⟨af, al, at_⟩ := a
  obtain ⟨bf, bl, bt⟩ := b
  simp only [trE, Ed.mk.injEq] at h ⊢
  exact ⟨h.2.2, h.2.1, h.1⟩
theorem sorted_puts {es fs : List Ed} (hd : es.Pairwise (· ≠ ·)) (h : SortedE es fs) : fs = putsE es := by
  obtain ⟨hp, hs⟩ := h
  have hf : fs.Pairwise (· ≠ ·) := (hp.symm.pairwise_iff (fun {_ _} h e => h e.symm)).1 hd
  have ha : Asc fs := (hs.and hf).imp fun {a b} hab => by
    rcases edLess_tri a b with h | h | h
    · exact h
    · exact absurd h hab.2
    · rw [hab.1] at h; cases h
  obtain ⟨h1, h2⟩ := putsE_go es [] List.Pairwise.nil
  refine asc_ext ha h1 fun y => ?_
  refine Iff.trans ?_ (h2 y).symm
  simp [hp.mem_iff]
theorem tr_nodup {es : List Ed} (h : Asc es) : (es.map trE).Pairwise (· ≠ ·) :=
  List.pairwise_map.2 ((asc_nodup h).imp fun hab e => hab (tr_inj e))
theorem tuL_of {s : Int} {es fs : List Ed} (hg : GOk s es) (h : SortedE (es.map trE) fs) : fs = tuL s es := by
  unfold tuL
  rw [PP_yes hg]
  exact sorted_puts (tr_nodup (gOk_iff.1 hg).2.2.2) h
theorem tuL_no {s : Int} {es : List Ed} (hg : ¬ GOk s es) : tuL s es = es := by
  unfold tuL
  rw [PP_no hg]
  rfl
end Go.Proofs.Ytnhanakeijplcaa
