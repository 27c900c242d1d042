/- Layer 1: which numbers the document calls literals. -/
import Derived.Test.YtlpmapeojecenaaLit0
namespace Go.Proofs.Ytlpmapeojecenaa.W
open Go Go.Fw Go.RowKit

theorem refLit_ok (l : Int) (w : World) : Calls Try.prog fathomref01_Lit.id #[.int .i64 l] w fun e w' => e = .returned (.bool (litB l)) ∧ Grow w w' := by
  refine fathomref01_Lit.calls ?_
  refine cnd_i (fun h1 => cnd_i (fun h2 => ⟨?_, Mod.refl w⟩) (fun h2 => ⟨?_, Mod.refl w⟩)) (fun h1 => ⟨?_, Mod.refl w⟩)
  · simp only [bne_iff_ne, ne_eq, decide_eq_true_eq, ge_iff_le] at h1 h2
    congr 2
    unfold litB
    exact decide_eq_decide.2 (by omega)
  · simp only [bne_iff_ne, ne_eq, decide_eq_false_iff_not, ge_iff_le] at h1 h2
    congr 2
    unfold litB
    exact (decide_eq_false (by omega)).symm
  · simp only [bne_eq_false_iff_eq] at h1
    congr 2
    unfold litB
    exact (decide_eq_false (by omega)).symm

end Go.Proofs.Ytlpmapeojecenaa.W
