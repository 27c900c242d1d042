/- Maps compared with nil. -/
import Derived.Test.YtlpmapeojecenaaFwMem
namespace Go.Fw
open Go Go.RowKit
variable {P : Program}

theorem equal_nil_map {t k e : TypeId} (hu : P.underlying t = some (.map k e)) (p : Option Nat) (w : World) :
    (Op.equal t (.map p) (.map none)).run P w = .ok p.isNone w := by
  unfold Op.equal
  rw [show Op.maxDepth = 9999 + 1 from rfl]
  unfold Op.equalIn
  cases p <;> simp [run_und_some hu]

theorem map_eql {t k e : TypeId} (hu : P.underlying t = some (.map k e)) (x y : Operand) (p : Option Nat) (w : World) :
    (do eqGuard .eql t x y (.map p) (.map none); binOp .eql t (.map p) (.map none)).run P w = .ok (.bool p.isNone) w := by
  have hg : (eqGuard .eql t x y (.map p) (.map none)).run P w = .ok () w := by simp [eqGuard]
  rw [Sem.run_bind, hg, Result.andThen_ok]
  show (do pure (Value.bool (← Op.equal t (.map p) (.map none)))).run P w = _
  rw [Sem.run_bind, equal_nil_map hu]
  rfl
theorem map_neq {t k e : TypeId} (hu : P.underlying t = some (.map k e)) (x y : Operand) (p : Option Nat) (w : World) :
    (do eqGuard .neq t x y (.map p) (.map none); binOp .neq t (.map p) (.map none)).run P w = .ok (.bool (!p.isNone)) w := by
  have hg : (eqGuard .neq t x y (.map p) (.map none)).run P w = .ok () w := by simp [eqGuard]
  rw [Sem.run_bind, hg, Result.andThen_ok]
  show (do pure (Value.bool (!(← Op.equal t (.map p) (.map none))))).run P w = _
  rw [Sem.run_bind, equal_nil_map hu]
  rfl
end Go.Fw
