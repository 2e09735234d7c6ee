/-
  A part of the proof: contracts of single functions over the abstract heap.
-/
import Derived.Test.YtaeofoimlhmdoaaDoorTDm
namespace Go.Proofs.TD
open Go Go.Abs
open Go.Proofs (Tryd.prog)
set_option maxRecDepth 100000
set_option linter.unusedVariables false
set_option linter.unusedSimpArgs false
variable {H : AH}

/-- A parse, kept in a place of its own: what goes on behind it. -/
theorem keepAns {K : Value → AH → Prop} {Q : Value → AH → Prop} {e k w : Int} (hK : ∀ b H', H.le H' → H b = none → H' b = some (.cells false [.int .i64 e, .int .i64 k, .int .u64 w]) → K (.pointer (some ⟨b, 0, none⟩)) H') :
    stepV p H (runS p H (.alloc 26)) (fun x H1 => stepV p H1 (runS p H1 (.store 26 x (ans e k w))) (fun _ H2 => K x H2) Q) Q := by
  simp only [alloc26, stepV_new, st26, ans]
  intro b hb
  rw [aSt_ans upd_self]
  simp only [stepV_val, upd_upd]
  exact hK b _ (AH.le_upd hb) hb upd_self
end Go.Proofs.TD
