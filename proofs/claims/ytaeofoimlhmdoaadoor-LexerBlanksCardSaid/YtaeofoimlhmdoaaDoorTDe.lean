/-
  A part of the proof: contracts of single functions over the abstract heap.
-/
import Derived.Test.YtaeofoimlhmdoaaDoorTDd
import Derived.KernelRfl
import Derived.Test.YtaeofoimlhmdoaaDoorProg
set_option linter.unusedVariables false
set_option linter.unusedSimpArgs false
set_option maxRecDepth 100000

namespace Go.Proofs.TD
open Go Go.Abs
open Go.Proofs (Tryd.prog)
variable {H : AH} {m i : Nat} {cs : List Value} {n : Int}
/-- An answer's text. -/
def txt (e k : Int) (w : Nat) : List UInt8 :=
  if right e k w then if e ≠ 0 then 33 :: ename e else if k = 1 then Lib.decDigits w else if k = 2 then 35 :: hexLow 16 w else [110, 105, 108] else []
theorem ename_le (e : Int) : (ename e).length ≤ 7 := by
  unfold ename
  repeat (first | (split; · simp) | (simp; done))
theorem st26 {v : Value} : runS p H (.store 26 (.pointer (some ⟨m, i, none⟩)) v) = aSt H m i 3 v := store_of (by kernel_rfl)

theorem g13 {e k : Int} {w : Nat} (hw : w < 18446744073709551616) : Gives p 13 [ans e k w] H (bS (txt e k w)) := by
  refine .of (d13 ?_)
  simp only [v13, ans]
  simp [fa26_0, fa26_1, fa26_2, part22, part23, part24, part26, known, Value.cells]
  intro b hb
  have hle := fun o => AH.le_upd (o := o) hb
  refine g11.step ?_
  simp only [un_not, stepV_val, selV_bool]
  unfold txt
  by_cases hr : right e k w
  · simp only [hr, Bool.not_true, Bool.false_eq_true, if_false, if_true]
    by_cases he : e = 0
    · simp only [he, not_true_eq_false, if_false, ne_eq]
      simp
      by_cases h1 : k = 1
      · simp only [h1, if_true]
        refine (g24 hw).step ?_
        simp [hle]
      · by_cases h2 : k = 2
        · simp only [h2]
          simp
          refine (g28 hw).step ?_
          rw [bs_add (by simp [hexLow_length])]
          simp [hle]
        · simp [h1, h2, hle]
    · simp [he]
      refine g23.step ?_
      rw [bs_add (by have := ename_le e; simp; omega)]
      simp [hle]
  · simp [hr, hle]
end Go.Proofs.TD
