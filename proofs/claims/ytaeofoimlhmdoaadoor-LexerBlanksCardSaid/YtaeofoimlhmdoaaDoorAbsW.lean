/-
  Rows of records.
-/
import Derived.Test.YtaeofoimlhmdoaaDoorAbsV
set_option linter.unusedSimpArgs false
set_option linter.unusedVariables false
namespace Go.Abs
/-- Rows of records. -/
theorem rec_length {α : Type} {g : α → List Value} {sz : Nat} (hg : ∀ x, (g x).length = sz) (l : List α) : (l.flatMap g).length = l.length * sz := by
  induction l with
  | nil => simp
  | cons x l ih => simp [hg, ih, Nat.succ_mul, Nat.add_comm]
theorem rec_drop {α : Type} {g : α → List Value} {sz : Nat} (hg : ∀ x, (g x).length = sz) (l : List α) (i : Nat) (hi : i < l.length) : (l.flatMap g).drop (i * sz) = g l[i] ++ (l.drop (i + 1)).flatMap g := by
  induction l generalizing i with
  | nil => simp at hi
  | cons x l ih =>
    cases i with
    | zero => simp
    | succ i =>
      have := ih i (by simpa using hi)
      simp only [List.flatMap_cons, List.getElem_cons_succ, List.drop_succ_cons]
      rw [List.drop_append, List.drop_eq_nil_of_le (by rw [hg, Nat.succ_mul]; omega), hg, Nat.succ_mul, Nat.add_sub_cancel, List.nil_append]
      exact this
theorem rec_at {α : Type} {g : α → List Value} {sz : Nat} (hg : ∀ x, (g x).length = sz) (l : List α) (i k : Nat) (hi : i < l.length) (hk : k < sz) : (l.flatMap g)[i * sz + k]? = (g l[i])[k]? := by
  have : (l.flatMap g)[i * sz + k]? = ((l.flatMap g).drop (i * sz))[k]? := by rw [List.getElem?_drop]
  rw [this, rec_drop hg l i hi, List.getElem?_append_left (by rw [hg]; exact hk)]
theorem rec_take {α : Type} {g : α → List Value} {sz : Nat} (hg : ∀ x, (g x).length = sz) (l : List α) (i : Nat) (hi : i < l.length) : ((l.flatMap g).drop (i * sz)).take sz = g l[i] := by
  rw [rec_drop hg l i hi, List.take_append_of_le_length (by rw [hg]; omega), List.take_of_length_le (by rw [hg]; omega)]
end Go.Abs
