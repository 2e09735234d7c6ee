/-
  Slices that are built and appended to, over the abstract heap.
-/
import Derived.Test.YtaeofoimlhmdoaaDoorAbsU
set_option linter.unusedSimpArgs false
set_option linter.unusedVariables false
namespace Go.Abs
open Go.RowKit

section
variable {P : Program} {H : AH}

/-- What an append asks of a slice's type: the element's type, cells, bytes, the zero value's cells. -/
def appFact (P : Program) (t : TypeId) : Option (Nat × Nat × Nat × Nat) :=
  match P.underlying t with
  | some (.slice e) => match P.info? e with
    | some inf => match inf.zero with
      | some z => some (e, inf.size, inf.bytes, z.cells.size)
      | none => none
    | none => none
  | _ => none

theorem appFact_out {t : TypeId} {e sz by_ zs : Nat} (h : appFact P t = some (e, sz, by_, zs)) :
    ∃ inf z, P.underlying t = some (.slice e) ∧ P.info? e = some inf ∧ inf.zero = some z ∧ inf.size = sz ∧ inf.bytes = by_ ∧ z.cells.size = zs := by
  unfold appFact at h
  split at h
  · rename_i e' hu
    split at h
    · rename_i inf hi
      split at h
      · rename_i z hz
        simp only [Option.some.injEq, Prod.mk.injEq] at h
        obtain ⟨rfl, rfl, rfl, rfl⟩ := h
        exact ⟨inf, z, hu, hi, hz, rfl, rfl, rfl⟩
      · cases h
    · cases h
  · cases h

theorem append_nil {t : TypeId} {e sz by_ m : Nat} {x : Value} {news : List Value} (hA : appFact P t = some (e, sz, by_, sz)) (hs : 0 < sz) (hx : aCellsOf H sz x = some news) (hlen : aSliceLen x = m) (hm : m ≠ 0)
    (h1 : news.all Value.oneCell' = true) (hb1 : m * by_ ≤ 140737488355328) (hb2 : m ≤ 140737488355328) :
    runS P H (.append t (.slice none 0 0) x) = some (.new H (.cells false news) fun b => .slice (some ⟨b, 0, none⟩) m sz) := by
  obtain ⟨inf, z, hu, hi, hz, rfl, rfl, hzs⟩ := appFact_out hA
  simp only [runS, aAppend, hu, hi, hz, hlen, hx, h1, if_true]
  rw [if_pos ⟨hs, hzs, by simpa [aSliceLen] using hb1, by simpa [aSliceLen] using hb2⟩, if_neg hm]

theorem append_row {t : TypeId} {e sz by_ m n i b : Nat} {x : Value} {cs news : List Value} (hA : appFact P t = some (e, sz, by_, sz)) (hs : 0 < sz) (hb : H b = some (.cells false cs)) (hfit : i + n * sz ≤ cs.length)
    (hx : aCellsOf H sz x = some news) (hlen : aSliceLen x = m) (hm : m ≠ 0) (h1 : news.all Value.oneCell' = true) (hb1 : (n + m) * by_ ≤ 140737488355328) (hb2 : n + m ≤ 140737488355328) :
    runS P H (.append t (.slice (some ⟨b, i, none⟩) n sz) x) = some (.new (H.del b) (.cells false ((cs.take (i + n * sz)).drop i ++ news)) fun nb => .slice (some ⟨nb, 0, none⟩) (n + m) sz) := by
  obtain ⟨inf, z, hu, hi, hz, rfl, rfl, hzs⟩ := appFact_out hA
  simp only [runS, aAppend, hu, hi, hz, hlen, hx, h1, if_true]
  rw [if_pos ⟨hs, hzs, by simpa [aSliceLen] using hb1, by simpa [aSliceLen] using hb2⟩]
  simp only [hb]
  rw [if_pos ⟨trivial, hfit⟩, if_neg hm]

theorem cellsOf_row {ro : Bool} {b n sz : Nat} {cs : List Value} (hb : H b = some (.cells ro cs)) (hl : cs.length = n * sz) (hn : n ≠ 0) : aCellsOf H sz (.slice (some ⟨b, 0, none⟩) n sz) = some cs := by
  simp only [aCellsOf, if_neg hn, hb]
  rw [if_pos ⟨trivial, by omega⟩]
  simp [hl, List.take_of_length_le]

theorem AH.le_del {H H' : AH} {b : Nat} (hl : H.le H') (h : H b = none) : H.le (H'.del b) := fun n o e => by
  have : n ≠ b := by rintro rfl; rw [h] at e; cases e
  simp [AH.del, this, hl n o e]
theorem del_ne {a b : Nat} (h : a ≠ b) : (H.del b) a = H a := by simp [AH.del, h]
theorem AH.fresh_ne {m n : Nat} {o : AObj} (h : H m = some o) (hn : H n = none) : m ≠ n := by
  rintro rfl; rw [h] at hn; cases hn
end
end Go.Abs
