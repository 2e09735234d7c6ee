/-
  A part of the proof: contracts of single functions over the abstract heap.
-/
import Derived.Test.YtaeofoimlhmdoaaDoorTLa
namespace Go.Proofs.TD
open Go Go.Abs
set_option maxRecDepth 100000
set_option linter.unusedVariables false
set_option linter.unusedSimpArgs false

theorem txt_le (e k : Int) (w : Nat) (hw : w < 18446744073709551616) : (txt e k w).length ≤ 20 := by
  unfold txt
  have h1 := ename_le e
  have h2 := decDigits_le w hw
  have h3 := hexLow_length 16 w
  split
  · split
    · simp; omega
    · split
      · exact h2
      · split
        · simp [h3]
        · simp
  · simp

/-- There and back, in plain words. -/
theorem txt_empty {e k : Int} {w : Nat} : txt e k w = [] ↔ right e k w = false := by
  unfold txt
  cases h : right e k w with
  | false => simp
  | true =>
    simp only [if_true]
    split
    · simp
    · split
      · simp [dec_ne_nil]
      · split <;> simp

theorem digs_head {c : UInt8} {l : List UInt8} {a u : Nat} (h : digs a (c :: l) = some u) : 48 ≤ c ∧ c ≤ 57 := by
  unfold digs at h
  split at h
  · assumption
  · cases h

theorem errOf_none {c : UInt8} {l : List UInt8} (hc : c ≠ 33) : ∀ f e : Nat, errOf (c :: l) f e = none := by
  intro f
  induction f with
  | zero => intro e; rfl
  | succ f ih => intro e; unfold errOf; rw [if_neg (by intro h; simp at h; exact hc h.1)]; exact ih _

theorem parse_err : ∀ e : Fin 10, e.val ≠ 0 → parse20 (33 :: ename (e.val : Int)) = (((e.val : Int), 0, 0), 0) := by decide

theorem parse_txt {e k : Int} {w : Nat} (hw : w < 18446744073709551616) (h : right e k w = true) : parse20 (txt e k w) = ((e, k, w), 0) := by
  unfold txt
  rw [if_pos h]
  unfold right at h
  split at h
  · rename_i he
    rw [if_pos he]
    simp only [decide_eq_true_eq] at h
    obtain ⟨h1, h2, rfl, h3⟩ := h
    have hw0 : w = 0 := by omega
    subst hw0
    have := parse_err ⟨e.toNat, by omega⟩ (by show e.toNat ≠ 0; omega)
    simp only [show ((e.toNat : Nat) : Int) = e by omega] at this
    exact this
  · rename_i he
    rw [if_neg he]
    have he' : e = 0 := by omega
    subst he'
    simp only [decide_eq_true_eq] at h
    split
    · rename_i hk
      subst hk
      have hd := digs_dec w hw
      have hne := dec_ne_nil w
      have h20 := decDigits_le w hw
      generalize hl : Lib.decDigits w = l at hd hne h20
      cases l with
      | nil => exact absurd rfl hne
      | cons c r =>
        have hc := digs_head hd
        have c1 : c ≠ 33 := by rintro rfl; exact absurd hc.1 (by decide)
        have c2 : c ≠ 35 := by rintro rfl; exact absurd hc.1 (by decide)
        have c3 : c ≠ 110 := by rintro rfl; exact absurd hc.2 (by decide)
        unfold parse20
        rw [if_neg (by intro e; simp at e; exact c3 e.1), if_neg (by simpa using c2), errOf_none c1, tail20_some (by omega) (by simp) hd, if_pos hl]
    · split
      · rename_i hk
        subst hk
        unfold parse20
        simp [ph_hexLow w hw]
      · have hk : k = 0 := by omega
        have hw0 : w = 0 := by omega
        subst hk; subst hw0
        decide

theorem parse_back {l : List UInt8} (h : (parse20 l).2 = 0) : txt (parse20 l).1.1 (parse20 l).1.2.1 (parse20 l).1.2.2 = l ∧ right (parse20 l).1.1 (parse20 l).1.2.1 (parse20 l).1.2.2 = true := by
  have ht : txt (parse20 l).1.1 (parse20 l).1.2.1 (parse20 l).1.2.2 = l := by
    rw [← law20] at h ⊢
    unfold parse8 at h ⊢
    split at h
    · rename_i hg
      rw [if_pos hg]; exact hg
    · simp at h
  refine ⟨ht, ?_⟩
  cases hr : right (parse20 l).1.1 (parse20 l).1.2.1 (parse20 l).1.2.2 with
  | true => rfl
  | false =>
    rw [txt_empty.2 hr] at ht
    subst ht
    rw [show parse20 [] = ((0, 0, 0), 2) by decide] at h
    cases h
end Go.Proofs.TD
