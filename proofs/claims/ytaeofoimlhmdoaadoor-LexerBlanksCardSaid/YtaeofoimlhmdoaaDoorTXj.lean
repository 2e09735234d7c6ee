/-
  A part of the proof: contracts of single functions over the abstract heap.
-/
import Derived.Test.YtaeofoimlhmdoaaDoorTXi
namespace Go.Proofs.TD
open Go Go.Abs
open Go.Proofs (Tryd.prog)
set_option maxRecDepth 100000
set_option linter.unusedVariables false
set_option linter.unusedSimpArgs false
variable {H : AH}

theorem tokCs_drop (l : List TokR) (i : Nat) (hi : i < l.length) : (tokCs l).drop (i * 4) = tokCR l[i] ++ tokCs (l.drop (i + 1)) := by
  induction l generalizing i with
  | nil => simp at hi
  | cons x l ih =>
    cases i with
    | zero => simp [tokCs]
    | succ i =>
      have := ih i (by simpa using hi)
      simp only [tokCs, List.flatMap_cons, List.getElem_cons_succ, List.drop_succ_cons] at this ⊢
      rw [List.drop_append]
      have h4 : (tokCR x).length = 4 := rfl
      rw [List.drop_eq_nil_of_le (by rw [h4]; omega), h4, show (i + 1) * 4 - 4 = i * 4 by omega, List.nil_append]
      exact this
theorem tokCs_at (l : List TokR) (i k : Nat) (hi : i < l.length) (hk : k < 4) : (tokCs l)[i * 4 + k]? = (tokCR l[i])[k]? := by
  have h := tokCs_drop l i hi
  have : (tokCs l)[i * 4 + k]? = ((tokCs l).drop (i * 4))[k]? := by rw [List.getElem?_drop]
  rw [this, h, List.getElem?_append_left (by simpa [tokCR, tokC] using hk)]

theorem u33 : p.underlying 33 = some (.slice 43) := by kernel_rfl
theorem u36 : p.underlying 36 = some (.slice 45) := by kernel_rfl
theorem len33 {H : AH} {v : Value} {l : List TokR} (h : IsToks H v l) : runS p H (.len 33 v) = some (.val (.int .i64 l.length) H) := by
  rcases h with ⟨rfl, rfl⟩ | ⟨_, b, rfl, _⟩
  · exact len_nil u33
  · exact len_slice u33
theorem len36 {H : AH} {v : Value} {l : List TokR} (h : IsToks H v l) : runS p H (.len 36 v) = some (.val (.int .i64 l.length) H) := by
  rcases h with ⟨rfl, rfl⟩ | ⟨_, b, rfl, _⟩
  · exact len_nil u36
  · exact len_slice u36
theorem ia33 {b n i : Nat} (hi : i < n) : runS p H (.indexAddr 33 (.slice (some ⟨b, 0, none⟩) n 4) (.int .i64 (i : Nat))) = some (.val (.pointer (some ⟨b, i * 4, none⟩)) H) := by
  rw [indexAddr_sl (sz := 4) u33 (by kernel_rfl), if_pos (by omega)]
  simp
theorem ia36 {b n i : Nat} (hi : i < n) : runS p H (.indexAddr 36 (.slice (some ⟨b, 0, none⟩) n 4) (.int .i64 (i : Nat))) = some (.val (.pointer (some ⟨b, i * 4, none⟩)) H) := by
  rw [indexAddr_sl (sz := 4) u36 (by kernel_rfl), if_pos (by omega)]
  simp
theorem eld_k {b i : Nat} {l : List TokR} {ro : Bool} (h : H b = some (.cells ro (tokCs l))) (hi : i < l.length) : runS p H (.load 3 (.pointer (some ⟨b, i * 4, none⟩))) = some (.val (.int .i64 l[i].1.1) H) := by
  rw [Go.Abs.run_load, h]; simp only [part3']; rw [show i * 4 = i * 4 + 0 from rfl, tokCs_at l i 0 hi (by omega)]; rfl
theorem eld_t {b i : Nat} {l : List TokR} {ro : Bool} (h : H b = some (.cells ro (tokCs l))) (hi : i < l.length) : runS p H (.load 9 (.pointer (some ⟨b, i * 4 + 1, none⟩))) = some (.val (bS l[i].1.2.1) H) := by
  rw [Go.Abs.run_load, h]; simp only [part9']; rw [tokCs_at l i 1 hi (by omega)]; rfl
theorem eld_u {b i : Nat} {l : List TokR} {ro : Bool} (h : H b = some (.cells ro (tokCs l))) (hi : i < l.length) : runS p H (.load 24 (.pointer (some ⟨b, i * 4 + 2, none⟩))) = some (.val (.int .u64 l[i].1.2.2) H) := by
  rw [Go.Abs.run_load, h]; simp only [part24']; rw [tokCs_at l i 2 hi (by omega)]; rfl
theorem eld_f {b i : Nat} {l : List TokR} {ro : Bool} (h : H b = some (.cells ro (tokCs l))) (hi : i < l.length) : runS p H (.load 3 (.pointer (some ⟨b, i * 4 + 3, none⟩))) = some (.val (.int .i64 l[i].2) H) := by
  rw [Go.Abs.run_load, h]; simp only [part3']; rw [tokCs_at l i 3 hi (by omega)]; rfl
theorem eld43 {b i : Nat} {l : List TokR} {ro : Bool} (h : H b = some (.cells ro (tokCs l))) (hi : i < l.length) : runS p H (.load 43 (.pointer (some ⟨b, i * 4, none⟩))) = some (.val (tokV l[i].1.1 l[i].1.2.1 l[i].1.2.2 l[i].2) H) := by
  rw [Go.Abs.run_load, h]; simp only [part43]
  rw [if_pos (by rw [tokCs_length]; omega), tokCs_drop l i hi, List.take_append_of_le_length (by simp [tokCR, tokC])]
  rfl

/-- same -/
theorem g17 {v v' : Value} {l : List TokR} (h : IsToks H v l) (h' : IsToks H v' l) (hl : l.length < 1000000) : Gives p 17 [v, v'] H (.bool true) := by
  refine .of (d17 ?_)
  simp only [v17]
  simp -implicitDefEqProofs only [k_real, q_real, len33 h, len36 h', stepV_val, bin_neq, selV_bool, decide_eq_true_eq, Bool.false_eq_true, if_false, ne_eq, not_true_eq_false]
  refine ⟨fun n xs H' => ∃ j : Nat, j ≤ l.length ∧ n = l.length - j ∧ xs = [v, v', .int .i64 (j : Nat)] ∧ H' = H, ⟨_, 0, by omega, rfl, rfl, rfl⟩, ?_⟩
  rintro n x1 x2 x3 H1 ⟨j, hj, rfl, hx, rfl⟩
  simp only [List.cons.injEq, and_true] at hx
  obtain ⟨rfl, rfl, rfl⟩ := hx
  simp -implicitDefEqProofs only [len33 h, stepV_val, bin_lss, selV_bool, decide_eq_true_eq, Bool.false_eq_true, if_false]
  by_cases hjl : j < l.length
  · rw [if_pos (by omega)]
    rcases h with ⟨rfl, rfl⟩ | ⟨hne, b, rfl, hb⟩
    · simp at hjl
    rcases h' with ⟨rfl, rfl⟩ | ⟨_, b', rfl, hb'⟩
    · simp at hjl
    simp -implicitDefEqProofs only [ia33 hjl, ia36 hjl, stepQ_val, fa43_0, fa43_1, fa43_2, fa43_3, fa45_0, fa45_1, fa45_2, fa45_3, eld_k hb hjl, eld_k hb' hjl, eld_t hb hjl, eld_t hb' hjl, eld_u hb hjl, eld_u hb' hjl, eld_f hb hjl, eld_f hb' hjl,
      bin_neq, bs_neq, ne_eq, not_true_eq_false, decide_false, selV_false, stepV_val, add1 (show j < 9223372036854775807 by omega)]
    exact ⟨_, by omega, j + 1, by omega, rfl, by first | rfl | trivial, by first | rfl | trivial⟩
  · rw [if_neg (by omega)]
    exact ⟨rfl, AH.le_refl _⟩

theorem beq_bS {a b : List UInt8} : ((⟨a.toArray⟩ : ByteArray) == ⟨b.toArray⟩) = decide (a = b) := by
  show ((a.toArray : Array UInt8) == b.toArray) = _
  by_cases h : a = b
  · subst h; simp
  · simp [h]
theorem prun_eqbS {d : Nat} {t : TypeId} {a b : List UInt8} (h : p.underlying t = some .string) : prun p (Op.equalIn (d+1) t (bS a) (bS b)) = some (decide (a = b)) := by
  unfold Op.equalIn
  rw [prun_bind', prun_underlying h]
  simp only [Option.bind_some, bS, prun_pure, beq_bS]
theorem u43 : ∃ e, p.underlying 43 = some (.struct #[{ name := "Kind", type := 3, offset := 0, embedded := false, tag := "", pkgPath := "", byteOffset := 0 }, { name := "Text", type := 9, offset := 1, embedded := false, tag := "", pkgPath := "", byteOffset := 8 }, { name := "Num", type := 24, offset := 2, embedded := false, tag := "", pkgPath := "", byteOffset := 24 }, { name := "From", type := 3, offset := 3, embedded := false, tag := "", pkgPath := "", byteOffset := 32 }]) ∧ e = 1 := ⟨1, by kernel_rfl, rfl⟩
theorem u3 : p.underlying 3 = some (.int .i64) := by kernel_rfl
theorem eqt {d : Nat} {k f u k' f' u' : Int} {t t' : List UInt8} : prun p (Op.equalIn (d+2) 43 (.agg #[.int .i64 k, bS t, .int .u64 u, .int .i64 f]) (.agg #[.int .i64 k', bS t', .int .u64 u', .int .i64 f'])) = some (decide (k = k' ∧ t = t' ∧ u = u' ∧ f = f')) := by
  obtain ⟨_, hu, _⟩ := u43
  unfold Op.equalIn
  rw [prun_bind', prun_underlying hu]
  have hs : p.stoodInHeld 43 = false := by kernel_rfl
  simp only [Option.bind_some]
  rw [prun_bind', show prun p program = some p from rfl]
  simp only [Option.bind_some, hs]
  by_cases h1 : k = k' <;> by_cases h2 : t = t' <;> by_cases h3 : u = u' <;> by_cases h4 : f = f' <;>
    simp [prun_bind', prun_pure, prun_eqInt u3, prun_eqInt u24, prun_eqbS u9, prun_part u3 rfl, prun_part u9 rfl, prun_part u24 rfl, prun_ite, h1, h2, h3, h4]
theorem g43 : p.eqGuardType p.depth 43 = false := by kernel_rfl
theorem eql43' {k f u k' f' u' : Int} {t t' : List UInt8} {e : Bool} : runS p H (.bin .eql 43 e (.agg #[.int .i64 k, bS t, .int .u64 u, .int .i64 f]) (.agg #[.int .i64 k', bS t', .int .u64 u', .int .i64 f'])) = some (.val (.bool (decide (k = k' ∧ t = t' ∧ u = u' ∧ f = f'))) H) := by
  have h1 : closed (.agg #[.int .i64 k, bS t, .int .u64 u, .int .i64 f]) = true := rfl
  have h2 : closed (.agg #[.int .i64 k', bS t', .int .u64 u', .int .i64 f']) = true := rfl
  simp only [runS, aBin, h1, h2, aPure, eqGuard, binOp, Op.equal, Op.maxDepth, prun_bind', eqt, show prun p program = some p from rfl, Option.bind_some, g43]
  simp [prun_pure, closed_bool, prun_bind', show prun p program = some p from rfl, g43, eqt]
theorem neq43' {k f u k' f' u' : Int} {t t' : List UInt8} {e : Bool} : runS p H (.bin .neq 43 e (.agg #[.int .i64 k, bS t, .int .u64 u, .int .i64 f]) (.agg #[.int .i64 k', bS t', .int .u64 u', .int .i64 f'])) = some (.val (.bool (!decide (k = k' ∧ t = t' ∧ u = u' ∧ f = f'))) H) := by
  have h1 : closed (.agg #[.int .i64 k, bS t, .int .u64 u, .int .i64 f]) = true := rfl
  have h2 : closed (.agg #[.int .i64 k', bS t', .int .u64 u', .int .i64 f']) = true := rfl
  simp only [runS, aBin, h1, h2, aPure, eqGuard, binOp, Op.equal, Op.maxDepth, prun_bind', eqt, show prun p program = some p from rfl, Option.bind_some, g43]
  simp [prun_pure, closed_bool, prun_bind', show prun p program = some p from rfl, g43, eqt]
theorem eql43 {k f u k' f' u' : Int} {t t' : List UInt8} {e : Bool} : runS p H (.bin .eql 43 e (tokV k t u f) (tokV k' t' u' f')) = some (.val (.bool (decide (k = k' ∧ t = t' ∧ u = u' ∧ f = f'))) H) := eql43'
theorem neq43 {k f u k' f' u' : Int} {t t' : List UInt8} {e : Bool} : runS p H (.bin .neq 43 e (tokV k t u f) (tokV k' t' u' f')) = some (.val (.bool (!decide (k = k' ∧ t = t' ∧ u = u' ∧ f = f'))) H) := neq43'

theorem s_a : scanR [32, 97, 49, 61, 49, 50, 32, 108, 111, 97, 100, 36, 98, 50, 32, 35, 48, 48, 48, 48, 48, 48, 48, 48, 48, 48, 48, 48, 48, 48, 102, 102, 61] =
  ([((0, [97, 49], 0), 1), ((4, [], 0), 3), ((2, [], 12), 4), ((0, [108, 111, 97, 100], 0), 7), ((1, [98, 50], 0), 11), ((3, [], 255), 15), ((4, [], 0), 32)], 0, 0) := by decide +kernel
theorem s_b : scanR [97, 32, 36, 32, 98] = ([], 2, 2) := by decide +kernel
theorem s_c : scanR [49, 32, 49, 56, 52, 52, 54, 55, 52, 52, 48, 55, 51, 55, 48, 57, 53, 53, 49, 54, 49, 54] = ([], 2, 2) := by decide +kernel
theorem s_d : scanR [195, 169] = ([], 0, 2) := by decide +kernel
end Go.Proofs.TD
