/-
  A part of the proof: contracts of single functions over the abstract heap.
-/
import Derived.Test.YtaeofoimlhmdoaaDoorTXc
namespace Go.Proofs.TD
open Go Go.Abs
open Go.Proofs (Tryd.prog)
set_option maxRecDepth 100000
set_option linter.unusedVariables false
set_option linter.unusedSimpArgs false
variable {H : AH}

/-- How many bytes of a name a text begins with. -/
def nm : List UInt8 → Nat
  | [] => 0
  | c :: r => if isL c then 1 + tw isE r else 0
theorem nm_le (l : List UInt8) : nm l ≤ l.length := by
  cases l with
  | nil => simp [nm]
  | cons c r => simp only [nm]; have := tw_le isE r; split <;> simp <;> omega

theorem nm_stop {l : List UInt8} {j : Nat} (hj : j < l.length) (h : ∀ i (hi : i < j), okAt i (l[i]'(by omega)) = true) (hq : okAt j l[j] = false) : nm l = j := by
  cases l with
  | nil => simp at hj
  | cons c r =>
    cases j with
    | zero => simp [okAt] at hq; simp [nm, hq]
    | succ j =>
      have h0 := h 0 (by omega)
      have h0' : isL c = true := by simpa [okAt] using h0
      have := tw_stop (q := isE) (l := r) (j := j) (by simpa using hj) (fun i hi => by
        have h' : okAt (i + 1) (r[i]'(by simp at hj; omega)) = true := h (i + 1) (by omega)
        simpa [okAt, isE] using h') (by
        have h' : okAt (j + 1) (r[j]'(by simp at hj; omega)) = false := hq
        simpa [okAt, isE] using h')
      simp only [nm, h0', if_true, this]; omega
theorem nm_all {l : List UInt8} (h : ∀ i (hi : i < l.length), okAt i l[i] = true) : nm l = l.length := by
  cases l with
  | nil => rfl
  | cons c r =>
    have h0 : okAt 0 c = true := h 0 (by simp)
    have h0' : isL c = true := by simpa [okAt] using h0
    have := tw_all (q := isE) (l := r) (fun i hi => by
      have h' : okAt (i + 1) r[i] = true := h (i + 1) (by simpa using hi)
      simpa [okAt, isE] using h')
    simp only [nm, h0', if_true, this, List.length_cons]; omega

/-- the document's name -/
theorem g51 {l : List UInt8} (hl : l.length < 1000000) : Gives p 51 [bS l] H (.int .i64 (nm l)) := by
  refine .of (d51 ?_)
  simp only [v51]
  refine ⟨fun n xs H' => ∃ j : Nat, j ≤ l.length ∧ n = l.length - j ∧ (∀ i (hi : i < j) (hl : i < l.length), okAt i l[i] = true) ∧ xs = [bS l, .int .i64 (j : Nat)] ∧ H' = H,
    ⟨l.length, 0, by omega, rfl, by omega, rfl, rfl⟩, ?_⟩
  rintro n x1 x2 H1 ⟨j, hj, rfl, hpre, hx, rfl⟩
  simp only [List.cons.injEq, and_true] at hx
  obtain ⟨rfl, rfl⟩ := hx
  simp -implicitDefEqProofs only [k_real, len9', stepV_val, bin_lss, selV_bool, decide_eq_true_eq, Bool.false_eq_true, if_false]
  by_cases hjl : j < l.length
  · rw [if_pos (by omega)]
    simp -implicitDefEqProofs only [add1 (show j < 9223372036854775807 by omega), stepV_val, slhi (show j + 1 ≤ l.length by omega), runS_call, List.all_cons, List.all_nil, known_bS, Bool.and_self, if_true]
    refine (g19 (by simp; omega)).step ?_
    have hn : nameB (l.take (j + 1)) = okAt j l[j] := by
      cases ho : okAt j l[j] with
      | true =>
        rw [nameB_iff]
        refine ⟨by simp; omega, fun i hi => ?_⟩
        simp only [List.getElem_take]
        by_cases e : i = j
        · subst e; exact ho
        · exact hpre i (by simp at hi; omega) (by simp at hi; omega)
      | false =>
        cases hb : nameB (l.take (j + 1)) with
        | false => rfl
        | true =>
          have := ((nameB_iff _).1 hb).2 j (by simp; omega)
          simp only [List.getElem_take] at this
          rw [ho] at this; cases this
    rw [hn]
    cases ho : okAt j l[j] with
    | true =>
      simp -implicitDefEqProofs only [selV_true, add1 (show j < 9223372036854775807 by omega), stepV_val]
      refine ⟨_, by omega, j + 1, by omega, rfl, fun i hi hl => ?_, by first | rfl | trivial, by first | rfl | trivial⟩
      by_cases e : i = j
      · subst e; exact ho
      · exact hpre i (by omega) hl
    | false =>
      simp -implicitDefEqProofs only [selV_false, ret_one]
      exact ⟨by rw [nm_stop hjl (fun i hi => hpre i hi (by omega)) ho], AH.le_refl _⟩
  · rw [if_neg (by omega)]
    simp -implicitDefEqProofs only [ret_one]
    refine ⟨?_, AH.le_refl _⟩
    have : j = l.length := by omega
    subst this
    rw [nm_all (fun i hi => hpre i hi hi)]

/-- the document's hex -/
theorem g52 {l : List UInt8} (hl : l.length < 1000000) : Gives p 52 [bS l] H (.int .i64 (tw isX l)) := by
  refine .of (d52 ?_)
  simp only [v52]
  refine ⟨fun n xs H' => ∃ j : Nat, j ≤ l.length ∧ n = l.length - j ∧ (∀ i (hi : i < j) (hl : i < l.length), isX l[i] = true) ∧ xs = [bS l, .int .i64 (j : Nat)] ∧ H' = H,
    ⟨l.length, 0, by omega, rfl, by omega, rfl, rfl⟩, ?_⟩
  rintro n x1 x2 H1 ⟨j, hj, rfl, hpre, hx, rfl⟩
  simp only [List.cons.injEq, and_true] at hx
  obtain ⟨rfl, rfl⟩ := hx
  simp -implicitDefEqProofs only [k_real, len9', stepV_val, bin_lss, selV_bool, decide_eq_true_eq, Bool.false_eq_true, if_false]
  by_cases hjl : j < l.length
  · rw [if_pos (by omega)]
    have go : isX l[j] = true → ∃ n', n' < l.length - j ∧ (∃ j_1 : Nat, j_1 ≤ l.length ∧ n' = l.length - j_1 ∧ (∀ i (hi : i < j_1) (hl : i < l.length), isX l[i] = true) ∧ [bS l, Value.int .i64 ((j + 1 : Nat) : Int)] = [bS l, .int .i64 (j_1 : Nat)] ∧ True) := by
      intro h
      refine ⟨_, by omega, j + 1, by omega, rfl, fun i hi hl => ?_, rfl, trivial⟩
      by_cases e : i = j
      · subst e; exact h
      · exact hpre i (by omega) hl
    have stop : isX l[j] = false → AOut.ret (.int .i64 (j : Nat)) = AOut.ret (.int .i64 (tw isX l : Nat)) ∧ H1.le H1 := fun h => ⟨by rw [tw_stop hjl (fun i hi => hpre i hi (by omega)) h], AH.le_refl _⟩
    simp -implicitDefEqProofs only [ix hjl, stepV_val, runS_call, List.all_cons, List.all_nil, known, Bool.and_self, if_true]
    refine g36.step ?_
    cases hF : isF l[j] with
    | true =>
      simp -implicitDefEqProofs only [selV_true, stepV_val, add1 (show j < 9223372036854775807 by omega)]
      exact go (by simp [isX, hF])
    | false =>
      simp -implicitDefEqProofs only [selV_false, bin_geq, bin_leq, stepV_val, selV_bool, decide_eq_true_eq, Bool.false_eq_true, if_false, add1 (show j < 9223372036854775807 by omega), ret_one]
      by_cases h1 : 97 ≤ l[j].toNat
      · rw [if_pos (by omega)]
        by_cases h2 : l[j].toNat ≤ 102
        · rw [if_pos (by omega)]
          exact go (by simp [isX, h1, h2])
        · rw [if_neg (by omega)]
          exact stop (by simp [isX, hF, h1]; omega)
      · rw [if_neg (by omega)]
        exact stop (by simp [isX, hF]; omega)
  · rw [if_neg (by omega)]
    simp -implicitDefEqProofs only [ret_one]
    refine ⟨?_, AH.le_refl _⟩
    have : j = l.length := by omega
    subst this
    rw [tw_all (fun i hi => hpre i hi hi)]

/-- The number that a text begins with, and how many bytes it has. -/
def numL : Nat → Nat → List UInt8 → Nat × Nat
  | a, n, [] => (a, n)
  | a, n, c :: l => if isF c then (if 18446744073709551615 < 10 * a + (c.toNat - 48) then (0, 0) else numL (10 * a + (c.toNat - 48)) (n + 1) l) else (a, n)

theorem conv5_24' {n : Int} : runS p H (.convert 5 24 (.int .u8 n)) = some (.val (.int .u64 (IntKind.u64.wrap n)) H) := by kernel_rfl

/-- the document's number -/
theorem g53 {l : List UInt8} (hl : l.length < 1000000) : Gives p 53 [bS l] H (.tuple #[.int .u64 (numL 0 0 l).1, .int .i64 (numL 0 0 l).2]) := by
  refine .of (d53 ?_)
  simp only [v53]
  refine ⟨fun n xs H' => ∃ j a : Nat, j ≤ l.length ∧ n = l.length - j ∧ a < 18446744073709551616 ∧ numL 0 0 l = numL a j (l.drop j) ∧ xs = [bS l, .int .u64 (a : Nat), .int .i64 (j : Nat)] ∧ H' = H,
    ⟨l.length, 0, 0, by omega, rfl, by omega, rfl, rfl, rfl⟩, ?_⟩
  rintro n x1 x2 x3 H1 ⟨j, a, hj, rfl, ha, hval, hx, rfl⟩
  simp only [List.cons.injEq, and_true] at hx
  obtain ⟨rfl, rfl, rfl⟩ := hx
  rw [hval]
  simp -implicitDefEqProofs only [k_real, len9', stepV_val, bin_lss, selV_bool, decide_eq_true_eq, Bool.false_eq_true, if_false]
  by_cases hjl : j < l.length
  · rw [if_pos (by omega)]
    have hd : l.drop j = l[j] :: l.drop (j + 1) := List.drop_eq_getElem_cons hjl
    simp -implicitDefEqProofs only [ix hjl, stepV_val, runS_call, List.all_cons, List.all_nil, known, Bool.and_self, if_true]
    refine g36.step ?_
    rw [hd]
    simp only [numL]
    cases hF : isF l[j] with
    | false =>
      simp -implicitDefEqProofs only [selV_false, ret_vals, known, and_self, if_true, Bool.false_eq_true, if_false]
      exact ⟨by first | rfl | trivial, AH.le_refl _⟩
    | true =>
      have hf : 48 ≤ l[j].toNat ∧ l[j].toNat ≤ 57 := by simpa [isF] using hF
      have e1 : IntKind.u8.wrap ((l[j].toNat : Int) - 48) = ((l[j].toNat - 48 : Nat) : Int) := by rw [wrap_u8']; omega
      have e2 : IntKind.u64.wrap ((l[j].toNat - 48 : Nat) : Int) = ((l[j].toNat - 48 : Nat) : Int) := by rw [wrap_u64']; omega
      simp -implicitDefEqProofs only [selV_true, bin_sub, e1, stepV_val, conv5_24', e2, bin_gtr, selV_bool, decide_eq_true_eq, Bool.false_eq_true, if_false, if_true, bin_eql, bin_mul, bin_add, add1 (show j < 9223372036854775807 by omega), ret_vals, known, and_self]
      generalize hdd : l[j].toNat - 48 = d at *
      by_cases hov : 18446744073709551615 < 10 * a + d
      · rw [if_pos hov]
        by_cases h1 : (a : Int) > 1844674407370955161
        · rw [if_pos h1]; exact ⟨by first | rfl | trivial, AH.le_refl _⟩
        · rw [if_neg h1, if_pos (by omega), if_pos (by omega)]; exact ⟨by first | rfl | trivial, AH.le_refl _⟩
      · rw [if_neg hov, if_neg (by omega)]
        have e3 : IntKind.u64.wrap (10 * (a : Int)) = ((10 * a : Nat) : Int) := by rw [wrap_u64']; omega
        have e4 : IntKind.u64.wrap (((10 * a : Nat) : Int) + (d : Int)) = ((10 * a + d : Nat) : Int) := by rw [wrap_u64']; omega
        rw [e3, e4]
        have fin : ∃ n', n' < l.length - j ∧ ∃ j_1 a_1 : Nat, j_1 ≤ l.length ∧ n' = l.length - j_1 ∧ a_1 < 18446744073709551616 ∧ numL (10 * a + d) (j + 1) (l.drop (j + 1)) = numL a_1 j_1 (l.drop j_1) ∧
            [bS l, Value.int .u64 ((10 * a + d : Nat) : Int), Value.int .i64 ((j + 1 : Nat) : Int)] = [bS l, .int .u64 (a_1 : Nat), .int .i64 (j_1 : Nat)] ∧ True := by
          exact ⟨_, by omega, j + 1, 10 * a + d, by omega, rfl, by omega, rfl, rfl, trivial⟩
        split
        · rw [if_neg (by omega)]
          exact fin
        · exact fin
  · rw [if_neg (by omega)]
    rw [List.drop_eq_nil_of_le (by omega)]
    simp -implicitDefEqProofs only [ret_vals, known, and_self, if_true]
    exact ⟨by first | rfl | trivial, AH.le_refl _⟩

theorem pum_num : ∀ (l : List UInt8) (a n : Nat), a < 18446744073709551616 →
    (∀ u, Lib.parseUintM (2 ^ 64 - 1) a (l.takeWhile isF) = .ok u → numL a n l = (u, n + tw isF l)) ∧
    ((∀ u, Lib.parseUintM (2 ^ 64 - 1) a (l.takeWhile isF) ≠ .ok u) → numL a n l = (0, 0)) := by
  intro l
  induction l with
  | nil => intro a n ha; simp [Lib.parseUintM, numL, tw]
  | cons c l ih =>
    intro a n ha
    simp only [List.takeWhile_cons, tw, numL]
    cases hF : isF c with
    | false => simp [Lib.parseUintM]
    | true =>
      have hf : 48 ≤ c.toNat ∧ c.toNat ≤ 57 := by simpa [isF] using hF
      simp only [if_true, Lib.parseUintM, hf, and_self, List.length_cons]
      by_cases hov : 18446744073709551615 < 10 * a + (c.toNat - 48)
      · rw [if_pos hov]
        have : (if 1844674407370955162 ≤ a then (Lib.NumEnd.range : Lib.NumEnd Nat) else if 2 ^ 64 - 1 < a * 10 + (c.toNat - 48) then .range else Lib.parseUintM (2 ^ 64 - 1) (a * 10 + (c.toNat - 48)) (l.takeWhile isF)) = .range := by
          split
          · rfl
          · rw [if_pos (by omega)]
        rw [this]
        refine ⟨fun u h => ?_, fun _ => rfl⟩
        cases h
      · rw [if_neg hov, if_neg (by omega), if_neg (by omega)]
        have := ih (10 * a + (c.toNat - 48)) (n + 1) (by omega)
        rw [Nat.mul_comm a 10]
        refine ⟨fun u h => ?_, this.2⟩
        rw [this.1 u h]
        unfold tw
        congr 1
        omega

end Go.Proofs.TD
