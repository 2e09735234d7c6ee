/-
  A part of the proof: contracts of single functions over the abstract heap.
-/
import Derived.Test.YtaeofoimlhmdoaaDoorTXb
namespace Go.Proofs.TD
open Go Go.Abs
open Go.Proofs (Tryd.prog)
set_option maxRecDepth 100000
set_option linter.unusedVariables false
set_option linter.unusedSimpArgs false
variable {H : AH}

def nameB : List UInt8 → Bool
  | [] => false
  | c :: r => isL c && r.all isE

theorem conv5_21 {c : UInt8} : runS p H (.convert 5 21 (.int .u8 c.toNat)) = some (.val (.int .i32 c.toNat) H) := by
  have h : runS p H (.convert 5 21 (.int .u8 c.toNat)) = some (.val (.int .i32 (IntKind.i32.wrap c.toNat)) H) := by kernel_rfl
  rw [h]
  have : IntKind.i32.wrap (c.toNat : Int) = c.toNat := by
    have := c.toNat_lt
    simp [IntKind.wrap, IntKind.bits, IntKind.signed]; omega
  rw [this]
theorem ix0 {c : UInt8} {r : List UInt8} : runS p H (.index 9 (bS (c :: r)) (.int .i64 0)) = some (.val (.int .u8 c.toNat) H) := by
  have := bs_index (P := p) (H := H) (t := 9) (kd := .i64) (l := c :: r) (by kernel_rfl) (n := 0) (by simp)
  simpa using this
theorem ix {l : List UInt8} {n : Nat} (hn : n < l.length) : runS p H (.index 9 (bS l) (.int .i64 (n : Nat))) = some (.val (.int .u8 l[n].toNat) H) :=
  bs_index (by kernel_rfl) hn
theorem sl1 {c : UInt8} {r : List UInt8} : runS p H (.slice 9 (bS (c :: r)) (some (.int .i64 1)) none none) = some (.val (bS r) H) := by
  have := bs_slice_lo (P := p) (H := H) (t := 9) (kd := .i64) (l := c :: r) (by kernel_rfl) (n := 1) (by simp)
  simpa using this
theorem sllo {l : List UInt8} {n : Nat} (hn : n ≤ l.length) : runS p H (.slice 9 (bS l) (some (.int .i64 (n : Nat))) none none) = some (.val (bS (l.drop n)) H) :=
  bs_slice_lo (by kernel_rfl) hn
theorem slhi {l : List UInt8} {n : Nat} (hn : n ≤ l.length) : runS p H (.slice 9 (bS l) none (some (.int .i64 (n : Nat))) none) = some (.val (bS (l.take n)) H) :=
  bs_slice_hi (by kernel_rfl) hn
theorem sl1n {c : UInt8} {r : List UInt8} {n : Nat} (hn : n ≤ r.length) : runS p H (.slice 9 (bS (c :: r)) (some (.int .i64 1)) (some (.int .i64 ((n + 1 : Nat) : Int))) none) = some (.val (bS (r.take n)) H) := by
  have := bs_slice_lohi (P := p) (H := H) (t := 9) (kd := .i64) (kd' := .i64) (l := c :: r) (by kernel_rfl) (n := 1) (m := n + 1) (by omega) (by simp; omega)
  simpa using this
theorem add1 {n : Nat} {t : TypeId} {c : Bool} (hn : n < 9223372036854775807) : runS p H (.bin .add t c (.int .i64 (n : Nat)) (.int .i64 1)) = some (.val (.int .i64 ((n + 1 : Nat) : Int)) H) := by
  rw [bin_add]
  have : IntKind.i64.wrap ((n : Int) + 1) = ((n + 1 : Nat) : Int) := by rw [wrap_i64']; omega
  rw [this]

theorem tw_eq_all {l : List UInt8} {q : UInt8 → Bool} : tw q l = l.length ↔ l.all q = true := by
  induction l with
  | nil => simp [tw]
  | cons c l ih =>
    unfold tw at ih ⊢
    simp only [List.takeWhile_cons, List.all_cons, Bool.and_eq_true]
    cases hc : q c with
    | true => simp [ih]
    | false => simp

theorem isE_of_isL {c : UInt8} (h : isL c = true) : isE c = true := by simp [isE, h]

/-- lexer.Name -/
theorem g18 {l : List UInt8} (hl : l.length < 1000000) : Gives p 18 [bS l] H (.bool (nameB l)) := by
  refine .of (d18 ?_)
  simp only [v18]
  cases l with
  | nil => simp -implicitDefEqProofs [nameB, AH.le_refl]
  | cons c r =>
    simp -implicitDefEqProofs only [k_real, bs_neq, stepV_val, ne_eq, reduceCtorEq, not_false_eq_true, decide_true, selV_true, ix0, conv5_21, runS_call, List.all_cons, List.all_nil, known, Bool.and_self, if_true]
    refine g32.step ?_
    have e : (decide ((97 : Int) ≤ (c.toNat : Int) ∧ (c.toNat : Int) ≤ 122)) = isL c := by unfold isL; grind
    rw [e]
    cases hc : isL c with
    | false => simp -implicitDefEqProofs [nameB, hc, AH.le_refl]
    | true =>
      simp -implicitDefEqProofs only [selV_true, runS_call, List.all_cons, List.all_nil, known, known_bS, Bool.and_self, if_true, fnV]
      refine (g33e (l := c :: r)).step ?_
      simp -implicitDefEqProofs only [len9', stepV_val, bin_eql, ret_one]
      refine ⟨?_, AH.le_refl _⟩
      congr 2
      have : ((tw isE (c :: r) : Int) = ((c :: r).length : Int)) ↔ r.all isE = true := by
        rw [Int.ofNat_inj, tw_eq_all]; simp [isE_of_isL hc]
      simp only [nameB, hc, Bool.true_and]
      simp only [this]
      cases r.all isE <;> simp

/-- A byte that may stand at a place of a name. -/
def okAt (i : Nat) (c : UInt8) : Bool := isL c || (decide (0 < i) && isF c)
theorem nameB_iff (l : List UInt8) : nameB l = true ↔ 0 < l.length ∧ ∀ i (h : i < l.length), okAt i l[i] = true := by
  cases l with
  | nil => simp [nameB]
  | cons c r =>
    simp only [nameB, Bool.and_eq_true, List.all_eq_true, List.length_cons]
    constructor
    · rintro ⟨h1, h2⟩
      refine ⟨by omega, fun i hi => ?_⟩
      cases i with
      | zero => simpa [okAt] using h1
      | succ i =>
        have := h2 (r[i]'(by omega)) (List.getElem_mem _)
        simpa [okAt, isE] using this
    · rintro ⟨_, h⟩
      refine ⟨by simpa [okAt] using h 0 (by omega), fun x hx => ?_⟩
      obtain ⟨i, hi, rfl⟩ := List.mem_iff_getElem.1 hx
      have h' : okAt (i + 1) r[i] = true := h (i + 1) (by omega)
      simpa [okAt, isE] using h'

/-- the document's Name -/
theorem g19 {l : List UInt8} (hl : l.length < 9223372036854775808) : Gives p 19 [bS l] H (.bool (nameB l)) := by
  refine .of (d19 ?_)
  simp only [v19]
  refine ⟨fun n xs H' => ∃ j : Nat, j ≤ l.length ∧ n = l.length - j ∧ (∀ i (hi : i < j) (hl : i < l.length), okAt i l[i] = true) ∧ xs = [bS l, .int .i64 (j : Nat)] ∧ H' = H,
    ⟨l.length, 0, by omega, rfl, by omega, rfl, rfl⟩, ?_⟩
  rintro n x1 x2 H1 ⟨j, hj, rfl, hpre, hx, rfl⟩
  simp only [List.cons.injEq, and_true] at hx
  obtain ⟨rfl, rfl⟩ := hx
  simp -implicitDefEqProofs only [k_real, len9', stepV_val, bin_lss, selV_bool, decide_eq_true_eq, Bool.false_eq_true, if_false]
  by_cases hjl : j < l.length
  · rw [if_pos (by omega)]
    have hpre' : ∀ {b : Bool}, okAt j l[j] = b → (b = true → ∀ i (hi : i < j + 1) (hl : i < l.length), okAt i l[i] = true) ∧ (b = false → nameB l = false) := by
      intro b hb
      refine ⟨fun h i hi hl => ?_, fun h => ?_⟩
      · by_cases e : i = j
        · subst e; rw [hb]; exact h
        · exact hpre i (by omega) hl
      · cases hn : nameB l with
        | false => rfl
        | true => have := ((nameB_iff l).1 hn).2 j hjl; rw [hb, h] at this; cases this
    have go : okAt j l[j] = true → ∃ n', n' < l.length - j ∧ (∃ j_1 : Nat, j_1 ≤ l.length ∧ n' = l.length - j_1 ∧ (∀ i (hi : i < j_1) (hl : i < l.length), okAt i l[i] = true) ∧ [bS l, Value.int .i64 ((j + 1 : Nat) : Int)] = [bS l, .int .i64 (j_1 : Nat)] ∧ True) :=
      fun h => ⟨_, by omega, j + 1, by omega, rfl, (hpre' h).1 rfl, rfl, trivial⟩
    have stop : okAt j l[j] = false → AOut.ret (.bool false) = AOut.ret (.bool (nameB l)) ∧ H1.le H1 := fun h => ⟨by rw [(hpre' h).2 rfl], AH.le_refl _⟩
    simp -implicitDefEqProofs only [ix hjl, stepV_val, runS_call, List.all_cons, List.all_nil, known, Bool.and_self, if_true]
    refine g35.step ?_
    cases hL : isL l[j] with
    | true =>
      simp -implicitDefEqProofs only [selV_true, un_not, stepV_val, Bool.not_true, selV_false, add1 (show j < 9223372036854775807 by omega)]
      exact go (by simp [okAt, hL])
    | false =>
      simp -implicitDefEqProofs only [selV_false, bin_gtr, stepV_val, selV_bool, decide_eq_true_eq, Bool.false_eq_true, if_false]
      by_cases h0 : 0 < j
      · rw [if_pos (by omega)]
        refine g36.step ?_
        simp -implicitDefEqProofs only [un_not, stepV_val, selV_bool, Bool.not_eq_true', Bool.false_eq_true, if_false, add1 (show j < 9223372036854775807 by omega)]
        cases hF : isF l[j] with
        | true => exact go (by simp [okAt, hL, hF, h0])
        | false => exact stop (by simp [okAt, hL, hF])
      · rw [if_neg (by omega)]
        simp -implicitDefEqProofs only [un_not, stepV_val, Bool.not_false, selV_true]
        exact stop (by simp [okAt, hL, h0])
  · rw [if_neg (by omega)]
    simp -implicitDefEqProofs only [len9', stepV_val, bin_gtr, ret_one]
    refine ⟨?_, AH.le_refl _⟩
    have : nameB l = decide ((l.length : Int) > 0) := by
      by_cases h0 : 0 < l.length
      · rw [(nameB_iff l).2 ⟨h0, fun i hi => hpre i (by omega) hi⟩]; simp; omega
      · have : l = [] := List.eq_nil_of_length_eq_zero (by omega)
        subst this; rfl
    rw [this]
end Go.Proofs.TD
