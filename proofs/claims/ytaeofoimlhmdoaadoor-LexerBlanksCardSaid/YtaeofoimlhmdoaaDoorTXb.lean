/-
  A part of the proof: contracts of single functions over the abstract heap.
-/
import Derived.Test.YtaeofoimlhmdoaaDoorTXa
namespace Go.Proofs.TD
open Go Go.Abs
open Go.Proofs (Tryd.prog)
set_option maxRecDepth 100000
set_option linter.unusedVariables false
set_option linter.unusedSimpArgs false
variable {H : AH}

def isL (c : UInt8) : Bool := decide (97 ≤ c.toNat ∧ c.toNat ≤ 122)
def isF (c : UInt8) : Bool := decide (48 ≤ c.toNat ∧ c.toNat ≤ 57)
def isE (c : UInt8) : Bool := isL c || isF c
def isX (c : UInt8) : Bool := isF c || decide (97 ≤ c.toNat ∧ c.toNat ≤ 102)

theorem g32 {r : Int} : Gives p 32 [.int .i32 r] H (.bool (decide (97 ≤ r ∧ r ≤ 122))) := by
  refine .of (d32 ?_)
  simp only [v32]
  simp -implicitDefEqProofs [AH.le_refl]
  grind
theorem g50 {r : Int} : Gives p 50 [.int .i32 r] H (.bool (decide (48 ≤ r ∧ r ≤ 57))) := by
  refine .of (d50 ?_)
  simp only [v50]
  simp -implicitDefEqProofs [AH.le_refl]
  grind
theorem g34 {r : Int} : Gives p 34 [.int .i32 r] H (.bool (decide (97 ≤ r ∧ r ≤ 122 ∨ 48 ≤ r ∧ r ≤ 57))) := by
  refine .of (d34 ?_)
  simp only [v34]
  simp -implicitDefEqProofs only [k_real, runS_call, List.all_cons, List.all_nil, known, Bool.and_self, if_true]
  refine g32.step ?_
  simp -implicitDefEqProofs only [selV_bool, decide_eq_true_eq]
  split
  · rename_i h; exact ⟨by simp [h], AH.le_refl _⟩
  · rename_i h
    refine g50.step ?_
    exact ⟨by simp [h], AH.le_refl _⟩
theorem g49 {r : Int} : Gives p 49 [.int .i32 r] H (.bool (decide (48 ≤ r ∧ r ≤ 57 ∨ 97 ≤ r ∧ r ≤ 102))) := by
  refine .of (d49 ?_)
  simp only [v49]
  simp -implicitDefEqProofs only [k_real, runS_call, List.all_cons, List.all_nil, known, Bool.and_self, if_true]
  refine g50.step ?_
  simp -implicitDefEqProofs [AH.le_refl]
  grind
theorem g35 {c : UInt8} : Gives p 35 [.int .u8 c.toNat] H (.bool (isL c)) := by
  refine .of (d35 ?_)
  simp only [v35, isL]
  simp -implicitDefEqProofs [AH.le_refl]
  grind
theorem g36 {c : UInt8} : Gives p 36 [.int .u8 c.toNat] H (.bool (isF c)) := by
  refine .of (d36 ?_)
  simp only [v36, isF]
  simp -implicitDefEqProofs [AH.le_refl]
  grind

theorem ext3_0 {u v w : Value} : runS p H (.extract (.tuple #[u, v, w]) 0) = some (.val u H) := by
  simp only [run_extract, notUnk_two, if_true]; rfl
theorem ext3_1 {u v w : Value} : runS p H (.extract (.tuple #[u, v, w]) 1) = some (.val v H) := by
  simp only [run_extract, notUnk_two, if_true]; rfl
theorem ext3_2 {u v w : Value} : runS p H (.extract (.tuple #[u, v, w]) 2) = some (.val w H) := by
  simp only [run_extract, notUnk_two, if_true]; rfl
theorem ext1_0 {b : Bool} : runS p H (.extract (.tuple #[.bool b]) 0) = some (.val (.bool b) H) := by
  simp only [run_extract, notUnk_bool, if_true]; rfl

/-- How many bytes at a text's front are so. -/
def tw (q : UInt8 → Bool) (l : List UInt8) : Nat := (l.takeWhile q).length
theorem tw_le (q : UInt8 → Bool) (l : List UInt8) : tw q l ≤ l.length := by
  unfold tw; induction l with
  | nil => simp
  | cons c l ih => simp only [List.takeWhile_cons]; split <;> simp <;> omega
theorem tw_stop {q : UInt8 → Bool} {l : List UInt8} {j : Nat} (hj : j < l.length) (h : ∀ i (hi : i < j), q (l[i]'(by omega)) = true) (hq : q l[j] = false) : tw q l = j := by
  induction l generalizing j with
  | nil => simp at hj
  | cons c l ih =>
    cases j with
    | zero => simp at hq; simp [tw, List.takeWhile_cons, hq]
    | succ j =>
      have h0 := h 0 (by omega)
      simp at h0
      have := ih (j := j) (by simpa using hj) (fun i hi => by simpa using h (i + 1) (by omega)) (by simpa using hq)
      simp only [tw, List.takeWhile_cons, h0, if_true, List.length_cons]
      unfold tw at this
      omega
theorem tw_all {q : UInt8 → Bool} {l : List UInt8} (h : ∀ i (hi : i < l.length), q l[i] = true) : tw q l = l.length := by
  induction l with
  | nil => rfl
  | cons c l ih =>
    have h0 := h 0 (by simp)
    simp at h0
    have := ih (fun i hi => by exact h (i + 1) (by simpa using hi))
    simp only [tw, List.takeWhile_cons, h0, if_true, List.length_cons]
    unfold tw at this
    omega

/-- lexer.front, of a predicate that no rune beyond ASCII meets. -/
theorem g33 {l : List UInt8} {f : Nat} {q : UInt8 → Bool} (hf : ∀ (H : AH) (c : UInt8), c.toNat < 128 → Gives p f [.int .i32 c.toNat] H (.bool (q c)))
    (hh : ∀ (H : AH) (r : Int), 128 ≤ r → Gives p f [.int .i32 r] H (.bool false)) (hq : ∀ c : UInt8, ¬ c.toNat < 128 → q c = false) :
    Gives p 33 [bS l, fnV f] H (.int .i64 (tw q l)) := by
  refine .of (d33 ?_)
  simp only [v33]
  simp -implicitDefEqProofs only [k_real, run_range, stepV_new]
  intro b hb
  refine ⟨fun n xs H' => ∃ j : Nat, j ≤ l.length ∧ n = l.length - j ∧ (∀ i (hi : i < j) (hl : i < l.length), q l[i] = true) ∧ xs = [bS l, fnV f, .pointer (some ⟨b, 0, none⟩)] ∧ H.le H' ∧ H' b = some (.siter ⟨l.toArray⟩ j),
    ⟨l.length, 0, by omega, rfl, by omega, rfl, AH.le_upd hb, upd_self⟩, ?_⟩
  rintro n x1 x2 x3 H1 ⟨j, hj, rfl, hpre, hx, hle, hrow⟩
  simp only [List.cons.injEq, and_true] at hx
  obtain ⟨rfl, rfl, rfl⟩ := hx
  by_cases hjl : j < l.length
  · have hsz : j < (⟨l.toArray⟩ : ByteArray).size := hjl
    have e0 : ((⟨l.toArray⟩ : ByteArray)[j]'hsz) = l[j]'hjl := rfl
    by_cases ha : l[j].toNat < 128
    · rw [next_at hrow hsz, decode_ascii ⟨l.toArray⟩ j hsz ha, e0]
      simp -implicitDefEqProofs only [stepV_val, ext3_0, ext3_1, ext3_2, selV_true, runS_call, List.all_cons, List.all_nil, known, Bool.and_self, if_true]
      have hle2 : H.le (H1.upd b (.siter ⟨l.toArray⟩ (j + 1))) := AH.le_upd' hle hb
      refine (hf _ l[j] ha).step ?_
      simp -implicitDefEqProofs only [un_not, stepV_val, selV_bool, Bool.not_eq_true']
      cases hc : q l[j] with
      | false =>
        rw [if_pos rfl]
        refine ⟨?_, hle2⟩
        rw [tw_stop hjl (fun i hi => hpre i hi (by omega)) hc]
      | true =>
        rw [if_neg (by simp)]
        refine ⟨l.length - (j + 1), by omega, j + 1, by omega, rfl, fun i hi hl => ?_, by first | rfl | trivial, hle2, upd_self⟩
        by_cases e : i = j
        · subst e; exact hc
        · exact hpre i (by omega) hl
    · rw [next_at hrow hsz]
      have hdh := (decode_high ⟨l.toArray⟩ j hsz (by rw [e0]; omega)).1
      simp -implicitDefEqProofs only [stepV_val, ext3_0, ext3_1, ext3_2, selV_true, runS_call, List.all_cons, List.all_nil, known, Bool.and_self, if_true]
      refine (hh _ _ (by omega)).step ?_
      simp -implicitDefEqProofs only [un_not, stepV_val, selV_bool, Bool.not_false, if_true]
      refine ⟨?_, AH.le_upd' hle hb⟩
      rw [tw_stop hjl (fun i hi => hpre i hi (by omega)) (hq _ ha)]
  · rw [next_end hrow hjl]
    simp -implicitDefEqProofs only [stepV_val, ext1_0, selV_false, len9']
    refine ⟨?_, hle⟩
    rw [tw_all (fun i hi => hpre i (by omega) hi)]

theorem g33e {l : List UInt8} : Gives p 33 [bS l, fnV 34] H (.int .i64 (tw isE l)) :=
  g33 (fun H c hc => by
    have := g34 (H := H) (r := (c.toNat : Int))
    rwa [show (decide ((97 : Int) ≤ c.toNat ∧ (c.toNat : Int) ≤ 122 ∨ 48 ≤ (c.toNat : Int) ∧ (c.toNat : Int) ≤ 57)) = isE c by unfold isE isL isF; grind] at this)
    (fun H r hr => by
      have := g34 (H := H) (r := r)
      rwa [show (decide ((97 : Int) ≤ r ∧ r ≤ 122 ∨ 48 ≤ r ∧ r ≤ 57)) = false by simp; omega] at this)
    (fun c hc => by unfold isE isL isF; grind)
theorem g33f {l : List UInt8} : Gives p 33 [bS l, fnV 50] H (.int .i64 (tw isF l)) :=
  g33 (fun H c hc => by
    have := g50 (H := H) (r := (c.toNat : Int))
    rwa [show (decide ((48 : Int) ≤ (c.toNat : Int) ∧ (c.toNat : Int) ≤ 57)) = isF c by unfold isF; grind] at this)
    (fun H r hr => by
      have := g50 (H := H) (r := r)
      rwa [show (decide ((48 : Int) ≤ r ∧ r ≤ 57)) = false by simp; omega] at this)
    (fun c hc => by unfold isF; grind)
theorem g33x {l : List UInt8} : Gives p 33 [bS l, fnV 49] H (.int .i64 (tw isX l)) :=
  g33 (fun H c hc => by
    have := g49 (H := H) (r := (c.toNat : Int))
    rwa [show (decide ((48 : Int) ≤ (c.toNat : Int) ∧ (c.toNat : Int) ≤ 57 ∨ 97 ≤ (c.toNat : Int) ∧ (c.toNat : Int) ≤ 102)) = isX c by unfold isX isF; grind] at this)
    (fun H r hr => by
      have := g49 (H := H) (r := r)
      rwa [show (decide ((48 : Int) ≤ r ∧ r ≤ 57 ∨ 97 ≤ r ∧ r ≤ 102)) = false by simp; omega] at this)
    (fun c hc => by unfold isX isF; grind)
end Go.Proofs.TD
