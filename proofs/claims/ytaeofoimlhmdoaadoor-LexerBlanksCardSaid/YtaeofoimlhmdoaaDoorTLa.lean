/-
  A part of the proof: contracts of single functions over the abstract heap.
-/
import Derived.Test.YtaeofoimlhmdoaaDoorTDf
import Derived.Lib.ParseIntB
import Derived.Lib.Strings
namespace Go.Proofs.TD
open Go Go.Abs
set_option linter.unusedSimpArgs false
set_option linter.unusedVariables false

/-- What a text is guessed to be. -/
def guess (l : List UInt8) : Int × Int × Nat :=
  match errOf l 9 1 with
  | some e => (e, 0, 0)
  | none => if Lib.hasPrefix l [35] then (0, 2, (ph (Lib.trimPrefix l [35])).1) else match Lib.parseUintB 64 l with
    | .ok u => (0, 1, u)
    | _ => (0, 0, 0)

def parse8 (l : List UInt8) : (Int × Int × Nat) × Int :=
  if txt (guess l).1 (guess l).2.1 (guess l).2.2 = l then (guess l, 0) else ((0, 0, 0), 2)

theorem digs_append : ∀ (l : List UInt8) (a : Nat) (c : UInt8), digs a (l ++ [c]) = (digs a l).bind fun u => digs u [c] := by
  intro l
  induction l with
  | nil => intro a c; rfl
  | cons x l ih =>
    intro a c
    simp only [List.cons_append, digs]
    split
    · exact ih _ c
    · rfl

theorem fig_ok (d : Nat) (h : d < 10) : 48 ≤ UInt8.ofNat (48 + d) ∧ UInt8.ofNat (48 + d) ≤ 57 ∧ (UInt8.ofNat (48 + d)).toNat = 48 + d := by
  have : d = 0 ∨ d = 1 ∨ d = 2 ∨ d = 3 ∨ d = 4 ∨ d = 5 ∨ d = 6 ∨ d = 7 ∨ d = 8 ∨ d = 9 := by omega
  rcases this with rfl | rfl | rfl | rfl | rfl | rfl | rfl | rfl | rfl | rfl <;> decide

theorem digs_dec : ∀ u : Nat, u < 18446744073709551616 → digs 0 (Lib.decDigits u) = some u := by
  intro u
  induction u using Nat.strongRecOn with
  | ind u ih =>
    intro hu
    rw [decDigits_step]
    split
    · rename_i h
      obtain ⟨h1, h2, h3⟩ := fig_ok u h
      simp only [digs, h1, h2, and_self, if_true, h3]
      congr 1
      omega
    · rename_i h
      obtain ⟨h1, h2, h3⟩ := fig_ok (u % 10) (by omega)
      rw [digs_append, ih (u / 10) (by omega) (by omega)]
      simp only [Option.bind_some, digs, h1, h2, and_self, if_true, h3]
      congr 1
      omega

theorem pum_append (M : Nat) : ∀ (l : List UInt8) (a : Nat) (c : UInt8), Lib.parseUintM M a (l ++ [c]) = match Lib.parseUintM M a l with
    | .ok u => Lib.parseUintM M u [c]
    | e => e := by
  intro l
  induction l with
  | nil => intro a c; rfl
  | cons x l ih =>
    intro a c
    simp only [List.cons_append, Lib.parseUintM]
    split
    · split
      · rfl
      · split
        · rfl
        · exact ih _ c
    · rfl

theorem pum_dec : ∀ u : Nat, u < 18446744073709551616 → Lib.parseUintM (2 ^ 64 - 1) 0 (Lib.decDigits u) = .ok u := by
  intro u
  induction u using Nat.strongRecOn with
  | ind u ih =>
    intro hu
    rw [decDigits_step]
    split
    · rename_i h
      obtain ⟨h1, h2, h3⟩ := fig_ok u h
      simp only [Lib.parseUintM, h3]
      rw [if_pos (by omega), if_neg (by omega), if_neg (by omega)]
      congr 1
      omega
    · rename_i h
      obtain ⟨h1, h2, h3⟩ := fig_ok (u % 10) (by omega)
      rw [pum_append, ih (u / 10) (by omega) (by omega)]
      simp only [Lib.parseUintM, h3]
      rw [if_pos (by omega), if_neg (by omega), if_neg (by omega)]
      congr 1
      omega

theorem dec_ne_nil (u : Nat) : Lib.decDigits u ≠ [] := by rw [decDigits_step]; split <;> simp

theorem pub_dec (u : Nat) (h : u < 18446744073709551616) : Lib.parseUintB 64 (Lib.decDigits u) = .ok u := by
  unfold Lib.parseUintB; rw [if_neg (dec_ne_nil u), pum_dec u h]

theorem digs_lt : ∀ (l : List UInt8) (a u : Nat), a < 18446744073709551616 → digs a l = some u → u < 18446744073709551616 := by
  intro l
  induction l with
  | nil => intro a u h e; simp [digs] at e; omega
  | cons c l ih =>
    intro a u h e
    simp only [digs] at e
    split at e
    · exact ih _ u (Nat.mod_lt _ (by omega)) e
    · cases e

theorem hv_append : ∀ (l : List UInt8) (a : Nat) (k : List UInt8), hv a (l ++ k) = (hv a l).bind fun u => hv u k := by
  intro l
  induction l with
  | nil => intro a c; rfl
  | cons x l ih =>
    intro a c
    simp only [List.cons_append, hv]
    split
    · exact ih _ c
    · rfl

theorem unh_of_hexd (k : Nat) (h : k < 16) : unh (hexd k) = k := (unh_hexd k _ h).1 rfl
theorem hexd_of_unh (c : UInt8) (h : unh c < 16) : hexd (unh c) = c := (unh_hexd _ c h).2 rfl

theorem hv_hexLow : ∀ (k a w : Nat), hv a (hexLow k w) = some (16 ^ k * a + w % 16 ^ k) := by
  intro k
  induction k with
  | zero => intro a w; simp [hexLow, hv, Nat.mod_one]
  | succ k ih =>
    intro a w
    have hm : w / 16 ^ k % 16 < 16 := Nat.mod_lt _ (by omega)
    simp only [hexLow, hv, unh_of_hexd _ hm, hm, if_true, ih]
    congr 1
    rw [Nat.pow_succ, Nat.mod_mul, Nat.mul_add, Nat.mul_comm (16 ^ k) (w / 16 ^ k % 16)]
    have : 16 ^ k * (16 * a) = 16 ^ k * 16 * a := by rw [Nat.mul_assoc]
    rw [this, Nat.add_assoc, Nat.add_comm (w / 16 ^ k % 16 * 16 ^ k)]

theorem hexLow_hv : ∀ (l : List UInt8) (a w : Nat), hv a l = some w → hexLow l.length w = l ∧ w / 16 ^ l.length = a := by
  intro l
  induction l with
  | nil => intro a w h; simp [hv] at h; subst h; simp [hexLow]
  | cons c l ih =>
    intro a w h
    simp only [hv] at h
    split at h
    · rename_i hc
      obtain ⟨h1, h2⟩ := ih _ w h
      refine ⟨?_, ?_⟩
      · simp only [List.length_cons, hexLow, h1, h2]
        rw [show (16 * a + unh c) % 16 = unh c by omega, hexd_of_unh c hc]
      · simp only [List.length_cons]
        rw [Nat.pow_succ, ← Nat.div_div_eq_div_mul, h2]
        omega
    · cases h

theorem ph_hexLow (w : Nat) (h : w < 18446744073709551616) : ph (hexLow 16 w) = (w, 0) := by
  unfold ph
  rw [if_pos (hexLow_length 16 w), hv_hexLow]
  simp only [Nat.mul_zero, Nat.zero_add]
  rw [Nat.mod_eq_of_lt (by simpa using h)]
theorem ph_ok {l : List UInt8} (h : (ph l).2 = 0) : hexLow 16 (ph l).1 = l := by
  unfold ph at h ⊢
  split at h
  · rename_i hl
    rw [if_pos hl]
    split at h
    · rename_i w hw
      simp only [hw]
      have := (hexLow_hv l 0 w hw).1
      rwa [hl] at this
    · simp at h
  · simp at h
theorem ph_lt (l : List UInt8) : (ph l).1 < 18446744073709551616 := by
  unfold ph
  split
  · rename_i hl
    split
    · rename_i w hw
      have := (hexLow_hv l 0 w hw).2
      rw [hl] at this
      simp only []
      have : w / 18446744073709551616 = 0 := by simpa using this
      omega
    · simp
  · simp
theorem ph_bad {l : List UInt8} (h : (ph l).2 ≠ 0) : ph l = (0, 2) := by
  unfold ph at h ⊢
  split
  · rename_i hl
    rw [if_pos hl] at h
    split
    · rename_i w hw; simp [hw] at h
    · rfl
  · rfl

theorem errOf_some {l : List UInt8} : ∀ {f e x : Nat}, errOf l f e = some x → e ≤ x ∧ x < e + f ∧ l = 33 :: ename x := by
  intro f
  induction f with
  | zero => intro e x h; simp [errOf] at h
  | succ f ih =>
    intro e x h
    simp only [errOf] at h
    split at h
    · cases h; rename_i hl; exact ⟨by omega, by omega, hl⟩
    · obtain ⟨h1, h2, h3⟩ := ih h; exact ⟨by omega, by omega, h3⟩

theorem pum_lt : ∀ (l : List UInt8) (a u : Nat), a < 18446744073709551616 → Lib.parseUintM (2 ^ 64 - 1) a l = .ok u → u < 18446744073709551616 := by
  intro l
  induction l with
  | nil => intro a u h e; simp [Lib.parseUintM] at e; omega
  | cons c l ih =>
    intro a u h e
    simp only [Lib.parseUintM] at e
    split at e
    · split at e
      · cases e
      · split at e
        · cases e
        · exact ih _ u (by omega) e
    · cases e

theorem law20 (l : List UInt8) : parse8 l = parse20 l := by
  unfold parse8 parse20
  cases he : errOf l 9 1 with
  | some x =>
    obtain ⟨h1, h2, h3⟩ := errOf_some he
    have hg : guess l = ((x : Int), 0, 0) := by unfold guess; rw [he]
    have hr : right x 0 0 = true := by unfold right; rw [if_pos (by omega)]; simp; omega
    have ht : txt (x : Int) 0 0 = l := by unfold txt; rw [if_pos (by simpa using hr), if_pos (by omega), h3]
    rw [hg]
    simp only [ht, if_true]
    rw [if_neg (by rw [h3]; simp), if_neg (by rw [h3]; simp)]
  | none =>
    by_cases h35 : l.head? = some 35
    · obtain ⟨r, hr⟩ : ∃ r, l = 35 :: r := by
        cases l with
        | nil => simp at h35
        | cons c r => simp at h35; exact ⟨r, by rw [h35]⟩
      have hg : guess l = (0, 2, (ph r).1) := by
        unfold guess
        rw [he, hr]
        simp [Lib.hasPrefix, Lib.trimPrefix, List.isPrefixOf]
      have ht : txt 0 2 (ph r).1 = 35 :: hexLow 16 (ph r).1 := by simp [txt, right]
      rw [hg]
      simp only [ht]
      have hn : ¬ l = [110, 105, 108] := by rw [hr]; simp
      have htl : l.tail = r := by rw [hr]; rfl
      simp only [hn, h35, if_true, if_false, htl]
      by_cases hp : (ph r).2 = 0
      · have e1 : 35 :: hexLow 16 (ph r).1 = l := by rw [ph_ok hp, hr]
        simp only [e1, hp, if_true, ne_eq, not_true_eq_false, if_false]
      · have e1 : ¬ 35 :: hexLow 16 (ph r).1 = l := by
          rw [hr]
          intro e
          have e2 : hexLow 16 (ph r).1 = r := by simpa using e
          have := ph_hexLow (ph r).1 (ph_lt r)
          rw [e2] at this
          rw [this] at hp
          exact hp rfl
        simp only [e1, hp, if_false, ne_eq, not_false_eq_true, if_true]
    · have hpre : Lib.hasPrefix l [35] = false := by
        cases l with
        | nil => rfl
        | cons c r =>
          simp at h35
          simp [Lib.hasPrefix, List.isPrefixOf]
          intro e; exact h35 e.symm
      cases hp : Lib.parseUintB 64 l with
      | ok u =>
        have hu : u < 18446744073709551616 := by
          unfold Lib.parseUintB at hp
          split at hp
          · cases hp
          · exact pum_lt l 0 u (by omega) hp
        have hg : guess l = (0, 1, u) := by unfold guess; rw [he]; simp [hpre, hp]
        have ht : txt 0 1 u = Lib.decDigits u := by simp [txt, right]
        have hnil : l ≠ [110, 105, 108] := by rintro rfl; simp [Lib.parseUintB, Lib.parseUintM] at hp
        rw [hg]
        simp only [ht]
        simp only [hnil, h35, if_false]
        by_cases hd : Lib.decDigits u = l
        · rw [if_pos hd]
          have h20 := decDigits_le u hu
          rw [hd] at h20
          have hne := dec_ne_nil u
          rw [hd] at hne
          have hdg := digs_dec u hu
          rw [hd] at hdg
          simp [tail20_some (by omega) hne hdg, hd]
        · rw [if_neg hd]
          unfold tail20
          split
          · rfl
          · split
            · rfl
            · rename_i u' hu'
              rw [if_neg]
              intro e
              have := pub_dec u' (digs_lt l 0 u' (by omega) hu')
              rw [e, hp] at this
              cases this
              exact hd e
      | _ =>
        all_goals
          have hg : guess l = (0, 0, 0) := by unfold guess; rw [he]; simp [hpre, hp]
          have ht : txt 0 0 0 = [110, 105, 108] := by simp [txt, right]
          rw [hg]
          simp only [ht]
          by_cases hnil : l = [110, 105, 108]
          · simp only [hnil, if_true]
          · have hnil' : ¬ [110, 105, 108] = l := fun e => hnil e.symm
            simp only [hnil, hnil', h35, if_false]
            unfold tail20
            split
            · rfl
            · split
              · rfl
              · rename_i u' hu'
                rw [if_neg]
                intro e
                have := pub_dec u' (digs_lt l 0 u' (by omega) hu')
                rw [e, hp] at this
                cases this
end Go.Proofs.TD
