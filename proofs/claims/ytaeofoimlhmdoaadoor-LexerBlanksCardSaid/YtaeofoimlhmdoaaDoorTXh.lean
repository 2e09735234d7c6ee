/-
  A part of the proof: contracts of single functions over the abstract heap.
-/
import Derived.Test.YtaeofoimlhmdoaaDoorTXg
namespace Go.Proofs.TD
open Go Go.Abs
open Go.Proofs (Tryd.prog)
set_option maxRecDepth 100000
set_option linter.unusedVariables false
set_option linter.unusedSimpArgs false
variable {H : AH}

/-- the document's Scan -/
theorem g16 {l : List UInt8} (hl : l.length < 900000) : Does p 16 [bS l] H (ScanGives H l) := by
  refine Does.drop (R' := ScanGives H l) (d16 ?_) (fun x H' h => ⟨H', AH.le_refl _, h⟩)
  simp only [v16]
  simp -implicitDefEqProofs only [k_real, len9', stepV_val, bin_gtr, selV_bool, decide_eq_true_eq, Bool.false_eq_true, if_false, ret3 (show known (.slice none 0 0) = true from rfl) known_int known_int]
  by_cases h1000 : 1000 < l.length
  · rw [if_pos (by omega)]
    exact ⟨AH.le_refl _, _, by simp [scanR, h1000], .inl ⟨by simp [scanR, h1000], rfl⟩⟩
  rw [if_neg (by omega)]
  refine ⟨fun n xs H' => ∃ (j : Nat) (acc : List TokR) (v : Value), j ≤ l.length ∧ n = l.length - j ∧ acc.length ≤ j ∧ H.le H' ∧ IsToks H' v acc ∧ (∀ b, v = .slice (some ⟨b, 0, none⟩) acc.length 4 → H b = none) ∧
      sc (l.length + 1) 0 l = scP acc (sc (l.length + 1) j (l.drop j)) ∧ xs = [bS l, v, .int .i64 (j : Nat)],
    ⟨l.length, 0, [], _, by omega, rfl, by simp, AH.le_refl _, .inl ⟨rfl, rfl⟩, (by intro b h; cases h), ?_, rfl⟩, ?_⟩
  · simp only [List.drop_zero]
    cases sc (l.length + 1) 0 l <;> simp [scP]
  rintro n x1 x2 x3 H1 ⟨j, acc, v, hj, rfl, hacc, hle, hv, hnew, hsc, hx⟩
  simp only [List.cons.injEq, and_true] at hx
  obtain ⟨rfl, rfl, rfl⟩ := hx
  simp -implicitDefEqProofs only [k_real, len9', stepV_val, bin_lss, selV_bool, decide_eq_true_eq, Bool.false_eq_true, if_false]
  by_cases hjl : j < l.length
  · rw [if_pos (by omega)]
    have hd : l.drop j = l[j] :: l.drop (j + 1) := List.drop_eq_getElem_cons hjl
    have hscf : ∀ (a : Nat) (r : List UInt8), r.length < l.length → sc l.length a r = sc (l.length + 1) a r := fun a r h => sc_fuel _ _ _ _ h (by omega)
    simp -implicitDefEqProofs only [ix hjl, stepV_val, bin_eql, selV_bool, decide_eq_true_eq, eq32, Bool.false_eq_true, if_false, add1 (show j < 9223372036854775807 by omega), sllo hj, runS_call, List.all_cons, List.all_nil, known_bS, Bool.and_self, if_true]
    by_cases hsp : l[j] = 32
    · rw [if_pos hsp]
      refine ⟨_, by omega, j + 1, acc, x2, by omega, rfl, by omega, hle, hv, hnew, ?_, rfl⟩
      rw [hsc, hd]
      simp only [sc, hsp, if_true]
      rw [hscf _ _ (by simp; omega)]
    · rw [if_neg hsp, hd]
      have hrl : (l.drop (j + 1)).length < 900000 := by simp; omega
      refine (g31 hrl).step ?_
      simp -implicitDefEqProofs only [ext0, ext1, stepV_val]
      refine kept45 fun b2 H2 l2 n2 r2 => ?_
      have hle2 := AH.le_trans hle l2
      simp -implicitDefEqProofs only [stepV_val, bin_eql, selV_bool, decide_eq_true_eq, Bool.false_eq_true, if_false, fa45_3, st3f r2]
      have hscd : sc (l.length + 1) j (l.drop j) = if (tok (l[j] :: l.drop (j + 1))).2 = 0 then .inl j else match sc (l.length + 1) (j + (tok (l[j] :: l.drop (j + 1))).2) ((l[j] :: l.drop (j + 1)).drop (tok (l[j] :: l.drop (j + 1))).2) with
          | .inl a => .inl a
          | .inr m => .inr (((tok (l[j] :: l.drop (j + 1))).1, j) :: m) := by
        rw [hd]
        simp only [sc, if_neg hsp]
        split
        · rfl
        · rename_i hn
          rw [hscf _ _ (by rw [← hd] at hn ⊢; rw [List.drop_drop, List.length_drop]; omega)]
          generalize sc (l.length + 1) _ _ = z
          cases z <;> rfl
      have htl := tok_le (l[j] :: l.drop (j + 1))
      rw [← hd] at hscd htl ⊢
      generalize htk : tok (l.drop j) = tk at hscd htl
      simp only [List.length_drop] at htl
      by_cases h0 : tk.2 = 0
      · rw [if_pos (by omega)]
        rw [ret3 (show known (.slice none 0 0) = true from rfl) known_int known_int]
        rw [if_pos h0] at hscd
        have hS : scanR l = ([], j, 2) := by unfold scanR; rw [if_neg h1000, hsc, hscd]; rfl
        exact ⟨hle2, _, by rw [hS], .inl ⟨by rw [hS], rfl⟩⟩
      · rw [if_neg (by omega)]
        rw [if_neg h0] at hscd
        have hrow3 : (H2.upd b2 (.cells false (tokC tk.1.1 tk.1.2.1 tk.1.2.2 j))) b2 = some (.cells false (tokC tk.1.1 tk.1.2.1 tk.1.2.2 j)) := upd_self
        rw [load45 hrow3]
        simp -implicitDefEqProofs only [stepV_val]
        have hHn : H b2 = none := AH.none_of_le hle n2
        have hv3 : IsToks (H2.upd b2 (.cells false (tokC tk.1.1 tk.1.2.1 tk.1.2.2 j))) x2 acc := hv.mono (AH.le_upd' l2 n2)
        refine push36 (f := 0) (AH.le_upd' hle2 hHn) hv3 hnew (by omega) fun v' H' hle' hv' hnew' => ?_
        have hadd : IntKind.i64.wrap ((j : Int) + (tk.2 : Int)) = ((j + tk.2 : Nat) : Int) := by rw [wrap_i64']; omega
        simp -implicitDefEqProofs only [bin_add, stepV_val, hadd]
        refine ⟨_, by omega, j + tk.2, acc ++ [(tk.1, j)], v', by omega, rfl, by simp; omega, hle', hv', hnew', ?_, rfl⟩
        rw [hsc, hscd]
        rw [List.drop_drop]
        cases sc (l.length + 1) (j + tk.2) (l.drop (j + tk.2)) <;> simp [scP]
  · rw [if_neg (by omega)]
    rw [ret3 hv.known known_int known_int]
    have : l.drop j = [] := List.drop_eq_nil_of_le (by omega)
    have hS : scanR l = (acc, 0, 0) := by unfold scanR; rw [if_neg h1000, hsc, this]; simp [sc, scP]
    exact ⟨hle, _, by rw [hS]; rfl, by rw [hS]; exact hv⟩
end Go.Proofs.TD
