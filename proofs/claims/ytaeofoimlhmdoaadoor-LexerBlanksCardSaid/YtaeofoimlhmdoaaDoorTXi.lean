/-
  A part of the proof: contracts of single functions over the abstract heap.
-/
import Derived.Test.YtaeofoimlhmdoaaDoorTXh
namespace Go.Proofs.TD
open Go Go.Abs
open Go.Proofs (Tryd.prog)
set_option maxRecDepth 100000
set_option linter.unusedVariables false
set_option linter.unusedSimpArgs false
variable {H : AH}

theorem trim_sc : ∀ (l : List UInt8), ∃ k, k ≤ l.length ∧ Lib.trimLeftB l 32 = l.drop k ∧ (∀ F a, l.length < F → sc F a l = sc F (a + k) (l.drop k)) ∧ (∀ c r, l.drop k = c :: r → c ≠ 32) := by
  intro l
  induction l with
  | nil => exact ⟨0, by simp, rfl, fun F a h => by simp, fun c r h => by simp at h⟩
  | cons c l ih =>
    obtain ⟨k, h1, h2, h3, h4⟩ := ih
    by_cases hc : c = 32
    · refine ⟨k + 1, by simp; omega, ?_, fun F a hF => ?_, by simpa using h4⟩
      · rw [List.drop_succ_cons, ← h2]
        simp [Lib.trimLeftB, hc]
      · rw [List.drop_succ_cons]
        obtain ⟨G, rfl⟩ : ∃ G, F = G + 1 := ⟨F - 1, by simp at hF; omega⟩
        simp only [List.length_cons] at hF
        have : sc (G + 1) a (c :: l) = sc G (a + 1) l := by simp [sc, hc]
        rw [this, h3 G (a + 1) (by omega), show a + 1 + k = a + (k + 1) by omega]
        exact sc_fuel _ _ _ _ (by simp; omega) (by simp; omega)
    · refine ⟨0, by simp, ?_, fun F a h => by simp, fun d r h => ?_⟩
      · simp [Lib.trimLeftB, hc]
      · simp at h; rw [← h.1]; exact hc

/-- lexer.Scan -/
theorem g15 {l : List UInt8} (hl : l.length < 900000) (hL : Laid H) : Does p 15 [bS l] H (ScanGives H l) := by
  refine Does.drop (R' := ScanGives H l) (d15 ?_) (fun x H' h => ⟨H', AH.le_refl _, h⟩)
  simp only [v15]
  simp -implicitDefEqProofs only [k_real, len9', stepV_val, bin_gtr, selV_bool, decide_eq_true_eq, Bool.false_eq_true, if_false, ret3 (show known (.slice none 0 0) = true from rfl) known_int known_int]
  by_cases h1000 : 1000 < l.length
  · rw [if_pos (by omega)]
    exact ⟨AH.le_refl _, _, by simp [scanR, h1000], .inl ⟨by simp [scanR, h1000], rfl⟩⟩
  rw [if_neg (by omega)]
  simp -implicitDefEqProofs only [runS_call, List.all_cons, List.all_nil, known_bS, Bool.and_self, if_true]
  refine g29.step ?_
  obtain ⟨k0, hk0, e0, s0, z0⟩ := trim_sc l
  rw [e0]
  refine ⟨fun n xs H' => ∃ (j : Nat) (acc : List TokR) (v : Value), j ≤ l.length ∧ n = l.length - j ∧ acc.length ≤ j ∧ H.le H' ∧ IsToks H' v acc ∧ (∀ b, v = .slice (some ⟨b, 0, none⟩) acc.length 4 → H b = none) ∧
      sc (l.length + 1) 0 l = scP acc (sc (l.length + 1) j (l.drop j)) ∧ (∀ c r, l.drop j = c :: r → c ≠ 32) ∧ xs = [bS l, v, bS (l.drop j)],
    ⟨_, k0, [], _, hk0, rfl, by simp, AH.le_refl _, .inl ⟨rfl, rfl⟩, (by intro b h; cases h), ?_, z0, rfl⟩, ?_⟩
  · rw [s0 _ _ (by omega), Nat.zero_add]
    cases sc (l.length + 1) k0 (l.drop k0) <;> simp [scP]
  rintro n x1 x2 x3 H1 ⟨j, acc, v, hj, rfl, hacc, hle, hv, hnew, hsc, hz, hx⟩
  simp only [List.cons.injEq, and_true] at hx
  obtain ⟨rfl, rfl, rfl⟩ := hx
  simp -implicitDefEqProofs only [k_real, bs_neq, stepV_val, selV_bool, decide_eq_true_eq, Bool.false_eq_true, if_false, ne_eq]
  by_cases hjl : j < l.length
  · have hd : l.drop j = l[j] :: l.drop (j + 1) := List.drop_eq_getElem_cons hjl
    have hsp := hz _ _ hd
    rw [if_pos (by rw [hd]; simp; exact hjl)]
    have hat : IntKind.i64.wrap ((l.length : Int) - ((l.drop j).length : Nat)) = (j : Int) := by rw [List.length_drop, wrap_i64']; omega
    have hlaid : Laid H1 := hL.mono hle
    simp -implicitDefEqProofs only [len9', stepV_val, bin_sub, hat, runS_call, List.all_cons, List.all_nil, known_bS, Bool.and_self, if_true]
    have hrl : (l.drop (j + 1)).length < 900000 := by simp; omega
    have hgi := g30 (c := l[j]) (r := l.drop (j + 1)) hrl hlaid
    rw [← hd] at hgi
    refine hgi.step ?_
    have hscd : sc (l.length + 1) j (l.drop j) = if (tok (l.drop j)).2 = 0 then .inl j else match sc (l.length + 1) (j + (tok (l.drop j)).2) ((l.drop j).drop (tok (l.drop j)).2) with
        | .inl a => .inl a
        | .inr m => .inr (((tok (l.drop j)).1, j) :: m) := by
      rw [hd]
      simp only [sc, if_neg hsp]
      split
      · rfl
      · rename_i hn
        rw [sc_fuel l.length (l.length + 1) _ _ (by rw [← hd] at hn ⊢; rw [List.drop_drop, List.length_drop]; omega) (by rw [← hd] at hn ⊢; rw [List.drop_drop, List.length_drop]; omega)]
        generalize sc (l.length + 1) _ _ = z
        cases z <;> rfl
    have htl := tok_le (l.drop j)
    unfold tokI
    generalize htk : tok (l.drop j) = tk at hscd htl
    simp only [List.length_drop] at htl
    simp -implicitDefEqProofs only [ext0, ext1, stepV_val]
    refine kept43 fun b2 H2 l2 n2 r2 => ?_
    have hle2 := AH.le_trans hle l2
    simp -implicitDefEqProofs only [stepV_val, bin_eql, selV_bool, decide_eq_true_eq, Bool.false_eq_true, if_false]
    by_cases h0 : tk.2 = 0
    · simp -implicitDefEqProofs only [h0, if_true]
      rw [if_pos (by rfl)]
      rw [ret3 (show known (.slice none 0 0) = true from rfl) known_int known_int]
      rw [if_pos h0] at hscd
      have hS : scanR l = ([], j, 2) := by unfold scanR; rw [if_neg h1000, hsc, hscd]; rfl
      exact ⟨hle2, _, by rw [hS], .inl ⟨by rw [hS], rfl⟩⟩
    · simp only [h0, if_false] at r2 ⊢
      rw [if_neg (by omega)]
      rw [if_neg h0] at hscd
      simp -implicitDefEqProofs only [fa43_3, stepV_val, Nat.zero_add, st3f r2]
      have hrow3 : (H2.upd b2 (.cells false (tokC tk.1.1 tk.1.2.1 tk.1.2.2 j))) b2 = some (.cells false (tokC tk.1.1 tk.1.2.1 tk.1.2.2 j)) := upd_self
      rw [load43 hrow3]
      simp -implicitDefEqProofs only [stepV_val]
      have hHn : H b2 = none := AH.none_of_le hle n2
      have hv3 : IsToks (H2.upd b2 (.cells false (tokC tk.1.1 tk.1.2.1 tk.1.2.2 j))) x2 acc := hv.mono (AH.le_upd' l2 n2)
      refine push33 (f := 0) (AH.le_upd' hle2 hHn) hv3 hnew (by omega) fun v' H' hle' hv' hnew' => ?_
      simp -implicitDefEqProofs only [sllo (show tk.2 ≤ (l.drop j).length by simp; omega), stepV_val, runS_call, List.all_cons, List.all_nil, known_bS, Bool.and_self, if_true, List.drop_drop]
      refine g29.step ?_
      obtain ⟨k1, hk1, e1, s1, z1⟩ := trim_sc (l.drop (j + tk.2))
      rw [e1, List.drop_drop]
      rw [List.drop_drop] at s1 z1
      rw [List.length_drop] at hk1 s1
      refine ⟨_, by omega, j + tk.2 + k1, acc ++ [(tk.1, j)], v', by omega, rfl, by simp; omega, hle', hv', hnew', ?_, z1, rfl⟩
      rw [hsc, hscd]
      rw [List.drop_drop, s1 _ _ (by omega)]
      cases sc (l.length + 1) (j + tk.2 + k1) (l.drop (j + tk.2 + k1)) <;> simp [scP]
  · have hnil : l.drop j = [] := List.drop_eq_nil_of_le (by omega)
    rw [hnil]
    simp -implicitDefEqProofs only [not_true_eq_false, if_false]
    rw [ret3 hv.known known_int known_int]
    have hS : scanR l = (acc, 0, 0) := by unfold scanR; rw [if_neg h1000, hsc, hnil]; simp [sc, scP]
    exact ⟨hle, _, by rw [hS]; rfl, by rw [hS]; exact hv⟩
end Go.Proofs.TD
