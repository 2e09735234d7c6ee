/-
  A part of the proof: contracts of single functions over the abstract heap.
-/
import Derived.Test.YtaeofoimlhmdoaaDoorTXj
namespace Go.Proofs.TD
open Go Go.Abs
open Go.Proofs (Tryd.prog)
set_option maxRecDepth 100000
set_option linter.unusedVariables false
set_option linter.unusedSimpArgs false
variable {H : AH}

theorem at33 {b : Nat} {l : List TokR} {ro : Bool} {j : Int} {x : TokR} {K Q : Value → AH → Prop} (h : H b = some (.cells ro (tokCs l))) (h0 : 0 ≤ j) (hj : l[j.toNat]? = some x) (hK : K (tokV x.1.1 x.1.2.1 x.1.2.2 x.2) H) :
    stepV p H (runS p H (.indexAddr 33 (.slice (some ⟨b, 0, none⟩) l.length 4) (.int .i64 j))) (fun y H1 => stepV p H1 (runS p H1 (.load 43 y)) K Q) Q := by
  obtain ⟨hlt, hx⟩ := List.getElem?_eq_some_iff.1 hj
  have e : (j.toNat : Int) = j := Int.toNat_of_nonneg h0
  have := ia33 (H := H) (b := b) (n := l.length) hlt
  rw [e] at this
  rw [this, stepV_val, eld43 h hlt, stepV_val, hx]
  exact hK

theorem n_a : nameB [97, 49] = true := by decide
theorem n_b : nameB [49, 97] = false := by decide

/-- alive -/
theorem g14 (hL : Laid H) : Gives p 14 [] H (.bool true) := by
  refine .of (d14 ?_)
  simp only [v14]
  simp -implicitDefEqProofs only [k_real, runS_call, List.all_cons, List.all_nil, known_bS, Bool.and_self, if_true]
  refine stepV_call (g15 (by decide) hL) ?_ (fun v H' h => by obtain ⟨_, v, hx, _⟩ := h; cases hx)
  rintro v1 H1 ⟨l1, t1, hv1, ht1⟩
  cases hv1
  rw [s_a] at ht1 ⊢
  simp -implicitDefEqProofs only [ext3_0, ext3_1, ext3_2, stepV_val]
  refine stepV_call (g15 (by decide) (hL.mono l1)) ?_ (fun v H' h => by obtain ⟨_, v, hx, _⟩ := h; cases hx)
  rintro v2 H2 ⟨l2, t2, hv2, ht2⟩
  cases hv2
  rw [s_b] at ht2 ⊢
  simp -implicitDefEqProofs only [ext3_0, ext3_1, ext3_2, stepV_val]
  replace ht1 := ht1.mono l2; replace l1 := AH.le_trans l1 l2
  refine stepV_call (g15 (by decide) (hL.mono l1)) ?_ (fun v H' h => by obtain ⟨_, v, hx, _⟩ := h; cases hx)
  rintro v3 H3 ⟨l3, t3, hv3, ht3⟩
  cases hv3
  rw [s_c] at ht3 ⊢
  simp -implicitDefEqProofs only [ext3_0, ext3_1, ext3_2, stepV_val]
  replace ht1 := ht1.mono l3; replace l1 := AH.le_trans l1 l3
  refine stepV_call (g15 (by decide) (hL.mono l1)) ?_ (fun v H' h => by obtain ⟨_, v, hx, _⟩ := h; cases hx)
  rintro v4 H4 ⟨l4, t4, hv4, ht4⟩
  cases hv4
  rw [s_d] at ht4 ⊢
  simp -implicitDefEqProofs only [ext3_0, ext3_1, ext3_2, stepV_val]
  replace ht1 := ht1.mono l4; replace l1 := AH.le_trans l1 l4
  have hlen := len33 (H := H4) ht1
  rcases ht1 with ⟨h, _⟩ | ⟨_, b, rfl, hb⟩
  · cases h
  rw [hlen]
  simp -implicitDefEqProofs only [stepV_val, bin_neq, bin_eql, selV_bool, decide_eq_true_eq, Bool.false_eq_true, if_false]
  rw [if_neg (by decide), if_pos (by decide), if_pos (by decide)]
  refine at33 hb (by decide) rfl ?_
  simp -implicitDefEqProofs only [b43_13, b43_03, b43_023, b43_013, stepV_val, eql43, selV_bool, decide_eq_true_eq]
  rw [if_pos (by decide)]
  refine at33 hb (by decide) rfl ?_
  simp -implicitDefEqProofs only [b43_13, b43_03, b43_023, b43_013, stepV_val, eql43, selV_bool, decide_eq_true_eq]
  rw [if_pos (by decide)]
  refine at33 hb (by decide) rfl ?_
  simp -implicitDefEqProofs only [b43_13, b43_03, b43_023, b43_013, stepV_val, eql43, selV_bool, decide_eq_true_eq]
  rw [if_pos (by decide)]
  refine at33 hb (by decide) rfl ?_
  simp -implicitDefEqProofs only [b43_13, b43_03, b43_023, b43_013, stepV_val, eql43, selV_bool, decide_eq_true_eq]
  rw [if_pos (by decide)]
  refine at33 hb (by decide) rfl ?_
  simp -implicitDefEqProofs only [b43_13, b43_03, b43_023, b43_013, stepV_val, eql43, selV_bool, decide_eq_true_eq]
  rw [if_pos (by decide)]
  refine at33 hb (by decide) rfl ?_
  simp -implicitDefEqProofs only [b43_13, b43_03, b43_023, b43_013, stepV_val, eql43, selV_bool, decide_eq_true_eq]
  rw [if_pos (by decide)]
  rw [if_pos (by decide), if_pos (by decide), if_pos (by decide), if_pos (by decide), if_pos (by decide), if_pos (by decide)]
  refine (g18 (by decide)).step ?_
  rw [n_a]
  simp -implicitDefEqProofs only [selV_true, runS_call, List.all_cons, List.all_nil, known_bS, Bool.and_self, if_true]
  refine (g18 (by decide)).step ?_
  rw [n_b]
  simp -implicitDefEqProofs only [un_not, stepV_val, Bool.not_false, selV_true]
  exact ⟨rfl, l1⟩

theorem sc_len : ∀ (f a : Nat) (l : List UInt8) (t : List TokR), l.length < f → sc f a l = .inr t → t.length ≤ l.length := by
  intro f
  induction f with
  | zero => intro a l t h; omega
  | succ f ih =>
    intro a l t hf h
    cases l with
    | nil => simp [sc] at h; subst h; simp
    | cons c r =>
      simp only [sc] at h
      simp only [List.length_cons] at hf ⊢
      split at h
      · have := ih _ _ _ (by omega) h; omega
      · split at h
        · cases h
        · rename_i hn
          split at h
          · cases h
          · rename_i l' hl'
            have := ih _ _ _ (by simp; omega) hl'
            cases h
            simp at this ⊢; omega
theorem scanR_len {l : List UInt8} (hl : l.length < 900000) : (scanR l).1.length < 1000000 := by
  unfold scanR
  split
  · simp
  · split
    · simp
    · rename_i t ht
      have := sc_len _ _ _ _ (by omega) ht
      simp; omega

/-- LexerTells -/
theorem g5 {l : List UInt8} (hL : Laid H) : Gives p 5 [bS l] H (.bool true) := by
  refine .of (d5 ?_)
  simp only [v5]
  simp -implicitDefEqProofs only [k_real, len9', stepV_val, bin_gtr, selV_bool, decide_eq_true_eq, Bool.false_eq_true, if_false, runS_call, List.all_cons, List.all_nil, known_bS, Bool.and_self, if_true]
  split
  · refine (g14 hL).step ?_
    exact ⟨rfl, AH.le_refl _⟩
  · rename_i hlen
    have hl : l.length < 900000 := by omega
    refine stepV_call (g15 hl hL) ?_ (fun v H' h => by obtain ⟨_, v, hx, _⟩ := h; cases hx)
    rintro v1 H1 ⟨l1, t1, hv1, ht1⟩
    cases hv1
    simp -implicitDefEqProofs only [ext3_0, ext3_1, ext3_2, stepV_val]
    refine stepV_call (g16 hl) ?_ (fun v H' h => by obtain ⟨_, v, hx, _⟩ := h; cases hx)
    rintro v2 H2 ⟨l2, t2, hv2, ht2⟩
    cases hv2
    replace ht1 := ht1.mono l2; replace l1 := AH.le_trans l1 l2
    have hsl := scanR_len hl
    simp -implicitDefEqProofs only [ext3_0, ext3_1, ext3_2, stepV_val, runS_call, List.all_cons, List.all_nil, ht1.known, ht2.known, Bool.and_self, if_true]
    refine (g17 ht1 ht2 hsl).step ?_
    refine (g14 (hL.mono l1)).step ?_
    simp -implicitDefEqProofs only [selV_true, bin_eql, stepV_val, decide_true, runS_call, List.all_cons, List.all_nil, known_bS, Bool.and_self, if_true]
    refine (g18 (by omega)).step ?_
    refine (g19 (by omega)).step ?_
    simp -implicitDefEqProofs only [eql4, stepV_val, beq_self_eq_true]
    exact ⟨rfl, l1⟩
end Go.Proofs.TD
