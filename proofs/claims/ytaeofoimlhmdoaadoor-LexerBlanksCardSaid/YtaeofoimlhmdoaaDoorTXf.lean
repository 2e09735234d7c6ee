/-
  A part of the proof: contracts of single functions over the abstract heap.
-/
import Derived.Test.YtaeofoimlhmdoaaDoorTXe
namespace Go.Proofs.TD
open Go Go.Abs
open Go.Proofs (Tryd.prog)
set_option maxRecDepth 100000
set_option linter.unusedVariables false
set_option linter.unusedSimpArgs false
variable {H : AH}

def tokI (l : List UInt8) : (Int × List UInt8 × Nat) × Nat := if (tok l).2 = 0 then ((0, [], 0), 0) else tok l

theorem take_tw (q : UInt8 → Bool) (l : List UInt8) : l.take (tw q l) = l.takeWhile q := by
  induction l with
  | nil => rfl
  | cons c l ih =>
    unfold tw at ih ⊢
    simp only [List.takeWhile_cons]
    cases q c with
    | true => simp [ih]
    | false => simp

theorem nameB_take (r : List UInt8) : nameB (r.take (tw isE r)) = decide (nm r ≠ 0) ∧ (nm r ≠ 0 → nm r = tw isE r) := by
  cases r with
  | nil => simp [nm, nameB]
  | cons c r =>
    cases hc : isL c with
    | true =>
      have : isE c = true := isE_of_isL hc
      have e : tw isE (c :: r) = tw isE r + 1 := by simp [tw, List.takeWhile_cons, this]
      rw [e]
      simp only [nm, hc, if_true, List.take_succ_cons, nameB, Bool.true_and]
      refine ⟨?_, fun _ => by omega⟩
      have : (r.take (tw isE r)).all isE = true := by
        rw [take_tw, List.all_eq_true]; intro x hx; exact (List.all_eq_true.1 List.all_takeWhile) x hx
      rw [this]; simp
    | false =>
      simp only [nm, hc, Bool.false_eq_true, if_false, ne_eq, not_true_eq_false, decide_false, false_implies, and_true]
      cases he : isE c with
      | true =>
        have e : tw isE (c :: r) = tw isE r + 1 := by simp [tw, List.takeWhile_cons, he]
        rw [e]; simp [nameB, hc]
      | false =>
        have e : tw isE (c :: r) = 0 := by simp [tw, List.takeWhile_cons, he]
        rw [e]; simp [nameB]

theorem isL_ne {c : UInt8} (h : isL c = true) : c ≠ 61 ∧ c ≠ 36 ∧ c ≠ 35 ∧ isF c = false := by
  have : 97 ≤ c.toNat ∧ c.toNat ≤ 122 := by simpa [isL] using h
  refine ⟨?_, ?_, ?_, by simp [isF]; omega⟩ <;> (rintro rfl; revert this; decide)

theorem ph_len {l : List UInt8} (h : (ph l).2 = 0) : l.length = 16 := by
  unfold ph at h
  split at h
  · assumption
  · cases h

/-- lexer.token -/
theorem g30 {c : UInt8} {r : List UInt8} (hl : r.length < 900000) (hL : Laid H) : Gives p 30 [bS (c :: r)] H (.tuple #[tokV (tokI (c :: r)).1.1 (tokI (c :: r)).1.2.1 (tokI (c :: r)).1.2.2 0, .int .i64 (tokI (c :: r)).2]) := by
  refine .of (d30 ?_)
  simp only [v30]
  simp -implicitDefEqProofs only [k_real, alloc43, stepV_new]
  intro b hb
  have l1 := AH.le_upd (o := .cells false (tokC 0 [] 0 0)) hb
  have r1 : (H.upd b (.cells false (tokC 0 [] 0 0))) b = some (.cells false (tokC 0 [] 0 0)) := upd_self
  have l2 : ∀ o, H.le ((H.upd b (.cells false (tokC 0 [] 0 0))).upd b o) := fun o => AH.le_upd' l1 hb
  generalize H.upd b (.cells false (tokC 0 [] 0 0)) = H1 at l1 r1 l2
  have hE := tw_le isE r
  have hX := tw_le isX r
  have hFl := tw_le isF (c :: r)
  simp -implicitDefEqProofs only [sl1, stepV_val, runS_call, List.all_cons, List.all_nil, known_bS, known, Bool.and_self, if_true, fnV]
  refine (g33e (l := r)).step ?_
  simp -implicitDefEqProofs only [add1 (show tw isE r < 9223372036854775807 by omega), stepV_val]
  refine ⟨fun xs H' => xs = [.pointer (some ⟨b, 0, none⟩)] ∧ H.le H' ∧ H' b = some (.cells false (tokC 0 [] 0 0)) ∧ (tok (c :: r)).2 = 0, ?_, ?_⟩
  · simp -implicitDefEqProofs only [ix0, conv5_21, stepV_val, bin_eql, selV_bool, decide_eq_true_eq, eq61, eq36, eq35, b43_0, store43 r1, Bool.false_eq_true, if_false]
    by_cases h1 : c = 61
    · rw [if_pos h1, ret43 upd_self]
      have : tokI (c :: r) = ((4, [], 0), 1) := by simp [tokI, tok, h1]
      rw [this]
      exact ⟨rfl, l2 _⟩
    rw [if_neg h1]
    refine g32.step ?_
    have e : (decide ((97 : Int) ≤ (c.toNat : Int) ∧ (c.toNat : Int) ≤ 122)) = isL c := by unfold isL; grind
    rw [e]
    cases hLc : isL c with
    | true =>
      obtain ⟨n1, n2, n3, n4⟩ := isL_ne hLc
      simp -implicitDefEqProofs only [selV_true, slhi (show tw isE r + 1 ≤ (c :: r).length by simp; omega), stepV_val, b43_01, store43 r1]
      rw [ret43 upd_self]
      have : tokI (c :: r) = ((0, (c :: r).take (tw isE r + 1), 0), tw isE r + 1) := by
        have : tok (c :: r) = ((0, (c :: r).take (tw isE r + 1), 0), tw isE r + 1) := by
          simp only [tok, n1, n2, n3, n4, if_false, Bool.false_eq_true, nm, hLc, if_true, Nat.add_comm]
        simp [tokI, this]
      rw [this]
      exact ⟨rfl, l2 _⟩
    | false =>
      simp -implicitDefEqProofs only [selV_false, bin_eql, stepV_val, selV_bool, decide_eq_true_eq, eq36, eq35, Bool.false_eq_true, if_false, sl1n hE, sl1, runS_call, List.all_cons, List.all_nil, known_bS, known, Bool.and_self, if_true, fnV, b43_01, store43 r1]
      by_cases h2 : c = 36
      · have h35 : c ≠ 35 := by rw [h2]; decide
        have hF36 : isF c = false := by rw [h2]; decide
        rw [if_pos h2]
        refine (g18 (by simp; omega)).step ?_
        obtain ⟨e1, e2⟩ := nameB_take r
        rw [e1]
        simp -implicitDefEqProofs only [selV_bool, decide_eq_true_eq]
        by_cases h0 : nm r = 0
        · rw [if_neg (by simpa using h0), if_neg h35]
          refine g50.step ?_
          have : decide ((48 : Int) ≤ (c.toNat : Int) ∧ (c.toNat : Int) ≤ 57) = isF c := by unfold isF; grind
          rw [this, hF36]
          simp -implicitDefEqProofs only [selV_false]
          exact ⟨by first | rfl | trivial, l1, r1, by simp [tok, h1, h2, h0]⟩
        · rw [if_pos h0]
          try simp -implicitDefEqProofs only [b43_01, stepV_val, store43 r1]
          rw [ret43 upd_self]
          have : tokI (c :: r) = ((1, r.take (tw isE r), 0), tw isE r + 1) := by
            have : tok (c :: r) = ((1, r.take (tw isE r), 0), tw isE r + 1) := by
              simp only [tok, h1, h2, if_false, if_true, h0, e2 h0]
              have := e2 h0
              simp; omega
            simp [tokI, this]
          rw [this]
          exact ⟨rfl, l2 _⟩
      rw [if_neg h2]
      by_cases h3 : c = 35
      · rw [if_pos h3]
        refine (g33x (l := r)).step ?_
        simp -implicitDefEqProofs only [stepV_val, add1 (show tw isX r < 9223372036854775807 by omega), sl1n hX, runS_call, List.all_cons, List.all_nil, known_bS, Bool.and_self, if_true]
        refine (g39 (by simp; omega)).step ?_
        simp -implicitDefEqProofs only [ext0, ext1, stepV_val, bin_eql, selV_bool, decide_eq_true_eq, Bool.false_eq_true, if_false, b43_02, store43 r1]
        by_cases h0 : (ph (r.take (tw isX r))).2 = 0
        · rw [if_pos (by omega), ret43 upd_self]
          have h16 := ph_len h0
          rw [List.length_take] at h16
          have : tokI (c :: r) = ((3, [], (ph (r.take (tw isX r))).1), tw isX r + 1) := by
            have : tok (c :: r) = ((3, [], (ph (r.take (tw isX r))).1), tw isX r + 1) := by
              simp only [tok, h1, h2, h3, if_false, if_true, h0]
              simp
              omega
            simp [tokI, this]
          rw [this]
          exact ⟨rfl, l2 _⟩
        · rw [if_neg (by omega)]
          exact ⟨by first | rfl | trivial, l1, r1, by simp [tok, h1, h2, h3, h0]⟩
      rw [if_neg h3]
      refine g50.step ?_
      have : decide ((48 : Int) ≤ (c.toNat : Int) ∧ (c.toNat : Int) ≤ 57) = isF c := by unfold isF; grind
      rw [this]
      cases hF : isF c with
      | false =>
        simp -implicitDefEqProofs only [selV_false]
        exact ⟨by first | rfl | trivial, l1, r1, by simp [tok, h1, h2, h3, hF, nm, hLc]⟩
      | true =>
        simp -implicitDefEqProofs only [selV_true, runS_call, List.all_cons, List.all_nil, known_bS, known, Bool.and_self, if_true, fnV]
        refine (g33f (l := c :: r)).step ?_
        simp -implicitDefEqProofs only [slhi hFl, stepV_val, runS_call, List.all_cons, List.all_nil, known_bS, known, Bool.and_self, if_true]
        have hne : (c :: r).takeWhile isF ≠ [] := by simp [List.takeWhile_cons, hF]
        have hpb : Lib.parseUintB 64 ((c :: r).takeWhile isF) = Lib.parseUintM (2 ^ 64 - 1) 0 ((c :: r).takeWhile isF) := by
          unfold Lib.parseUintB; rw [if_neg hne]
        have hnum := pum_num (c :: r) 0 0 (by omega)
        rw [take_tw]
        have htok : tok (c :: r) = ((2, [], (numL 0 0 (c :: r)).1), (numL 0 0 (c :: r)).2) := by simp only [tok, h1, h2, h3, hF, if_false, if_true]
        have hlen : ((c :: r).takeWhile isF).length < 1000000 := by have := hFl; unfold tw at this; simp at this ⊢; omega
        by_cases hok : ∃ u, Lib.parseUintB 64 ((c :: r).takeWhile isF) = .ok u
        · obtain ⟨u, hu⟩ := hok
          refine (g40_ok hlen hu).step ?_
          simp -implicitDefEqProofs only [ext0, ext1, stepV_val, eql66_nil, selV_true, b43_02, store43 r1]
          rw [ret43 upd_self]
          have hn := hnum.1 u (by rw [← hpb]; exact hu)
          have hpos : tw isF (c :: r) ≠ 0 := by simp [tw, List.takeWhile_cons, hF]
          have : tokI (c :: r) = ((2, [], u), tw isF (c :: r)) := by simp [tokI, htok, hn, hpos]
          rw [this]
          exact ⟨rfl, l2 _⟩
        · refine stepV_call (g40_bad hlen (hL.mono l1) (fun u hu => hok ⟨u, hu⟩)) ?_ ?_
          · rintro v H2 ⟨rfl, n, b2, hv⟩
            cases hv
            simp -implicitDefEqProofs only [ext0, ext1, stepV_val, eql66_err, selV_false]
            have hn := hnum.2 (fun u hu => hok ⟨u, by rw [hpb]; exact hu⟩)
            exact ⟨by first | rfl | trivial, l1, r1, by simp [htok, hn]⟩
          · rintro v H2 ⟨rfl, n, b2, hv⟩
            cases hv
  · rintro x1 H2 ⟨hx, hle, hrow, h0⟩
    simp only [List.cons.injEq, and_true] at hx
    subst hx
    simp -implicitDefEqProofs only [b43, stepV_val, store43 hrow]
    rw [ret43 upd_self]
    have : tokI (c :: r) = ((0, [], 0), 0) := by simp [tokI, h0]
    rw [this]
    exact ⟨rfl, AH.le_upd' hle hb⟩
end Go.Proofs.TD
