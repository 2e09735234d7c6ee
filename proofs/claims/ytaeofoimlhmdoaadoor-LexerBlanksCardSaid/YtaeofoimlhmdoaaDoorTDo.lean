/-
  A part of the proof: contracts of single functions over the abstract heap.
-/
import Derived.Test.YtaeofoimlhmdoaaDoorTDn
import Derived.Test.YtaeofoimlhmdoaaDoorTLb
namespace Go.Proofs.TD
open Go Go.Abs
open Go.Proofs (Tryd.prog)
set_option maxRecDepth 100000
set_option linter.unusedVariables false
set_option linter.unusedSimpArgs false
variable {H : AH}

theorem ext0 {u v : Value} : runS p H (.extract (.tuple #[u, v]) 0) = some (.val u H) := by
  simp -implicitDefEqProofs only [run_extract, notUnk_two, if_true]; rfl
theorem ext1 {u v : Value} : runS p H (.extract (.tuple #[u, v]) 1) = some (.val v H) := by
  simp -implicitDefEqProofs only [run_extract, notUnk_two, if_true]; rfl
theorem eql26a {a b c a' b' c' : Int} {e : Bool} : runS p H (.bin .eql 26 e (ans a b c) (ans a' b' c')) = some (.val (.bool (decide (a = a' ∧ b = b' ∧ c = c'))) H) := eql26
theorem neq26a {a b c a' b' c' : Int} {e : Bool} : runS p H (.bin .neq 26 e (ans a b c) (ans a' b' c')) = some (.val (.bool (!decide (a = a' ∧ b = b' ∧ c = c'))) H) := neq26
theorem b26 : runS p H (.build 26 []) = some (.val (ans 0 0 0) H) := build26
theorem b26_0 {n : Int} : runS p H (.build 26 [(0, .int .i64 n)]) = some (.val (ans n 0 0) H) := build26_0
theorem b26_2 {n : Int} : runS p H (.build 26 [(2, .int .u64 n)]) = some (.val (ans 0 0 n) H) := by kernel_rfl
theorem b26_12 {n n' : Int} : runS p H (.build 26 [(1, .int .i64 n), (2, .int .u64 n')]) = some (.val (ans 0 n n') H) := build26_12
theorem known_ans {e k w : Int} : known (ans e k w) = true := rfl

theorem t_hex : txt 0 2 255 = [35, 48, 48, 48, 48, 48, 48, 48, 48, 48, 48, 48, 48, 48, 48, 102, 102] := by decide
theorem t_none : txt 0 0 1 = [] := by decide
theorem r_stale : right 5 0 ((0 : Nat) : Int) = true := by decide

theorem g7 (hL : Laid H) : Gives p 7 [] H (.bool true) := by
  refine .of (d7 ?_)
  simp -implicitDefEqProofs only [v7]
  simp -implicitDefEqProofs only [k_real, runS_call, List.all_cons, List.all_nil, known_bS, Bool.and_self, if_true]
  refine (g8 (by decide) hL).step ?_
  rw [p_stale]; simp -implicitDefEqProofs only [ext0, ext1, stepV_val]
  refine keepAns fun b1 H1 l1 n1 r1 => ?_
  refine (g8 (by decide) (hL.mono l1)).step ?_
  rw [p_hex]; simp -implicitDefEqProofs only [ext0, ext1, stepV_val]
  refine keepAns fun b2 H2 l2 n2 r2 => ?_
  replace r1 := l2 _ _ r1; replace l1 := AH.le_trans l1 l2
  refine (g8 (by decide) (hL.mono l1)).step ?_
  rw [p_42]; simp -implicitDefEqProofs only [ext0, ext1, stepV_val]
  refine keepAns fun b3 H3 l3 n3 r3 => ?_
  replace r1 := l3 _ _ r1; replace r2 := l3 _ _ r2; replace l1 := AH.le_trans l1 l3
  refine (g8 (by decide) (hL.mono l1)).step ?_
  rw [p_nil]; simp -implicitDefEqProofs only [ext0, ext1, stepV_val]
  refine keepAns fun b4 H4 l4 n4 r4 => ?_
  replace r1 := l4 _ _ r1; replace r2 := l4 _ _ r2; replace r3 := l4 _ _ r3; replace l1 := AH.le_trans l1 l4
  refine (g8 (by decide) (hL.mono l1)).step ?_
  rw [p_042]; simp -implicitDefEqProofs only [ext0, ext1, stepV_val]
  refine keepAns fun b5 H5 l5 n5 r5 => ?_
  replace r1 := l5 _ _ r1; replace r2 := l5 _ _ r2; replace r3 := l5 _ _ r3; replace r4 := l5 _ _ r4; replace l1 := AH.le_trans l1 l5
  have hL' := hL.mono l1
  simp -implicitDefEqProofs only [load_ans r1, load_ans r2, load_ans r3, load_ans r4, stepV_val, b26, b26_0, b26_2, b26_12, eql26a, bin_eql, runS_call, List.all_cons, List.all_nil, known_ans, Bool.and_self, if_true]
  simp -implicitDefEqProofs only [and_self, decide_true, selV_true]
  refine (g12 (w := 255) (by decide) hL').step ?_
  rw [t_hex]
  simp -implicitDefEqProofs only [bs_eql, decide_true, selV_true, stepV_val, b26_2, runS_call, List.all_cons, List.all_nil, known_ans, Bool.and_self, if_true]
  refine (g12 (w := 1) (by decide) hL').step ?_
  rw [t_none]
  simp -implicitDefEqProofs only [bs_eql, decide_true, selV_true, stepV_val, load_ans r1, runS_call, List.all_cons, List.all_nil, known_ans, Bool.and_self, if_true]
  refine g10.step ?_
  rw [r_stale]
  exact ⟨rfl, l1⟩

theorem box_ans {e k w : Int} : runS p H (.box (ans e k w)) = some (.new H (.cells false [.int .i64 e, .int .i64 k, .int .u64 w]) fun b => .pointer (some ⟨b, 0, none⟩)) := rfl

theorem len9' {l : List UInt8} : runS p H (.len 9 (bS l)) = some (.val (.int .i64 l.length) H) := bs_len (by kernel_rfl)
theorem eql4 {x y : Bool} {c : Bool} : runS p H (.bin .eql 4 c (.bool x) (.bool y)) = some (.val (.bool (x == y)) H) := by
  cases x <;> cases y <;> kernel_rfl
theorem neq4 {x y : Bool} {c : Bool} : runS p H (.bin .neq 4 c (.bool x) (.bool y)) = some (.val (.bool (x != y)) H) := by
  cases x <;> cases y <;> kernel_rfl

/-- AnswerTells. -/
theorem g3 {e k : Int} {w : Nat} {l : List UInt8} (hw : w < 18446744073709551616) (hL : Laid H) : Gives p 3 [ans e k w, bS l] H (.bool true) := by
  refine .of (d3 ?_)
  simp -implicitDefEqProofs only [v3]
  simp -implicitDefEqProofs only [k_real, q_real, box_ans, stepV_new]
  intro b hb
  have l1 := AH.le_upd (o := .cells false [.int .i64 e, .int .i64 k, .int .u64 w]) hb
  have r1 : (H.upd b (.cells false [.int .i64 e, .int .i64 k, .int .u64 w])) b = some (.cells false [.int .i64 e, .int .i64 k, .int .u64 w]) := upd_self
  generalize H.upd b (.cells false [.int .i64 e, .int .i64 k, .int .u64 w]) = H1 at l1 r1
  simp -implicitDefEqProofs only [len9', stepV_val, bin_gtr, selV_bool, decide_eq_true_eq, runS_call, List.all_cons, List.all_nil, known_bS, Bool.and_self, if_true]
  split
  · refine (g7 (hL.mono l1)).step ?_
    exact ⟨rfl, l1⟩
  · rename_i hlen
    have hl : l.length < 1000000 := by omega
    refine (g8 hl (hL.mono l1)).step ?_
    simp -implicitDefEqProofs only [ext0, ext1, stepV_val]
    refine keepAns fun b2 H2 l2 n2 r2 => ?_
    replace r1 := l2 _ _ r1; replace l1 := AH.le_trans l1 l2
    refine (g9 hl).step ?_
    simp -implicitDefEqProofs only [ext0, ext1, stepV_val]
    refine keepAns fun b3 H3 l3 n3 r3 => ?_
    replace r1 := l3 _ _ r1; replace r2 := l3 _ _ r2; replace l1 := AH.le_trans l1 l3
    have hL' := hL.mono l1
    refine (g7 hL').stepQ ?_
    simp -implicitDefEqProofs only [selV_true, load_ans r1, load_ans r2, load_ans r3, stepQ_val, runS_call, List.all_cons, List.all_nil, known_ans, Bool.and_self, if_true]
    refine g10.stepQ ?_
    refine g11.stepQ ?_
    simp -implicitDefEqProofs only [eql4, stepQ_val, beq_self_eq_true, selV_true]
    refine (g12 hw hL').stepQ ?_
    refine (g13 hw).stepQ ?_
    simp -implicitDefEqProofs only [bs_eql, stepQ_val, decide_true, selV_true, eql26a, and_self, bin_eql, stepV_val]
    exact ⟨rfl, l1⟩

/-- AnswerBack. -/
theorem g4 {e k : Int} {w : Nat} {l : List UInt8} (hw : w < 18446744073709551616) (hL : Laid H) : Gives p 4 [ans e k w, bS l] H (.bool true) := by
  refine .of (d4 ?_)
  simp -implicitDefEqProofs only [v4]
  simp -implicitDefEqProofs only [k_real, q_real, box_ans, stepV_new]
  intro b hb
  have l1 := AH.le_upd (o := .cells false [.int .i64 e, .int .i64 k, .int .u64 w]) hb
  have r1 : (H.upd b (.cells false [.int .i64 e, .int .i64 k, .int .u64 w])) b = some (.cells false [.int .i64 e, .int .i64 k, .int .u64 w]) := upd_self
  generalize H.upd b (.cells false [.int .i64 e, .int .i64 k, .int .u64 w]) = H1 at l1 r1
  simp -implicitDefEqProofs only [len9', stepV_val, bin_gtr, selV_bool, decide_eq_true_eq, runS_call, List.all_cons, List.all_nil, known_bS, Bool.and_self, if_true]
  split
  · refine (g7 (hL.mono l1)).step ?_
    exact ⟨rfl, l1⟩
  · rename_i hlen
    have hl : l.length < 1000000 := by omega
    simp -implicitDefEqProofs only [load_ans r1, stepV_val, runS_call, List.all_cons, List.all_nil, known_ans, Bool.and_self, if_true]
    refine (g12 hw (hL.mono l1)).step ?_
    simp -implicitDefEqProofs only [runS_call, List.all_cons, List.all_nil, known_bS, Bool.and_self, if_true]
    refine (g8 (by have := txt_le e k w hw; omega) (hL.mono l1)).step ?_
    simp -implicitDefEqProofs only [ext0, ext1, stepV_val]
    refine keepAns fun b2 H2 l2 n2 r2 => ?_
    replace r1 := l2 _ _ r1; replace l1 := AH.le_trans l1 l2
    have hL2 := hL.mono l1
    simp -implicitDefEqProofs only [bs_neq, stepV_val, load_ans r1, load_ans r2, runS_call, List.all_cons, List.all_nil, known_ans, Bool.and_self, if_true]
    refine g10.step ?_
    simp -implicitDefEqProofs only [neq4, stepV_val]
    by_cases hr : right e k w = true
    · have hne : txt e k w ≠ [] := by intro h; rw [txt_empty.1 h] at hr; cases hr
      simp -implicitDefEqProofs only [hr, hne, ne_eq, not_false_eq_true, decide_true, bne_self_eq_false, selV_false, selV_true, parse_txt hw hr, bin_neq, stepV_val, not_true_eq_false, decide_false, neq26a, load_ans r1]
      have r2' := r2
      rw [parse_txt hw hr] at r2'
      simp -implicitDefEqProofs only [load_ans r2', load_ans r1, stepV_val, neq26a, and_self, decide_true, Bool.not_true, selV_false]
      try simp -implicitDefEqProofs only [runS_call, List.all_cons, List.all_nil, known_bS, Bool.and_self, if_true]
      refine (g8 hl hL2).step ?_
      simp -implicitDefEqProofs only [ext0, ext1, stepV_val]
      refine keepAns fun b3 H3 l3 n3 r3 => ?_
      have l13 := AH.le_trans l1 l3
      try simp -implicitDefEqProofs only [runS_call, List.all_nil, if_true]
      refine (g7 (hL.mono l13)).step ?_
      simp -implicitDefEqProofs only [selV_true, bin_neq, stepV_val, selV_bool, decide_eq_true_eq]
      by_cases hf : (parse20 l).2 = 0
      · simp -implicitDefEqProofs only [hf, ne_eq, not_true_eq_false, if_false]
        obtain ⟨hb1, hb2⟩ := parse_back hf
        simp -implicitDefEqProofs only [load_ans r3, stepV_val, runS_call, List.all_cons, List.all_nil, known_ans, Bool.and_self, if_true]
        have hlt : (parse20 l).1.2.2 < 18446744073709551616 := by
          rw [← law20]; unfold parse8
          split
          · exact guess_lt l
          · simp
        refine (g12 hlt (hL.mono l13)).step ?_
        rw [hb1]
        simp -implicitDefEqProofs only [bs_eql, stepV_val, decide_true, selV_true, load_ans r3, runS_call, List.all_cons, List.all_nil, known_ans, Bool.and_self, if_true]
        refine g10.step ?_
        rw [hb2]
        exact ⟨rfl, l13⟩
      · simp -implicitDefEqProofs only [hf, ne_eq, not_false_eq_true, if_true]; exact ⟨rfl, l13⟩
    · have hr' : right e k w = false := by simpa using hr
      have hte : txt e k w = [] := txt_empty.2 hr'
      simp -implicitDefEqProofs only [hr', hte, ne_eq, not_true_eq_false, decide_false, bne_self_eq_false, selV_false, selV_true, stepV_val]
      try simp -implicitDefEqProofs only [runS_call, List.all_cons, List.all_nil, known_bS, Bool.and_self, if_true]
      refine (g8 hl hL2).step ?_
      simp -implicitDefEqProofs only [ext0, ext1, stepV_val]
      refine keepAns fun b3 H3 l3 n3 r3 => ?_
      have l13 := AH.le_trans l1 l3
      try simp -implicitDefEqProofs only [runS_call, List.all_nil, if_true]
      refine (g7 (hL.mono l13)).step ?_
      simp -implicitDefEqProofs only [selV_true, bin_neq, stepV_val, selV_bool, decide_eq_true_eq]
      by_cases hf : (parse20 l).2 = 0
      · simp -implicitDefEqProofs only [hf, ne_eq, not_true_eq_false, if_false]
        obtain ⟨hb1, hb2⟩ := parse_back hf
        simp -implicitDefEqProofs only [load_ans r3, stepV_val, runS_call, List.all_cons, List.all_nil, known_ans, Bool.and_self, if_true]
        have hlt : (parse20 l).1.2.2 < 18446744073709551616 := by
          rw [← law20]; unfold parse8
          split
          · exact guess_lt l
          · simp
        refine (g12 hlt (hL.mono l13)).step ?_
        rw [hb1]
        simp -implicitDefEqProofs only [bs_eql, stepV_val, decide_true, selV_true, load_ans r3, runS_call, List.all_cons, List.all_nil, known_ans, Bool.and_self, if_true]
        refine g10.step ?_
        rw [hb2]
        exact ⟨rfl, l13⟩
      · simp -implicitDefEqProofs only [hf, ne_eq, not_false_eq_true, if_true]; exact ⟨rfl, l13⟩
end Go.Proofs.TD
