/-
  A part of the proof: contracts of single functions over the abstract heap.
-/
import Derived.Test.YtaeofoimlhmdoaaDoorTDz
import Derived.Test.YtaeofoimlhmdoaaDoorTDj
import Derived.Test.YtaeofoimlhmdoaaDoorTLa
import Derived.KernelRfl
namespace Go.Proofs.TD
open Go Go.Abs
open Go.Proofs (Tryd.prog)
set_option maxRecDepth 100000
set_option linter.unusedVariables false
set_option linter.unusedSimpArgs false
variable {H : AH} {m i : Nat} {cs : List Value} {n : Int}

theorem index52 {j : Nat} (hj : j < 9) : runS p H (.index 52 (.agg namesV.toArray) (.int .i64 (j : Nat))) = some (.val (bS (ename (j + 1))) H) := by
  rw [index_arr (P := p) (len := 9) (e := 9) (sz := 1) (by kernel_rfl) (by kernel_rfl), if_pos (by omega)]
  have := names_at ((j : Int) + 1) (by omega) (by omega)
  simp only [Int.add_sub_cancel] at this
  simp only [part9, Nat.mul_one, this, Option.map_some]

theorem eql66_nil : runS p H (.bin .eql 66 true .nilIface .nilIface) = some (.val (.bool true) H) := by kernel_rfl
theorem eql66_err {b : Nat} : runS p H (.bin .eql 66 true (.iface 104 (.pointer (some ⟨b, 0, none⟩))) .nilIface) = some (.val (.bool false) H) := by kernel_rfl

theorem ret_one_ans {R : AOut → AH → Prop} {b : Nat} {e k w : Int} (h : H b = some (.cells false [.int .i64 e, .int .i64 k, .int .u64 w])) :
    (real p).ret [.cell (.pointer (some ⟨b, 0, none⟩)) 26] R H = R (.ret (ans e k w)) H :=
  ret_cell (v := ans e k w) h (by rw [part26]; rfl)

theorem g21 {l : List UInt8} (hl : l.length < 1000000) (hL : Laid H) : Gives p 21 [bS l] H (ans (guess l).1 (guess l).2.1 (guess l).2.2) := by
  refine .of (d21 ?_)
  simp only [v21]
  simp only [k_real, alloc26, stepV_new]
  intro b hb
  have hle0 := AH.le_upd (o := .cells false [.int .i64 0, .int .i64 0, .int .u64 0]) hb
  simp only [runS_call, List.all_nil, if_true]
  refine g25.step ?_
  generalize hr : guess l = r
  refine ⟨fun n xs H' => ∃ j : Nat, j ≤ 9 ∧ n = 9 - j ∧ errOf l 9 1 = errOf l (9 - j) (j + 1) ∧ xs = [bS l, .pointer (some ⟨b, 0, none⟩), .agg namesV.toArray, .int .i64 (j : Nat)] ∧ H.le H' ∧ H' b = some (.cells false [.int .i64 0, .int .i64 0, .int .u64 0]),
    ⟨9, 0, by omega, rfl, rfl, rfl, hle0, upd_self⟩, ?_⟩
  rintro n x2 x3 x4 x5 H1 ⟨j, hj, rfl, herr, hx, hle, hrow⟩
  simp only [List.cons.injEq, and_true] at hx
  obtain ⟨rfl, rfl, rfl, rfl⟩ := hx
  simp only [bin_lss, stepV_val, selV_bool, decide_eq_true_eq]
  by_cases hj9 : j < 9
  · rw [if_pos (by omega), index52 hj9]
    simp only [stepV_val]
    rw [bs_add (by have := ename_le (j + 1); simp; omega)]
    have hadd : IntKind.i64.wrap ((j : Int) + 1) = ((j + 1 : Nat) : Int) := by rw [wrap_i64']; omega
    simp only [stepV_val, bs_eql, selV_bool, decide_eq_true_eq, List.cons_append, List.nil_append, bin_add, hadd]
    have hs : errOf l (9 - j) (j + 1) = if l = 33 :: ename (((j + 1 : Nat)) : Int) then some (j + 1) else errOf l (9 - (j + 1)) (j + 1 + 1) := by
      rw [show 9 - j = (9 - (j + 1)) + 1 by omega]; rfl
    have ec : ((j : Int) + 1) = ((j + 1 : Nat) : Int) := by omega
    rw [ec]
    by_cases hm : l = 33 :: ename ((j + 1 : Nat) : Int)
    · rw [if_pos hm]
      simp only [build26_0, stepV_val, st26]
      rw [aSt_ans hrow]
      simp only [stepV_val]
      rw [ret_one_ans upd_self]
      have : r = ((((j + 1 : Nat) : Int)), 0, 0) := by
        rw [← hr]; unfold guess; rw [herr, hs, if_pos hm]
      subst this
      exact ⟨rfl, AH.le_upd' hle hb⟩
    · rw [if_neg hm]
      exact ⟨9 - (j + 1), by omega, j + 1, by omega, rfl, by rw [herr, hs, if_neg hm], rfl, hle, hrow⟩
  · rw [if_neg (by omega)]
    have hnone : errOf l 9 1 = none := by rw [herr, show 9 - j = 0 by omega]; rfl
    have hL1 : Laid H1 := hL.mono hle
    simp only [List.all_cons, List.all_nil, known_bS, Bool.and_self, if_true]
    refine g38.step ?_
    simp only [run_extract, notUnk_two, if_true]
    simp
    by_cases hpre : Lib.hasPrefix l [35] = true
    · rw [if_pos hpre]
      refine (g39 (l := Lib.trimPrefix l [35]) (by
        unfold Lib.trimPrefix
        rw [if_pos hpre]
        simp; omega)).step ?_
      simp only [run_extract, notUnk_two, if_true]
      simp
      simp only [build26_12, stepV_val, st26]
      rw [aSt_ans hrow]
      simp only [stepV_val]
      rw [ret_one_ans upd_self]
      have : r = (0, 2, (ph (Lib.trimPrefix l [35])).1) := by
        rw [← hr]; unfold guess; rw [hnone]; simp [hpre]
      subst this
      exact ⟨rfl, AH.le_upd' hle hb⟩
    · rw [if_neg hpre]
      simp only [known, and_self, if_true]
      have hpre' : Lib.hasPrefix l [35] = false := by simpa using hpre
      by_cases hok : ∃ u, Lib.parseUintB 64 l = .ok u
      · obtain ⟨u, hu⟩ := hok
        refine (g40_ok hl hu).step ?_
        simp only [run_extract, notUnk_two, if_true]
        simp
        simp only [eql66_nil, stepV_val, selV_true, build26_12, st26]
        rw [aSt_ans hrow]
        simp only [stepV_val]
        rw [ret_one_ans upd_self]
        have : r = (0, 1, u) := by rw [← hr]; unfold guess; rw [hnone]; simp [hpre', hu]
        subst this
        exact ⟨rfl, AH.le_upd' hle hb⟩
      · refine stepV_call (g40_bad hl hL1 (fun u hu => hok ⟨u, hu⟩)) ?_ ?_
        · rintro v H2 ⟨rfl, n, b2, hv⟩
          cases hv
          simp only [run_extract, notUnk_two, if_true]
          simp
          simp only [eql66_err, stepV_val, selV_false, build26, st26]
          rw [aSt_ans hrow]
          simp only [stepV_val]
          rw [ret_one_ans upd_self]
          have : r = (0, 0, 0) := by
            rw [← hr]; unfold guess; rw [hnone]
            cases hp : Lib.parseUintB 64 l with
            | ok u => exact absurd ⟨u, hp⟩ hok
            | _ => simp [hpre', hp]
          subst this
          exact ⟨rfl, AH.le_upd' hle hb⟩
        · rintro v H2 ⟨rfl, n, b2, hv⟩
          cases hv
end Go.Proofs.TD
