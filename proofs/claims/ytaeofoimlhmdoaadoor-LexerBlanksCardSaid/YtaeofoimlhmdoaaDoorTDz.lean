/-
  A part of the proof: contracts of single functions over the abstract heap.
-/
import Derived.Test.YtaeofoimlhmdoaaDoorTDy
import Derived.KernelRfl
namespace Go.Proofs.TD
open Go Go.Abs Go.RowKit
open Go.Proofs (Tryd.prog)
set_option maxRecDepth 100000
set_option linter.unusedVariables false
set_option linter.unusedSimpArgs false
variable {H : AH} {m i : Nat} {cs : List Value} {n : Int}
/-- socage/answer.Parse -/
noncomputable def v8 (a0 : Value) (H : AH) (R : AOut → AH → Prop) (α : Ip) : Prop :=
 k α R H (.alloc 26) fun x0 H =>
 k α R H (.call (fnV 21) [a0]) fun x1 H =>
 k α R H (.alloc 26) fun x2 H =>
 k α R H (.store 26 x2 x1) fun x3 H =>
 k α R H (.load 26 x2) fun x4 H =>
 k α R H (.call (fnV 12) [x4]) fun x5 H =>
 k α R H (.bin .neq 9 false x5 a0) fun x6 H =>
 selV x6 (k α R H (.build 26 []) fun x7 H =>
 k α R H (.store 26 x0 x7) fun x8 H =>
 α.ret [.cell x0 26, .val (.int .i64 2)] R H) (k α R H (.load 26 x2) fun x9 H =>
 k α R H (.store 26 x0 x9) fun x10 H =>
 α.ret [.cell x0 26, .val (.int .i64 0)] R H)

theorem d8 {a0 : Value} {H : AH} {R : AOut → AH → Prop} (h : v8 a0 H R (real p)) : Does p 8 [a0] H R :=
  Does.of_wc (fun _ => none) (fun _ => []) (v8 a0 H R) hm Tryd.func8 Tryd.call8 (by kernel_rfl) (fun _ => by kernel_rfl) h

/-- socage/answer.Text -/
noncomputable def v12 (a0 : Value) (H : AH) (R : AOut → AH → Prop) (α : Ip) : Prop :=
 k α R H (.box a0) fun x0 H =>
 k α R H (.call (fnV 25) []) fun x1 H =>
 k α R H (.alloc 52) fun x2 H =>
 k α R H (.store 52 x2 x1) fun x3 H =>
 k α R H (.load 26 x0) fun x4 H =>
 k α R H (.call (fnV 10) [x4]) fun x5 H =>
 k α R H (.un .not x5) fun x6 H =>
 selV x6 (α.ret [.val (bS [])] R H) (k α R H (.fieldAddr 26 0 x0) fun x7 H =>
 k α R H (.load 22 x7) fun x8 H =>
 k α R H (.bin .neq 22 true x8 (.int .i64 0)) fun x9 H =>
 selV x9 (k α R H (.fieldAddr 26 0 x0) fun x10 H =>
 k α R H (.load 22 x10) fun x11 H =>
 k α R H (.bin .sub 22 true x11 (.int .i64 1)) fun x12 H =>
 k α R H (.indexAddr 52 x2 x12) fun x13 H =>
 k α R H (.load 9 x13) fun x14 H =>
 k α R H (.bin .add 9 true (bS [33]) x14) fun x15 H =>
 α.ret [.val x15] R H) (k α R H (.fieldAddr 26 1 x0) fun x16 H =>
 k α R H (.load 23 x16) fun x17 H =>
 k α R H (.bin .eql 23 true x17 (.int .i64 1)) fun x18 H =>
 selV x18 (k α R H (.fieldAddr 26 2 x0) fun x19 H =>
 k α R H (.load 24 x19) fun x20 H =>
 k α R H (.call (fnV 26) [x20, (.int .i64 10)]) fun x21 H =>
 α.ret [.val x21] R H) (k α R H (.fieldAddr 26 1 x0) fun x22 H =>
 k α R H (.load 23 x22) fun x23 H =>
 k α R H (.bin .eql 23 true x23 (.int .i64 2)) fun x24 H =>
 selV x24 (k α R H (.fieldAddr 26 2 x0) fun x25 H =>
 k α R H (.load 24 x25) fun x26 H =>
 k α R H (.call (fnV 27) [x26]) fun x27 H =>
 k α R H (.bin .add 9 true (bS [35]) x27) fun x28 H =>
 α.ret [.val x28] R H) (α.ret [.val (bS [110, 105, 108])] R H))))

theorem d12 {a0 : Value} {H : AH} {R : AOut → AH → Prop} (h : v12 a0 H R (real p)) : Does p 12 [a0] H R :=
  Does.of_wc (fun _ => none) (fun _ => []) (v12 a0 H R) hm Tryd.func12 Tryd.call12 (by kernel_rfl) (fun _ => by kernel_rfl) h

/-- socage/answer.guess -/
noncomputable def v21 (a0 : Value) (H : AH) (R : AOut → AH → Prop) (α : Ip) : Prop :=
 k α R H (.alloc 26) fun x0 H =>
 k α R H (.call (fnV 25) []) fun x1 H =>
 ∃ I6 : Nat → List Value → AH → Prop, (∃ n, I6 n [a0, x0, x1, (.int .i64 0)] H) ∧ ∀ n6, ∀ x2 : Value, ∀ x3 : Value, ∀ x4 : Value, ∀ x5 : Value, ∀ H, I6 n6 [x2, x3, x4, x5] H →
  k α R H (.bin .lss 3 true x5 (.int .i64 9)) fun x7 H =>
 selV x7 (k α R H (.index 52 x4 x5) fun x8 H =>
 k α R H (.bin .add 9 true (bS [33]) x8) fun x9 H =>
 k α R H (.bin .eql 9 false x2 x9) fun x10 H =>
 selV x10 (k α R H (.bin .add 3 true x5 (.int .i64 1)) fun x11 H =>
 k α R H (.build 26 [(0, x11)]) fun x12 H =>
 k α R H (.store 26 x3 x12) fun x13 H =>
 α.ret [.cell x3 26] R H) (k α R H (.bin .add 3 true x5 (.int .i64 1)) fun x14 H =>
 ∃ n', n' < n6 ∧ I6 n' [x2, x3, x4, x14] H)) (k α R H (.call (fnV 38) [x2, (bS [35])]) fun x15 H =>
 k α R H (.extract x15 0) fun x16 H =>
 k α R H (.extract x15 1) fun x17 H =>
 selV x17 (k α R H (.call (fnV 39) [x16]) fun x18 H =>
 k α R H (.extract x18 0) fun x19 H =>
 k α R H (.extract x18 1) fun x20 H =>
 k α R H (.build 26 [(1, (.int .i64 2)), (2, x19)]) fun x21 H =>
 k α R H (.store 26 x3 x21) fun x22 H =>
 α.ret [.cell x3 26] R H) (k α R H (.call (fnV 40) [x2, (.int .i64 10), (.int .i64 64)]) fun x23 H =>
 k α R H (.extract x23 0) fun x24 H =>
 k α R H (.extract x23 1) fun x25 H =>
 k α R H (.bin .eql 66 true x25 .nilIface) fun x26 H =>
 selV x26 (k α R H (.build 26 [(1, (.int .i64 1)), (2, x24)]) fun x27 H =>
 k α R H (.store 26 x3 x27) fun x28 H =>
 α.ret [.cell x3 26] R H) (k α R H (.build 26 []) fun x29 H =>
 k α R H (.store 26 x3 x29) fun x30 H =>
 α.ret [.cell x3 26] R H)))

theorem d21 {a0 : Value} {H : AH} {R : AOut → AH → Prop} (h : v21 a0 H R (real p)) : Does p 21 [a0] H R :=
  Does.of_wc (fun _ => none) (fun | 2 => [0, 2, 11, 12] | _ => []) (v21 a0 H R) hm Tryd.func21 Tryd.call21 (by kernel_rfl) (fun _ => by kernel_rfl) h


def namesV : List Value := [bS (ename 1), bS (ename 2), bS (ename 3), bS (ename 4), bS (ename 5), bS (ename 6), bS (ename 7), bS (ename 8), bS (ename 9)]
theorem alloc52 : runS p H (.alloc 52) = some (.new H (.cells false (List.replicate 9 (bS []))) fun b => .pointer (some ⟨b, 0, none⟩)) := by kernel_rfl
theorem build52 : runS p H (.build 52 [(0, (bS [97, 114, 103])), (1, (bS [102, 111, 114, 109])), (2, (bS [111, 112])), (3, (bS [104, 97, 110, 100, 108, 101])), (4, (bS [115, 116, 97, 108, 101])), (5, (bS [114, 101, 118, 111, 107, 101, 100])), (6, (bS [113, 117, 111, 116, 97])), (7, (bS [102, 117, 108, 108])), (8, (bS [110, 111, 110, 101]))]) = some (.val (.agg namesV.toArray) H) := by kernel_rfl
theorem st52 {v : Value} : runS p H (.store 52 (.pointer (some ⟨m, i, none⟩)) v) = aSt H m i 9 v := store_of (by kernel_rfl)
theorem part52 : aPart p 52 cs i = if i + 9 ≤ cs.length then some (.agg ((cs.drop i).take 9).toArray) else none := by kernel_rfl
theorem st52_at {b : Nat} (h : H b = some (.cells false (List.replicate 9 (bS [])))) : aSt H b 0 9 (.agg namesV.toArray) = some (.val unk (H.upd b (.cells false namesV))) := by
  simp [aSt, h, known, Value.cells, awr, Value.oneCell', namesV]
  exact ⟨rfl, rfl, rfl, rfl, rfl, rfl, rfl, rfl, rfl⟩
theorem g25 : Gives p 25 [] H (.agg namesV.toArray) := by
  refine .of (d25 ?_)
  simp only [v25]
  simp only [k_real, alloc52, stepV_new]
  intro b hb
  simp only [build52, stepV_val, st52]
  rw [st52_at upd_self]
  simp only [stepV_val]
  rw [ret_cell (v := .agg namesV.toArray) upd_self (by rw [part52]; rfl)]
  exact ⟨rfl, by simp [AH.le_upd hb]⟩

theorem names_at (e : Int) (h0 : 0 < e) (h9 : e ≤ 9) : namesV[(e - 1).toNat]? = some (bS (ename e)) := by
  have : e = 1 ∨ e = 2 ∨ e = 3 ∨ e = 4 ∨ e = 5 ∨ e = 6 ∨ e = 7 ∨ e = 8 ∨ e = 9 := by omega
  rcases this with rfl | rfl | rfl | rfl | rfl | rfl | rfl | rfl | rfl <;> rfl

theorem right_err {e k w : Int} (h : right e k w = true) (he : e ≠ 0) : 0 < e ∧ e ≤ 9 := by
  unfold right at h; rw [if_pos he] at h; simp at h; omega

section
variable {b : Nat} {ro : Bool} {e k w : Int}
theorem load_ans (h : H b = some (.cells ro [.int .i64 e, .int .i64 k, .int .u64 w])) : runS p H (.load 26 (.pointer (some ⟨b, 0, none⟩))) = some (.val (ans e k w) H) := by
  rw [Go.Abs.run_load, h]; simp only [part26]; rfl
theorem load_e (h : H b = some (.cells ro [.int .i64 e, .int .i64 k, .int .u64 w])) : runS p H (.load 22 (.pointer (some ⟨b, 0, none⟩))) = some (.val (.int .i64 e) H) := by
  rw [Go.Abs.run_load, h]; simp only [part22]; rfl
theorem load_k (h : H b = some (.cells ro [.int .i64 e, .int .i64 k, .int .u64 w])) : runS p H (.load 23 (.pointer (some ⟨b, 1, none⟩))) = some (.val (.int .i64 k) H) := by
  rw [Go.Abs.run_load, h]; simp only [part23]; rfl
theorem load_w (h : H b = some (.cells ro [.int .i64 e, .int .i64 k, .int .u64 w])) : runS p H (.load 24 (.pointer (some ⟨b, 2, none⟩))) = some (.val (.int .u64 w) H) := by
  rw [Go.Abs.run_load, h]; simp only [part24]; rfl
end

theorem g12 {e k : Int} {w : Nat} (hw : w < 18446744073709551616) (hL : Laid H) : Gives p 12 [ans e k w] H (bS (txt e k w)) := by
  refine .of (d12 ?_)
  simp only [v12, ans]
  simp only [k_real, run_box, known, if_true, stepV_new]
  intro b hb
  simp only [runS_call, List.all_nil, if_true]
  refine g25.step ?_
  simp only [alloc52, stepV_new]
  intro c hc
  have hcb : c ≠ b := by rintro rfl; simp at hc
  have hbc : b ≠ c := fun h => hcb h.symm
  have hle1 := AH.le_upd (o := .cells false [.int .i64 e, .int .i64 k, .int .u64 w]) hb
  have hHc : H c = none := AH.none_of_le hle1 hc
  simp only [st52]
  rw [st52_at upd_self]
  simp only [stepV_val, upd_upd]
  have hB : ((H.upd b (.cells false (Value.agg #[.int .i64 e, .int .i64 k, .int .u64 w]).cells.toList)).upd c (.cells false namesV)) b = some (.cells false [.int .i64 e, .int .i64 k, .int .u64 w]) := by
    rw [upd_ne hbc, upd_self]; rfl
  have hC : ((H.upd b (.cells false (Value.agg #[.int .i64 e, .int .i64 k, .int .u64 w]).cells.toList)).upd c (.cells false namesV)) c = some (.cells false namesV) := upd_self
  have hle : H.le ((H.upd b (.cells false (Value.agg #[.int .i64 e, .int .i64 k, .int .u64 w]).cells.toList)).upd c (.cells false namesV)) := AH.le_upd' (AH.le_upd hb) hHc
  generalize ((H.upd b (.cells false (Value.agg #[.int .i64 e, .int .i64 k, .int .u64 w]).cells.toList)).upd c (.cells false namesV)) = H1 at hB hC hle
  have hL1 : Laid H1 := hL.mono hle
  have l0 := load_ans (ro := false) hB
  have l1 := load_e (ro := false) hB
  have l2 := load_k (ro := false) hB
  have l3 := load_w (ro := false) hB
  simp only [l0, stepV_val, ans, List.all_cons, List.all_nil, known, Bool.and_self, if_true]
  refine g10.step ?_
  simp only [un_not, stepV_val, selV_bool]
  unfold txt
  by_cases hr : right e k w
  · simp only [hr, Bool.not_true, Bool.false_eq_true, if_false, if_true]
    simp only [fa26_0, fa26_1, fa26_2, Nat.zero_add, stepV_val, l1, l2, l3, bin_neq, bin_eql, selV_bool, decide_eq_true_eq]
    by_cases he : e = 0
    · simp only [he, ne_eq, not_true_eq_false, if_false]
      by_cases h1 : k = 1
      · simp only [h1, if_true, runS_call, List.all_cons, List.all_nil, known, Bool.and_self]
        refine (c26 hw hL1).step ?_
        simp [hle]
      · by_cases h2 : k = 2
        · simp only [h2, if_true, runS_call, List.all_cons, List.all_nil, known, Bool.and_self]
          simp only [show ¬ ((2 : Int) = 1) by omega, if_false]
          refine (g27 hw).step ?_
          rw [bs_add (by simp [hexLow_length])]
          simp [hle]
        · simp [h1, h2, hle]
    · have h19 := right_err hr he
      have hsub : IntKind.i64.wrap (e - 1) = e - 1 := by rw [wrap_i64']; omega
      simp only [he, ne_eq, not_false_eq_true, if_true, bin_sub, stepV_val, hsub]
      rw [indexAddr_arr (P := p) (len := 9) (e := 9) (sz := 1) (by kernel_rfl) (by kernel_rfl), if_pos (by omega)]
      simp only [stepV_val]
      rw [Go.Abs.run_load, hC]
      simp only [part9, Nat.zero_add, Nat.mul_one, names_at e h19.1 h19.2, Option.map_some, stepV_val]
      rw [bs_add (by have := ename_le e; simp; omega)]
      simp [hle]
  · simp [hr, hle]
end Go.Proofs.TD
