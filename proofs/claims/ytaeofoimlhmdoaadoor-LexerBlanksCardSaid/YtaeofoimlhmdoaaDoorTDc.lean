/-
  A part of the proof: contracts of single functions over the abstract heap.
-/
import Derived.Test.YtaeofoimlhmdoaaDoorTDb
import Derived.Lib.ItoaNum
import Derived.KernelRfl
import Derived.Test.YtaeofoimlhmdoaaDoorProg
set_option linter.unusedVariables false
set_option linter.unusedSimpArgs false
set_option maxRecDepth 100000

namespace Go.Proofs.TD
open Go Go.Abs
open Go.Proofs (Tryd.prog)
variable {H : AH} {m i : Nat} {cs : List Value} {n : Int}
/-- socage/socageref20.Text -/
noncomputable def v13 (a0 : Value) (H : AH) (R : AOut → AH → Prop) (α : Ip) : Prop :=
 k α R H (.box a0) fun x0 H =>
 k α R H (.load 26 x0) fun x1 H =>
 k α R H (.call (fnV 11) [x1]) fun x2 H =>
 k α R H (.un .not x2) fun x3 H =>
 selV x3 (α.ret [.val (bS [])] R H) (k α R H (.fieldAddr 26 0 x0) fun x4 H =>
 k α R H (.load 22 x4) fun x5 H =>
 k α R H (.bin .neq 22 true x5 (.int .i64 0)) fun x6 H =>
 selV x6 (k α R H (.fieldAddr 26 0 x0) fun x7 H =>
 k α R H (.load 22 x7) fun x8 H =>
 k α R H (.call (fnV 23) [x8]) fun x9 H =>
 k α R H (.bin .add 9 true (bS [33]) x9) fun x10 H =>
 α.ret [.val x10] R H) (k α R H (.fieldAddr 26 1 x0) fun x11 H =>
 k α R H (.load 23 x11) fun x12 H =>
 k α R H (.bin .eql 23 true x12 (.int .i64 1)) fun x13 H =>
 selV x13 (k α R H (.fieldAddr 26 2 x0) fun x14 H =>
 k α R H (.load 24 x14) fun x15 H =>
 k α R H (.call (fnV 24) [x15]) fun x16 H =>
 α.ret [.val x16] R H) (k α R H (.bin .eql 23 true x12 (.int .i64 2)) fun x17 H =>
 selV x17 (k α R H (.fieldAddr 26 2 x0) fun x18 H =>
 k α R H (.load 24 x18) fun x19 H =>
 k α R H (.call (fnV 28) [x19]) fun x20 H =>
 k α R H (.bin .add 9 true (bS [35]) x20) fun x21 H =>
 α.ret [.val x21] R H) (α.ret [.val (bS [110, 105, 108])] R H))))

theorem d13 {a0 : Value} {H : AH} {R : AOut → AH → Prop} (h : v13 a0 H R (real p)) : Does p 13 [a0] H R :=
  Does.of_wc (fun _ => none) (fun _ => []) (v13 a0 H R) hm Tryd.func13 Tryd.call13 (by kernel_rfl) (fun _ => by kernel_rfl) h

/-- socage/socageref18.Text -/
noncomputable def v20 (a0 : Value) (H : AH) (R : AOut → AH → Prop) (α : Ip) : Prop :=
 k α R H (.box a0) fun x0 H =>
 k α R H (.fieldAddr 45 0 x0) fun x1 H =>
 k α R H (.load 3 x1) fun x2 H =>
 k α R H (.bin .eql 3 true x2 (.int .i64 1)) fun x3 H =>
 selV x3 (k α R H (.fieldAddr 45 1 x0) fun x4 H =>
 k α R H (.load 9 x4) fun x5 H =>
 k α R H (.bin .add 9 true (bS [36]) x5) fun x6 H =>
 α.ret [.val x6] R H) (k α R H (.bin .eql 3 true x2 (.int .i64 2)) fun x7 H =>
 selV x7 (k α R H (.fieldAddr 45 2 x0) fun x8 H =>
 k α R H (.load 24 x8) fun x9 H =>
 k α R H (.call (fnV 37) [x9]) fun x10 H =>
 α.ret [.val x10] R H) (k α R H (.bin .eql 3 true x2 (.int .i64 3)) fun x11 H =>
 selV x11 (k α R H (.fieldAddr 45 2 x0) fun x12 H =>
 k α R H (.load 24 x12) fun x13 H =>
 k α R H (.call (fnV 28) [x13]) fun x14 H =>
 k α R H (.bin .add 9 true (bS [35]) x14) fun x15 H =>
 α.ret [.val x15] R H) (k α R H (.bin .eql 3 true x2 (.int .i64 4)) fun x16 H =>
 selV x16 (α.ret [.val (bS [61])] R H) (k α R H (.fieldAddr 45 1 x0) fun x17 H =>
 k α R H (.load 9 x17) fun x18 H =>
 α.ret [.val x18] R H))))

theorem d20 {a0 : Value} {H : AH} {R : AOut → AH → Prop} (h : v20 a0 H R (real p)) : Does p 20 [a0] H R :=
  Does.of_wc (fun _ => none) (fun _ => []) (v20 a0 H R) hm Tryd.func20 Tryd.call20 (by kernel_rfl) (fun _ => by kernel_rfl) h

/-- socage/socageref19.Number -/
noncomputable def v24 (a0 : Value) (H : AH) (R : AOut → AH → Prop) (α : Ip) : Prop :=
 k α R H (.build 45 [(0, (.int .i64 2)), (2, a0)]) fun x0 H =>
 k α R H (.call (fnV 20) [x0]) fun x1 H =>
 α.ret [.val x1] R H

theorem d24 {a0 : Value} {H : AH} {R : AOut → AH → Prop} (h : v24 a0 H R (real p)) : Does p 24 [a0] H R :=
  Does.of_wc (fun _ => none) (fun _ => []) (v24 a0 H R) hm Tryd.func24 Tryd.call24 (by kernel_rfl) (fun _ => by kernel_rfl) h

/-- socage/socageref05.Text -/
noncomputable def v28 (a0 : Value) (H : AH) (R : AOut → AH → Prop) (α : Ip) : Prop :=
 k α R H (.makeSlice 41 (.int .i64 16) (.int .i64 16)) fun x0 H =>
 ∃ I4 : Nat → List Value → AH → Prop, (∃ n, I4 n [x0, a0, (.int .i64 15)] H) ∧ ∀ n4, ∀ x1 : Value, ∀ x2 : Value, ∀ x3 : Value, ∀ H, I4 n4 [x1, x2, x3] H →
  k α R H (.bin .geq 3 true x3 (.int .i64 0)) fun x5 H =>
 selV x5 (k α R H (.bin .rem 24 true x2 (.int .u64 16)) fun x6 H =>
 k α R H (.call (fnV 41) [x6]) fun x7 H =>
 k α R H (.indexAddr 41 x1 x3) fun x8 H =>
 k α R H (.store 5 x8 x7) fun x9 H =>
 k α R H (.bin .quo 24 true x2 (.int .u64 16)) fun x10 H =>
 k α R H (.bin .sub 3 true x3 (.int .i64 1)) fun x11 H =>
 ∃ n', n' < n4 ∧ I4 n' [x1, x10, x11] H) (k α R H (.convert 41 9 x1) fun x12 H =>
 α.ret [.val x12] R H)

theorem d28 {a0 : Value} {H : AH} {R : AOut → AH → Prop} (h : v28 a0 H R (real p)) : Does p 28 [a0] H R :=
  Does.of_wc (fun _ => none) (fun | 4 => [3, 4, 5] | _ => []) (v28 a0 H R) hm Tryd.func28 Tryd.call28 (by kernel_rfl) (fun _ => by kernel_rfl) h

/-- socage/socageref18.figures -/
noncomputable def v37 (a0 : Value) (H : AH) (R : AOut → AH → Prop) (α : Ip) : Prop :=
 k α R H (.bin .rem 24 true a0 (.int .u64 10)) fun x0 H =>
 k α R H (.bin .add 24 true (.int .u64 48) x0) fun x1 H =>
 k α R H (.convert 24 5 x1) fun x2 H =>
 k α R H (.buildSlice 41 1 [(0, x2)]) fun x3 H =>
 k α R H (.convert 41 9 x3) fun x4 H =>
 k α R H (.bin .geq 24 true a0 (.int .u64 10)) fun x5 H =>
 selV x5 (k α R H (.bin .quo 24 true a0 (.int .u64 10)) fun x6 H =>
 k α R H (.call (fnV 37) [x6]) fun x7 H =>
 k α R H (.bin .add 9 false x7 x4) fun x8 H =>
 α.ret [.val x8] R H) (α.ret [.val x4] R H)

theorem d37 {a0 : Value} {H : AH} {R : AOut → AH → Prop} (h : v37 a0 H R (real p)) : Does p 37 [a0] H R :=
  Does.of_wc (fun _ => none) (fun _ => []) (v37 a0 H R) hm Tryd.func37 Tryd.call37 (by kernel_rfl) (fun _ => by kernel_rfl) h


theorem part3 : aPart p 3 cs i = cs[i]? := by kernel_rfl
theorem part9 : aPart p 9 cs i = cs[i]? := by kernel_rfl
theorem u9 : p.underlying 9 = some .string := by kernel_rfl
theorem u41 : p.underlying 41 = some (.slice 5) := by kernel_rfl
theorem s5 : (p.info? 5).map (·.size) = some 1 := by kernel_rfl
theorem st5 {v : Value} : runS p H (.store 5 (.pointer (some ⟨m, i, none⟩)) v) = aSt H m i 1 v := store_of (by kernel_rfl)
theorem fa45_0 : runS p H (.fieldAddr 45 0 (.pointer (some ⟨m, i, none⟩))) = some (.val (.pointer (some ⟨m, i, none⟩)) H) := by kernel_rfl
theorem fa45_1 : runS p H (.fieldAddr 45 1 (.pointer (some ⟨m, i, none⟩))) = some (.val (.pointer (some ⟨m, i + 1, none⟩)) H) := by kernel_rfl
theorem fa45_2 : runS p H (.fieldAddr 45 2 (.pointer (some ⟨m, i, none⟩))) = some (.val (.pointer (some ⟨m, i + 2, none⟩)) H) := by kernel_rfl
theorem build45_02 {n' : Int} : runS p H (.build 45 [(0, .int .i64 n), (2, .int .u64 n')]) = some (.val (.agg #[.int .i64 n, bS [], .int .u64 n', .int .i64 0]) H) := by kernel_rfl
theorem bsl41 : runS p H (.buildSlice 41 1 [(0, .int .u8 n)]) = some (.new H (.cells false [.int .u8 n]) fun b => .slice (some ⟨b, 0, none⟩) 1 1) := by kernel_rfl
theorem mk41 : runS p H (.makeSlice 41 (.int .i64 16) (.int .i64 16)) = some (.new H (.cells false (List.replicate 16 (.int .u8 0))) fun b => .slice (some ⟨b, 0, none⟩) 16 1) := by kernel_rfl

theorem conv41_9 {H : AH} {b k : Nat} {ro : Bool} {l : List UInt8} (h : H b = some (.cells ro (bytesV l))) (hk : k = l.length) (h0 : l ≠ []) : runS p H (.convert 41 9 (.slice (some ⟨b, 0, none⟩) k 1)) = some (.val (bS l) H) :=
  conv_bytes u41 u9 (by kernel_rfl) h hk h0

theorem decDigits_step (u : Nat) : Lib.decDigits u = if u < 10 then [UInt8.ofNat (48 + u)] else Lib.decDigits (u / 10) ++ [UInt8.ofNat (48 + u % 10)] := by
  rw [Lib.decDigits]; split <;> rfl

theorem decDigits_le : ∀ u : Nat, u < 18446744073709551616 → (Lib.decDigits u).length ≤ 20 := by
  intro u hu
  have : ∀ (k u : Nat), u < 10 ^ (k + 1) → (Lib.decDigits u).length ≤ k + 1 := by
    intro k
    induction k with
    | zero => intro u h; rw [decDigits_step, if_pos (by omega)]; simp
    | succ k ih =>
      intro u h
      rw [decDigits_step]
      split
      · simp
      · have := ih (u / 10) (by rw [Nat.div_lt_iff_lt_mul (by omega)]; rw [Nat.pow_succ] at h; exact h)
        simp; omega
  exact this 19 u (by omega)

theorem g37 : ∀ (u : Nat) (H : AH), u < 18446744073709551616 → Gives p 37 [.int .u64 u] H (bS (Lib.decDigits u)) := by
  intro u
  induction u using Nat.strongRecOn with
  | ind u ih =>
    intro H hu
    refine .of (d37 ?_)
    simp only [v37]
    simp [bin_rem, bin_quo, conv24_5, bsl41]
    intro b hb
    have hle := fun o => AH.le_upd (o := o) hb
    have e : (IntKind.u8.wrap (IntKind.u64.wrap (48 + (u : Int).tmod 10)) : Int) = ((UInt8.ofNat (48 + u % 10)).toNat : Int) := by
      rw [wrap_u8', wrap_u64', Int.tmod_eq_emod_of_nonneg (by omega)]
      simp only [UInt8.toNat_ofNat']
      omega
    have ec := conv41_9 (H := H.upd b (.cells false [.int .u8 (UInt8.ofNat (48 + u % 10)).toNat])) (b := b) (k := 1) (ro := false) (l := [UInt8.ofNat (48 + u % 10)]) upd_self rfl (by simp)
    rw [e, ec]
    have e2 : IntKind.u64.wrap ((u : Int) / 10) = ((u / 10 : Nat) : Int) := by rw [wrap_u64']; omega
    rw [e2]
    simp only [stepV_val, known, if_true]
    by_cases h10 : u < 10
    · rw [if_neg (by omega), decDigits_step, if_pos h10, Nat.mod_eq_of_lt h10]
      exact ⟨rfl, hle _⟩
    · rw [if_pos (by omega)]
      refine (ih (u / 10) (by omega) _ (by omega)).step ?_
      rw [bs_add (by have := decDigits_le (u / 10) (by omega); simp; omega)]
      simp only [stepV_val]
      rw [decDigits_step u, if_neg h10]
      simp [hle]
theorem g20 {u : Nat} {H : AH} (hu : u < 18446744073709551616) : Gives p 20 [.agg #[.int .i64 2, bS [], .int .u64 u, .int .i64 0]] H (bS (Lib.decDigits u)) := by
  refine .of (d20 ?_)
  simp only [v20]
  simp [fa45_0, fa45_2, part3, part24, known, Value.cells]
  intro b hb
  refine (g37 u _ hu).step ?_
  simp [AH.le_upd hb]
theorem g24 {u : Nat} {H : AH} (hu : u < 18446744073709551616) : Gives p 24 [.int .u64 u] H (bS (Lib.decDigits u)) := by
  refine .of (d24 ?_)
  simp only [v24]
  simp [build45_02, known]
  exact (g20 hu).step (by simp [AH.le_refl])

def hexd (n : Nat) : UInt8 := UInt8.ofNat (if n < 10 then 48 + n else 87 + n)
def hexLow : Nat → Nat → List UInt8
  | 0, _ => []
  | k + 1, w => hexd (w / 16 ^ k % 16) :: hexLow k w
theorem hexLow_length (k w : Nat) : (hexLow k w).length = k := by induction k <;> simp [hexLow, *]
theorem fig_hexd (n : Nat) (h : n < 16) : fig n = ((hexd n).toNat : Int) := by
  have : ∀ m : Fin 16, fig (m.val : Nat) = ((hexd m.val).toNat : Int) := by decide +kernel
  exact this ⟨n, h⟩

theorem g28 {u : Nat} {H : AH} (hu : u < 18446744073709551616) : Gives p 28 [.int .u64 u] H (bS (hexLow 16 u)) := by
  refine .of (d28 ?_)
  simp only [v28]
  simp only [k_real, mk41, stepV_new]
  intro b hb
  refine ⟨fun n xs H' => ∃ j, j ≤ 16 ∧ n = 16 - j ∧ xs = [.slice (some ⟨b, 0, none⟩) 16 1, .int .u64 (u / 16 ^ j : Nat), .int .i64 (15 - (j : Int))] ∧ H.le H' ∧
    H' b = some (.cells false (bytesV (List.replicate (16 - j) 0 ++ hexLow j u))), ⟨16, 0, by omega, rfl, by simp, AH.le_upd hb, by simp [hexLow, bytesV]⟩, ?_⟩
  rintro n x1 x2 x3 H1 ⟨j, hj, rfl, hx, hle, hrow⟩
  simp only [List.cons.injEq, and_true] at hx
  obtain ⟨rfl, rfl, rfl⟩ := hx
  simp only [bin_geq, stepV_val, selV_bool, decide_eq_true_eq]
  by_cases h15 : j = 16
  · subst h15
    rw [if_neg (by omega), conv41_9 hrow (by simp [hexLow_length]) (by simp [hexLow])]
    simp only [stepV_val, ret_one]
    refine ⟨?_, hle⟩
    simp
  · rw [if_pos (by omega), bin_rem (by omega)]
    simp only [stepV_val, runS_call]
    have hq : u / 16 ^ j ≤ u := Nat.div_le_self _ _
    have hq2 : u / 16 ^ (j + 1) = u / 16 ^ j / 16 := by rw [Nat.pow_succ, ← Nat.div_div_eq_div_mul]
    have hx : hexLow (j + 1) u = hexd (u / 16 ^ j % 16) :: hexLow j u := rfl
    generalize u / 16 ^ j = q at *
    have e : ((q : Nat) : Int).tmod 16 = ((q % 16 : Nat) : Int) := by
      rw [Int.tmod_eq_emod_of_nonneg (by omega)]; omega
    rw [e]
    simp only [List.all_cons, known, List.all_nil, Bool.and_self, if_true]
    refine g41.step ?_
    rw [fig_hexd _ (Nat.mod_lt _ (by omega)), indexAddr_sl u41 s5, if_pos (by omega)]
    simp only [stepV_val]
    rw [st5, aSt_one hrow (by simp [hexLow_length]; omega) rfl rfl rfl]
    simp only [stepV_val]
    rw [bin_quo (by omega)]
    simp only [stepV_val, bin_sub]
    refine ⟨16 - (j + 1), by omega, j + 1, by omega, rfl, ?_, AH.le_upd' hle hb, ?_⟩
    · simp only [List.cons.injEq, and_true, true_and, Value.int.injEq]
      refine ⟨?_, ?_⟩
      · rw [hq2, wrap_u64', Int.tdiv_eq_ediv_of_nonneg (by omega)]
        omega
      · rw [wrap_i64']; omega
    · rw [upd_self]
      congr 2
      have hi : (0 + (15 - (j : Int)).toNat * 1) = 15 - j := by omega
      rw [hi]
      have e16 : 16 - j = (15 - j) + 1 := by omega
      have e15 : 16 - (j + 1) = 15 - j := by omega
      rw [e16, e15, hx, List.replicate_succ']
      simp [bytesV, List.set_append]
end Go.Proofs.TD
