/-
  A part of the proof: contracts of single functions over the abstract heap.
-/
import Derived.Test.YtaeofoimlhmdoaaDoorTDc
import Derived.KernelRfl
import Derived.Test.YtaeofoimlhmdoaaDoorProg
set_option linter.unusedVariables false
set_option linter.unusedSimpArgs false
set_option maxRecDepth 100000

namespace Go.Proofs.TD
open Go Go.Abs
open Go.Proofs (Tryd.prog)
variable {H : AH} {m i : Nat} {cs : List Value} {n : Int}
/-- socage/socageref20.Parse -/
noncomputable def v9 (a0 : Value) (H : AH) (R : AOut → AH → Prop) (α : Ip) : Prop :=
 k α R H (.alloc 26) fun x0 H =>
 k α R H (.bin .eql 9 true a0 (bS [110, 105, 108])) fun x1 H =>
 selV x1 (k α R H (.build 26 []) fun x2 H =>
 k α R H (.store 26 x0 x2) fun x3 H =>
 α.ret [.cell x0 26, .val (.int .i64 0)] R H) (k α R H (.len 9 a0) fun x4 H =>
 k α R H (.bin .gtr 3 true x4 (.int .i64 0)) fun x5 H =>
 selV x5 (k α R H (.index 9 a0 (.int .i64 0)) fun x6 H =>
 k α R H (.bin .eql 5 true x6 (.int .u8 35)) fun x7 H =>
 selV x7 (k α R H (.slice 9 a0 (some (.int .i64 1)) none none) fun x8 H =>
 k α R H (.call (fnV 22) [x8]) fun x9 H =>
 k α R H (.extract x9 0) fun x10 H =>
 k α R H (.extract x9 1) fun x11 H =>
 k α R H (.bin .neq 22 true x11 (.int .i64 0)) fun x12 H =>
 selV x12 (k α R H (.build 26 []) fun x13 H =>
 k α R H (.store 26 x0 x13) fun x14 H =>
 α.ret [.cell x0 26, .val (.int .i64 2)] R H) (k α R H (.build 26 [(1, (.int .i64 2)), (2, x10)]) fun x15 H =>
 k α R H (.store 26 x0 x15) fun x16 H =>
 α.ret [.cell x0 26, .val (.int .i64 0)] R H)) (∃ I20 : Nat → List Value → AH → Prop, (∃ n, I20 n [a0, x0, (.int .i64 1)] H) ∧ ∀ n20, ∀ x17 : Value, ∀ x18 : Value, ∀ x19 : Value, ∀ H, I20 n20 [x17, x18, x19] H →
  k α R H (.bin .leq 22 true x19 (.int .i64 9)) fun x21 H =>
 selV x21 (k α R H (.call (fnV 23) [x19]) fun x22 H =>
 k α R H (.bin .add 9 true (bS [33]) x22) fun x23 H =>
 k α R H (.bin .eql 9 false x17 x23) fun x24 H =>
 selV x24 (k α R H (.build 26 [(0, x19)]) fun x25 H =>
 k α R H (.store 26 x18 x25) fun x26 H =>
 α.ret [.cell x18 26, .val (.int .i64 0)] R H) (k α R H (.bin .add 22 true x19 (.int .i64 1)) fun x27 H =>
 ∃ n', n' < n20 ∧ I20 n' [x17, x18, x27] H)) (k α R H (.len 9 x17) fun x28 H =>
 k α R H (.bin .gtr 3 true x28 (.int .i64 20)) fun x29 H =>
 selV x29 (k α R H (.build 26 []) fun x30 H =>
 k α R H (.store 26 x18 x30) fun x31 H =>
 α.ret [.cell x18 26, .val (.int .i64 2)] R H) (k α R H (.len 9 x17) fun x32 H =>
 k α R H (.bin .eql 3 true x32 (.int .i64 0)) fun x33 H =>
 selV x33 (k α R H (.build 26 []) fun x34 H =>
 k α R H (.store 26 x18 x34) fun x35 H =>
 α.ret [.cell x18 26, .val (.int .i64 2)] R H) (∃ I40 : Nat → List Value → AH → Prop, (∃ n, I40 n [x17, x18, (.int .u64 0), (.int .i64 0)] H) ∧ ∀ n40, ∀ x36 : Value, ∀ x37 : Value, ∀ x38 : Value, ∀ x39 : Value, ∀ H, I40 n40 [x36, x37, x38, x39] H →
  k α R H (.len 9 x36) fun x41 H =>
 k α R H (.bin .lss 3 false x39 x41) fun x42 H =>
 selV x42 (k α R H (.index 9 x36 x39) fun x43 H =>
 k α R H (.bin .lss 5 true x43 (.int .u8 48)) fun x44 H =>
 selV x44 (k α R H (.build 26 []) fun x45 H =>
 k α R H (.store 26 x37 x45) fun x46 H =>
 α.ret [.cell x37 26, .val (.int .i64 2)] R H) (k α R H (.index 9 x36 x39) fun x47 H =>
 k α R H (.bin .gtr 5 true x47 (.int .u8 57)) fun x48 H =>
 selV x48 (k α R H (.build 26 []) fun x49 H =>
 k α R H (.store 26 x37 x49) fun x50 H =>
 α.ret [.cell x37 26, .val (.int .i64 2)] R H) (k α R H (.bin .mul 24 true (.int .u64 10) x38) fun x51 H =>
 k α R H (.index 9 x36 x39) fun x52 H =>
 k α R H (.bin .sub 5 true x52 (.int .u8 48)) fun x53 H =>
 k α R H (.convert 5 24 x53) fun x54 H =>
 k α R H (.bin .add 24 false x51 x54) fun x55 H =>
 k α R H (.bin .add 3 true x39 (.int .i64 1)) fun x56 H =>
 ∃ n', n' < n40 ∧ I40 n' [x36, x37, x55, x56] H))) (k α R H (.call (fnV 24) [x38]) fun x57 H =>
 k α R H (.bin .neq 9 false x57 x36) fun x58 H =>
 selV x58 (k α R H (.build 26 []) fun x59 H =>
 k α R H (.store 26 x37 x59) fun x60 H =>
 α.ret [.cell x37 26, .val (.int .i64 2)] R H) (k α R H (.build 26 [(1, (.int .i64 1)), (2, x38)]) fun x61 H =>
 k α R H (.store 26 x37 x61) fun x62 H =>
 α.ret [.cell x37 26, .val (.int .i64 0)] R H))))))) (∃ I66 : Nat → List Value → AH → Prop, (∃ n, I66 n [a0, x0, (.int .i64 1)] H) ∧ ∀ n66, ∀ x63 : Value, ∀ x64 : Value, ∀ x65 : Value, ∀ H, I66 n66 [x63, x64, x65] H →
  k α R H (.bin .leq 22 true x65 (.int .i64 9)) fun x67 H =>
 selV x67 (k α R H (.call (fnV 23) [x65]) fun x68 H =>
 k α R H (.bin .add 9 true (bS [33]) x68) fun x69 H =>
 k α R H (.bin .eql 9 false x63 x69) fun x70 H =>
 selV x70 (k α R H (.build 26 [(0, x65)]) fun x71 H =>
 k α R H (.store 26 x64 x71) fun x72 H =>
 α.ret [.cell x64 26, .val (.int .i64 0)] R H) (k α R H (.bin .add 22 true x65 (.int .i64 1)) fun x73 H =>
 ∃ n', n' < n66 ∧ I66 n' [x63, x64, x73] H)) (k α R H (.len 9 x63) fun x74 H =>
 k α R H (.bin .gtr 3 true x74 (.int .i64 20)) fun x75 H =>
 selV x75 (k α R H (.build 26 []) fun x76 H =>
 k α R H (.store 26 x64 x76) fun x77 H =>
 α.ret [.cell x64 26, .val (.int .i64 2)] R H) (k α R H (.len 9 x63) fun x78 H =>
 k α R H (.bin .eql 3 true x78 (.int .i64 0)) fun x79 H =>
 selV x79 (k α R H (.build 26 []) fun x80 H =>
 k α R H (.store 26 x64 x80) fun x81 H =>
 α.ret [.cell x64 26, .val (.int .i64 2)] R H) (∃ I86 : Nat → List Value → AH → Prop, (∃ n, I86 n [x63, x64, (.int .u64 0), (.int .i64 0)] H) ∧ ∀ n86, ∀ x82 : Value, ∀ x83 : Value, ∀ x84 : Value, ∀ x85 : Value, ∀ H, I86 n86 [x82, x83, x84, x85] H →
  k α R H (.len 9 x82) fun x87 H =>
 k α R H (.bin .lss 3 false x85 x87) fun x88 H =>
 selV x88 (k α R H (.index 9 x82 x85) fun x89 H =>
 k α R H (.bin .lss 5 true x89 (.int .u8 48)) fun x90 H =>
 selV x90 (k α R H (.build 26 []) fun x91 H =>
 k α R H (.store 26 x83 x91) fun x92 H =>
 α.ret [.cell x83 26, .val (.int .i64 2)] R H) (k α R H (.index 9 x82 x85) fun x93 H =>
 k α R H (.bin .gtr 5 true x93 (.int .u8 57)) fun x94 H =>
 selV x94 (k α R H (.build 26 []) fun x95 H =>
 k α R H (.store 26 x83 x95) fun x96 H =>
 α.ret [.cell x83 26, .val (.int .i64 2)] R H) (k α R H (.bin .mul 24 true (.int .u64 10) x84) fun x97 H =>
 k α R H (.index 9 x82 x85) fun x98 H =>
 k α R H (.bin .sub 5 true x98 (.int .u8 48)) fun x99 H =>
 k α R H (.convert 5 24 x99) fun x100 H =>
 k α R H (.bin .add 24 false x97 x100) fun x101 H =>
 k α R H (.bin .add 3 true x85 (.int .i64 1)) fun x102 H =>
 ∃ n', n' < n86 ∧ I86 n' [x82, x83, x101, x102] H))) (k α R H (.call (fnV 24) [x84]) fun x103 H =>
 k α R H (.bin .neq 9 false x103 x82) fun x104 H =>
 selV x104 (k α R H (.build 26 []) fun x105 H =>
 k α R H (.store 26 x83 x105) fun x106 H =>
 α.ret [.cell x83 26, .val (.int .i64 2)] R H) (k α R H (.build 26 [(1, (.int .i64 1)), (2, x84)]) fun x107 H =>
 k α R H (.store 26 x83 x107) fun x108 H =>
 α.ret [.cell x83 26, .val (.int .i64 0)] R H)))))))

theorem d9 {a0 : Value} {H : AH} {R : AOut → AH → Prop} (h : v9 a0 H R (real p)) : Does p 9 [a0] H R :=
  Does.of_wc (fun _ => none) (fun | 9 => [0, 2, 6] | 18 => [0, 2, 8, 9] | _ => []) (v9 a0 H R) hm Tryd.func9 Tryd.call9 (by kernel_rfl) (fun _ => by kernel_rfl) h

/-- socage/socageref05.Parse -/
noncomputable def v22 (a0 : Value) (H : AH) (R : AOut → AH → Prop) (α : Ip) : Prop :=
 k α R H (.len 9 a0) fun x0 H =>
 k α R H (.bin .neq 3 true x0 (.int .i64 16)) fun x1 H =>
 selV x1 (α.ret [.val (.int .u64 0), .val (.int .i64 2)] R H) (∃ I5 : Nat → List Value → AH → Prop, (∃ n, I5 n [a0, (.int .u64 0), (.int .i64 0)] H) ∧ ∀ n5, ∀ x2 : Value, ∀ x3 : Value, ∀ x4 : Value, ∀ H, I5 n5 [x2, x3, x4] H →
  k α R H (.bin .lss 3 true x4 (.int .i64 16)) fun x6 H =>
 selV x6 (∃ I12 : Nat → List Value → AH → Prop, (∃ n, I12 n [x2, x3, x4, (.int .i64 16), (.int .i64 0)] H) ∧ ∀ n12, ∀ x7 : Value, ∀ x8 : Value, ∀ x9 : Value, ∀ x10 : Value, ∀ x11 : Value, ∀ H, I12 n12 [x7, x8, x9, x10, x11] H →
  k α R H (.bin .lss 3 true x11 (.int .i64 16)) fun x13 H =>
 selV x13 (α.q H (.convert 3 24 x11) fun x14 => α.q H (.call (fnV 41) [x14]) fun x15 => α.q H (.index 9 x7 x9) fun x16 => k α R H (.bin .eql 5 false x15 x16) fun x17 H =>
 selV x17 (k α R H (.bin .add 3 true x11 (.int .i64 1)) fun x18 H =>
 ∃ n', n' < n12 ∧ I12 n' [x7, x8, x9, x11, x18] H) (k α R H (.bin .add 3 true x11 (.int .i64 1)) fun x19 H =>
 ∃ n', n' < n12 ∧ I12 n' [x7, x8, x9, x10, x19] H)) (k α R H (.bin .eql 3 true x10 (.int .i64 16)) fun x20 H =>
 selV x20 (α.ret [.val (.int .u64 0), .val (.int .i64 2)] R H) (k α R H (.bin .mul 24 true (.int .u64 16) x8) fun x21 H =>
 k α R H (.convert 3 24 x10) fun x22 H =>
 k α R H (.bin .add 24 false x21 x22) fun x23 H =>
 k α R H (.bin .add 3 true x9 (.int .i64 1)) fun x24 H =>
 ∃ n', n' < n5 ∧ I5 n' [x7, x23, x24] H))) (α.ret [.val x3, .val (.int .i64 0)] R H))

theorem d22 {a0 : Value} {H : AH} {R : AOut → AH → Prop} (h : v22 a0 H R (real p)) : Does p 22 [a0] H R :=
  Does.of_wc (fun | 11 => some 6 | _ => none) (fun | 5 => [0, 4, 5] | 9 => [0, 4, 5, 6, 7] | _ => []) (v22 a0 H R) hm Tryd.func22 Tryd.call22 (by kernel_rfl) (fun _ => by kernel_rfl) h


theorem conv3_24 : runS p H (.convert 3 24 (.int .i64 n)) = some (.val (.int .u64 (IntKind.u64.wrap n)) H) := by kernel_rfl

/-- A figure's number; 16: it is none. -/
def unh (c : UInt8) : Nat := if 48 ≤ c ∧ c ≤ 57 then c.toNat - 48 else if 97 ≤ c ∧ c ≤ 102 then c.toNat - 87 else 16
def hv : Nat → List UInt8 → Option Nat
  | a, [] => some a
  | a, c :: l => if unh c < 16 then hv (16 * a + unh c) l else none
def ph (l : List UInt8) : Nat × Int := if l.length = 16 then match hv 0 l with | some w => (w, 0) | none => (0, 2) else (0, 2)

def nn (c : UInt8) (k : Nat) : Nat := if unh c < k then unh c else 16
theorem unh_le (c : UInt8) : unh c ≤ 16 := by
  have : ∀ c : Fin 256, unh (UInt8.ofNat c.val) ≤ 16 := by decide +kernel
  simpa using this ⟨c.toNat, c.toNat_lt⟩
theorem unh_hexd : ∀ (k : Nat) (c : UInt8), k < 16 → (hexd k = c ↔ unh c = k) := by
  have : ∀ (k : Fin 16) (c : Fin 256), (hexd k.val = UInt8.ofNat c.val ↔ unh (UInt8.ofNat c.val) = k.val) := by decide +kernel
  intro k c hk
  have := this ⟨k, hk⟩ ⟨c.toNat, c.toNat_lt⟩
  simpa using this

theorem g22 {l : List UInt8} : Gives p 22 [bS l] H (.tuple #[.int .u64 (ph l).1, .int .i64 (ph l).2]) := by
  refine .of (d22 ?_)
  simp only [v22]
  simp only [k_real, bs_len u9, stepV_val, bin_neq, selV_bool, decide_eq_true_eq]
  by_cases hl : l.length = 16
  · rw [if_neg (by omega)]
    refine ⟨fun n xs H' => ∃ j acc, j ≤ 16 ∧ n = 16 - j ∧ acc < 16 ^ j ∧ hv 0 l = hv acc (l.drop j) ∧ xs = [bS l, .int .u64 (acc : Nat), .int .i64 (j : Nat)] ∧ H' = H, ⟨16, 0, 0, by omega, rfl, by decide, by simp, by simp, rfl⟩, ?_⟩
    rintro n x2 x3 x4 H1 ⟨j, acc, hj, rfl, hacc, hval, hx, rfl⟩
    simp only [List.cons.injEq, and_true] at hx
    obtain ⟨rfl, rfl, rfl⟩ := hx
    simp only [bin_lss, stepV_val, selV_bool, decide_eq_true_eq]
    by_cases h16 : j = 16
    · rw [if_neg (by omega)]
      have hp : ph l = (acc, 0) := by
        unfold ph
        rw [if_pos hl, hval, h16, ← hl, List.drop_length]; rfl
      simp [hp, known, AH.le_refl]
    · rw [if_pos (by omega)]
      have hjl : j < l.length := by omega
      refine ⟨fun n xs H' => ∃ k : Nat, k ≤ 16 ∧ n = 16 - k ∧ xs = [bS l, .int .u64 (acc : Nat), .int .i64 (j : Nat), .int .i64 ((nn l[j] k : Nat) : Int), .int .i64 (k : Nat)] ∧ H' = H1, ⟨16, 0, by omega, rfl, by simp [nn], rfl⟩, ?_⟩
      rintro n x7 x8 x9 x10 x11 H2 ⟨k, hk, rfl, hx, rfl⟩
      simp only [List.cons.injEq, and_true] at hx
      obtain ⟨rfl, rfl, rfl, rfl, rfl⟩ := hx
      simp only [bin_lss, stepV_val, selV_bool, decide_eq_true_eq]
      have hu16 := unh_le l[j]
      by_cases hk16 : k = 16
      · subst hk16
        rw [if_neg (by omega)]
        have e16 : nn l[j] 16 = unh l[j] := by unfold nn; split <;> omega
        have hd : l.drop j = l[j] :: l.drop (j + 1) := List.drop_eq_getElem_cons hjl
        simp only [e16, bin_eql, stepV_val, selV_bool, decide_eq_true_eq]
        by_cases hu : unh l[j] = 16
        · rw [if_pos (by omega)]
          have hp : ph l = (0, 2) := by
            unfold ph
            rw [if_pos hl, hval, hd, hv, if_neg (by omega)]
          simp [hp, known, AH.le_refl]
        · rw [if_neg (by omega)]
          have hp16 : 16 ^ (j + 1) ≤ 16 ^ 16 := Nat.pow_le_pow_right (by omega) (by omega)
          have hp1 : 16 ^ (j + 1) = 16 * 16 ^ j := by rw [Nat.pow_succ, Nat.mul_comm]
          have hpn : (16 : Nat) ^ 16 = 18446744073709551616 := by decide
          have ea : IntKind.u64.wrap (IntKind.u64.wrap (16 * (acc : Int)) + IntKind.u64.wrap ((unh l[j] : Nat) : Int)) = ((16 * acc + unh l[j] : Nat) : Int) := by
            simp only [wrap_u64']; omega
          have ei : IntKind.i64.wrap ((j : Int) + 1) = ((j + 1 : Nat) : Int) := by rw [wrap_i64']; omega
          simp only [bin_mul, stepV_val, conv3_24, bin_add, ea, ei]
          refine ⟨16 - (j + 1), by omega, j + 1, 16 * acc + unh l[j], by omega, rfl, by omega, ?_, rfl, trivial⟩
          rw [hval, hd, hv, if_pos (by omega)]
      · rw [if_pos (by omega)]
        have e1 : IntKind.u64.wrap ((k : Nat) : Int) = ((k : Nat) : Int) := by rw [wrap_u64']; omega
        simp only [q_real, conv3_24, stepQ_val, e1, runS_call, List.all_cons, known, List.all_nil, Bool.and_self, if_true]
        refine g41.stepQ ?_
        rw [fig_hexd k (by omega), bs_index u9 hjl]
        simp only [stepQ_val, bin_eql, stepV_val, selV_bool, decide_eq_true_eq]
        have ek : IntKind.i64.wrap ((k : Int) + 1) = ((k + 1 : Nat) : Int) := by rw [wrap_i64']; omega
        simp only [bin_add, stepV_val, ek]
        have hiff := unh_hexd k l[j] (by omega)
        by_cases hh : hexd k = l[j]
        · rw [if_pos (by rw [hh])]
          refine ⟨16 - (k + 1), by omega, k + 1, by omega, rfl, ?_, trivial⟩
          have : nn l[j] (k + 1) = k := by unfold nn; rw [hiff.1 hh, if_pos (by omega)]
          rw [this]
        · rw [if_neg (by intro e; exact hh (UInt8.toNat.inj (by omega)))]
          refine ⟨16 - (k + 1), by omega, k + 1, by omega, rfl, ?_, trivial⟩
          have : nn l[j] (k + 1) = nn l[j] k := by
            have : unh l[j] ≠ k := fun e => hh (hiff.2 e)
            unfold nn; split <;> split <;> omega
          rw [this]
  · rw [if_pos (by omega)]
    have hp : ph l = (0, 2) := by unfold ph; rw [if_neg hl]
    simp [hp, known, AH.le_refl]
end Go.Proofs.TD
