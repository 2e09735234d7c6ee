/-
  A part of the proof: contracts of single functions over the abstract heap.
-/
import Derived.Test.YtaeofoimlhmdoaaDoorTDi
import Derived.Laws.RangeAny
import Derived.KernelRfl
namespace Go.Proofs.TD
open Go Go.Abs
open Go.Proofs (Tryd.prog)
set_option maxRecDepth 100000
set_option linter.unusedVariables false
set_option linter.unusedSimpArgs false
variable {H : AH} {m i : Nat} {cs : List Value} {n : Int}
/-- socage/handle.Parse -/
noncomputable def v39 (a0 : Value) (H : AH) (R : AOut → AH → Prop) (α : Ip) : Prop :=
 k α R H (.range 9 a0) fun x0 H =>
 ∃ I4 : Nat → List Value → AH → Prop, (∃ n, I4 n [a0, (.int .u64 0), x0] H) ∧ ∀ n4, ∀ x1 : Value, ∀ x2 : Value, ∀ x3 : Value, ∀ H, I4 n4 [x1, x2, x3] H →
  k α R H (.next x3 true) fun x5 H =>
 k α R H (.extract x5 0) fun x6 H =>
 selV x6 (k α R H (.extract x5 2) fun x7 H =>
 k α R H (.call (fnV 55) [(bS [48, 49, 50, 51, 52, 53, 54, 55, 56, 57, 97, 98, 99, 100, 101, 102]), x7]) fun x8 H =>
 k α R H (.bin .lss 3 true x8 (.int .i64 0)) fun x9 H =>
 selV x9 (α.ret [.val (.int .u64 0), .val (.int .i64 2)] R H) (k α R H (.len 9 x1) fun x10 H =>
 k α R H (.bin .neq 3 true x10 (.int .i64 16)) fun x11 H =>
 selV x11 (α.ret [.val (.int .u64 0), .val (.int .i64 2)] R H) (k α R H (.bin .shl 24 true x2 (.int .u64 4)) fun x12 H =>
 k α R H (.convert 3 24 x8) fun x13 H =>
 k α R H (.bin .or 24 false x12 x13) fun x14 H =>
 ∃ n', n' < n4 ∧ I4 n' [x1, x14, x3] H))) (k α R H (.bin .eql 9 true x1 (bS [])) fun x15 H =>
 selV x15 (α.ret [.val (.int .u64 0), .val (.int .i64 2)] R H) (α.ret [.val x2, .val (.int .i64 0)] R H))

theorem d39 {a0 : Value} {H : AH} {R : AOut → AH → Prop} (h : v39 a0 H R (real p)) : Does p 39 [a0] H R :=
  Does.of_wc (fun _ => none) (fun | 3 => [0, 4, 9] | _ => []) (v39 a0 H R) hm Tryd.func39 Tryd.call39 (by kernel_rfl) (fun _ => by kernel_rfl) h


theorem shl4 {a : Int} : runS p H (.bin .shl 24 true (.int .u64 a) (.int .u64 4)) = some (.val (.int .u64 (IntKind.u64.wrap (a * 16))) H) := by
  simp [runS, aBin, closed_int, aPure, eqGuard, binOp, Op.shift, prun_pure, prun_bind']
  rfl
theorem index_fig (c : UInt8) (h : c.toNat < 128) : Lib.indexByte figs c = if unh c < 16 then (unh c : Int) else -1 := by
  have : ∀ c : Fin 256, Lib.indexByte figs (UInt8.ofNat c.val) = if unh (UInt8.ofNat c.val) < 16 then (unh (UInt8.ofNat c.val) : Int) else -1 := by decide +kernel
  simpa using this ⟨c.toNat, c.toNat_lt⟩
theorem unh_high (c : UInt8) (h : ¬ c.toNat < 128) : unh c = 16 := by
  have : ∀ c : Fin 256, 128 ≤ c.val → unh (UInt8.ofNat c.val) = 16 := by decide +kernel
  simpa using this ⟨c.toNat, c.toNat_lt⟩ (by simpa using h)
theorem g55_low {c : UInt8} (h : c.toNat < 128) : Gives p 55 [bS figs, .int .i32 c.toNat] H (.int .i64 (Lib.indexByte figs c)) :=
  Gives.of_calls Tryd.call55 rfl rfl fun J F w S => (Tryd.strings_IndexRune_ascii ⟨figs.toArray⟩ (c.toNat : Int) w (by omega) (by omega)).mono fun e w' h => by
    obtain ⟨rfl, rfl⟩ := h
    exact ⟨by simp, .refl _ _⟩

theorem or_low (a d : Nat) (hd : d < 16) (ha : a < 1152921504606846976) : IntKind.u64.wrap ↑(((((16 * a : Nat) : Int) % 2 ^ IntKind.u64.bits).toNat ||| (((d : Nat) : Int) % 2 ^ IntKind.u64.bits).toNat)) = ((16 * a + d : Nat) : Int) := by
  have e1 : ((((16 * a : Nat) : Int) % 2 ^ IntKind.u64.bits).toNat) = 16 * a := by
    show ((((16 * a : Nat) : Int) % 18446744073709551616).toNat) = 16 * a
    omega
  have e2 : ((((d : Nat) : Int) % 2 ^ IntKind.u64.bits).toNat) = d := by
    show ((((d : Nat) : Int) % 18446744073709551616).toNat) = d
    omega
  rw [e1, e2, show 16 * a = 2 ^ 4 * a from rfl, ← Nat.two_pow_add_eq_or_of_lt (by simpa using hd), wrap_u64']
  omega

theorem g39 {l : List UInt8} (hl : l.length < 1000000) : Gives p 39 [bS l] H (.tuple #[.int .u64 (ph l).1, .int .i64 (ph l).2]) := by
  refine .of (d39 ?_)
  simp only [v39]
  simp only [k_real, run_range, stepV_new]
  intro b hb
  refine ⟨fun n xs H' => ∃ j acc : Nat, j ≤ l.length ∧ n = l.length - j ∧ (0 < j → l.length = 16) ∧ acc < 16 ^ j ∧ hv 0 l = hv acc (l.drop j) ∧ xs = [bS l, .int .u64 (acc : Nat), .pointer (some ⟨b, 0, none⟩)] ∧ H.le H' ∧ H' b = some (.siter ⟨l.toArray⟩ j),
    ⟨l.length, 0, 0, by omega, rfl, by omega, by decide, rfl, rfl, AH.le_upd hb, upd_self⟩, ?_⟩
  rintro n x1 x2 x3 H1 ⟨j, acc, hj, rfl, h16, hacc, hval, hx, hle, hrow⟩
  simp only [List.cons.injEq, and_true] at hx
  obtain ⟨rfl, rfl, rfl⟩ := hx
  by_cases hjl : j < l.length
  · have hsz : j < (⟨l.toArray⟩ : ByteArray).size := hjl
    have e0 : ((⟨l.toArray⟩ : ByteArray)[j]'hsz) = l[j]'hjl := rfl
    have hd : l.drop j = l[j] :: l.drop (j + 1) := List.drop_eq_getElem_cons hjl
    by_cases ha : l[j].toNat < 128
    · rw [next_at hrow hsz, decode_ascii ⟨l.toArray⟩ j hsz ha, e0]
      simp only [stepV_val, run_extract]
      simp [known]
      refine (g55_low (c := l[j]) ha).step ?_
      rw [index_fig _ ha]
      simp only [bin_lss, stepV_val, selV_bool, decide_eq_true_eq]
      have hph : ∀ hx : ¬ unh l[j] < 16 ∨ l.length ≠ 16, ph l = (0, 2) := by
        intro hx
        unfold ph
        split
        · rename_i hl16
          rcases hx with hx | hx
          · rw [hval, hd, hv, if_neg hx]
          · exact absurd hl16 hx
        · rfl
      have hle2 : H.le (H1.upd b (.siter ⟨l.toArray⟩ (j + 1))) := AH.le_upd' hle hb
      by_cases hu : unh l[j] < 16
      · simp only [hu, if_true]
        rw [if_neg (by omega)]
        simp only [bs_len u9, stepV_val, bin_neq, selV_bool, decide_eq_true_eq]
        by_cases h16' : l.length = 16
        · rw [if_neg (by omega)]
          have hp16 : 16 ^ j ≤ 16 ^ 15 := Nat.pow_le_pow_right (by omega) (by omega)
          have hp1 : 16 ^ (j + 1) = 16 * 16 ^ j := by rw [Nat.pow_succ, Nat.mul_comm]
          have hpn : (16 : Nat) ^ 15 = 1152921504606846976 := by decide
          have es : IntKind.u64.wrap ((acc : Int) * 16) = ((16 * acc : Nat) : Int) := by rw [wrap_u64']; omega
          have eu : IntKind.u64.wrap ((unh l[j] : Nat) : Int) = ((unh l[j] : Nat) : Int) := by rw [wrap_u64']; omega
          simp only [shl4, stepV_val, conv3_24, es, eu, bin_or]
          rw [or_low acc (unh l[j]) hu (by omega)]
          refine ⟨l.length - (j + 1), by omega, j + 1, by omega, rfl, fun _ => h16', 16 * acc + unh l[j], by omega, ?_, rfl, hle2, upd_self⟩
          rw [hval, hd, hv, if_pos hu]
        · rw [if_pos (by omega)]
          rw [hph (.inr h16')]
          simp [hle2]
      · simp only [hu, if_false]
        rw [if_pos (by omega), hph (.inl hu)]
        simp [hle2]
    · rw [next_at hrow hsz]
      have hdh := (decode_high ⟨l.toArray⟩ j hsz (by rw [e0]; omega)).1
      simp only [stepV_val, run_extract]
      simp [known]
      refine (g55_high (r := ((Utf8.decode ⟨l.toArray⟩ j).1 : Int)) (by omega)).step ?_
      have hu : ¬ unh l[j] < 16 := by rw [unh_high _ ha]; omega
      have hph : ph l = (0, 2) := by
        unfold ph
        split
        · rw [hval, hd, hv, if_neg hu]
        · rfl
      simp [hph]
      exact AH.le_upd' hle hb
  · rw [next_end hrow hjl]
    simp only [stepV_val, run_extract]
    simp [known]
    by_cases hnil : l = []
    · rw [if_pos hnil]
      subst hnil
      exact ⟨⟨rfl, rfl⟩, hle⟩
    · rw [if_neg hnil]
      have hpos : 0 < l.length := List.length_pos_iff.2 hnil
      have hl16 : l.length = 16 := h16 (by omega)
      have hp : ph l = (acc, 0) := by
        unfold ph
        rw [if_pos hl16, hval, List.drop_eq_nil_of_le (by omega)]
        rfl
      rw [hp]
      exact ⟨⟨rfl, rfl⟩, hle⟩
end Go.Proofs.TD
