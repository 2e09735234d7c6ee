/-
  A part of the proof: contracts of single functions over the abstract heap.
-/
import Derived.Test.YtaeofoimlhmdoaaDoorTDy
import Derived.KernelRfl
import Derived.Laws.RangeString
namespace Go.Proofs.TD
open Go Go.Abs
open Go.Proofs (Tryd.prog)
set_option maxRecDepth 100000
set_option linter.unusedVariables false
set_option linter.unusedSimpArgs false
variable {H : AH} {m i : Nat} {cs : List Value} {n : Int}
/-- strings.IndexRune -/
noncomputable def v55 (a0 a1 : Value) (H : AH) (R : AOut → AH → Prop) (α : Ip) : Prop :=
 k α R H (.bin .leq 21 true (.int .i32 0) a1) fun x0 H =>
 selV x0 (k α R H (.bin .lss 21 true a1 (.int .i32 128)) fun x1 H =>
 selV x1 (k α R H (.convert 21 5 a1) fun x2 H =>
 k α R H (.call (fnV 67) [a0, x2]) fun x3 H =>
 α.ret [.val x3] R H) (k α R H (.bin .eql 21 true a1 (.int .i32 65533)) fun x4 H =>
 selV x4 (k α R H (.range 9 a0) fun x5 H =>
 ∃ I7 : Nat → List Value → AH → Prop, (∃ n, I7 n [x5] H) ∧ ∀ n7, ∀ x6 : Value, ∀ H, I7 n7 [x6] H →
  k α R H (.next x6 true) fun x8 H =>
 k α R H (.extract x8 0) fun x9 H =>
 selV x9 (k α R H (.extract x8 1) fun x10 H =>
 k α R H (.extract x8 2) fun x11 H =>
 k α R H (.bin .eql 21 true x11 (.int .i32 65533)) fun x12 H =>
 selV x12 (α.ret [.val x10] R H) (∃ n', n' < n7 ∧ I7 n' [x6] H)) (α.ret [.val (.int .i64 (-1))] R H)) (k α R H (.call (fnV 68) [a1]) fun x13 H =>
 k α R H (.un .not x13) fun x14 H =>
 selV x14 (α.ret [.val (.int .i64 (-1))] R H) (k α R H (.convert 21 9 a1) fun x15 H =>
 k α R H (.len 9 x15) fun x16 H =>
 k α R H (.bin .sub 3 true x16 (.int .i64 1)) fun x17 H =>
 ∃ I22 : Nat → List Value → AH → Prop, (∃ n, I22 n [a0, x15, x17, x17] H) ∧ ∀ n22, ∀ x18 : Value, ∀ x19 : Value, ∀ x20 : Value, ∀ x21 : Value, ∀ H, I22 n22 [x18, x19, x20, x21] H →
  k α R H (.len 9 x18) fun x23 H =>
 k α R H (.bin .lss 3 false x21 x23) fun x24 H =>
 selV x24 (α.q H (.index 9 x18 x21) fun x25 => α.q H (.index 9 x19 x20) fun x26 => k α R H (.bin .neq 5 false x25 x26) fun x27 H =>
 selV x27 (α.q H (.bin .add 3 true x21 (.int .i64 1)) fun x28 => α.q H (.slice 9 x18 (some x28) none none) fun x29 => α.q H (.index 9 x19 x20) fun x30 => k α R H (.call (fnV 67) [x29, x30]) fun x31 H =>
 k α R H (.bin .lss 3 true x31 (.int .i64 0)) fun x32 H =>
 selV x32 (α.ret [.val (.int .i64 (-1))] R H) (k α R H (.bin .add 3 true x31 (.int .i64 1)) fun x33 H =>
 k α R H (.bin .add 3 false x21 x33) fun x34 H =>
 ∃ I40 : Nat → List Value → AH → Prop, (∃ n, I40 n [x18, x19, x20, x34, (.int .i64 1)] H) ∧ ∀ n40, ∀ x35 : Value, ∀ x36 : Value, ∀ x37 : Value, ∀ x38 : Value, ∀ x39 : Value, ∀ H, I40 n40 [x35, x36, x37, x38, x39] H →
  k α R H (.len 9 x36) fun x41 H =>
 k α R H (.bin .lss 3 false x39 x41) fun x42 H =>
 selV x42 (α.q H (.bin .sub 3 false x38 x39) fun x43 => α.q H (.index 9 x35 x43) fun x44 => α.q H (.bin .sub 3 false x37 x39) fun x45 => α.q H (.index 9 x36 x45) fun x46 => k α R H (.bin .neq 5 false x44 x46) fun x47 H =>
 selV x47 (False) (k α R H (.bin .add 3 true x39 (.int .i64 1)) fun x48 H =>
 ∃ n', n' < n40 ∧ I40 n' [x35, x36, x37, x38, x48] H)) (k α R H (.bin .sub 3 false x38 x37) fun x49 H =>
 α.ret [.val x49] R H))) (∃ I55 : Nat → List Value → AH → Prop, (∃ n, I55 n [x18, x19, x20, x21, (.int .i64 1)] H) ∧ ∀ n55, ∀ x50 : Value, ∀ x51 : Value, ∀ x52 : Value, ∀ x53 : Value, ∀ x54 : Value, ∀ H, I55 n55 [x50, x51, x52, x53, x54] H →
  k α R H (.len 9 x51) fun x56 H =>
 k α R H (.bin .lss 3 false x54 x56) fun x57 H =>
 selV x57 (α.q H (.bin .sub 3 false x53 x54) fun x58 => α.q H (.index 9 x50 x58) fun x59 => α.q H (.bin .sub 3 false x52 x54) fun x60 => α.q H (.index 9 x51 x60) fun x61 => k α R H (.bin .neq 5 false x59 x61) fun x62 H =>
 selV x62 (False) (k α R H (.bin .add 3 true x54 (.int .i64 1)) fun x63 H =>
 ∃ n', n' < n55 ∧ I55 n' [x50, x51, x52, x53, x63] H)) (k α R H (.bin .sub 3 false x53 x52) fun x64 H =>
 α.ret [.val x64] R H))) (α.ret [.val (.int .i64 (-1))] R H))))) (k α R H (.bin .eql 21 true a1 (.int .i32 65533)) fun x65 H =>
 selV x65 (k α R H (.range 9 a0) fun x66 H =>
 ∃ I68 : Nat → List Value → AH → Prop, (∃ n, I68 n [x66] H) ∧ ∀ n68, ∀ x67 : Value, ∀ H, I68 n68 [x67] H →
  k α R H (.next x67 true) fun x69 H =>
 k α R H (.extract x69 0) fun x70 H =>
 selV x70 (k α R H (.extract x69 1) fun x71 H =>
 k α R H (.extract x69 2) fun x72 H =>
 k α R H (.bin .eql 21 true x72 (.int .i32 65533)) fun x73 H =>
 selV x73 (α.ret [.val x71] R H) (∃ n', n' < n68 ∧ I68 n' [x67] H)) (α.ret [.val (.int .i64 (-1))] R H)) (k α R H (.call (fnV 68) [a1]) fun x74 H =>
 k α R H (.un .not x74) fun x75 H =>
 selV x75 (α.ret [.val (.int .i64 (-1))] R H) (k α R H (.convert 21 9 a1) fun x76 H =>
 k α R H (.len 9 x76) fun x77 H =>
 k α R H (.bin .sub 3 true x77 (.int .i64 1)) fun x78 H =>
 ∃ I83 : Nat → List Value → AH → Prop, (∃ n, I83 n [a0, x76, x78, x78] H) ∧ ∀ n83, ∀ x79 : Value, ∀ x80 : Value, ∀ x81 : Value, ∀ x82 : Value, ∀ H, I83 n83 [x79, x80, x81, x82] H →
  k α R H (.len 9 x79) fun x84 H =>
 k α R H (.bin .lss 3 false x82 x84) fun x85 H =>
 selV x85 (α.q H (.index 9 x79 x82) fun x86 => α.q H (.index 9 x80 x81) fun x87 => k α R H (.bin .neq 5 false x86 x87) fun x88 H =>
 selV x88 (α.q H (.bin .add 3 true x82 (.int .i64 1)) fun x89 => α.q H (.slice 9 x79 (some x89) none none) fun x90 => α.q H (.index 9 x80 x81) fun x91 => k α R H (.call (fnV 67) [x90, x91]) fun x92 H =>
 k α R H (.bin .lss 3 true x92 (.int .i64 0)) fun x93 H =>
 selV x93 (α.ret [.val (.int .i64 (-1))] R H) (k α R H (.bin .add 3 true x92 (.int .i64 1)) fun x94 H =>
 k α R H (.bin .add 3 false x82 x94) fun x95 H =>
 ∃ I101 : Nat → List Value → AH → Prop, (∃ n, I101 n [x79, x80, x81, x95, (.int .i64 1)] H) ∧ ∀ n101, ∀ x96 : Value, ∀ x97 : Value, ∀ x98 : Value, ∀ x99 : Value, ∀ x100 : Value, ∀ H, I101 n101 [x96, x97, x98, x99, x100] H →
  k α R H (.len 9 x97) fun x102 H =>
 k α R H (.bin .lss 3 false x100 x102) fun x103 H =>
 selV x103 (α.q H (.bin .sub 3 false x99 x100) fun x104 => α.q H (.index 9 x96 x104) fun x105 => α.q H (.bin .sub 3 false x98 x100) fun x106 => α.q H (.index 9 x97 x106) fun x107 => k α R H (.bin .neq 5 false x105 x107) fun x108 H =>
 selV x108 (False) (k α R H (.bin .add 3 true x100 (.int .i64 1)) fun x109 H =>
 ∃ n', n' < n101 ∧ I101 n' [x96, x97, x98, x99, x109] H)) (k α R H (.bin .sub 3 false x99 x98) fun x110 H =>
 α.ret [.val x110] R H))) (∃ I116 : Nat → List Value → AH → Prop, (∃ n, I116 n [x79, x80, x81, x82, (.int .i64 1)] H) ∧ ∀ n116, ∀ x111 : Value, ∀ x112 : Value, ∀ x113 : Value, ∀ x114 : Value, ∀ x115 : Value, ∀ H, I116 n116 [x111, x112, x113, x114, x115] H →
  k α R H (.len 9 x112) fun x117 H =>
 k α R H (.bin .lss 3 false x115 x117) fun x118 H =>
 selV x118 (α.q H (.bin .sub 3 false x114 x115) fun x119 => α.q H (.index 9 x111 x119) fun x120 => α.q H (.bin .sub 3 false x113 x115) fun x121 => α.q H (.index 9 x112 x121) fun x122 => k α R H (.bin .neq 5 false x120 x122) fun x123 H =>
 selV x123 (False) (k α R H (.bin .add 3 true x115 (.int .i64 1)) fun x124 H =>
 ∃ n', n' < n116 ∧ I116 n' [x111, x112, x113, x114, x124] H)) (k α R H (.bin .sub 3 false x114 x113) fun x125 H =>
 α.ret [.val x125] R H))) (α.ret [.val (.int .i64 (-1))] R H))))

theorem d55 {a0 a1 : Value} {H : AH} {R : AOut → AH → Prop} (h : v55 a0 a1 H R (real p)) : Does p 55 [a0, a1] H R :=
  Does.of_wc (fun | 6 => some 6 | 7 => some 7 | 14 => some 10 | 31 => some 10 | _ => none) (fun | 38 => [175] | 5 => [0, 7, 8, 9] | 12 => [0, 7, 8, 9, 12] | 25 => [0, 7, 8, 9, 14, 15] | 29 => [0, 7, 8, 9, 14, 15, 16] | _ => []) (v55 a0 a1 H R) hm Tryd.func55 Tryd.call55 (by kernel_rfl) (fun _ => by kernel_rfl) h


def figs : List UInt8 := [48, 49, 50, 51, 52, 53, 54, 55, 56, 57, 97, 98, 99, 100, 101, 102]
theorem conv21_9 {r : Int} : runS p H (.convert 21 9 (.int .i32 r)) = some (.val (.string (Utf8.encode r)) H) := by kernel_rfl
theorem figs_small (j : Nat) (h : j < figs.length) : figs[j].toNat < 128 := by
  have : ∀ j : Fin 16, (figs.getD j.val 0).toNat < 128 := by decide
  have hh : j < 16 := h
  have := this ⟨j, hh⟩
  simpa [List.getD_eq_getElem?_getD, List.getElem?_eq_getElem h] using this
theorem enc_tail {r : Int} (h : 128 ≤ r) : ∃ l c, Utf8.encode r = ⟨(l ++ [c]).toArray⟩ ∧ 128 ≤ c.toNat ∧ 1 ≤ l.length ∧ l.length ≤ 3 := by
  unfold Utf8.encode
  have hc : ¬ (if Utf8.valid r then r.toNat else Utf8.runeError) < 128 := by
    split
    · omega
    · decide
  generalize (if Utf8.valid r then r.toNat else Utf8.runeError) = c at hc
  simp only [hc, if_false]
  split
  · exact ⟨[_], _, rfl, by simp [UInt8.toNat_ofNat']; omega, by simp, by simp⟩
  · split
    · exact ⟨[_, _], _, rfl, by simp [UInt8.toNat_ofNat']; omega, by simp, by simp⟩
    · exact ⟨[_, _, _], _, rfl, by simp [UInt8.toNat_ofNat']; omega, by simp, by simp⟩
theorem g67 {l : List UInt8} {c : UInt8} : Gives p 67 [bS l, .int .u8 c.toNat] H (.int .i64 (Lib.indexByte l c)) :=
  Gives.of_calls Tryd.call67 rfl rfl fun J F w S => (Tryd.strings_IndexByte ⟨l.toArray⟩ (c.toNat : Int) w).mono fun e w' h => by
    obtain ⟨rfl, rfl⟩ := h
    exact ⟨by simp, .refl _ _⟩
theorem g68 {r : Int} : Gives p 68 [.int .i32 r] H (.bool (Lib.validRune r)) :=
  Gives.of_calls Tryd.call68 rfl rfl fun J F w S => (Tryd.utf8_ValidRune r w).mono fun e w' h => by
    obtain ⟨rfl, rfl⟩ := h
    exact ⟨rfl, .refl _ _⟩
theorem none_high (l : List UInt8) (h : ∀ x ∈ l, x.toNat < 128) (c : UInt8) (hc : 128 ≤ c.toNat) : Lib.indexByte l c = -1 := by
  induction l with
  | nil => rfl
  | cons b l ih =>
    have hb := h b (by simp)
    have hne : (b == c) = false := by
      rw [beq_eq_false_iff_ne]; rintro rfl; omega
    simp [Lib.indexByte, hne, ih (fun x hx => h x (by simp [hx]))]

theorem run_range {l : List UInt8} : runS p H (.range 9 (bS l)) = some (.new H (.siter ⟨l.toArray⟩ 0) fun b => .pointer (some ⟨b, 0, none⟩)) := by
  simp only [runS, aRange, u9, bS]
theorem next_at {b pos : Nat} {s : ByteArray} (h : H b = some (.siter s pos)) (hp : pos < s.size) :
    runS p H (.next (.pointer (some ⟨b, 0, none⟩)) true) = some (.val (.tuple #[.bool true, .int .i64 pos, .int .i32 (Utf8.decode s pos).1]) (H.upd b (.siter s (pos + (Utf8.decode s pos).2)))) := by
  simp only [runS, aNext, h, hp, if_true, goInt]
theorem next_end {b pos : Nat} {s : ByteArray} (h : H b = some (.siter s pos)) (hp : ¬ pos < s.size) :
    runS p H (.next (.pointer (some ⟨b, 0, none⟩)) true) = some (.val (.tuple #[.bool false]) H) := by
  simp only [runS, aNext, h, hp, if_false]

theorem g55_high {r : Int} (h : 128 ≤ r) : Gives p 55 [bS figs, .int .i32 r] H (.int .i64 (-1)) := by
  refine .of (d55 ?_)
  simp only [v55]
  simp only [k_real, bin_leq, bin_lss, bin_eql, stepV_val, selV_bool, decide_eq_true_eq]
  rw [if_pos (by omega), if_neg (by omega)]
  by_cases he : r = 65533
  · rw [if_pos he]
    simp only [run_range, stepV_new]
    intro b hb
    refine ⟨fun n xs H' => ∃ pos : Nat, pos ≤ 16 ∧ n = 16 - pos ∧ xs = [.pointer (some ⟨b, 0, none⟩)] ∧ H.le H' ∧ H' b = some (.siter ⟨figs.toArray⟩ pos), ⟨16, 0, by omega, rfl, rfl, AH.le_upd hb, upd_self⟩, ?_⟩
    rintro n x6 H1 ⟨pos, hpos, rfl, hx, hle, hrow⟩
    simp only [List.cons.injEq, and_true] at hx
    subst hx
    by_cases hp : pos < 16
    · have hsz : pos < (⟨figs.toArray⟩ : ByteArray).size := hp
      have hd := decode_ascii ⟨figs.toArray⟩ pos hsz (figs_small pos hp)
      rw [next_at hrow hsz, hd]
      have h128 := figs_small pos hp
      have e0 : ((⟨figs.toArray⟩ : ByteArray)[pos]'hsz) = figs[pos]'hp := rfl
      simp only [stepV_val, run_extract, e0]
      simp
      refine ⟨?_, 16 - (pos + 1), by omega, pos + 1, by omega, rfl, AH.le_upd' hle hb, rfl⟩
      have := figs_small pos hp
      omega
    · rw [next_end hrow hp]
      simp only [stepV_val, run_extract]
      simp [hle]
  · rw [if_neg he]
    simp only [runS_call, List.all_cons, List.all_nil, known, Bool.and_self, if_true]
    refine g68.step ?_
    simp only [un_not, stepV_val, selV_bool]
    cases hv : Lib.validRune r
    · simp [AH.le_refl]
    · obtain ⟨l, c, e1, e2, e3, e4⟩ := enc_tail h
      simp only [Bool.not_true, Bool.false_eq_true, if_false, conv21_9, e1, stepV_val]
      rw [show Value.string ⟨(l ++ [c]).toArray⟩ = bS (l ++ [c]) from rfl]
      have hsub : IntKind.i64.wrap (((l ++ [c]).length : Nat) - 1 : Int) = ((l.length : Nat) : Int) := by rw [wrap_i64']; simp; omega
      simp only [bs_len u9, stepV_val, bin_sub, hsub]
      refine ⟨fun n xs H' => xs = [bS figs, bS (l ++ [c]), .int .i64 (l.length : Nat), .int .i64 (l.length : Nat)] ∧ H' = H, ⟨0, rfl, rfl⟩, ?_⟩
      rintro n x18 x19 x20 x21 H1 ⟨hx, rfl⟩
      simp only [List.cons.injEq, and_true] at hx
      obtain ⟨rfl, rfl, rfl, rfl⟩ := hx
      have hf : figs.length = 16 := rfl
      have hlf : l.length < figs.length := by omega
      have hlc : l.length < (l ++ [c]).length := by simp
      have hget : (l ++ [c])[l.length] = c := by simp
      simp only [bs_len u9, stepV_val, bin_lss, selV_bool, decide_eq_true_eq]
      rw [if_pos (by omega)]
      have hadd : IntKind.i64.wrap ((l.length : Int) + 1) = ((l.length + 1 : Nat) : Int) := by rw [wrap_i64']; omega
      have hs := figs_small l.length hlf
      simp only [q_real, bs_index u9 hlf, bs_index u9 hlc, hget, stepQ_val, bin_neq, stepV_val, selV_bool, decide_eq_true_eq]
      rw [if_pos (by omega)]
      simp only [bin_add, stepQ_val, hadd]
      rw [bs_slice_lo u9 (by omega)]
      simp only [stepQ_val, runS_call, List.all_cons, List.all_nil, known, known_bS, Bool.and_self, if_true]
      refine g67.step ?_
      rw [none_high _ (fun x hx => by
        obtain ⟨j, hj, rfl⟩ := List.getElem_of_mem (List.mem_of_mem_drop hx)
        exact figs_small j hj) c e2]
      simp [AH.le_refl]
end Go.Proofs.TD
