/-
  A part of the proof: contracts of single functions over the abstract heap.
-/
import Derived.Test.YtaeofoimlhmdoaaDoorTDe
import Derived.KernelRfl
import Derived.Test.YtaeofoimlhmdoaaDoorProg
set_option linter.unusedVariables false
set_option linter.unusedSimpArgs false
set_option maxRecDepth 100000

namespace Go.Proofs.TD
open Go Go.Abs
open Go.Proofs (Tryd.prog)
variable {H : AH} {m i : Nat} {cs : List Value} {n : Int}

def ansC (e k : Int) (w : Nat) : List Value := [.int .i64 e, .int .i64 k, .int .u64 w]

/-- A store of an answer. -/
theorem aSt_ans {b : Nat} {e k w : Int} {a1 a2 a3 : Int} (h : H b = some (.cells false [.int .i64 a1, .int .i64 a2, .int .u64 a3])) :
    aSt H b 0 3 (.agg #[.int .i64 e, .int .i64 k, .int .u64 w]) = some (.val unk (H.upd b (.cells false [.int .i64 e, .int .i64 k, .int .u64 w]))) := by
  simp [aSt, h, known, Value.cells, awr, Value.oneCell']

/-- What is given back at an answer's cell. -/
theorem ret_ans {R : AOut → AH → Prop} {b : Nat} {e k w : Int} {u : Int} (h : H b = some (.cells false [.int .i64 e, .int .i64 k, .int .u64 w])) :
    (real p).ret [.cell (.pointer (some ⟨b, 0, none⟩)) 26, .val (.int .i64 u)] R H = R (.ret (.tuple #[ans e k w, .int .i64 u])) H := by
  rw [ret_cellval (v := ans e k w) h (by rw [part26]; rfl)]
  rfl

/-- A text's figures of base 10, as the document takes them. -/
def digs : Nat → List UInt8 → Option Nat
  | a, [] => some a
  | a, c :: l => if 48 ≤ c ∧ c ≤ 57 then digs ((10 * a + (c.toNat - 48)) % 18446744073709551616) l else none

/-- An error's number, by its text. -/
def errOf (l : List UInt8) : Nat → Nat → Option Nat
  | 0, _ => none
  | f + 1, e => if l = 33 :: ename e then some e else errOf l f (e + 1)

def tail20 (l : List UInt8) : (Int × Int × Nat) × Int :=
  if 20 < l.length ∨ l = [] then ((0, 0, 0), 2) else match digs 0 l with
      | none => ((0, 0, 0), 2)
      | some u => if Lib.decDigits u = l then ((0, 1, u), 0) else ((0, 0, 0), 2)

theorem tail20_bad {l : List UInt8} (h : 20 < l.length ∨ l = []) : tail20 l = ((0, 0, 0), 2) := by unfold tail20; rw [if_pos h]
theorem tail20_none {l : List UInt8} (h : digs 0 l = none) : tail20 l = ((0, 0, 0), 2) := by unfold tail20; split <;> simp [h]
theorem tail20_some {l : List UInt8} {u : Nat} (h1 : ¬ 20 < l.length) (h2 : l ≠ []) (h : digs 0 l = some u) : tail20 l = if Lib.decDigits u = l then ((0, 1, u), 0) else ((0, 0, 0), 2) := by unfold tail20; rw [if_neg (by simp [h1, h2]), h]

def parse20 (l : List UInt8) : (Int × Int × Nat) × Int :=
  if l = [110, 105, 108] then ((0, 0, 0), 0)
  else if l.head? = some 35 then (if (ph l.tail).2 ≠ 0 then ((0, 0, 0), 2) else ((0, 2, (ph l.tail).1), 0))
  else match errOf l 9 1 with
    | some e => ((e, 0, 0), 0)
    | none => tail20 l

theorem conv5_24 : runS p H (.convert 5 24 (.int .u8 n)) = some (.val (.int .u64 (IntKind.u64.wrap n)) H) := by kernel_rfl
theorem u5le {c d : UInt8} : ((c.toNat : Int) < d.toNat) ↔ c < d := by rw [UInt8.lt_iff_toNat_lt]; omega

theorem g9 {l : List UInt8} (hl : l.length < 1000000) : Gives p 9 [bS l] H (.tuple #[ans (parse20 l).1.1 (parse20 l).1.2.1 (parse20 l).1.2.2, .int .i64 (parse20 l).2]) := by
  refine .of (d9 ?_)
  simp only [v9]
  simp only [k_real, alloc26, stepV_new]
  intro b hb
  have hle := fun o => AH.le_upd (o := o) hb
  simp only [bs_eql, stepV_val, selV_bool, decide_eq_true_eq]
  generalize hr : parse20 l = r
  by_cases hnil : l = [110, 105, 108]
  · rw [if_pos hnil]
    simp only [build26, stepV_val, st26]
    have e := aSt_ans (e := 0) (k := 0) (w := 0) (upd_self (H := H) (m := b) (o := .cells false [.int .i64 0, .int .i64 0, .int .u64 0]))
    rw [e]
    simp only [stepV_val]
    rw [ret_ans upd_self]
    have : r = ((0, 0, 0), 0) := by rw [← hr, parse20, if_pos hnil]
    subst this
    exact ⟨rfl, by simp [hle]⟩
  · rw [if_neg hnil]
    simp only [bs_len u9, stepV_val, bin_gtr, selV_bool, decide_eq_true_eq]
    by_cases hpos : 0 < l.length
    · rw [if_pos (by omega)]
      obtain ⟨c, l', hcl⟩ : ∃ c l', l = c :: l' := by cases l with
        | nil => simp at hpos
        | cons c l' => exact ⟨c, l', rfl⟩
      have h0 : l[0] = c := by simp [hcl]
      have hix := bs_index (P := p) (H := H.upd b (.cells false [.int .i64 0, .int .i64 0, .int .u64 0])) (kd := .i64) (l := l) u9 hpos
      simp only [Int.natCast_zero, h0] at hix
      rw [hix]
      simp only [stepV_val, bin_eql, selV_bool, decide_eq_true_eq]
      by_cases h35 : c = 35
      · rw [if_pos (by rw [h35]; rfl)]
        have hsl := bs_slice_lo (P := p) (H := H.upd b (.cells false [.int .i64 0, .int .i64 0, .int .u64 0])) (kd := .i64) (l := l) (n := 1) u9 hpos
        have ht : l.drop 1 = l.tail := by simp
        rw [ht] at hsl
        simp only [Int.natCast_one] at hsl
        rw [hsl]
        simp only [stepV_val, runS_call, List.all_cons, known_bS, List.all_nil, Bool.and_self, if_true]
        refine g22.step ?_
        simp only [run_extract]
        have hp : r = if (ph l.tail).2 ≠ 0 then ((0, 0, 0), 2) else ((0, 2, (ph l.tail).1), 0) := by
          rw [← hr]; unfold parse20; rw [if_neg hnil, if_pos (by rw [hcl, h35]; rfl)]
        simp
        by_cases hp2 : (ph l.tail).2 = 0
        · rw [if_pos hp2]
          simp only [build26_12, stepV_val, st26]
          rw [aSt_ans upd_self]
          simp only [stepV_val]
          rw [ret_ans upd_self]
          rw [if_neg (by simp [hp2])] at hp
          subst hp
          exact ⟨rfl, by simp [hle]⟩
        · rw [if_neg hp2]
          simp only [build26, stepV_val, st26]
          rw [aSt_ans upd_self]
          simp only [stepV_val]
          rw [ret_ans upd_self]
          rw [if_pos hp2] at hp
          subst hp
          exact ⟨rfl, by simp [hle]⟩
      · rw [if_neg (by intro e; exact h35 (UInt8.toNat.inj (by have : (35 : UInt8).toNat = 35 := rfl; omega)))]
        have hh : ¬ l.head? = some 35 := by rw [hcl]; simpa using h35
        refine ⟨fun n xs H' => ∃ j : Nat, 1 ≤ j ∧ j ≤ 10 ∧ n = 10 - j ∧ errOf l 9 1 = errOf l (10 - j) j ∧ xs = [bS l, .pointer (some ⟨b, 0, none⟩), .int .i64 (j : Nat)] ∧ H.le H' ∧ H' b = some (.cells false [.int .i64 0, .int .i64 0, .int .u64 0]),
          ⟨9, 1, by omega, by omega, rfl, rfl, by simp, hle _, upd_self⟩, ?_⟩
        rintro n x1 x2 x3 H1 ⟨j, hj1, hj, rfl, herr, hx, hle1, hrow⟩
        simp only [List.cons.injEq, and_true] at hx
        obtain ⟨rfl, rfl, rfl⟩ := hx
        simp only [bin_leq, stepV_val, selV_bool, decide_eq_true_eq]
        by_cases hj9 : j ≤ 9
        · rw [if_pos (by omega)]
          simp only [runS_call, List.all_cons, known, List.all_nil, Bool.and_self, if_true]
          refine g23.step ?_
          rw [bs_add (by have := ename_le j; simp; omega)]
          simp only [stepV_val, bs_eql, selV_bool, decide_eq_true_eq, List.cons_append, List.nil_append]
          have hs : errOf l (10 - j) j = if l = 33 :: ename j then some j else errOf l (10 - (j + 1)) (j + 1) := by
            rw [show 10 - j = (10 - (j + 1)) + 1 by omega]; rfl
          by_cases hm : l = 33 :: ename j
          · rw [if_pos hm]
            simp only [build26_0, stepV_val, st26]
            rw [aSt_ans hrow]
            simp only [stepV_val]
            rw [ret_ans upd_self]
            have : r = (((j : Int), 0, 0), 0) := by
              rw [← hr]; unfold parse20; rw [if_neg hnil, if_neg hh, herr, hs, if_pos hm]
            subst this
            exact ⟨rfl, AH.le_upd' hle1 hb⟩
          · rw [if_neg hm]
            simp only [bin_add, stepV_val]
            refine ⟨10 - (j + 1), by omega, j + 1, by omega, by omega, rfl, by rw [herr, hs, if_neg hm], ?_, hle1, hrow⟩
            have : IntKind.i64.wrap ((j : Int) + 1) = ((j + 1 : Nat) : Int) := by rw [wrap_i64']; omega
            rw [this]
        · rw [if_neg (by omega)]
          have hnone : errOf l 9 1 = none := by rw [herr, show 10 - j = 0 by omega]; rfl
          have hp : parse20 l = tail20 l := by
            unfold parse20; rw [if_neg hnil, if_neg hh, hnone]
          have bad : ∀ {H2 : AH}, H.le H2 → H2 b = some (.cells false [.int .i64 0, .int .i64 0, .int .u64 0]) → r = ((0, 0, 0), 2) →
              stepV p H2 (aSt H2 b 0 3 (.agg #[.int .i64 0, .int .i64 0, .int .u64 0])) (fun x H3 => (real p).ret [.cell (.pointer (some ⟨b, 0, none⟩)) 26, .val (.int .i64 2)]
                (fun x H' => x = AOut.ret (.tuple #[ans r.1.1 r.1.2.1 r.1.2.2, .int .i64 r.2]) ∧ H.le H') H3) (fun v H' => AOut.pan v = AOut.ret (.tuple #[ans r.1.1 r.1.2.1 r.1.2.2, .int .i64 r.2]) ∧ H.le H') := by
            intro H2 hl2 hr2 e
            rw [aSt_ans hr2]
            simp only [stepV_val]
            rw [ret_ans upd_self]
            subst e
            exact ⟨rfl, AH.le_upd' hl2 hb⟩
          simp only [bs_len u9, stepV_val, bin_gtr, bin_eql, selV_bool, decide_eq_true_eq, build26, st26]
          by_cases hlong : 20 < l.length
          · rw [if_pos (by omega)]
            exact bad hle1 hrow (by rw [← hr, hp, tail20_bad (.inl hlong)])
          · rw [if_neg (by omega)]
            by_cases hemp : l = []
            · rw [if_pos (by rw [hemp]; rfl)]
              exact bad hle1 hrow (by rw [← hr, hp, tail20_bad (.inr hemp)])
            · rw [if_neg (by intro e; exact hemp (List.length_eq_zero_iff.1 (by omega)))]
              refine ⟨fun n xs H' => ∃ j u : Nat, j ≤ l.length ∧ n = l.length - j ∧ u < 18446744073709551616 ∧ digs 0 l = digs u (l.drop j) ∧ xs = [bS l, .pointer (some ⟨b, 0, none⟩), .int .u64 (u : Nat), .int .i64 (j : Nat)] ∧ H.le H' ∧ H' b = some (.cells false [.int .i64 0, .int .i64 0, .int .u64 0]),
                ⟨l.length, 0, 0, by omega, rfl, by omega, rfl, by simp, hle1, hrow⟩, ?_⟩
              rintro n x36 x37 x38 x39 H2 ⟨j, u, hj, rfl, hu, hd, hx, hle2, hrow2⟩
              simp only [List.cons.injEq, and_true] at hx
              obtain ⟨rfl, rfl, rfl, rfl⟩ := hx
              simp only [bs_len u9, stepV_val, bin_lss, selV_bool, decide_eq_true_eq]
              by_cases hjl : j < l.length
              · rw [if_pos (by omega)]
                have hdr : l.drop j = l[j] :: l.drop (j + 1) := List.drop_eq_getElem_cons hjl
                simp only [bs_index u9 hjl, stepV_val, bin_lss, bin_gtr, selV_bool, decide_eq_true_eq]
                by_cases h48 : ((l[j].toNat : Nat) : Int) < 48
                · rw [if_pos h48]
                  rw [st26]; refine bad hle2 hrow2 ?_
                  rw [← hr, hp]; refine tail20_none ?_; rw [hd, hdr, digs, if_neg]
                  rw [UInt8.le_iff_toNat_le]; intro ⟨h1, _⟩
                  have : (48 : UInt8).toNat = 48 := rfl
                  omega
                · rw [if_neg h48]
                  by_cases h57 : ((l[j].toNat : Nat) : Int) > 57
                  · rw [if_pos h57]
                    rw [st26]; refine bad hle2 hrow2 ?_
                    rw [← hr, hp]; refine tail20_none ?_; rw [hd, hdr, digs, if_neg]
                    rw [UInt8.le_iff_toNat_le, UInt8.le_iff_toNat_le]; intro ⟨_, h1⟩
                    have : (57 : UInt8).toNat = 57 := rfl
                    omega
                  · rw [if_neg h57]
                    simp only [bin_mul, bin_sub, stepV_val, conv5_24, bin_add]
                    refine ⟨l.length - (j + 1), by omega, j + 1, (10 * u + (l[j].toNat - 48)) % 18446744073709551616, by omega, rfl, by omega, ?_, ?_, hle2, hrow2⟩
                    · rw [hd, hdr, digs, if_pos]
                      rw [UInt8.le_iff_toNat_le, UInt8.le_iff_toNat_le]
                      have : (57 : UInt8).toNat = 57 := rfl
                      have : (48 : UInt8).toNat = 48 := rfl
                      constructor <;> omega
                    · have e1 : IntKind.i64.wrap ((j : Int) + 1) = ((j + 1 : Nat) : Int) := by rw [wrap_i64']; omega
                      have e2 : IntKind.u64.wrap (IntKind.u64.wrap (10 * (u : Int)) + IntKind.u64.wrap (IntKind.u8.wrap ((l[j].toNat : Nat) - 48))) = (((10 * u + (l[j].toNat - 48)) % 18446744073709551616 : Nat) : Int) := by
                        simp only [wrap_u64', wrap_u8']; omega
                      rw [e1, e2]
              · rw [if_neg (by omega)]
                have hdone : digs 0 l = some u := by rw [hd, List.drop_eq_nil_of_le (by omega)]; rfl
                rw [tail20_some hlong hemp hdone] at hp
                simp only [runS_call, List.all_cons, known, List.all_nil, Bool.and_self, if_true]
                refine (g24 hu).step ?_
                simp only [bs_neq, stepV_val, selV_bool, decide_eq_true_eq]
                by_cases heq : Lib.decDigits u = l
                · rw [if_neg (by simp [heq])]
                  simp only [build26_12, stepV_val]
                  rw [st26, aSt_ans hrow2]
                  simp only [stepV_val]
                  rw [ret_ans upd_self]
                  have : r = ((0, 1, u), 0) := by rw [← hr, hp]; simp [heq]
                  subst this
                  exact ⟨rfl, AH.le_upd' hle2 hb⟩
                · rw [if_pos heq]
                  rw [st26]; refine bad hle2 hrow2 ?_
                  rw [← hr, hp]; simp [heq]
    · rw [if_neg (by omega)]
      have hemp0 : l = [] := List.length_eq_zero_iff.1 (by omega)
      have hh : ¬ l.head? = some 35 := by rw [hemp0]; simp
      refine ⟨fun n xs H' => ∃ j : Nat, 1 ≤ j ∧ j ≤ 10 ∧ n = 10 - j ∧ errOf l 9 1 = errOf l (10 - j) j ∧ xs = [bS l, .pointer (some ⟨b, 0, none⟩), .int .i64 (j : Nat)] ∧ H.le H' ∧ H' b = some (.cells false [.int .i64 0, .int .i64 0, .int .u64 0]),
        ⟨9, 1, by omega, by omega, rfl, rfl, by simp, hle _, upd_self⟩, ?_⟩
      rintro n x1 x2 x3 H1 ⟨j, hj1, hj, rfl, herr, hx, hle1, hrow⟩
      simp only [List.cons.injEq, and_true] at hx
      obtain ⟨rfl, rfl, rfl⟩ := hx
      simp only [bin_leq, stepV_val, selV_bool, decide_eq_true_eq]
      by_cases hj9 : j ≤ 9
      · rw [if_pos (by omega)]
        simp only [runS_call, List.all_cons, known, List.all_nil, Bool.and_self, if_true]
        refine g23.step ?_
        rw [bs_add (by have := ename_le j; simp; omega)]
        simp only [stepV_val, bs_eql, selV_bool, decide_eq_true_eq, List.cons_append, List.nil_append]
        have hs : errOf l (10 - j) j = if l = 33 :: ename j then some j else errOf l (10 - (j + 1)) (j + 1) := by
          rw [show 10 - j = (10 - (j + 1)) + 1 by omega]; rfl
        by_cases hm : l = 33 :: ename j
        · rw [if_pos hm]
          simp only [build26_0, stepV_val, st26]
          rw [aSt_ans hrow]
          simp only [stepV_val]
          rw [ret_ans upd_self]
          have : r = (((j : Int), 0, 0), 0) := by
            rw [← hr]; unfold parse20; rw [if_neg hnil, if_neg hh, herr, hs, if_pos hm]
          subst this
          exact ⟨rfl, AH.le_upd' hle1 hb⟩
        · rw [if_neg hm]
          simp only [bin_add, stepV_val]
          refine ⟨10 - (j + 1), by omega, j + 1, by omega, by omega, rfl, by rw [herr, hs, if_neg hm], ?_, hle1, hrow⟩
          have : IntKind.i64.wrap ((j : Int) + 1) = ((j + 1 : Nat) : Int) := by rw [wrap_i64']; omega
          rw [this]
      · rw [if_neg (by omega)]
        have hnone : errOf l 9 1 = none := by rw [herr, show 10 - j = 0 by omega]; rfl
        have hp : parse20 l = tail20 l := by
          unfold parse20; rw [if_neg hnil, if_neg hh, hnone]
        have bad : ∀ {H2 : AH}, H.le H2 → H2 b = some (.cells false [.int .i64 0, .int .i64 0, .int .u64 0]) → r = ((0, 0, 0), 2) →
            stepV p H2 (aSt H2 b 0 3 (.agg #[.int .i64 0, .int .i64 0, .int .u64 0])) (fun x H3 => (real p).ret [.cell (.pointer (some ⟨b, 0, none⟩)) 26, .val (.int .i64 2)]
              (fun x H' => x = AOut.ret (.tuple #[ans r.1.1 r.1.2.1 r.1.2.2, .int .i64 r.2]) ∧ H.le H') H3) (fun v H' => AOut.pan v = AOut.ret (.tuple #[ans r.1.1 r.1.2.1 r.1.2.2, .int .i64 r.2]) ∧ H.le H') := by
          intro H2 hl2 hr2 e
          rw [aSt_ans hr2]
          simp only [stepV_val]
          rw [ret_ans upd_self]
          subst e
          exact ⟨rfl, AH.le_upd' hl2 hb⟩
        simp only [bs_len u9, stepV_val, bin_gtr, bin_eql, selV_bool, decide_eq_true_eq, build26, st26]
        by_cases hlong : 20 < l.length
        · rw [if_pos (by omega)]
          exact bad hle1 hrow (by rw [← hr, hp, tail20_bad (.inl hlong)])
        · rw [if_neg (by omega)]
          by_cases hemp : l = []
          · rw [if_pos (by rw [hemp]; rfl)]
            exact bad hle1 hrow (by rw [← hr, hp, tail20_bad (.inr hemp)])
          · rw [if_neg (by intro e; exact hemp (List.length_eq_zero_iff.1 (by omega)))]
            refine ⟨fun n xs H' => ∃ j u : Nat, j ≤ l.length ∧ n = l.length - j ∧ u < 18446744073709551616 ∧ digs 0 l = digs u (l.drop j) ∧ xs = [bS l, .pointer (some ⟨b, 0, none⟩), .int .u64 (u : Nat), .int .i64 (j : Nat)] ∧ H.le H' ∧ H' b = some (.cells false [.int .i64 0, .int .i64 0, .int .u64 0]),
              ⟨l.length, 0, 0, by omega, rfl, by omega, rfl, by simp, hle1, hrow⟩, ?_⟩
            rintro n x36 x37 x38 x39 H2 ⟨j, u, hj, rfl, hu, hd, hx, hle2, hrow2⟩
            simp only [List.cons.injEq, and_true] at hx
            obtain ⟨rfl, rfl, rfl, rfl⟩ := hx
            simp only [bs_len u9, stepV_val, bin_lss, selV_bool, decide_eq_true_eq]
            by_cases hjl : j < l.length
            · rw [if_pos (by omega)]
              have hdr : l.drop j = l[j] :: l.drop (j + 1) := List.drop_eq_getElem_cons hjl
              simp only [bs_index u9 hjl, stepV_val, bin_lss, bin_gtr, selV_bool, decide_eq_true_eq]
              by_cases h48 : ((l[j].toNat : Nat) : Int) < 48
              · rw [if_pos h48]
                rw [st26]; refine bad hle2 hrow2 ?_
                rw [← hr, hp]; refine tail20_none ?_; rw [hd, hdr, digs, if_neg]
                rw [UInt8.le_iff_toNat_le]; intro ⟨h1, _⟩
                have : (48 : UInt8).toNat = 48 := rfl
                omega
              · rw [if_neg h48]
                by_cases h57 : ((l[j].toNat : Nat) : Int) > 57
                · rw [if_pos h57]
                  rw [st26]; refine bad hle2 hrow2 ?_
                  rw [← hr, hp]; refine tail20_none ?_; rw [hd, hdr, digs, if_neg]
                  rw [UInt8.le_iff_toNat_le, UInt8.le_iff_toNat_le]; intro ⟨_, h1⟩
                  have : (57 : UInt8).toNat = 57 := rfl
                  omega
                · rw [if_neg h57]
                  simp only [bin_mul, bin_sub, stepV_val, conv5_24, bin_add]
                  refine ⟨l.length - (j + 1), by omega, j + 1, (10 * u + (l[j].toNat - 48)) % 18446744073709551616, by omega, rfl, by omega, ?_, ?_, hle2, hrow2⟩
                  · rw [hd, hdr, digs, if_pos]
                    rw [UInt8.le_iff_toNat_le, UInt8.le_iff_toNat_le]
                    have : (57 : UInt8).toNat = 57 := rfl
                    have : (48 : UInt8).toNat = 48 := rfl
                    constructor <;> omega
                  · have e1 : IntKind.i64.wrap ((j : Int) + 1) = ((j + 1 : Nat) : Int) := by rw [wrap_i64']; omega
                    have e2 : IntKind.u64.wrap (IntKind.u64.wrap (10 * (u : Int)) + IntKind.u64.wrap (IntKind.u8.wrap ((l[j].toNat : Nat) - 48))) = (((10 * u + (l[j].toNat - 48)) % 18446744073709551616 : Nat) : Int) := by
                      simp only [wrap_u64', wrap_u8']; omega
                    rw [e1, e2]
            · rw [if_neg (by omega)]
              have hdone : digs 0 l = some u := by rw [hd, List.drop_eq_nil_of_le (by omega)]; rfl
              rw [tail20_some hlong hemp hdone] at hp
              simp only [runS_call, List.all_cons, known, List.all_nil, Bool.and_self, if_true]
              refine (g24 hu).step ?_
              simp only [bs_neq, stepV_val, selV_bool, decide_eq_true_eq]
              by_cases heq : Lib.decDigits u = l
              · rw [if_neg (by simp [heq])]
                simp only [build26_12, stepV_val]
                rw [st26, aSt_ans hrow2]
                simp only [stepV_val]
                rw [ret_ans upd_self]
                have : r = ((0, 1, u), 0) := by rw [← hr, hp]; simp [heq]
                subst this
                exact ⟨rfl, AH.le_upd' hle2 hb⟩
              · rw [if_pos heq]
                rw [st26]; refine bad hle2 hrow2 ?_
                rw [← hr, hp]; simp [heq]
end Go.Proofs.TD
