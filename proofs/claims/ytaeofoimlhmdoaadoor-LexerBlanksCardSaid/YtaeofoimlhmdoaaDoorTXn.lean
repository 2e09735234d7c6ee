/-
  A part of the proof: contracts of single functions over the abstract heap.
-/
import Derived.Test.YtaeofoimlhmdoaaDoorTXm
namespace Go.Proofs.TD
open Go Go.Abs
open Go.Proofs (Tryd.prog)
set_option maxRecDepth 100000
set_option linter.unusedVariables false
set_option linter.unusedSimpArgs false
variable {H : AH}

def keepT (k : Int) (t : List UInt8) : Prop := 0 ≤ k ∧ (k < 2 → nameB t = true ∧ t.length ≤ 20)
def normX (k : Int) (t : List UInt8) : List UInt8 := if k > 1 then [] else t
def normU (k : Int) (u : Nat) : Nat := if k ≠ 2 ∧ k ≠ 3 then 0 else u

theorem okT_norm {k : Int} {t : List UInt8} {u : Nat} (hk : keepT (k.tmod 5) t) (hu : u < 18446744073709551616) : okT (k.tmod 5) (normX (k.tmod 5) t) (normU (k.tmod 5) u) := by
  have hlt : k.tmod 5 < 5 := by
    have := Int.tmod_lt_of_pos k (show (0 : Int) < 5 by omega); omega
  generalize k.tmod 5 = q at hk hlt
  obtain ⟨h0, h1⟩ := hk
  unfold okT normX normU
  refine ⟨by split <;> omega, ?_⟩
  by_cases h2 : q < 2
  · left
    rw [if_neg (by omega), if_pos (by omega)]
    exact ⟨by omega, (h1 h2).1, (h1 h2).2, rfl⟩
  · right
    rw [if_pos (by omega)]
    by_cases h4 : q = 4
    · right; exact ⟨h4, rfl, by rw [if_pos (by omega)]⟩
    · left; exact ⟨by omega, rfl⟩

theorem sc_pos : ∀ (f a : Nat) (l : List UInt8) (t : List TokR), l.length < f → sc f a l = .inr t → ∀ x ∈ t, x.2 ≤ a + l.length := by
  intro f
  induction f with
  | zero => intro a l t h; omega
  | succ f ih =>
    intro a l t hf h
    cases l with
    | nil => simp [sc] at h; subst h; simp
    | cons c r =>
      simp only [sc] at h
      simp only [List.length_cons] at hf ⊢
      split at h
      · intro x hx; have := ih _ _ _ (by omega) h x hx; omega
      · split at h
        · cases h
        · rename_i hn
          split at h
          · cases h
          · rename_i l' hl'
            have := ih _ _ _ (by simp; omega) hl'
            have hle := tok_le (c :: r)
            cases h
            intro x hx
            simp only [List.mem_cons] at hx
            rcases hx with rfl | hx
            · simp
            · have := this x hx
              simp only [List.length_drop, List.length_cons] at this hle
              omega
theorem scanR_pos {l : List UInt8} (hl : l.length < 900000) : ∀ x ∈ (scanR l).1, x.2 < 1000000 := by
  unfold scanR
  split
  · simp
  · split
    · simp
    · rename_i t ht
      intro x hx
      have := sc_pos _ _ _ _ (by omega) ht x hx
      omega

theorem le_row {H H' : AH} {m n : Nat} {o o' : AObj} (h : H m = some o) (hn : H n = none) (hl : H.le H') : H' m = some o := hl _ _ h

/-- LexerBlanks -/
theorem g6 {A0 A1 : Value} {L : List TokIn} {G s : List UInt8} (h0 : IsIn H A0 L) (h1 : IsBytes H A1 G) (hu : ∀ x ∈ L, x.1.2.2 < 18446744073709551616) (hLt : ∀ x ∈ L, x.1.2.1.length < 9223372036854775808) (hL : Laid H) : Gives p 6 [A0, A1, bS s] H (.bool true) := by
  refine .of (d6 ?_)
  simp only [v6]
  simp -implicitDefEqProofs only [k_real, q_real, len33i h0, len9', stepV_val, bin_gtr, selV_bool, decide_eq_true_eq, Bool.false_eq_true, if_false, runS_call, List.all_cons, List.all_nil, if_true, ret_one]
  by_cases hn : (L.length : Int) > 20
  · rw [if_pos hn]
    refine (g14 hL).step ?_
    exact ⟨rfl, AH.le_refl _⟩
  rw [if_neg hn]
  by_cases hs : (s.length : Int) > 900
  · rw [if_pos hs]
    refine (g14 hL).step ?_
    exact ⟨rfl, AH.le_refl _⟩
  rw [if_neg hs]
  refine ⟨fun n xs H' => ∃ (j : Nat) (line : List UInt8) (want : List TokR) (v : Value), j ≤ L.length ∧ n = L.length - j ∧ H.le H' ∧ IsToks H' v want ∧ (∀ b, v = .slice (some ⟨b, 0, none⟩) want.length 4 → H b = none) ∧
      Laid18 line want ∧ line.length ≤ 25 * j ∧ want.length ≤ j ∧ xs = [A0, A1, bS s, bS line, v, .int .i64 (j : Nat)],
    ⟨_, 0, [], [], _, by omega, rfl, AH.le_refl _, .inl ⟨rfl, rfl⟩, (by intro b h; cases h), Laid18.nil, by simp, by simp, rfl⟩, ?_⟩
  rintro n x1 x2 x3 x4 x5 x6 H1 ⟨j, line, want, v, hj, rfl, hle, hv, hnew, hlaid, hll, hwl, hx⟩
  simp only [List.cons.injEq, and_true] at hx
  obtain ⟨rfl, rfl, rfl, rfl, rfl, rfl⟩ := hx
  have h0' := h0.mono hle
  simp -implicitDefEqProofs only [len33i h0', stepV_val, bin_lss, selV_bool, decide_eq_true_eq, Bool.false_eq_true, if_false]
  by_cases hjl : j < L.length
  · rw [if_pos (by omega)]
    refine atIn h0' hjl ?_
    have hux := hu _ (List.getElem_mem hjl)
    have htx := hLt _ (List.getElem_mem hjl)
    generalize hxx : L[j] = x at hux htx
    refine kept43 fun b H2 l2 n2 r2 => ?_
    have hle2 := AH.le_trans hle l2
    have hHb : H b = none := AH.none_of_le hle n2
    simp -implicitDefEqProofs only [fa43_0, stepV_val, ldk43 r2, rem5, st3k r2]
    have r3 : (H2.upd b (.cells false (tokC (x.1.1.tmod 5) x.1.2.1 x.1.2.2 x.2))) b = some (.cells false (tokC (x.1.1.tmod 5) x.1.2.1 x.1.2.2 x.2)) := upd_self
    have l3 : H1.le (H2.upd b (.cells false (tokC (x.1.1.tmod 5) x.1.2.1 x.1.2.2 x.2))) := AH.le_upd' l2 n2
    generalize H2.upd b (.cells false (tokC (x.1.1.tmod 5) x.1.2.1 x.1.2.2 x.2)) = H3 at r3 l3
    simp -implicitDefEqProofs only [fa43_1, stepV_val, Nat.zero_add, ldt43 r3, runS_call, List.all_cons, List.all_nil, known_bS, Bool.and_self, if_true]
    refine (g19 htx).step ?_
    have hlt : x.1.1.tmod 5 < 5 := by
      have := Int.tmod_lt_of_pos x.1.1 (show (0 : Int) < 5 by omega); omega
    have hok := @okT_norm x.1.1 x.1.2.1 x.1.2.2
    generalize hq : x.1.1.tmod 5 = q at *
    -- passed over
    have skip : ∀ H', H1.le H' → ∃ n', n' < L.length - j ∧ ∃ (j_1 : Nat) (line_1 : List UInt8) (want_1 : List TokR) (v : Value), j_1 ≤ L.length ∧ n' = L.length - j_1 ∧ H.le H' ∧ IsToks H' v want_1 ∧ (∀ b, v = .slice (some ⟨b, 0, none⟩) want_1.length 4 → H b = none) ∧
        Laid18 line_1 want_1 ∧ line_1.length ≤ 25 * j_1 ∧ want_1.length ≤ j_1 ∧ [x1, x2, bS s, bS line, x5, Value.int .i64 ((j + 1 : Nat) : Int)] = [x1, x2, bS s, bS line_1, v, .int .i64 (j_1 : Nat)] :=
      fun H' hl => ⟨_, by omega, j + 1, line, want, x5, by omega, rfl, AH.le_trans hle hl, hv.mono hl, hnew, hlaid, by omega, by omega, rfl⟩
    refine ⟨fun xs H' => xs = [x1, x2, bS s, bS line, x5, .int .i64 (j : Nat), .pointer (some ⟨b, 0, none⟩)] ∧ H1.le H' ∧ H' b = some (.cells false (tokC q x.1.2.1 x.1.2.2 x.2)) ∧ keepT q x.1.2.1, ?_, ?_⟩
    · simp -implicitDefEqProofs only [fa43_0, stepV_val, ldk43 r3, bin_lss, selV_bool, decide_eq_true_eq, add1 (show j < 9223372036854775807 by omega), Bool.false_eq_true, if_false]
      by_cases hq0 : q < 0
      · rw [if_pos hq0]; exact skip H3 l3
      rw [if_neg hq0]
      by_cases hq2 : q < 2
      · rw [if_pos hq2]
        simp -implicitDefEqProofs only [un_not, stepV_val, selV_bool, Bool.not_eq_true', fa43_1, Nat.zero_add, ldt43 r3, len9', bin_gtr, decide_eq_true_eq, add1 (show j < 9223372036854775807 by omega), Bool.false_eq_true, if_false]
        cases hnb : nameB x.1.2.1 with
        | false => exact skip H3 l3
        | true =>
          rw [if_neg (by simp)]
          by_cases hl20 : (x.1.2.1.length : Int) > 20
          · rw [if_pos hl20]; exact skip H3 l3
          · rw [if_neg hl20]
            exact ⟨by first | rfl | trivial, l3, r3, by omega, fun _ => ⟨hnb, by omega⟩⟩
      · rw [if_neg hq2]
        exact ⟨by first | rfl | trivial, l3, r3, by omega, fun h => absurd h hq2⟩
    rintro y1 y2 y3 y4 y5 y6 y7 H4 ⟨hx, l4, r4, hkeep⟩
    simp only [List.cons.injEq, and_true] at hx
    obtain ⟨rfl, rfl, rfl, rfl, rfl, rfl, rfl⟩ := hx
    refine ⟨fun xs H' => xs = [y1, y2, bS s, bS line, y5, .int .i64 (j : Nat), .pointer (some ⟨b, 0, none⟩)] ∧ H1.le H' ∧ H' b = some (.cells false (tokC q (normX q x.1.2.1) x.1.2.2 x.2)), ?_, ?_⟩
    · simp -implicitDefEqProofs only [fa43_0, stepV_val, ldk43 r4, bin_gtr, selV_bool, decide_eq_true_eq, fa43_1, Nat.zero_add, st9t r4, Bool.false_eq_true, if_false]
      by_cases h1q : q > 1
      · rw [if_pos h1q]
        refine ⟨by first | rfl | trivial, AH.le_upd' l4 n2, ?_⟩
        rw [upd_self]; simp [normX, h1q]
      · rw [if_neg h1q]
        refine ⟨by first | rfl | trivial, l4, ?_⟩
        rw [r4]; simp [normX, h1q]
    rintro z1 z2 z3 z4 z5 z6 z7 H5 ⟨hx, l5, r5⟩
    simp only [List.cons.injEq, and_true] at hx
    obtain ⟨rfl, rfl, rfl, rfl, rfl, rfl, rfl⟩ := hx
    refine ⟨fun xs H' => xs = [z1, z2, bS s, bS line, z5, .int .i64 (j : Nat), .pointer (some ⟨b, 0, none⟩)] ∧ H1.le H' ∧ H' b = some (.cells false (tokC q (normX q x.1.2.1) (normU q x.1.2.2) x.2)), ?_, ?_⟩
    · simp -implicitDefEqProofs only [fa43_0, stepV_val, ldk43 r5, bin_neq, selV_bool, decide_eq_true_eq, fa43_2, Nat.zero_add, st24u r5, Bool.false_eq_true, if_false, ne_eq]
      by_cases h2q : q = 2
      · rw [if_neg (by simp [h2q])]
        refine ⟨by first | rfl | trivial, l5, ?_⟩
        rw [r5]; simp [normU, h2q]
      · rw [if_pos h2q]
        by_cases h3q : q = 3
        · rw [if_neg (by simp [h3q])]
          refine ⟨by first | rfl | trivial, l5, ?_⟩
          rw [r5]; simp [normU, h3q]
        · rw [if_pos h3q]
          refine ⟨by first | rfl | trivial, AH.le_upd' l5 n2, ?_⟩
          rw [upd_self]; simp [normU, h2q, h3q]
    rintro w1 w2 w3 w4 w5 w6 w7 H6 ⟨hx, l6, r6⟩
    simp only [List.cons.injEq, and_true] at hx
    obtain ⟨rfl, rfl, rfl, rfl, rfl, rfl, rfl⟩ := hx
    have hok' : okT q (normX q x.1.2.1) (normU q x.1.2.2) := by
      have := okT_norm (k := x.1.1) (t := x.1.2.1) (u := x.1.2.2) (by rw [hq]; exact hkeep) hux
      rw [hq] at this; exact this
    generalize normX q x.1.2.1 = tx at r6 hok'
    generalize normU q x.1.2.2 = un at r6 hok'
    rw [bs_add (by simp; omega), stepV_val]
    refine ⟨fun xs H' => ∃ m : Nat, m ≤ 3 ∧ xs = [w1, w2, bS s, bS (line ++ List.replicate (m + 1) 32), w5, .int .i64 (j : Nat), .pointer (some ⟨b, 0, none⟩)] ∧ H1.le H' ∧ H' b = some (.cells false (tokC q tx un x.2)), ?_, ?_⟩
    · refine ⟨fun n xs H' => ∃ m : Nat, m ≤ 3 ∧ n = 4 - m ∧ xs = [w1, w2, bS s, bS (line ++ List.replicate (m + 1) 32), w5, .int .i64 (j : Nat), .pointer (some ⟨b, 0, none⟩), .int .i64 (m : Nat)] ∧ H1.le H' ∧ H' b = some (.cells false (tokC q tx un x.2)),
        ⟨_, 0, by omega, rfl, rfl, l6, r6⟩, ?_⟩
      rintro n' q1 q2 q3 q4 q5 q6 q7 q8 H7 ⟨m, hm, rfl, hx, l7, r7⟩
      simp only [List.cons.injEq, and_true] at hx
      obtain ⟨rfl, rfl, rfl, rfl, rfl, rfl, rfl, rfl⟩ := hx
      have h1' := h1.mono (AH.le_trans hle l7)
      simp -implicitDefEqProofs only [len41i h1', stepV_val, bin_lss, selV_bool, decide_eq_true_eq, Bool.false_eq_true, if_false]
      by_cases hjg : j < G.length
      · rw [if_pos (by omega)]
        refine atB h1' hjg ?_
        simp -implicitDefEqProofs only [rem4, stepV_val, conv5_3 (show G[j].toNat % 4 < 256 by omega), bin_lss, selV_bool, decide_eq_true_eq, Bool.false_eq_true, if_false, add1 (show m < 9223372036854775807 by omega)]
        by_cases hmg : m < G[j].toNat % 4
        · rw [if_pos (by omega), bs_add (by simp; omega), stepV_val]
          refine ⟨_, by omega, m + 1, by omega, rfl, ?_, l7, r7⟩
          rw [List.append_assoc, show List.replicate (m + 1) (32 : UInt8) ++ [32] = List.replicate (m + 1 + 1) 32 by rw [List.replicate_succ' (n := m + 1)]]
        · rw [if_neg (by omega)]
          exact ⟨m, hm, rfl, l7, r7⟩
      · rw [if_neg (by omega)]
        exact ⟨m, hm, rfl, l7, r7⟩
    rintro u1 u2 u3 u4 u5 u6 u7 H7 ⟨m, hm, hx, l7, r7⟩
    simp only [List.cons.injEq, and_true] at hx
    obtain ⟨rfl, rfl, rfl, rfl, rfl, rfl, rfl⟩ := hx
    simp -implicitDefEqProofs only [len9', stepV_val, fa43_3, Nat.zero_add, st3f r7]
    have r8 : (H7.upd b (.cells false (tokC q tx un ((line ++ List.replicate (m + 1) 32).length : Nat)))) b = some (.cells false (tokC q tx un ((line ++ List.replicate (m + 1) 32).length : Nat))) := upd_self
    have l8 : H1.le (H7.upd b (.cells false (tokC q tx un ((line ++ List.replicate (m + 1) 32).length : Nat)))) := AH.le_upd' l7 n2
    generalize H7.upd b (.cells false (tokC q tx un ((line ++ List.replicate (m + 1) 32).length : Nat))) = H8 at r8 l8
    have htl := textT_len hok'
    have htx20 : tx.length < 1000000 := by
      obtain ⟨_, ⟨_, _, h, _⟩ | ⟨_, rfl⟩ | ⟨_, rfl, _⟩⟩ := hok'
      · omega
      · simp
      · simp
    simp -implicitDefEqProofs only [fa43_0, fa43_1, fa43_2, stepV_val, Nat.zero_add, ldk43 r8, ldt43 r8, ldu43 r8, b45_012, runS_call, List.all_cons, List.all_nil, known_tok, Bool.and_self, if_true]
    refine (g20g hok'.1 htx20).step ?_
    rw [bs_add (by simp; omega), stepV_val, load43 r8, stepV_val]
    refine push33 (f := 0) (AH.le_trans hle l8) (hv.mono l8) hnew (by omega) fun v' H' hle' hv' hnew' => ?_
    simp -implicitDefEqProofs only [add1 (show j < 9223372036854775807 by omega), stepV_val]
    refine ⟨_, by omega, j + 1, line ++ List.replicate (m + 1) 32 ++ textT q tx un, want ++ [((q, tx, un), (line ++ List.replicate (m + 1) 32).length)], v', by omega, rfl, hle', hv', hnew', ?_, by simp; omega, by simp; omega, rfl⟩
    have := hlaid.snoc m hok'
    rwa [show (line ++ List.replicate (m + 1) (32 : UInt8)).length = line.length + (m + 1) by simp]
  · rw [if_neg (by omega)]
    have hlline : line.length ≤ 500 := by omega
    have hsc : scanR line = (want, 0, 0) := by
      have := hlaid [] (.inl rfl) (line.length + 1) (by simp)
      simp only [List.append_nil] at this
      unfold scanR
      rw [if_neg (by omega), this]
      simp [sc, scP]
    simp -implicitDefEqProofs only [runS_call, List.all_cons, List.all_nil, known_bS, Bool.and_self, if_true]
    refine stepV_call (g15 (by omega) (hL.mono hle)) ?_ (fun v H' h => by obtain ⟨_, v, hx, _⟩ := h; cases hx)
    rintro v2 H2 ⟨l2, t2, hv2, ht2⟩
    cases hv2
    rw [hsc] at ht2 ⊢
    have hv' := hv.mono l2
    have hle2 := AH.le_trans hle l2
    simp -implicitDefEqProofs only [ext3_0, ext3_1, ext3_2, stepV_val, len33 ht2, len33 hv', bin_neq, selV_bool, decide_eq_true_eq, Bool.false_eq_true, if_false, ne_eq, not_true_eq_false]
    rw [if_neg (by simp)]
    refine ⟨fun n xs H' => ∃ i : Nat, i ≤ want.length ∧ n = want.length - i ∧ xs = [bS s, x5, t2, .int .i64 (i : Nat)] ∧ H' = H2, ⟨_, 0, by omega, rfl, rfl, rfl⟩, ?_⟩
    rintro n' y1 y2 y3 y4 H3 ⟨i, hi, rfl, hx, rfl⟩
    simp only [List.cons.injEq, and_true] at hx
    obtain ⟨rfl, rfl, rfl, rfl⟩ := hx
    simp -implicitDefEqProofs only [len33 ht2, stepV_val, bin_lss, selV_bool, decide_eq_true_eq, Bool.false_eq_true, if_false]
    by_cases hil : i < want.length
    · rw [if_pos (by omega)]
      refine atTokQ ht2 hil ?_
      refine atTokQ hv' hil ?_
      simp -implicitDefEqProofs only [neq43, and_self, decide_true, Bool.not_true, stepV_val, selV_false, add1 (show i < 9223372036854775807 by omega)]
      exact ⟨_, by omega, i + 1, by omega, rfl, by first | rfl | trivial, by first | rfl | trivial⟩
    rw [if_neg (by omega)]
    simp -implicitDefEqProofs only [runS_call, List.all_cons, List.all_nil, known_bS, Bool.and_self, if_true]
    refine stepV_call (g15 (l := s) (by omega) (hL.mono hle2)) ?_ (fun v H' h => by obtain ⟨_, v, hx, _⟩ := h; cases hx)
    rintro v4 H4 ⟨l4, t4, hv4, ht4⟩
    cases hv4
    have hle4 := AH.le_trans hle2 l4
    simp -implicitDefEqProofs only [ext3_0, ext3_1, ext3_2, stepV_val]
    rw [bs_add (by simp; omega), stepV_val, bs_add (by simp; omega), stepV_val]
    simp -implicitDefEqProofs only [runS_call, List.all_cons, List.all_nil, known_bS, Bool.and_self, if_true]
    refine stepV_call (g15 (l := [32, 32, 32] ++ s ++ [32, 32]) (by simp; omega) (hL.mono hle4)) ?_ (fun v H' h => by obtain ⟨_, v, hx, _⟩ := h; cases hx)
    rintro v5 H5 ⟨l5, t5, hv5, ht5⟩
    cases hv5
    have hle5 := AH.le_trans hle4 l5
    rw [scan_blanks s (by omega)] at ht5 ⊢
    replace ht4 := ht4.mono l5
    have hylen := scanR_len (l := s) (by omega)
    have hpos := scanR_pos (l := s) (by omega)
    generalize (scanR s).1 = ys at ht4 ht5 hylen hpos
    simp -implicitDefEqProofs only [ext3_0, ext3_1, ext3_2, stepV_val, len33 ht4, len33 ht5, bin_neq, selV_bool, decide_eq_true_eq, Bool.false_eq_true, if_false, ne_eq, not_true_eq_false, List.length_map]
    refine ⟨fun n xs H' => ∃ i : Nat, i ≤ ys.length ∧ n = ys.length - i ∧ xs = [t4, t5, .int .i64 (i : Nat)] ∧ H5.le H', ⟨_, 0, by omega, rfl, rfl, AH.le_refl _⟩, ?_⟩
    rintro n'' z1 z2 z3 H6 ⟨i2, hi2, rfl, hx, l6⟩
    simp only [List.cons.injEq, and_true] at hx
    obtain ⟨rfl, rfl, rfl⟩ := hx
    have ht4' := ht4.mono l6
    have ht5' := ht5.mono l6
    simp -implicitDefEqProofs only [len33 ht4', stepV_val, bin_lss, selV_bool, decide_eq_true_eq, Bool.false_eq_true, if_false]
    by_cases hil2 : i2 < ys.length
    · rw [if_pos (by omega)]
      refine atTok ht5' (by simpa using hil2) ?_
      simp only [List.getElem_map]
      refine kept43 fun b H7 l7 n7 r7 => ?_
      have hp := hpos _ (List.getElem_mem hil2)
      have hsub : IntKind.i64.wrap (((ys[i2].2 + 3 : Nat) : Int) - 3) = ((ys[i2].2 : Nat) : Int) := by
        rw [wrap_i64']; omega
      simp -implicitDefEqProofs only [fa43_3, stepV_val, Nat.zero_add, ldf43 r7, bin_sub, st3f r7, hsub]
      have r8 : (H7.upd b (.cells false (tokC ys[i2].1.1 ys[i2].1.2.1 ys[i2].1.2.2 (ys[i2].2 : Nat)))) b = some (.cells false (tokC ys[i2].1.1 ys[i2].1.2.1 ys[i2].1.2.2 (ys[i2].2 : Nat))) := upd_self
      have l8 : H6.le (H7.upd b (.cells false (tokC ys[i2].1.1 ys[i2].1.2.1 ys[i2].1.2.2 (ys[i2].2 : Nat)))) := AH.le_upd' l7 n7
      generalize H7.upd b (.cells false (tokC ys[i2].1.1 ys[i2].1.2.1 ys[i2].1.2.2 (ys[i2].2 : Nat))) = H8 at r8 l8
      rw [load43 r8, stepQ_val]
      refine atTokQ (ht4'.mono l8) hil2 ?_
      simp -implicitDefEqProofs only [neq43, and_self, decide_true, Bool.not_true, stepV_val, selV_false, add1 (show i2 < 9223372036854775807 by omega)]
      exact ⟨_, by omega, i2 + 1, by omega, rfl, by first | rfl | trivial, AH.le_trans l6 l8⟩
    · rw [if_neg (by omega)]
      try simp -implicitDefEqProofs only [runS_call, List.all_nil, if_true]
      refine (g14 (hL.mono (AH.le_trans hle5 l6))).step ?_
      exact ⟨rfl, AH.le_trans hle5 l6⟩
end Go.Proofs.TD
