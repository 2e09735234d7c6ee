/-
  A part of the proof: contracts of single functions over the abstract heap.
-/
import Derived.Test.YtaeofoimlhmdoaaDoorTXd
namespace Go.Proofs.TD
open Go Go.Abs
open Go.Proofs (Tryd.prog)
set_option maxRecDepth 100000
set_option linter.unusedVariables false
set_option linter.unusedSimpArgs false
variable {H : AH} {m i b : Nat} {ro : Bool} {cs : List Value} {k k' f f' : Int} {u u' : Int} {t t' : List UInt8}

/-- A token. -/
def tokV (k : Int) (t : List UInt8) (u : Int) (f : Int) : Value := .agg #[.int .i64 k, bS t, .int .u64 u, .int .i64 f]
def tokC (k : Int) (t : List UInt8) (u : Int) (f : Int) : List Value := [.int .i64 k, bS t, .int .u64 u, .int .i64 f]
theorem known_int {kd : IntKind} {n : Int} : known (.int kd n) = true := rfl
theorem oneCell_int {kd : IntKind} {n : Int} : (Value.int kd n).oneCell' = true := rfl
theorem known_tok : known (tokV k t u f) = true := rfl
theorem part3' {cs : List Value} : aPart p 3 cs i = cs[i]? := by kernel_rfl
theorem part9' {cs : List Value} : aPart p 9 cs i = cs[i]? := by kernel_rfl
theorem part24' {cs : List Value} : aPart p 24 cs i = cs[i]? := by kernel_rfl

theorem alloc43 : runS p H (.alloc 43) = some (.new H (.cells false (tokC 0 [] 0 0)) fun b => .pointer (some ⟨b, 0, none⟩)) := by kernel_rfl
theorem part43 : aPart p 43 cs i = if i + 4 ≤ cs.length then some (.agg ((cs.drop i).take 4).toArray) else none := by kernel_rfl
theorem st43 {v : Value} : runS p H (.store 43 (.pointer (some ⟨m, i, none⟩)) v) = aSt H m i 4 v := store_of (by kernel_rfl)
theorem store43 (h : H b = some (.cells false (tokC k t u f))) : runS p H (.store 43 (.pointer (some ⟨b, 0, none⟩)) (tokV k' t' u' f')) = some (.val unk (H.upd b (.cells false (tokC k' t' u' f')))) := by
  rw [st43]
  simp [aSt, h, known_tok, Value.cells, awr, tokC, tokV, oneCell_int, show known (.agg #[.int .i64 k', bS t', .int .u64 u', .int .i64 f']) = true from rfl]
theorem load43 (h : H b = some (.cells ro (tokC k t u f))) : runS p H (.load 43 (.pointer (some ⟨b, 0, none⟩))) = some (.val (tokV k t u f) H) := by
  rw [Go.Abs.run_load, h]; simp only [part43]; rfl
theorem ret43 {R : AOut → AH → Prop} {n : Int} (h : H b = some (.cells false (tokC k t u f))) :
    (real p).ret [.cell (.pointer (some ⟨b, 0, none⟩)) 43, .val (.int .i64 n)] R H = R (.ret (.tuple #[tokV k t u f, .int .i64 n])) H := by
  rw [ret_cellval (v := tokV k t u f) h (by rw [part43]; rfl)]
  simp [known_tok, known_int]
theorem fa43_0 : runS p H (.fieldAddr 43 0 (.pointer (some ⟨m, i, none⟩))) = some (.val (.pointer (some ⟨m, i, none⟩)) H) := by kernel_rfl
theorem fa43_1 : runS p H (.fieldAddr 43 1 (.pointer (some ⟨m, i, none⟩))) = some (.val (.pointer (some ⟨m, i + 1, none⟩)) H) := by kernel_rfl
theorem fa43_2 : runS p H (.fieldAddr 43 2 (.pointer (some ⟨m, i, none⟩))) = some (.val (.pointer (some ⟨m, i + 2, none⟩)) H) := by kernel_rfl
theorem fa43_3 : runS p H (.fieldAddr 43 3 (.pointer (some ⟨m, i, none⟩))) = some (.val (.pointer (some ⟨m, i + 3, none⟩)) H) := by kernel_rfl
theorem b43 : runS p H (.build 43 []) = some (.val (tokV 0 [] 0 0) H) := by kernel_rfl
theorem b43_0 : runS p H (.build 43 [(0, .int .i64 k)]) = some (.val (tokV k [] 0 0) H) := by kernel_rfl
theorem b43_1 : runS p H (.build 43 [(1, bS t)]) = some (.val (tokV 0 t 0 0) H) := by kernel_rfl
theorem b43_01 : runS p H (.build 43 [(0, .int .i64 k), (1, bS t)]) = some (.val (tokV k t 0 0) H) := by kernel_rfl
theorem b43_02 : runS p H (.build 43 [(0, .int .i64 k), (2, .int .u64 u)]) = some (.val (tokV k [] u 0) H) := by kernel_rfl
theorem b43_012 : runS p H (.build 43 [(0, .int .i64 k), (1, bS t), (2, .int .u64 u)]) = some (.val (tokV k t u 0) H) := by kernel_rfl
theorem b43_13 : runS p H (.build 43 [(1, bS t), (3, .int .i64 f)]) = some (.val (tokV 0 t 0 f) H) := by kernel_rfl
theorem b43_03 : runS p H (.build 43 [(0, .int .i64 k), (3, .int .i64 f)]) = some (.val (tokV k [] 0 f) H) := by kernel_rfl
theorem b43_023 : runS p H (.build 43 [(0, .int .i64 k), (2, .int .u64 u), (3, .int .i64 f)]) = some (.val (tokV k [] u f) H) := by kernel_rfl
theorem b43_013 : runS p H (.build 43 [(0, .int .i64 k), (1, bS t), (3, .int .i64 f)]) = some (.val (tokV k t 0 f) H) := by kernel_rfl
theorem ldk43 (h : H b = some (.cells ro (tokC k t u f))) : runS p H (.load 3 (.pointer (some ⟨b, 0, none⟩))) = some (.val (.int .i64 k) H) := by
  rw [Go.Abs.run_load, h]; simp only [part3']; rfl
theorem ldt43 (h : H b = some (.cells ro (tokC k t u f))) : runS p H (.load 9 (.pointer (some ⟨b, 1, none⟩))) = some (.val (bS t) H) := by
  rw [Go.Abs.run_load, h]; simp only [part9']; rfl
theorem ldu43 (h : H b = some (.cells ro (tokC k t u f))) : runS p H (.load 24 (.pointer (some ⟨b, 2, none⟩))) = some (.val (.int .u64 u) H) := by
  rw [Go.Abs.run_load, h]; simp only [part24']; rfl
theorem ldf43 (h : H b = some (.cells ro (tokC k t u f))) : runS p H (.load 3 (.pointer (some ⟨b, 3, none⟩))) = some (.val (.int .i64 f) H) := by
  rw [Go.Abs.run_load, h]; simp only [part3']; rfl
theorem kept43 {K : Value → AH → Prop} {Q : Value → AH → Prop} (hK : ∀ b H', H.le H' → H b = none → H' b = some (.cells false (tokC k t u f)) → K (.pointer (some ⟨b, 0, none⟩)) H') :
    stepV p H (runS p H (.alloc 43)) (fun x H1 => stepV p H1 (runS p H1 (.store 43 x (tokV k t u f))) (fun _ H2 => K x H2) Q) Q := by
  rw [alloc43, stepV_new]
  intro b hb
  rw [store43 upd_self]
  simp -implicitDefEqProofs only [stepV_val, upd_upd]
  exact hK b _ (AH.le_upd hb) hb upd_self

theorem alloc45 : runS p H (.alloc 45) = some (.new H (.cells false (tokC 0 [] 0 0)) fun b => .pointer (some ⟨b, 0, none⟩)) := by kernel_rfl
theorem part45 : aPart p 45 cs i = if i + 4 ≤ cs.length then some (.agg ((cs.drop i).take 4).toArray) else none := by kernel_rfl
theorem st45 {v : Value} : runS p H (.store 45 (.pointer (some ⟨m, i, none⟩)) v) = aSt H m i 4 v := store_of (by kernel_rfl)
theorem store45 (h : H b = some (.cells false (tokC k t u f))) : runS p H (.store 45 (.pointer (some ⟨b, 0, none⟩)) (tokV k' t' u' f')) = some (.val unk (H.upd b (.cells false (tokC k' t' u' f')))) := by
  rw [st45]
  simp [aSt, h, known_tok, Value.cells, awr, tokC, tokV, oneCell_int, show known (.agg #[.int .i64 k', bS t', .int .u64 u', .int .i64 f']) = true from rfl]
theorem load45 (h : H b = some (.cells ro (tokC k t u f))) : runS p H (.load 45 (.pointer (some ⟨b, 0, none⟩))) = some (.val (tokV k t u f) H) := by
  rw [Go.Abs.run_load, h]; simp only [part45]; rfl
theorem ret45 {R : AOut → AH → Prop} {n : Int} (h : H b = some (.cells false (tokC k t u f))) :
    (real p).ret [.cell (.pointer (some ⟨b, 0, none⟩)) 45, .val (.int .i64 n)] R H = R (.ret (.tuple #[tokV k t u f, .int .i64 n])) H := by
  rw [ret_cellval (v := tokV k t u f) h (by rw [part45]; rfl)]
  simp [known_tok, known_int]
theorem fa45_3 : runS p H (.fieldAddr 45 3 (.pointer (some ⟨m, i, none⟩))) = some (.val (.pointer (some ⟨m, i + 3, none⟩)) H) := by kernel_rfl
theorem b45 : runS p H (.build 45 []) = some (.val (tokV 0 [] 0 0) H) := by kernel_rfl
theorem b45_0 : runS p H (.build 45 [(0, .int .i64 k)]) = some (.val (tokV k [] 0 0) H) := by kernel_rfl
theorem b45_1 : runS p H (.build 45 [(1, bS t)]) = some (.val (tokV 0 t 0 0) H) := by kernel_rfl
theorem b45_01 : runS p H (.build 45 [(0, .int .i64 k), (1, bS t)]) = some (.val (tokV k t 0 0) H) := by kernel_rfl
theorem b45_02 : runS p H (.build 45 [(0, .int .i64 k), (2, .int .u64 u)]) = some (.val (tokV k [] u 0) H) := by kernel_rfl
theorem b45_012 : runS p H (.build 45 [(0, .int .i64 k), (1, bS t), (2, .int .u64 u)]) = some (.val (tokV k t u 0) H) := by kernel_rfl
theorem b45_13 : runS p H (.build 45 [(1, bS t), (3, .int .i64 f)]) = some (.val (tokV 0 t 0 f) H) := by kernel_rfl
theorem b45_03 : runS p H (.build 45 [(0, .int .i64 k), (3, .int .i64 f)]) = some (.val (tokV k [] 0 f) H) := by kernel_rfl
theorem b45_023 : runS p H (.build 45 [(0, .int .i64 k), (2, .int .u64 u), (3, .int .i64 f)]) = some (.val (tokV k [] u f) H) := by kernel_rfl
theorem b45_013 : runS p H (.build 45 [(0, .int .i64 k), (1, bS t), (3, .int .i64 f)]) = some (.val (tokV k t 0 f) H) := by kernel_rfl
theorem ldk45 (h : H b = some (.cells ro (tokC k t u f))) : runS p H (.load 3 (.pointer (some ⟨b, 0, none⟩))) = some (.val (.int .i64 k) H) := by
  rw [Go.Abs.run_load, h]; simp only [part3']; rfl
theorem ldt45 (h : H b = some (.cells ro (tokC k t u f))) : runS p H (.load 9 (.pointer (some ⟨b, 1, none⟩))) = some (.val (bS t) H) := by
  rw [Go.Abs.run_load, h]; simp only [part9']; rfl
theorem ldu45 (h : H b = some (.cells ro (tokC k t u f))) : runS p H (.load 24 (.pointer (some ⟨b, 2, none⟩))) = some (.val (.int .u64 u) H) := by
  rw [Go.Abs.run_load, h]; simp only [part24']; rfl
theorem ldf45 (h : H b = some (.cells ro (tokC k t u f))) : runS p H (.load 3 (.pointer (some ⟨b, 3, none⟩))) = some (.val (.int .i64 f) H) := by
  rw [Go.Abs.run_load, h]; simp only [part3']; rfl
theorem kept45 {K : Value → AH → Prop} {Q : Value → AH → Prop} (hK : ∀ b H', H.le H' → H b = none → H' b = some (.cells false (tokC k t u f)) → K (.pointer (some ⟨b, 0, none⟩)) H') :
    stepV p H (runS p H (.alloc 45)) (fun x H1 => stepV p H1 (runS p H1 (.store 45 x (tokV k t u f))) (fun _ H2 => K x H2) Q) Q := by
  rw [alloc45, stepV_new]
  intro b hb
  rw [store45 upd_self]
  simp -implicitDefEqProofs only [stepV_val, upd_upd]
  exact hK b _ (AH.le_upd hb) hb upd_self

theorem st3f (h : H b = some (.cells false (tokC k t u f))) : runS p H (.store 3 (.pointer (some ⟨b, 3, none⟩)) (.int .i64 f')) = some (.val unk (H.upd b (.cells false (tokC k t u f')))) := by
  rw [store_of (n := 1) (by kernel_rfl), aSt_one h (by simp [tokC]) rfl rfl rfl]; rfl
theorem st3k (h : H b = some (.cells false (tokC k t u f))) : runS p H (.store 3 (.pointer (some ⟨b, 0, none⟩)) (.int .i64 k')) = some (.val unk (H.upd b (.cells false (tokC k' t u f)))) := by
  rw [store_of (n := 1) (by kernel_rfl), aSt_one h (by simp [tokC]) rfl rfl rfl]; rfl
theorem st9t (h : H b = some (.cells false (tokC k t u f))) : runS p H (.store 9 (.pointer (some ⟨b, 1, none⟩)) (bS t')) = some (.val unk (H.upd b (.cells false (tokC k t' u f)))) := by
  rw [store_of (n := 1) (by kernel_rfl), aSt_one h (by simp [tokC]) rfl rfl rfl]; rfl
theorem st24u (h : H b = some (.cells false (tokC k t u f))) : runS p H (.store 24 (.pointer (some ⟨b, 2, none⟩)) (.int .u64 u')) = some (.val unk (H.upd b (.cells false (tokC k t u' f)))) := by
  rw [store_of (n := 1) (by kernel_rfl), aSt_one h (by simp [tokC]) rfl rfl rfl]; rfl

/-- The token that a text begins with: kind, text, number, how many bytes. -/
def tok : List UInt8 → (Int × List UInt8 × Nat) × Nat
  | [] => ((0, [], 0), 0)
  | c :: r =>
    if c = 61 then ((4, [], 0), 1)
    else if c = 36 then (if nm r = 0 then ((0, [], 0), 0) else ((1, r.take (nm r), 0), nm r + 1))
    else if c = 35 then (if (ph (r.take (tw isX r))).2 = 0 then ((3, [], (ph (r.take (tw isX r))).1), 17) else ((0, [], 0), 0))
    else if isF c then ((2, [], (numL 0 0 (c :: r)).1), (numL 0 0 (c :: r)).2)
    else ((0, (c :: r).take (nm (c :: r)), 0), nm (c :: r))

theorem eqb {c : UInt8} {n : Nat} (hn : n < 256) : ((c.toNat : Int) = (n : Nat)) ↔ c = UInt8.ofNat n := by
  constructor
  · intro h
    have : c.toNat = n := by omega
    rw [← UInt8.toNat_inj, this, UInt8.toNat_ofNat']; omega
  · rintro rfl; rw [UInt8.toNat_ofNat']; omega
theorem eq61 {c : UInt8} : ((c.toNat : Int) = 61) ↔ c = 61 := eqb (n := 61) (by omega)
theorem eq36 {c : UInt8} : ((c.toNat : Int) = 36) ↔ c = 36 := eqb (n := 36) (by omega)
theorem eq35 {c : UInt8} : ((c.toNat : Int) = 35) ↔ c = 35 := eqb (n := 35) (by omega)
theorem eq32 {c : UInt8} : ((c.toNat : Int) = 32) ↔ c = 32 := eqb (n := 32) (by omega)

/-- the document's token -/
theorem g31 {c : UInt8} {r : List UInt8} (hl : r.length < 900000) : Gives p 31 [bS (c :: r)] H (.tuple #[tokV (tok (c :: r)).1.1 (tok (c :: r)).1.2.1 (tok (c :: r)).1.2.2 0, .int .i64 (tok (c :: r)).2]) := by
  refine .of (d31 ?_)
  simp only [v31]
  simp -implicitDefEqProofs only [k_real, alloc45, stepV_new]
  intro b hb
  have l1 := AH.le_upd (o := .cells false (tokC 0 [] 0 0)) hb
  have r1 : (H.upd b (.cells false (tokC 0 [] 0 0))) b = some (.cells false (tokC 0 [] 0 0)) := upd_self
  have l2 : ∀ o, H.le ((H.upd b (.cells false (tokC 0 [] 0 0))).upd b o) := fun o => AH.le_upd' l1 hb
  generalize H.upd b (.cells false (tokC 0 [] 0 0)) = H1 at l1 r1 l2
  simp -implicitDefEqProofs only [ix0, stepV_val, bin_eql, selV_bool, decide_eq_true_eq, eq61, eq36, eq35, b45, b45_0, b45_1, store45 r1, Bool.false_eq_true, if_false]
  simp only [tok]
  by_cases h1 : c = 61
  · rw [if_pos h1, if_pos h1, ret45 upd_self]
    exact ⟨rfl, l2 _⟩
  rw [if_neg h1, if_neg h1]
  by_cases h2 : c = 36
  · rw [if_pos h2, if_pos h2]
    simp -implicitDefEqProofs only [sl1, stepV_val, runS_call, List.all_cons, List.all_nil, known_bS, Bool.and_self, if_true]
    refine (g51 (by omega)).step ?_
    have hle := nm_le r
    simp -implicitDefEqProofs only [bin_eql, stepV_val, selV_bool, decide_eq_true_eq, Bool.false_eq_true, if_false, add1 (show nm r < 9223372036854775807 by omega), sl1n hle, b45_01, store45 r1]
    by_cases h0 : nm r = 0
    · rw [if_pos (by omega), if_pos h0, ret45 upd_self]
      exact ⟨rfl, l2 _⟩
    · rw [if_neg (by omega), if_neg h0, ret45 upd_self]
      exact ⟨rfl, l2 _⟩
  rw [if_neg h2, if_neg h2]
  by_cases h3 : c = 35
  · rw [if_pos h3, if_pos h3]
    simp -implicitDefEqProofs only [sl1, stepV_val, runS_call, List.all_cons, List.all_nil, known_bS, Bool.and_self, if_true]
    refine (g52 (by omega)).step ?_
    have hle := tw_le isX r
    simp -implicitDefEqProofs only [stepV_val, add1 (show tw isX r < 9223372036854775807 by omega), sl1n hle, runS_call, List.all_cons, List.all_nil, known_bS, Bool.and_self, if_true]
    refine g22.step ?_
    simp -implicitDefEqProofs only [ext0, ext1, stepV_val, bin_neq, selV_bool, decide_eq_true_eq, Bool.false_eq_true, if_false, b45_02, store45 r1]
    by_cases h0 : (ph (r.take (tw isX r))).2 = 0
    · rw [if_neg (by omega), if_pos h0, ret45 upd_self]
      exact ⟨rfl, l2 _⟩
    · rw [if_pos (by omega), if_neg h0, ret45 upd_self]
      exact ⟨rfl, l2 _⟩
  rw [if_neg h3, if_neg h3]
  simp -implicitDefEqProofs only [runS_call, List.all_cons, List.all_nil, known, Bool.and_self, if_true]
  refine g36.step ?_
  cases hF : isF c with
  | true =>
    simp -implicitDefEqProofs only [selV_true, runS_call, List.all_cons, List.all_nil, known_bS, Bool.and_self, if_true]
    refine (g53 (by simp; omega)).step ?_
    simp -implicitDefEqProofs only [ext0, ext1, stepV_val, b45_02, store45 r1]
    rw [ret45 upd_self]
    exact ⟨rfl, l2 _⟩
  | false =>
    simp -implicitDefEqProofs only [selV_false, runS_call, List.all_cons, List.all_nil, known_bS, Bool.and_self, if_true, Bool.false_eq_true, if_false]
    refine (g51 (by simp; omega)).step ?_
    simp -implicitDefEqProofs only [slhi (nm_le (c :: r)), stepV_val, b45_1, store45 r1]
    rw [ret45 upd_self]
    exact ⟨rfl, l2 _⟩
end Go.Proofs.TD
