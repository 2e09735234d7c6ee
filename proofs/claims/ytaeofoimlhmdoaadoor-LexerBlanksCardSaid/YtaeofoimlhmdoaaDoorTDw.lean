/-
  A part of the proof: contracts of single functions over the abstract heap.
-/
import Derived.Test.YtaeofoimlhmdoaaDoorTDv
import Derived.Test.YtaeofoimlhmdoaaDoorTDe
namespace Go.Proofs
open Go.Shelf Go.RowKit
open TD (hexd hexLow hexLow_length)

theorem TD.hexLow_get : ∀ (k j u : Nat), j < k → (hexLow k u)[j]? = some (hexd (u / 16 ^ (k - 1 - j) % 16)) := by
  intro k
  induction k with
  | zero => intro j u h; omega
  | succ k ih =>
    intro j u h
    cases j with
    | zero => simp [hexLow]
    | succ j => simp only [hexLow, List.getElem?_cons_succ]; rw [ih j u (by omega), show k + 1 - 1 - (j + 1) = k - 1 - j by omega]

set_option maxRecDepth 100000 in
theorem TD.figureAt (r : Nat) (h : r < 16) (W : World) : (Instr.index 9 (.string { data := #[48, 49, 50, 51, 52, 53, 54, 55, 56, 57, 97, 98, 99, 100, 101, 102] }) (.int .u64 (r : Nat))).run Tryd.prog W = .ok (.int .u8 ((hexd (r % 16)).toNat : Int)) W := by
  refine Go.Abs.prun_run (a := Value.int .u8 ((hexd (r % 16)).toNat : Int)) _ ?_ W
  have : r = 0 ∨ r = 1 ∨ r = 2 ∨ r = 3 ∨ r = 4 ∨ r = 5 ∨ r = 6 ∨ r = 7 ∨ r = 8 ∨ r = 9 ∨ r = 10 ∨ r = 11 ∨ r = 12 ∨ r = 13 ∨ r = 14 ∨ r = 15 := by omega
  rcases this with rfl | rfl | rfl | rfl | rfl | rfl | rfl | rfl | rfl | rfl | rfl | rfl | rfl | rfl | rfl | rfl
  all_goals (show Go.Abs.prun Tryd.prog _ = some _; kernel_rfl)

set_option maxHeartbeats 1000000 in
set_option maxRecDepth 100000 in
theorem TD.handleText (u : Nat) (hu : u < 18446744073709551616) (w : World) :
    Calls Tryd.prog 27 #[.int .u64 u] w fun e w' => e = .returned (.string ⟨(hexLow 16 u).toArray⟩) ∧ Below w.heap.size w w' := by
  go_enter Tryd.func27, Tryd.ntmps27
  go_wp2
  go_loopw [4] (fun vi wr => ∃ (i : Int) (j : Nat), vi = .int .i64 i ∧ i = 15 - (j : Int) ∧ j ≤ 16 ∧ Lib.IsBuilder 72 5 w.heap.size w.heap.size (Lib.byteCells ((hexLow 16 u).take j)) wr ∧ Below w.heap.size w wr) (fun vi wr => (RowKit.intOf vi + 1).toNat)
  case atStart =>
    refine ⟨15, 0, rfl, rfl, by omega, ?_, (Below.refl _ w).alloc (Nat.le_refl _) _⟩
    exact Lib.fresh_isBuilder 72 5 w
  case round =>
    obtain ⟨i, j, rfl, hij, hj, hI, hbw⟩ := hrel
    have hsz := hbw.size
    by_cases h16 : i < 0
    · have h16' : j = 16 := by omega
      subst h16'
      go_wp2_with (go_at_call 44; refine (Tryd.Builder_String_any w.heap.size w.heap.size _ _ hI hsz).mono ?_)
      rintro e W1 ⟨rfl, b1⟩
      go_wp2
      go_ret
      refine ⟨?_, hbw.trans b1⟩
      rw [List.take_of_length_le (by rw [hexLow_length]; omega)]
      rfl
    · have hlt : j < 16 := by omega
      have hi0 : 0 ≤ i := by omega
      obtain ⟨q, hq⟩ : ∃ q, q = u / 16 ^ (15 - j) := ⟨_, rfl⟩
      have hix : ∀ W, (Instr.index 9 (.string { data := #[48, 49, 50, 51, 52, 53, 54, 55, 56, 57, 97, 98, 99, 100, 101, 102] }) (.int .u64 (bits BinOp.and IntKind.u64 ((u : Int) / 2 ^ (4 * (15 - j))) 15))).run Tryd.prog W = .ok (.int .u8 ((hexd (q % 16)).toNat : Int)) W := by
        intro W
        have e1 : ((u : Int) / 2 ^ (4 * (15 - j))) = ((q : Nat) : Int) := by
          have e2 : (2 : Int) ^ (4 * (15 - j)) = ((16 ^ (15 - j) : Nat) : Int) := by
            have e3 : (16 : Nat) ^ (15 - j) = 2 ^ (4 * (15 - j)) := by rw [Nat.pow_mul]
            rw [e3, Int.natCast_pow]; rfl
          rw [e2, hq, Int.natCast_ediv]
        have hqu : q ≤ u := by rw [hq]; exact Nat.div_le_self _ _
        rw [e1, show (15 : Int) = ((15 : Nat) : Int) from rfl, bits_and_u64_nat _ _ (by omega) (by omega), show (15 : Nat) = 2 ^ 4 - 1 from rfl, Nat.and_two_pow_sub_one_eq_mod]
        have := TD.figureAt (q % 16) (Nat.mod_lt _ (by omega)) W
        rw [Nat.mod_mod] at this
        exact this
      go_wp2_with (go_at_call 43; refine (Tryd.Builder_WriteByte w.heap.size w.heap.size _ _ _ hI (by rw [Lib.byteCells_length]; simp; omega) hsz).mono ?_)
      rintro e W1 rfl h1 b1
      go_wp2
      go_roundw
      case rel =>
        refine ⟨15 - ((j + 1 : Nat) : Int), j + 1, ?_, rfl, by omega, ?_, hbw.trans b1⟩
        · congr 1; omega
        · rw [List.take_add_one, TD.hexLow_get 16 j u (by omega)]
          simp only [Option.toList_some, Lib.byteCells_append]
          refine .inr ?_
          rw [show 16 - 1 - j = 15 - j by omega]
          exact h1
      case measure => simp [RowKit.intOf]; omega
end Go.Proofs
