/-
  A part of the proof: contracts of single functions over the abstract heap.
-/
import Derived.Test.YtaeofoimlhmdoaaDoorTDk
namespace Go.Proofs.TD
open Go Go.Abs
open Go.Proofs (Tryd.prog)
set_option maxRecDepth 100000
set_option linter.unusedVariables false
set_option linter.unusedSimpArgs false
variable {H : AH} {m i : Nat} {cs : List Value} {n : Int}

theorem guess_lt (l : List UInt8) : (guess l).2.2 < 18446744073709551616 := by
  unfold guess
  split
  · simp
  · split
    · exact ph_lt _
    · split
      · rename_i u hp
        unfold Lib.parseUintB at hp
        split at hp
        · cases hp
        · exact pum_lt l 0 u (by omega) hp
      · simp

theorem g8 {l : List UInt8} (hl : l.length < 1000000) (hL : Laid H) : Gives p 8 [bS l] H (.tuple #[ans (parse20 l).1.1 (parse20 l).1.2.1 (parse20 l).1.2.2, .int .i64 (parse20 l).2]) := by
  rw [← law20]
  refine .of (d8 ?_)
  simp only [v8]
  simp only [k_real, alloc26, stepV_new]
  intro b hb
  have hle0 := AH.le_upd (o := .cells false [.int .i64 0, .int .i64 0, .int .u64 0]) hb
  simp only [runS_call, List.all_cons, List.all_nil, known_bS, Bool.and_self, if_true]
  refine (g21 hl (hL.mono hle0)).step ?_
  intro c hc
  have hcb : b ≠ c := by rintro rfl; simp at hc
  have hHc : H c = none := AH.none_of_le hle0 hc
  try simp only [ans, st26]
  rw [aSt_ans upd_self]
  simp only [stepV_val, upd_upd]
  have hgl := guess_lt l
  unfold parse8
  generalize guess l = g at hgl
  have hB : ((H.upd b (.cells false [.int .i64 0, .int .i64 0, .int .u64 0])).upd c (.cells false [.int .i64 g.1, .int .i64 g.2.1, .int .u64 g.2.2])) b = some (.cells false [.int .i64 0, .int .i64 0, .int .u64 0]) := by
    rw [upd_ne hcb, upd_self]
  have hC : ((H.upd b (.cells false [.int .i64 0, .int .i64 0, .int .u64 0])).upd c (.cells false [.int .i64 g.1, .int .i64 g.2.1, .int .u64 g.2.2])) c = some (.cells false [.int .i64 g.1, .int .i64 g.2.1, .int .u64 g.2.2]) := upd_self
  have hle : H.le ((H.upd b (.cells false [.int .i64 0, .int .i64 0, .int .u64 0])).upd c (.cells false [.int .i64 g.1, .int .i64 g.2.1, .int .u64 g.2.2])) := AH.le_upd' hle0 hHc
  generalize ((H.upd b (.cells false [.int .i64 0, .int .i64 0, .int .u64 0])).upd c (.cells false [.int .i64 g.1, .int .i64 g.2.1, .int .u64 g.2.2])) = H1 at hB hC hle
  have hl0 := load_ans (ro := false) hC
  simp only [hl0, stepV_val, ans, List.all_cons, List.all_nil, known, Bool.and_self, if_true]
  refine (g12 hgl (hL.mono hle)).step ?_
  simp only [bs_neq, stepV_val, selV_bool, decide_eq_true_eq]
  by_cases ht : txt g.1 g.2.1 g.2.2 = l
  · rw [if_neg (by simpa using ht)]
    simp only [hl0, stepV_val, ans]
    rw [aSt_ans hB]
    simp only [stepV_val]
    rw [ret_ans upd_self, if_pos ht]
    exact ⟨rfl, AH.le_upd' hle hb⟩
  · rw [if_pos ht]
    simp only [build26, stepV_val, st26]
    rw [aSt_ans hB]
    simp only [stepV_val]
    rw [ret_ans upd_self, if_neg ht]
    exact ⟨rfl, AH.le_upd' hle hb⟩
end Go.Proofs.TD
