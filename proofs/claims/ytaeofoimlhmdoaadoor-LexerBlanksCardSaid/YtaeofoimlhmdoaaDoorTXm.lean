/-
  A part of the proof: contracts of single functions over the abstract heap.
-/
import Derived.Test.YtaeofoimlhmdoaaDoorTXl
import Derived.Test.YtaeofoimlhmdoaaDoorAbsW
namespace Go.Proofs.TD
open Go Go.Abs
open Go.Proofs (Tryd.prog)
set_option maxRecDepth 100000
set_option linter.unusedVariables false
set_option linter.unusedSimpArgs false
variable {H : AH}

/-- the document's Text -/
theorem g20g {k : Int} {t : List UInt8} {u : Nat} (hu : u < 18446744073709551616) (ht : t.length < 1000000) : Gives p 20 [tokV k t u 0] H (bS (textT k t u)) := by
  refine .of (d20 ?_)
  simp only [v20]
  simp -implicitDefEqProofs only [k_real, run_box, known_tok, if_true, stepV_new]
  intro b hb
  have r0 : (H.upd b (.cells false (tokV k t u 0).cells.toList)) b = some (.cells false (tokC k t u 0)) := upd_self
  have l0 := AH.le_upd (o := .cells false (tokV k t u 0).cells.toList) hb
  generalize H.upd b (.cells false (tokV k t u 0).cells.toList) = H1 at r0 l0
  simp -implicitDefEqProofs only [fa45_0, fa45_1, fa45_2, stepV_val, Nat.zero_add, ldk45 r0, ldt45 r0, ldu45 r0, bin_eql, selV_bool, decide_eq_true_eq, ret_one, runS_call, List.all_cons, List.all_nil, known_int, known_bS, Bool.and_self, if_true]
  simp only [textT]
  split
  · rw [bs_add (by simp; omega), stepV_val]
    exact ⟨rfl, l0⟩
  · split
    · refine (g37 u _ hu).step ?_
      exact ⟨rfl, l0⟩
    · split
      · refine (g28 hu).step ?_
        rw [bs_add (by simp [hexLow_length]), stepV_val]
        exact ⟨rfl, l0⟩
      · split
        · exact ⟨rfl, l0⟩
        · exact ⟨rfl, l0⟩

/-- Tokens that come in. -/
abbrev TokIn : Type := (Int × List UInt8 × Nat) × Int
def inCR (x : TokIn) : List Value := tokC x.1.1 x.1.2.1 x.1.2.2 x.2
def inCs (l : List TokIn) : List Value := l.flatMap inCR
def IsIn (H : AH) (v : Value) (L : List TokIn) : Prop := (L = [] ∧ (v = .slice none 0 0 ∨ ∃ b, v = .slice (some ⟨b, 0, none⟩) 0 4)) ∨ ∃ b, v = .slice (some ⟨b, 0, none⟩) L.length 4 ∧ H b = some (.cells true (inCs L))
def IsBytes (H : AH) (v : Value) (L : List UInt8) : Prop := (L = [] ∧ (v = .slice none 0 0 ∨ ∃ b, v = .slice (some ⟨b, 0, none⟩) 0 1)) ∨ ∃ b, v = .slice (some ⟨b, 0, none⟩) L.length 1 ∧ H b = some (.cells true (bytesV L))
theorem IsIn.mono {H H' : AH} {v : Value} {l : List TokIn} (h : IsIn H v l) (hl : H.le H') : IsIn H' v l := h.imp id fun ⟨b, h1, h2⟩ => ⟨b, h1, hl _ _ h2⟩
theorem IsBytes.mono {H H' : AH} {v : Value} {l : List UInt8} (h : IsBytes H v l) (hl : H.le H') : IsBytes H' v l := h.imp id fun ⟨b, h1, h2⟩ => ⟨b, h1, hl _ _ h2⟩
theorem len33i {v : Value} {l : List TokIn} (h : IsIn H v l) : runS p H (.len 33 v) = some (.val (.int .i64 l.length) H) := by
  rcases h with ⟨rfl, rfl | ⟨b, rfl⟩⟩ | ⟨b, rfl, _⟩
  · exact len_nil u33
  · exact len_slice u33
  · exact len_slice u33
theorem u41' : p.underlying 41 = some (.slice 5) := by kernel_rfl
theorem len41i {v : Value} {l : List UInt8} (h : IsBytes H v l) : runS p H (.len 41 v) = some (.val (.int .i64 l.length) H) := by
  rcases h with ⟨rfl, rfl | ⟨b, rfl⟩⟩ | ⟨b, rfl, _⟩
  · exact len_nil u41'
  · exact len_slice u41'
  · exact len_slice u41'
/-- A token that came in is read. -/
theorem atIn {v : Value} {l : List TokIn} {j : Nat} {K Q : Value → AH → Prop} (h : IsIn H v l) (hj : j < l.length) (hK : K (tokV l[j].1.1 l[j].1.2.1 l[j].1.2.2 l[j].2) H) :
    stepV p H (runS p H (.indexAddr 33 v (.int .i64 (j : Nat)))) (fun y H1 => stepV p H1 (runS p H1 (.load 43 y)) K Q) Q := by
  rcases h with ⟨rfl, _⟩ | ⟨b, rfl, hb⟩
  · simp at hj
  rw [ia33 hj, stepV_val, Go.Abs.run_load, hb]
  simp only [part43]
  rw [if_pos (by unfold inCs; rw [rec_length (sz := 4) (fun _ => rfl)]; omega)]
  unfold inCs
  rw [rec_take (sz := 4) (fun _ => rfl) l j hj]
  exact hK
theorem part5 {cs : List Value} {i : Nat} : aPart p 5 cs i = cs[i]? := by kernel_rfl
theorem ia41 {b n i : Nat} (hi : i < n) : runS p H (.indexAddr 41 (.slice (some ⟨b, 0, none⟩) n 1) (.int .i64 (i : Nat))) = some (.val (.pointer (some ⟨b, i, none⟩)) H) := by
  rw [indexAddr_sl (sz := 1) u41' (by kernel_rfl), if_pos (by omega)]
  simp
theorem atB {v : Value} {l : List UInt8} {j : Nat} {K Q : Value → AH → Prop} (h : IsBytes H v l) (hj : j < l.length) (hK : K (.int .u8 l[j].toNat) H) :
    stepV p H (runS p H (.indexAddr 41 v (.int .i64 (j : Nat)))) (fun y H1 => stepV p H1 (runS p H1 (.load 5 y)) K Q) Q := by
  rcases h with ⟨rfl, _⟩ | ⟨b, rfl, hb⟩
  · simp at hj
  rw [ia41 hj, stepV_val, Go.Abs.run_load, hb]
  simp only [part5]
  have : (bytesV l)[j]? = some (.int .u8 l[j].toNat) := by simp [bytesV, hj]
  rw [this]
  exact hK
theorem rem5 {k : Int} : runS p H (.bin .rem 3 true (.int .i64 k) (.int .i64 5)) = some (.val (.int .i64 (k.tmod 5)) H) := bin_rem (by decide)
theorem rem4 {c : UInt8} : runS p H (.bin .rem 5 true (.int .u8 c.toNat) (.int .u8 4)) = some (.val (.int .u8 ((c.toNat % 4 : Nat) : Int)) H) := by
  rw [bin_rem (by decide)]
  have : ((c.toNat : Int).tmod 4) = ((c.toNat % 4 : Nat) : Int) := by
    rw [Int.tmod_eq_emod_of_nonneg (by omega)]; omega
  rw [this]
theorem conv5_3 {m : Nat} (hm : m < 256) : runS p H (.convert 5 3 (.int .u8 (m : Nat))) = some (.val (.int .i64 (m : Nat)) H) := by
  have h : runS p H (.convert 5 3 (.int .u8 (m : Nat))) = some (.val (.int .i64 (IntKind.i64.wrap (m : Nat))) H) := by kernel_rfl
  rw [h]
  have : IntKind.i64.wrap (m : Int) = m := by rw [wrap_i64']; omega
  rw [this]

/-- Tokens as they are compared. -/
theorem atTok {v : Value} {l : List TokR} {j : Nat} {K Q : Value → AH → Prop} (h : IsToks H v l) (hj : j < l.length) (hK : K (tokV l[j].1.1 l[j].1.2.1 l[j].1.2.2 l[j].2) H) :
    stepV p H (runS p H (.indexAddr 33 v (.int .i64 (j : Nat)))) (fun y H1 => stepV p H1 (runS p H1 (.load 43 y)) K Q) Q := by
  rcases h with ⟨rfl, rfl⟩ | ⟨_, b, rfl, hb⟩
  · simp at hj
  rw [ia33 hj, stepV_val, eld43 hb hj]
  exact hK
theorem atTokQ {v : Value} {l : List TokR} {j : Nat} {L : Value → Prop} (h : IsToks H v l) (hj : j < l.length) (hK : L (tokV l[j].1.1 l[j].1.2.1 l[j].1.2.2 l[j].2)) :
    stepQ p H (runS p H (.indexAddr 33 v (.int .i64 (j : Nat)))) (fun y => stepQ p H (runS p H (.load 43 y)) L) := by
  rcases h with ⟨rfl, rfl⟩ | ⟨_, b, rfl, hb⟩
  · simp at hj
  rw [ia33 hj, stepQ_val, eld43 hb hj, stepQ_val]
  exact hK
end Go.Proofs.TD
