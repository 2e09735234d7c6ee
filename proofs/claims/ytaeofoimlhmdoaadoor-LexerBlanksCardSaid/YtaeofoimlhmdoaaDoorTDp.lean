/-
  A part of the proof: contracts of single functions over the abstract heap.
-/
import Derived.Test.YtaeofoimlhmdoaaDoorTDo
import Derived.Test.YtaeofoimlhmdoaaDoorTLb
import Derived.Test.YtaeofoimlhmdoaaDoorAbsT
import Derived.Test.YtaeofoimlhmdoaaDoorCards
import Derived.Test.YtaeofoimlhmdoaaDoorTie
import Derived.WalkKit
import Derived.ProofKit
import Derived.OpenShut
import Derived.Deep.DeepHandedRow
import Derived.Deep.DeepWitnessRowRef
import Derived.Lib.LaidTab
import Derived.Lib.LaidU8
import Derived.Lib.SmallJoins
namespace Go.Proofs.TD
open Go Go.Abs Go.RowKit Go.ChangeShapes Go.WideShapes
open Go.Proofs (Tryd.prog)
open Go.Proofs.YtaeofoimlhmdoaaDoor
set_option maxRecDepth 100000
set_option linter.unusedVariables false
set_option linter.unusedSimpArgs false

theorem own : ownKnob Tryd.prog.godebug = none := by kernel_rfl
theorem laidOut : laidOutB Tryd.prog = true := by kernel_rfl

def isIf : Option TypeDesc → Bool
  | some (.interface _) => true
  | _ => false

/-- A reading of an interface's cell. -/
theorem iface_cell {P : Program} {w : World} {t : TypeId} {cs : Array Value} {fuel : Nat} {nm : String} {d : DataW Unit} {ps : List MemPlace} (hi : isIf (P.underlying t) = true)
    (h : DataW.trod (fun _ => ()) P w 0 (fun _ => true) false fuel t cs.toList = some (.iface nm d, ps)) : ∃ u v, cs = #[.iface u v] := by
  obtain ⟨ms, ht⟩ : ∃ ms, P.underlying t = some (.interface ms) := by
    unfold isIf at hi
    split at hi
    · rename_i e; exact ⟨_, e⟩
    · cases hi
  cases fuel with
  | zero => simp [DataW.trod] at h
  | succ fuel =>
    simp only [DataW.trod, ht] at h
    split at h <;> try (first | (cases h; done) | (rename_i e _; simp at e; done))
    all_goals first
      | (rename_i e; exact ⟨_, _, by cases cs; simpa using e⟩)
      | (rename_i e h'; exact ⟨_, _, by cases cs; simpa using h'⟩)
      | (simp at h; done)
      | skip

theorem vars_of {l : List (String × DataW Unit)} {W : World} (hL : laidMet Tryd.prog l W)
    (h1 : ("internal/strconv.uint64pow10", Rows.laid_internal_strconv_uint64pow10) ∈ l) (h2 : ("strconv.ErrSyntax", Rows.laid_strconv_ErrSyntax) ∈ l) (h3 : ("strconv.ErrRange", Rows.laid_strconv_ErrRange) ∈ l) :
    ∀ x ∈ laidVars, ∃ cs, W.var? Tryd.prog x.1 = some cs ∧ x.2 cs := by
  intro x hx
  simp only [laidVars, List.mem_cons, List.not_mem_nil, or_false] at hx
  rcases hx with rfl | rfl | rfl
  · obtain ⟨g, t, cs, fuel, ps, hg, ht, hv, hd⟩ := Lib.laidMet.reads hL h1
    obtain rfl : g = 0 := Option.some.inj (hg.symm.trans (by kernel_rfl))
    obtain rfl : t = 108 := Option.some.inj (ht.symm.trans (by kernel_rfl))
    refine ⟨cs, hv, ?_⟩
    have := Lib.cells_of_tab (n := 20) (e := 24) (k := .u64) (zs := Lib.pow10Tab) (by kernel_rfl) (by kernel_rfl) (by kernel_rfl) (by kernel_rfl) hd
    show cs = _
    rw [← this]
  · obtain ⟨g, t, cs, fuel, ps, hg, ht, hv, hd⟩ := Lib.laidMet.reads hL h2
    obtain rfl : g = 2 := Option.some.inj (hg.symm.trans (by kernel_rfl))
    obtain rfl : t = 66 := Option.some.inj (ht.symm.trans (by kernel_rfl))
    exact ⟨cs, hv, iface_cell (t := 66) (by kernel_rfl) hd⟩
  · obtain ⟨g, t, cs, fuel, ps, hg, ht, hv, hd⟩ := Lib.laidMet.reads hL h3
    obtain rfl : g = 3 := Option.some.inj (hg.symm.trans (by kernel_rfl))
    obtain rfl : t = 66 := Option.some.inj (ht.symm.trans (by kernel_rfl))
    exact ⟨cs, hv, iface_cell (t := 66) (by kernel_rfl) hd⟩

/-- The cells that a datum of numbers takes. -/
def flat : Nat → DataW Unit → List Value
  | _, .lit (.int k n) => [.int k n]
  | f + 1, .agg l => l.flatMap (flat f)
  | _, _ => []

noncomputable def low : Nat := (World.holding Tryd.prog default ⟨#[], #[], []⟩).heap.size
abbrev rangeS : ByteArray := ⟨#[118, 97, 108, 117, 101, 32, 111, 117, 116, 32, 111, 102, 32, 114, 97, 110, 103, 101]⟩
abbrev syntaxS : ByteArray := ⟨#[105, 110, 118, 97, 108, 105, 100, 32, 115, 121, 110, 116, 97, 120]⟩

/-- A world for the witness: the tables hold what their initialisers lay. -/
noncomputable def laidWorld (os : Os) : World :=
  let w0 := World.holding Tryd.prog os ⟨#[.cells #[.string syntaxS] 126, .cells #[.string rangeS] 126], #[], []⟩
  let put (h : Array Obj) (g : Nat) (cs : Array Value) : Array Obj := h.modify g fun
    | .cells _ t frozen => .cells cs t frozen
    | o => o
  let h1 := put w0.heap 0 (flat 2 Rows.laid_internal_strconv_uint64pow10).toArray
  let h2 := put h1 2 #[.iface 124 (.pointer (some ⟨low, 0, none⟩))]
  let h3 := put h2 3 #[.iface 124 (.pointer (some ⟨low + 1, 0, none⟩))]
  let h4 := put h3 4 (flat 2 Rows.laid_unicode_utf8_first).toArray
  let h5 := put h4 5 (flat 3 Rows.laid_unicode_utf8_acceptRanges).toArray
  let h6 := put h5 6 (flat 2 Rows.laid_math_bits_deBruijn32tab).toArray
  let h7 := put h6 7 (flat 2 Rows.laid_math_bits_deBruijn64tab).toArray
  { w0 with heap := h7 }

theorem laid_met (os : Os) (args : Array Value) : laidMet Tryd.prog Rows.answerTellsRow.laid ((laidWorld os).forCall (fun _ _ => 0) ⟨#[], args, []⟩).memory :=
  laidMet_of_run' 8 (by kernel_rfl) (by kernel_rfl)

theorem open_answer {H : Type} {enc : TypeId × Value → H} {W : World} {b0 : Nat} {v : Value} {d : DataW H} {p : List MemPlace} (hval : Value.okWide Tryd.prog W .any b0 26 v)
    (h : DataW.Trod enc Tryd.prog W 0 (fun _ => true) true 26 v d p) : ∃ (e k : Int) (w : Nat), v = ans e k w ∧ w < 18446744073709551616 := by
  obtain ⟨_, hu, _⟩ := u26
  obtain ⟨c0, c1, c2, y0, y1, y2, n, rfl, hd, hp, t0, t1, t2⟩ := Joins.open_agg3 hu (by kernel_rfl) (by kernel_rfl) hval h
  obtain ⟨e, he, _, _⟩ := DataW.trod_int (k := .i64) (by kernel_rfl) t0
  obtain ⟨k, hk, _, _⟩ := DataW.trod_int (k := .i64) (by kernel_rfl) t1
  obtain ⟨w, hw, _, hwf⟩ := DataW.trod_int (k := .u64) (by kernel_rfl) t2
  have hr : 0 ≤ w ∧ w ≤ 18446744073709551615 := by simpa [Lit.wf, IntKind.min, IntKind.max, IntKind.bits, IntKind.signed] using hwf
  simp only [List.cons.injEq, and_true] at he hk hw
  subst he; subst hk; subst hw
  exact ⟨e, k, w.toNat, by simp only [ans]; rw [Int.toNat_of_nonneg hr.1], by omega⟩

end Go.Proofs.TD
