/-
  A part of the proof: contracts of single functions over the abstract heap.
-/
import Derived.Test.YtaeofoimlhmdoaaDoorTDw
import Derived.Test.YtaeofoimlhmdoaaDoorTDu
import Derived.Test.YtaeofoimlhmdoaaDoorTDf
import Derived.Test.YtaeofoimlhmdoaaDoorAbsS
import Derived.Lib.AtoiErrMem
namespace Go.Proofs.TD
open Go Go.Abs Go.RowKit
open Go.Proofs (Tryd.prog)
set_option maxRecDepth 100000
set_option linter.unusedVariables false
set_option linter.unusedSimpArgs false
variable {H : AH}

/-- What the library's variables hold. -/
def laidVars : List (String × (Array Value → Prop)) :=
  [("internal/strconv.uint64pow10", fun cs => cs = (Lib.pow10Tab.map fun z => Value.int .u64 z).toArray),
   ("strconv.ErrSyntax", fun cs => ∃ t v, cs = #[.iface t v]),
   ("strconv.ErrRange", fun cs => ∃ t v, cs = #[.iface t v])]

abbrev Laid (H : AH) : Prop := HasVars p laidVars H

theorem c26 {u : Nat} (hu : u < 18446744073709551616) (hL : Laid H) : Gives p 26 [.int .u64 u, .int .i64 10] H (bS (Lib.decDigits u)) := by
  refine Gives.of_calls Tryd.call26 rfl rfl fun J F w S => ?_
  obtain ⟨cs, h1, h2⟩ := hL.get S (x := ("internal/strconv.uint64pow10", _)) (by simp [laidVars]; rfl)
  refine formatUintPublic u hu w ?_
  unfold Lib.TabIs
  rw [h1, h2]

theorem g27 {u : Nat} (hu : u < 18446744073709551616) : Gives p 27 [.int .u64 u] H (bS (hexLow 16 u)) :=
  Gives.of_calls Tryd.call27 rfl rfl fun J F w S => handleText u hu w

theorem g38 {l q : List UInt8} : Gives p 38 [bS l, bS q] H (.tuple #[bS (Lib.trimPrefix l q), .bool (Lib.hasPrefix l q)]) :=
  Gives.of_calls Tryd.call38 rfl rfl fun J F w S => (Tryd.strings_CutPrefix ⟨l.toArray⟩ ⟨q.toArray⟩ w).mono fun e w' h => by
    obtain ⟨rfl, rfl⟩ := h
    exact ⟨rfl, .refl _ _⟩

theorem g40_ok {l : List UInt8} {u : Nat} (hl : l.length < 1000000) (h : Lib.parseUintB 64 l = .ok u) : Gives p 40 [bS l, .int .i64 10, .int .i64 64] H (.tuple #[.int .u64 u, .nilIface]) :=
  Gives.of_calls Tryd.call40 rfl rfl fun J F w S => (Tryd.strconv_ParseUint_10_at64_ok ⟨l.toArray⟩ (by show l.length ≤ _; omega) u (by simpa using h) w).mono fun e w' h => by
    obtain ⟨rfl, rfl | rfl⟩ := h
    · exact ⟨rfl, .refl _ _⟩
    · exact ⟨rfl, Lib.bytesWorld_below _ _ _⟩

theorem g40_bad {l : List UInt8} (hl : l.length < 1000000) (hL : Laid H) (h : ∀ u, Lib.parseUintB 64 l ≠ .ok u) :
    Does p 40 [bS l, .int .i64 10, .int .i64 64] H fun x H' => H' = H ∧ ∃ (n : Int) (b : Nat), x = .ret (.tuple #[.int .u64 n, .iface 104 (.pointer (some ⟨b, 0, none⟩))]) := by
  refine Does.of_calls Tryd.call40 rfl fun J F w S => ?_
  have key : ∀ (n : Int) (N : Nat) (e : Ending) (w' : World), e = .returned (.tuple #[.int .u64 n, .iface 104 (.pointer (some ⟨N, 0, none⟩))]) → N < w'.heap.size → Below w.heap.size w w' →
      ∃ J' F' x H', (H' = H ∧ ∃ (n : Int) (b : Nat), x = AOut.ret (.tuple #[.int .u64 n, .iface 104 (.pointer (some ⟨b, 0, none⟩))])) ∧ OutRel J' w' x e ∧ Sim J' F' H' w' ∧ Evolves J F H w J' F' H' w' := by
    rintro n N e w' rfl hN hb
    obtain ⟨S1, E1⟩ := S.below hb
    obtain ⟨b, hb1, _⟩ := S1.fresh
    obtain ⟨S2, E2⟩ := S1.name hb1 hN
    refine ⟨_, F, _, H, ⟨rfl, n, b, rfl⟩, .inr ?_, S2, E1.trans E2⟩
    refine VRel.tuple (c := [_, _]) (c' := [_, _]) rfl fun i v v' h1 h2 => ?_
    match i with
    | 0 => cases h1; cases h2; exact .int _ _
    | 1 => cases h1; cases h2; exact .iface _ (by simpa using VRel.ptr (i := 0) (by rw [Inj.put_same]))
    | n + 2 => simp at h1
  obtain ⟨cs, h1, t, v, rfl⟩ := hL.get S (x := ("strconv.ErrSyntax", _)) (by simp [laidVars]; rfl)
  obtain ⟨cs', h1', t', v', rfl⟩ := hL.get S (x := ("strconv.ErrRange", _)) (by simp [laidVars]; rfl)
  rcases hp : Lib.parseUintB 64 l with u | _ | _
  · exact absurd hp (h u)
  · refine (Tryd.strconv_ParseUint_10_at64_syntax_var ⟨l.toArray⟩ (by show l.length ≤ _; omega) hp t v w h1).mono fun e w' hh => ?_
    obtain ⟨N, he, hN, hrow, hb⟩ := hh
    exact key _ N e w' he (lt_of_block hrow) hb
  · refine (Tryd.strconv_ParseUint_10_at64_range_var ⟨l.toArray⟩ (by show l.length ≤ _; omega) (by simpa using hp) t' v' w h1').mono fun e w' hh => ?_
    obtain ⟨N, he, hN, hrow, hb⟩ := hh
    exact key _ N e w' he (lt_of_block hrow) hb
end Go.Proofs.TD
