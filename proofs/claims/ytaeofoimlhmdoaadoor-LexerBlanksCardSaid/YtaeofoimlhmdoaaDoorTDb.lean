/-
  A part of the proof: contracts of single functions over the abstract heap.
-/
import Derived.Test.YtaeofoimlhmdoaaDoorAbsR
import Derived.KernelRfl
import Derived.Test.YtaeofoimlhmdoaaDoorProg
set_option linter.unusedVariables false
set_option linter.unusedSimpArgs false
set_option maxRecDepth 100000

namespace Go.Proofs.TD
open Go Go.Abs
open Go.Proofs (Tryd.prog)
noncomputable abbrev p : Program := Tryd.prog
theorem hm : p.follows .mixedOrders = true := by kernel_rfl

variable {H : AH} {m i : Nat} {cs : List Value} {n : Int}
theorem u22 : p.underlying 22 = some (.int .i64) := by kernel_rfl
theorem u23 : p.underlying 23 = some (.int .i64) := by kernel_rfl
theorem u24 : p.underlying 24 = some (.int .u64) := by kernel_rfl
theorem u26 : ∃ e, p.underlying 26 = some (.struct #[{ name := "Error", type := 22, offset := 0, embedded := false, tag := "", pkgPath := "", byteOffset := 0 }, { name := "Kind", type := 23, offset := 1, embedded := false, tag := "", pkgPath := "", byteOffset := 8 }, { name := "Word", type := 24, offset := 2, embedded := false, tag := "", pkgPath := "", byteOffset := 16 }]) ∧ e = 1 := ⟨1, by kernel_rfl, rfl⟩
theorem eqa {d : Nat} {a b c a' b' c' : Int} : prun p (Op.equalIn (d+2) 26 (.agg #[.int .i64 a, .int .i64 b, .int .u64 c]) (.agg #[.int .i64 a', .int .i64 b', .int .u64 c'])) = some (decide (a = a' ∧ b = b' ∧ c = c')) := by
  obtain ⟨_, hu, _⟩ := u26
  unfold Op.equalIn
  rw [prun_bind', prun_underlying hu]
  have hs : p.stoodInHeld 26 = false := by kernel_rfl
  simp only [Option.bind_some]
  rw [prun_bind', show prun p program = some p from rfl]
  simp only [Option.bind_some, hs]
  by_cases h1 : a = a' <;> by_cases h2 : b = b' <;> by_cases h3 : c = c' <;>
    simp [prun_bind', prun_pure, prun_eqInt u22, prun_eqInt u23, prun_eqInt u24, prun_part u22 rfl, prun_part u23 rfl, prun_part u24 rfl, prun_ite, h1, h2, h3]
theorem g26 : p.eqGuardType p.depth 26 = false := by kernel_rfl
theorem eql26 {a b c a' b' c' : Int} {e : Bool} : runS p H (.bin .eql 26 e (.agg #[.int .i64 a, .int .i64 b, .int .u64 c]) (.agg #[.int .i64 a', .int .i64 b', .int .u64 c'])) = some (.val (.bool (decide (a = a' ∧ b = b' ∧ c = c'))) H) := by
  have h1 : closed (.agg #[.int .i64 a, .int .i64 b, .int .u64 c]) = true := rfl
  have h2 : closed (.agg #[.int .i64 a', .int .i64 b', .int .u64 c']) = true := rfl
  simp only [runS, aBin, h1, h2, aPure, eqGuard, binOp, Op.equal, Op.maxDepth, prun_bind', eqa, show prun p program = some p from rfl, Option.bind_some, g26]
  simp [prun_pure, closed_bool, prun_bind', show prun p program = some p from rfl, g26, eqa]
theorem neq26 {a b c a' b' c' : Int} {e : Bool} : runS p H (.bin .neq 26 e (.agg #[.int .i64 a, .int .i64 b, .int .u64 c]) (.agg #[.int .i64 a', .int .i64 b', .int .u64 c'])) = some (.val (.bool (!decide (a = a' ∧ b = b' ∧ c = c'))) H) := by
  have h1 : closed (.agg #[.int .i64 a, .int .i64 b, .int .u64 c]) = true := rfl
  have h2 : closed (.agg #[.int .i64 a', .int .i64 b', .int .u64 c']) = true := rfl
  simp only [runS, aBin, h1, h2, aPure, eqGuard, binOp, Op.equal, Op.maxDepth, prun_bind', eqa, show prun p program = some p from rfl, Option.bind_some, g26]
  simp [prun_pure, closed_bool, prun_bind', show prun p program = some p from rfl, g26, eqa]

theorem part22 : aPart p 22 cs i = cs[i]? := by kernel_rfl
theorem part23 : aPart p 23 cs i = cs[i]? := by kernel_rfl
theorem part24 : aPart p 24 cs i = cs[i]? := by kernel_rfl
theorem part26 : aPart p 26 cs i = if i + 3 ≤ cs.length then some (.agg ((cs.drop i).take 3).toArray) else none := by kernel_rfl
theorem fa26_0 : runS p H (.fieldAddr 26 0 (.pointer (some ⟨m, i, none⟩))) = some (.val (.pointer (some ⟨m, i, none⟩)) H) := by kernel_rfl
theorem fa26_1 : runS p H (.fieldAddr 26 1 (.pointer (some ⟨m, i, none⟩))) = some (.val (.pointer (some ⟨m, i + 1, none⟩)) H) := by kernel_rfl
theorem fa26_2 : runS p H (.fieldAddr 26 2 (.pointer (some ⟨m, i, none⟩))) = some (.val (.pointer (some ⟨m, i + 2, none⟩)) H) := by kernel_rfl
theorem alloc26 : runS p H (.alloc 26) = some (.new H (.cells false [.int .i64 0, .int .i64 0, .int .u64 0]) fun b => .pointer (some ⟨b, 0, none⟩)) := by kernel_rfl
theorem conv24_5 : runS p H (.convert 24 5 (.int .u64 n)) = some (.val (.int .u8 (IntKind.u8.wrap n)) H) := by kernel_rfl
theorem build26_0 : runS p H (.build 26 [(0, .int .i64 n)]) = some (.val (.agg #[.int .i64 n, .int .i64 0, .int .u64 0]) H) := by kernel_rfl
theorem build26 : runS p H (.build 26 []) = some (.val (.agg #[.int .i64 0, .int .i64 0, .int .u64 0]) H) := by kernel_rfl
theorem build26_12 {n' : Int} : runS p H (.build 26 [(1, .int .i64 n), (2, .int .u64 n')]) = some (.val (.agg #[.int .i64 0, .int .i64 n, .int .u64 n']) H) := by kernel_rfl
theorem len9 {s : ByteArray} : runS p H (.len 9 (.string s)) = some (.val (.int .i64 s.size) H) := by kernel_rfl
/-- socage/answer.Right -/
noncomputable def v10 (a0 : Value) (H : AH) (R : AOut → AH → Prop) (α : Ip) : Prop :=
 k α R H (.box a0) fun x0 H =>
 k α R H (.fieldAddr 26 0 x0) fun x1 H =>
 k α R H (.load 22 x1) fun x2 H =>
 k α R H (.bin .neq 22 true x2 (.int .i64 0)) fun x3 H =>
 selV x3 (k α R H (.fieldAddr 26 0 x0) fun x4 H =>
 k α R H (.load 22 x4) fun x5 H =>
 k α R H (.bin .gtr 22 true x5 (.int .i64 0)) fun x6 H =>
 selV x6 (k α R H (.fieldAddr 26 0 x0) fun x7 H =>
 k α R H (.load 22 x7) fun x8 H =>
 k α R H (.bin .leq 22 true x8 (.int .i64 9)) fun x9 H =>
 selV x9 (k α R H (.load 26 x0) fun x10 H =>
 k α R H (.fieldAddr 26 0 x0) fun x11 H =>
 k α R H (.load 22 x11) fun x12 H =>
 k α R H (.build 26 [(0, x12)]) fun x13 H =>
 k α R H (.bin .eql 26 false x10 x13) fun x14 H =>
 α.ret [.val x14] R H) (α.ret [.val (.bool false)] R H)) (α.ret [.val (.bool false)] R H)) (k α R H (.fieldAddr 26 1 x0) fun x15 H =>
 k α R H (.load 23 x15) fun x16 H =>
 k α R H (.bin .eql 23 true x16 (.int .i64 0)) fun x17 H =>
 selV x17 (k α R H (.fieldAddr 26 2 x0) fun x18 H =>
 k α R H (.load 24 x18) fun x19 H =>
 k α R H (.bin .eql 24 true x19 (.int .u64 0)) fun x20 H =>
 selV x20 (α.ret [.val (.bool true)] R H) (k α R H (.fieldAddr 26 1 x0) fun x21 H =>
 k α R H (.load 23 x21) fun x22 H =>
 k α R H (.bin .eql 23 true x22 (.int .i64 1)) fun x23 H =>
 selV x23 (α.ret [.val (.bool true)] R H) (k α R H (.fieldAddr 26 1 x0) fun x24 H =>
 k α R H (.load 23 x24) fun x25 H =>
 k α R H (.bin .eql 23 true x25 (.int .i64 2)) fun x26 H =>
 α.ret [.val x26] R H))) (k α R H (.fieldAddr 26 1 x0) fun x27 H =>
 k α R H (.load 23 x27) fun x28 H =>
 k α R H (.bin .eql 23 true x28 (.int .i64 1)) fun x29 H =>
 selV x29 (α.ret [.val (.bool true)] R H) (k α R H (.fieldAddr 26 1 x0) fun x30 H =>
 k α R H (.load 23 x30) fun x31 H =>
 k α R H (.bin .eql 23 true x31 (.int .i64 2)) fun x32 H =>
 α.ret [.val x32] R H)))

theorem d10 {a0 : Value} {H : AH} {R : AOut → AH → Prop} (h : v10 a0 H R (real p)) : Does p 10 [a0] H R :=
  Does.of_wc (fun _ => none) (fun _ => []) (v10 a0 H R) hm Tryd.func10 Tryd.call10 (by kernel_rfl) (fun _ => by kernel_rfl) h

/-- socage/socageref20.Right -/
noncomputable def v11 (a0 : Value) (H : AH) (R : AOut → AH → Prop) (α : Ip) : Prop :=
 k α R H (.box a0) fun x0 H =>
 k α R H (.fieldAddr 26 0 x0) fun x1 H =>
 k α R H (.load 22 x1) fun x2 H =>
 k α R H (.bin .neq 22 true x2 (.int .i64 0)) fun x3 H =>
 selV x3 (k α R H (.fieldAddr 26 0 x0) fun x4 H =>
 k α R H (.load 22 x4) fun x5 H =>
 k α R H (.bin .geq 22 true x5 (.int .i64 1)) fun x6 H =>
 selV x6 (k α R H (.fieldAddr 26 0 x0) fun x7 H =>
 k α R H (.load 22 x7) fun x8 H =>
 k α R H (.bin .leq 22 true x8 (.int .i64 9)) fun x9 H =>
 selV x9 (k α R H (.fieldAddr 26 1 x0) fun x10 H =>
 k α R H (.load 23 x10) fun x11 H =>
 k α R H (.bin .eql 23 true x11 (.int .i64 0)) fun x12 H =>
 selV x12 (k α R H (.fieldAddr 26 2 x0) fun x13 H =>
 k α R H (.load 24 x13) fun x14 H =>
 k α R H (.bin .eql 24 true x14 (.int .u64 0)) fun x15 H =>
 α.ret [.val x15] R H) (α.ret [.val (.bool false)] R H)) (α.ret [.val (.bool false)] R H)) (α.ret [.val (.bool false)] R H)) (k α R H (.fieldAddr 26 1 x0) fun x16 H =>
 k α R H (.load 23 x16) fun x17 H =>
 k α R H (.bin .eql 23 true x17 (.int .i64 0)) fun x18 H =>
 selV x18 (k α R H (.fieldAddr 26 2 x0) fun x19 H =>
 k α R H (.load 24 x19) fun x20 H =>
 k α R H (.bin .eql 24 true x20 (.int .u64 0)) fun x21 H =>
 selV x21 (α.ret [.val (.bool true)] R H) (k α R H (.fieldAddr 26 1 x0) fun x22 H =>
 k α R H (.load 23 x22) fun x23 H =>
 k α R H (.bin .eql 23 true x23 (.int .i64 1)) fun x24 H =>
 selV x24 (α.ret [.val (.bool true)] R H) (k α R H (.fieldAddr 26 1 x0) fun x25 H =>
 k α R H (.load 23 x25) fun x26 H =>
 k α R H (.bin .eql 23 true x26 (.int .i64 2)) fun x27 H =>
 α.ret [.val x27] R H))) (k α R H (.fieldAddr 26 1 x0) fun x28 H =>
 k α R H (.load 23 x28) fun x29 H =>
 k α R H (.bin .eql 23 true x29 (.int .i64 1)) fun x30 H =>
 selV x30 (α.ret [.val (.bool true)] R H) (k α R H (.fieldAddr 26 1 x0) fun x31 H =>
 k α R H (.load 23 x31) fun x32 H =>
 k α R H (.bin .eql 23 true x32 (.int .i64 2)) fun x33 H =>
 α.ret [.val x33] R H)))

theorem d11 {a0 : Value} {H : AH} {R : AOut → AH → Prop} (h : v11 a0 H R (real p)) : Does p 11 [a0] H R :=
  Does.of_wc (fun _ => none) (fun _ => []) (v11 a0 H R) hm Tryd.func11 Tryd.call11 (by kernel_rfl) (fun _ => by kernel_rfl) h

/-- socage/socageref20.name -/
noncomputable def v23 (a0 : Value) (H : AH) (R : AOut → AH → Prop) (α : Ip) : Prop :=
 k α R H (.bin .eql 22 true a0 (.int .i64 1)) fun x0 H =>
 selV x0 (α.ret [.val (bS [97, 114, 103])] R H) (k α R H (.bin .eql 22 true a0 (.int .i64 2)) fun x1 H =>
 selV x1 (α.ret [.val (bS [102, 111, 114, 109])] R H) (k α R H (.bin .eql 22 true a0 (.int .i64 3)) fun x2 H =>
 selV x2 (α.ret [.val (bS [111, 112])] R H) (k α R H (.bin .eql 22 true a0 (.int .i64 4)) fun x3 H =>
 selV x3 (α.ret [.val (bS [104, 97, 110, 100, 108, 101])] R H) (k α R H (.bin .eql 22 true a0 (.int .i64 5)) fun x4 H =>
 selV x4 (α.ret [.val (bS [115, 116, 97, 108, 101])] R H) (k α R H (.bin .eql 22 true a0 (.int .i64 6)) fun x5 H =>
 selV x5 (α.ret [.val (bS [114, 101, 118, 111, 107, 101, 100])] R H) (k α R H (.bin .eql 22 true a0 (.int .i64 7)) fun x6 H =>
 selV x6 (α.ret [.val (bS [113, 117, 111, 116, 97])] R H) (k α R H (.bin .eql 22 true a0 (.int .i64 8)) fun x7 H =>
 selV x7 (α.ret [.val (bS [102, 117, 108, 108])] R H) (k α R H (.bin .eql 22 true a0 (.int .i64 9)) fun x8 H =>
 selV x8 (α.ret [.val (bS [110, 111, 110, 101])] R H) (α.ret [.val (bS [])] R H)))))))))

theorem d23 {a0 : Value} {H : AH} {R : AOut → AH → Prop} (h : v23 a0 H R (real p)) : Does p 23 [a0] H R :=
  Does.of_wc (fun _ => none) (fun _ => []) (v23 a0 H R) hm Tryd.func23 Tryd.call23 (by kernel_rfl) (fun _ => by kernel_rfl) h

/-- socage/answer.names -/
noncomputable def v25 (H : AH) (R : AOut → AH → Prop) (α : Ip) : Prop :=
 k α R H (.alloc 52) fun x0 H =>
 k α R H (.build 52 [(0, (bS [97, 114, 103])), (1, (bS [102, 111, 114, 109])), (2, (bS [111, 112])), (3, (bS [104, 97, 110, 100, 108, 101])), (4, (bS [115, 116, 97, 108, 101])), (5, (bS [114, 101, 118, 111, 107, 101, 100])), (6, (bS [113, 117, 111, 116, 97])), (7, (bS [102, 117, 108, 108])), (8, (bS [110, 111, 110, 101]))]) fun x1 H =>
 k α R H (.store 52 x0 x1) fun x2 H =>
 α.ret [.cell x0 52] R H

theorem d25 {H : AH} {R : AOut → AH → Prop} (h : v25 H R (real p)) : Does p 25 [] H R :=
  Does.of_wc (fun _ => none) (fun _ => []) (v25 H R) hm Tryd.func25 Tryd.call25 (by kernel_rfl) (fun _ => by kernel_rfl) h

/-- socage/socageref05.figure -/
noncomputable def v41 (a0 : Value) (H : AH) (R : AOut → AH → Prop) (α : Ip) : Prop :=
 k α R H (.bin .lss 24 true a0 (.int .u64 10)) fun x0 H =>
 selV x0 (k α R H (.bin .add 24 true (.int .u64 48) a0) fun x1 H =>
 k α R H (.convert 24 5 x1) fun x2 H =>
 α.ret [.val x2] R H) (k α R H (.bin .add 24 true (.int .u64 97) a0) fun x3 H =>
 k α R H (.bin .sub 24 true x3 (.int .u64 10)) fun x4 H =>
 k α R H (.convert 24 5 x4) fun x5 H =>
 α.ret [.val x5] R H)

theorem d41 {a0 : Value} {H : AH} {R : AOut → AH → Prop} (h : v41 a0 H R (real p)) : Does p 41 [a0] H R :=
  Does.of_wc (fun _ => none) (fun _ => []) (v41 a0 H R) hm Tryd.func41 Tryd.call41 (by kernel_rfl) (fun _ => by kernel_rfl) h


def ans (e k w : Int) : Value := .agg #[.int .i64 e, .int .i64 k, .int .u64 w]
def right (e k w : Int) : Bool := if e ≠ 0 then decide (0 < e ∧ e ≤ 9 ∧ k = 0 ∧ w = 0) else decide (k = 0 ∧ w = 0 ∨ k = 1 ∨ k = 2)

theorem g10 {e k w : Int} : Gives p 10 [ans e k w] H (.bool (right e k w)) := by
  refine .of (d10 ?_)
  simp only [v10, ans]
  simp [fa26_0, fa26_1, fa26_2, part22, part23, part24, part26, build26_0, eql26, known, Value.cells]
  intro b hb
  have hle := fun o => AH.le_upd (o := o) hb
  simp only [hle, and_true]
  unfold right
  grind

theorem g11 {e k w : Int} : Gives p 11 [ans e k w] H (.bool (right e k w)) := by
  refine .of (d11 ?_)
  simp only [v11, ans]
  simp [fa26_0, fa26_1, fa26_2, part22, part23, part24, part26, build26_0, eql26, known, Value.cells]
  intro b hb
  have hle := fun o => AH.le_upd (o := o) hb
  simp only [hle, and_true]
  unfold right
  grind
/-- An error's name. -/
def ename (e : Int) : List UInt8 :=
  if e = 1 then [97, 114, 103] else if e = 2 then [102, 111, 114, 109] else if e = 3 then [111, 112] else if e = 4 then [104, 97, 110, 100, 108, 101]
  else if e = 5 then [115, 116, 97, 108, 101] else if e = 6 then [114, 101, 118, 111, 107, 101, 100] else if e = 7 then [113, 117, 111, 116, 97]
  else if e = 8 then [102, 117, 108, 108] else if e = 9 then [110, 111, 110, 101] else []
theorem g23 {e : Int} : Gives p 23 [.int .i64 e] H (bS (ename e)) := by
  refine .of (d23 ?_)
  simp only [v23]
  simp [AH.le_refl]
  unfold ename
  grind
def fig (n : Int) : Int := if n < 10 then IntKind.u8.wrap (IntKind.u64.wrap (48 + n)) else IntKind.u8.wrap (IntKind.u64.wrap (IntKind.u64.wrap (97 + n) - 10))
theorem g41 {n : Int} : Gives p 41 [.int .u64 n] H (.int .u8 (fig n)) := by
  refine .of (d41 ?_)
  simp only [v41]
  simp [AH.le_refl, conv24_5]
  unfold fig
  grind
end Go.Proofs.TD
