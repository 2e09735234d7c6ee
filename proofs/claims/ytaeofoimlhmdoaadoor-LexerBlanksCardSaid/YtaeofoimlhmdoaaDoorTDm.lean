/-
  A part of the proof: contracts of single functions over the abstract heap.
-/
import Derived.Test.YtaeofoimlhmdoaaDoorTDl
import Derived.KernelRfl
namespace Go.Proofs.TD
open Go Go.Abs
open Go.Proofs (Tryd.prog)
set_option maxRecDepth 100000
set_option linter.unusedVariables false
set_option linter.unusedSimpArgs false
variable {H : AH} {m i : Nat} {cs : List Value} {n : Int}
/-- socage/socagelaw20.AnswerTells -/
noncomputable def v3 (a0 a1 : Value) (H : AH) (R : AOut → AH → Prop) (α : Ip) : Prop :=
 k α R H (.box a0) fun x0 H =>
 k α R H (.len 9 a1) fun x1 H =>
 k α R H (.bin .gtr 3 true x1 (.int .i64 100)) fun x2 H =>
 selV x2 (k α R H (.call (fnV 7) []) fun x3 H =>
 α.ret [.val x3] R H) (k α R H (.call (fnV 8) [a1]) fun x4 H =>
 k α R H (.extract x4 0) fun x5 H =>
 k α R H (.extract x4 1) fun x6 H =>
 k α R H (.alloc 26) fun x7 H =>
 k α R H (.store 26 x7 x5) fun x8 H =>
 k α R H (.call (fnV 9) [a1]) fun x9 H =>
 k α R H (.extract x9 0) fun x10 H =>
 k α R H (.extract x9 1) fun x11 H =>
 k α R H (.alloc 26) fun x12 H =>
 k α R H (.store 26 x12 x10) fun x13 H =>
 α.q H (.call (fnV 7) []) fun x14 => selV x14 (α.q H (.load 26 x0) fun x15 => α.q H (.call (fnV 10) [x15]) fun x16 => α.q H (.load 26 x0) fun x17 => α.q H (.call (fnV 11) [x17]) fun x18 => α.q H (.bin .eql 4 false x16 x18) fun x19 => selV x19 (α.q H (.load 26 x0) fun x20 => α.q H (.call (fnV 12) [x20]) fun x21 => α.q H (.load 26 x0) fun x22 => α.q H (.call (fnV 13) [x22]) fun x23 => α.q H (.bin .eql 9 false x21 x23) fun x24 => selV x24 (α.q H (.load 26 x7) fun x25 => α.q H (.load 26 x12) fun x26 => α.q H (.bin .eql 26 false x25 x26) fun x27 => selV x27 (k α R H (.bin .eql 22 false x6 x11) fun x28 H =>
 α.ret [.val x28] R H) (α.ret [.val (.bool false)] R H)) (α.ret [.val (.bool false)] R H)) (α.ret [.val (.bool false)] R H)) (α.ret [.val (.bool false)] R H))

theorem d3 {a0 a1 : Value} {H : AH} {R : AOut → AH → Prop} (h : v3 a0 a1 H R (real p)) : Does p 3 [a0, a1] H R :=
  Does.of_wc (fun | 5 => some 23 | _ => none) (fun _ => []) (v3 a0 a1 H R) hm Tryd.func3 Tryd.call3 (by kernel_rfl) (fun _ => by kernel_rfl) h

/-- socage/socagelaw20.AnswerBack -/
noncomputable def v4 (a0 a1 : Value) (H : AH) (R : AOut → AH → Prop) (α : Ip) : Prop :=
 k α R H (.box a0) fun x0 H =>
 k α R H (.len 9 a1) fun x1 H =>
 k α R H (.bin .gtr 3 true x1 (.int .i64 100)) fun x2 H =>
 selV x2 (k α R H (.call (fnV 7) []) fun x3 H =>
 α.ret [.val x3] R H) (k α R H (.load 26 x0) fun x4 H =>
 k α R H (.call (fnV 12) [x4]) fun x5 H =>
 k α R H (.call (fnV 8) [x5]) fun x6 H =>
 k α R H (.extract x6 0) fun x7 H =>
 k α R H (.extract x6 1) fun x8 H =>
 k α R H (.alloc 26) fun x9 H =>
 k α R H (.store 26 x9 x7) fun x10 H =>
 k α R H (.bin .neq 9 true x5 (bS [])) fun x11 H =>
 k α R H (.load 26 x0) fun x12 H =>
 k α R H (.call (fnV 10) [x12]) fun x13 H =>
 k α R H (.bin .neq 4 false x11 x13) fun x14 H =>
 selV x14 (α.ret [.val (.bool false)] R H) (k α R H (.bin .neq 9 true x5 (bS [])) fun x15 H =>
 selV x15 (k α R H (.bin .neq 22 true x8 (.int .i64 0)) fun x16 H =>
 selV x16 (α.ret [.val (.bool false)] R H) (k α R H (.load 26 x9) fun x17 H =>
 k α R H (.load 26 x0) fun x18 H =>
 k α R H (.bin .neq 26 false x17 x18) fun x19 H =>
 selV x19 (α.ret [.val (.bool false)] R H) (k α R H (.call (fnV 8) [a1]) fun x20 H =>
 k α R H (.extract x20 0) fun x21 H =>
 k α R H (.extract x20 1) fun x22 H =>
 k α R H (.alloc 26) fun x23 H =>
 k α R H (.store 26 x23 x21) fun x24 H =>
 k α R H (.call (fnV 7) []) fun x25 H =>
 selV x25 (k α R H (.bin .neq 22 true x22 (.int .i64 0)) fun x26 H =>
 selV x26 (α.ret [.val (.bool true)] R H) (k α R H (.load 26 x23) fun x27 H =>
 k α R H (.call (fnV 12) [x27]) fun x28 H =>
 k α R H (.bin .eql 9 false x28 a1) fun x29 H =>
 selV x29 (k α R H (.load 26 x23) fun x30 H =>
 k α R H (.call (fnV 10) [x30]) fun x31 H =>
 α.ret [.val x31] R H) (α.ret [.val (.bool false)] R H))) (α.ret [.val (.bool false)] R H)))) (k α R H (.call (fnV 8) [a1]) fun x32 H =>
 k α R H (.extract x32 0) fun x33 H =>
 k α R H (.extract x32 1) fun x34 H =>
 k α R H (.alloc 26) fun x35 H =>
 k α R H (.store 26 x35 x33) fun x36 H =>
 k α R H (.call (fnV 7) []) fun x37 H =>
 selV x37 (k α R H (.bin .neq 22 true x34 (.int .i64 0)) fun x38 H =>
 selV x38 (α.ret [.val (.bool true)] R H) (k α R H (.load 26 x35) fun x39 H =>
 k α R H (.call (fnV 12) [x39]) fun x40 H =>
 k α R H (.bin .eql 9 false x40 a1) fun x41 H =>
 selV x41 (k α R H (.load 26 x35) fun x42 H =>
 k α R H (.call (fnV 10) [x42]) fun x43 H =>
 α.ret [.val x43] R H) (α.ret [.val (.bool false)] R H))) (α.ret [.val (.bool false)] R H))))

theorem d4 {a0 a1 : Value} {H : AH} {R : AOut → AH → Prop} (h : v4 a0 a1 H R (real p)) : Does p 4 [a0, a1] H R :=
  Does.of_wc (fun _ => none) (fun _ => []) (v4 a0 a1 H R) hm Tryd.func4 Tryd.call4 (by kernel_rfl) (fun _ => by kernel_rfl) h

/-- socage/socagelaw20.alive -/
noncomputable def v7 (H : AH) (R : AOut → AH → Prop) (α : Ip) : Prop :=
 k α R H (.call (fnV 8) [(bS [33, 115, 116, 97, 108, 101])]) fun x0 H =>
 k α R H (.extract x0 0) fun x1 H =>
 k α R H (.extract x0 1) fun x2 H =>
 k α R H (.alloc 26) fun x3 H =>
 k α R H (.store 26 x3 x1) fun x4 H =>
 k α R H (.call (fnV 8) [(bS [35, 48, 48, 48, 48, 48, 48, 48, 48, 48, 48, 48, 48, 48, 48, 102, 102])]) fun x5 H =>
 k α R H (.extract x5 0) fun x6 H =>
 k α R H (.extract x5 1) fun x7 H =>
 k α R H (.alloc 26) fun x8 H =>
 k α R H (.store 26 x8 x6) fun x9 H =>
 k α R H (.call (fnV 8) [(bS [52, 50])]) fun x10 H =>
 k α R H (.extract x10 0) fun x11 H =>
 k α R H (.extract x10 1) fun x12 H =>
 k α R H (.alloc 26) fun x13 H =>
 k α R H (.store 26 x13 x11) fun x14 H =>
 k α R H (.call (fnV 8) [(bS [110, 105, 108])]) fun x15 H =>
 k α R H (.extract x15 0) fun x16 H =>
 k α R H (.extract x15 1) fun x17 H =>
 k α R H (.alloc 26) fun x18 H =>
 k α R H (.store 26 x18 x16) fun x19 H =>
 k α R H (.call (fnV 8) [(bS [48, 52, 50])]) fun x20 H =>
 k α R H (.extract x20 0) fun x21 H =>
 k α R H (.extract x20 1) fun x22 H =>
 k α R H (.alloc 26) fun x23 H =>
 k α R H (.store 26 x23 x21) fun x24 H =>
 k α R H (.load 26 x3) fun x25 H =>
 k α R H (.build 26 [(0, (.int .i64 5))]) fun x26 H =>
 k α R H (.bin .eql 26 false x25 x26) fun x27 H =>
 selV x27 (k α R H (.bin .eql 22 true x2 (.int .i64 0)) fun x28 H =>
 selV x28 (k α R H (.load 26 x8) fun x29 H =>
 k α R H (.build 26 [(1, (.int .i64 2)), (2, (.int .u64 255))]) fun x30 H =>
 k α R H (.bin .eql 26 false x29 x30) fun x31 H =>
 selV x31 (k α R H (.bin .eql 22 true x7 (.int .i64 0)) fun x32 H =>
 selV x32 (k α R H (.load 26 x13) fun x33 H =>
 k α R H (.build 26 [(1, (.int .i64 1)), (2, (.int .u64 42))]) fun x34 H =>
 k α R H (.bin .eql 26 false x33 x34) fun x35 H =>
 selV x35 (k α R H (.bin .eql 22 true x12 (.int .i64 0)) fun x36 H =>
 selV x36 (k α R H (.load 26 x18) fun x37 H =>
 k α R H (.build 26 []) fun x38 H =>
 k α R H (.bin .eql 26 false x37 x38) fun x39 H =>
 selV x39 (k α R H (.bin .eql 22 true x17 (.int .i64 0)) fun x40 H =>
 selV x40 (k α R H (.bin .eql 22 true x22 (.int .i64 2)) fun x41 H =>
 selV x41 (k α R H (.load 26 x8) fun x42 H =>
 k α R H (.call (fnV 12) [x42]) fun x43 H =>
 k α R H (.bin .eql 9 true x43 (bS [35, 48, 48, 48, 48, 48, 48, 48, 48, 48, 48, 48, 48, 48, 48, 102, 102])) fun x44 H =>
 selV x44 (k α R H (.build 26 [(2, (.int .u64 1))]) fun x45 H =>
 k α R H (.call (fnV 12) [x45]) fun x46 H =>
 k α R H (.bin .eql 9 true x46 (bS [])) fun x47 H =>
 selV x47 (k α R H (.load 26 x3) fun x48 H =>
 k α R H (.call (fnV 10) [x48]) fun x49 H =>
 α.ret [.val x49] R H) (α.ret [.val (.bool false)] R H)) (α.ret [.val (.bool false)] R H)) (α.ret [.val (.bool false)] R H)) (α.ret [.val (.bool false)] R H)) (α.ret [.val (.bool false)] R H)) (α.ret [.val (.bool false)] R H)) (α.ret [.val (.bool false)] R H)) (α.ret [.val (.bool false)] R H)) (α.ret [.val (.bool false)] R H)) (α.ret [.val (.bool false)] R H)) (α.ret [.val (.bool false)] R H)

theorem d7 {H : AH} {R : AOut → AH → Prop} (h : v7 H R (real p)) : Does p 7 [] H R :=
  Does.of_wc (fun _ => none) (fun _ => []) (v7 H R) hm Tryd.func7 Tryd.call7 (by kernel_rfl) (fun _ => by kernel_rfl) h


theorem p_stale : parse20 [33, 115, 116, 97, 108, 101] = ((5, 0, 0), 0) := by decide
theorem p_hex : parse20 [35, 48, 48, 48, 48, 48, 48, 48, 48, 48, 48, 48, 48, 48, 48, 102, 102] = ((0, 2, 255), 0) := by decide
theorem p_nil : parse20 [110, 105, 108] = ((0, 0, 0), 0) := by decide
theorem p_42 : parse20 [52, 50] = ((0, 1, 42), 0) := by
  have : Lib.decDigits 42 = [52, 50] := by rw [decDigits_step, decDigits_step]; rfl
  simp [parse20, errOf, ename, tail20, digs, this]
theorem p_042 : parse20 [48, 52, 50] = ((0, 0, 0), 2) := by
  have : Lib.decDigits 42 = [52, 50] := by rw [decDigits_step, decDigits_step]; rfl
  simp [parse20, errOf, ename, tail20, digs, this]
end Go.Proofs.TD
