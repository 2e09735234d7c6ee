/-
  A part of the proof: contracts of single functions over the abstract heap.
-/
import Derived.Test.YtaeofoimlhmdoaaDoorTDo
import Derived.Test.YtaeofoimlhmdoaaDoorAbsU
import Derived.KernelRfl
namespace Go.Proofs.TD
open Go Go.Abs
open Go.Proofs (Tryd.prog)
set_option maxRecDepth 100000
set_option linter.unusedVariables false
set_option linter.unusedSimpArgs false

/-- socage/socagelaw18.LexerTells -/
noncomputable def v5 (a0 : Value) (H : AH) (R : AOut → AH → Prop) (α : Ip) : Prop :=
 k α R H (.len 9 a0) fun x0 H =>
 k α R H (.bin .gtr 3 true x0 (.int .i64 1200)) fun x1 H =>
 selV x1 (k α R H (.call (fnV 14) []) fun x2 H =>
 α.ret [.val x2] R H) (k α R H (.call (fnV 15) [a0]) fun x3 H =>
 k α R H (.extract x3 0) fun x4 H =>
 k α R H (.extract x3 1) fun x5 H =>
 k α R H (.extract x3 2) fun x6 H =>
 k α R H (.call (fnV 16) [a0]) fun x7 H =>
 k α R H (.extract x7 0) fun x8 H =>
 k α R H (.extract x7 1) fun x9 H =>
 k α R H (.extract x7 2) fun x10 H =>
 k α R H (.call (fnV 17) [x4, x8]) fun x11 H =>
 k α R H (.call (fnV 14) []) fun x12 H =>
 selV x12 (selV x11 (k α R H (.bin .eql 3 false x5 x9) fun x13 H =>
 selV x13 (k α R H (.bin .eql 22 false x6 x10) fun x14 H =>
 selV x14 (k α R H (.call (fnV 18) [a0]) fun x15 H =>
 k α R H (.call (fnV 19) [a0]) fun x16 H =>
 k α R H (.bin .eql 4 false x15 x16) fun x17 H =>
 α.ret [.val x17] R H) (α.ret [.val (.bool false)] R H)) (α.ret [.val (.bool false)] R H)) (α.ret [.val (.bool false)] R H)) (α.ret [.val (.bool false)] R H))

theorem d5 {a0 : Value} {H : AH} {R : AOut → AH → Prop} (h : v5 a0 H R (real p)) : Does p 5 [a0] H R :=
  Does.of_wj (fun _ => none) (fun _ => []) (fun _ => none) (v5 a0 H R) hm Tryd.func5 Tryd.call5 (by kernel_rfl) (fun _ => by kernel_rfl) h

/-- socage/socagelaw18.LexerBlanks -/
noncomputable def v6 (a0 a1 a2 : Value) (H : AH) (R : AOut → AH → Prop) (α : Ip) : Prop :=
 k α R H (.len 33 a0) fun x0 H =>
 k α R H (.bin .gtr 3 true x0 (.int .i64 20)) fun x1 H =>
 selV x1 (k α R H (.call (fnV 14) []) fun x2 H =>
 α.ret [.val x2] R H) (k α R H (.len 9 a2) fun x3 H =>
 k α R H (.bin .gtr 3 true x3 (.int .i64 900)) fun x4 H =>
 selV x4 (k α R H (.call (fnV 14) []) fun x5 H =>
 α.ret [.val x5] R H) (∃ I12 : Nat → List Value → AH → Prop, (∃ n, I12 n [a0, a1, a2, (bS []), (.slice none 0 0), (.int .i64 0)] H) ∧ ∀ n12, ∀ x6 : Value, ∀ x7 : Value, ∀ x8 : Value, ∀ x9 : Value, ∀ x10 : Value, ∀ x11 : Value, ∀ H, I12 n12 [x6, x7, x8, x9, x10, x11] H →
  k α R H (.len 33 x6) fun x13 H =>
 k α R H (.bin .lss 3 false x11 x13) fun x14 H =>
 selV x14 (k α R H (.indexAddr 33 x6 x11) fun x15 H =>
 k α R H (.load 43 x15) fun x16 H =>
 k α R H (.alloc 43) fun x17 H =>
 k α R H (.store 43 x17 x16) fun x18 H =>
 k α R H (.fieldAddr 43 0 x17) fun x19 H =>
 k α R H (.load 3 x19) fun x20 H =>
 k α R H (.bin .rem 3 true x20 (.int .i64 5)) fun x21 H =>
 k α R H (.fieldAddr 43 0 x17) fun x22 H =>
 k α R H (.store 3 x22 x21) fun x23 H =>
 k α R H (.fieldAddr 43 1 x17) fun x24 H =>
 k α R H (.load 9 x24) fun x25 H =>
 k α R H (.call (fnV 19) [x25]) fun x26 H =>
 ∃ M27 : List Value → AH → Prop, (k α R H (.fieldAddr 43 0 x17) fun x28 H =>
 k α R H (.load 3 x28) fun x29 H =>
 k α R H (.bin .lss 3 true x29 (.int .i64 0)) fun x30 H =>
 selV x30 (k α R H (.bin .add 3 true x11 (.int .i64 1)) fun x31 H =>
 ∃ n', n' < n12 ∧ I12 n' [x6, x7, x8, x9, x10, x31] H) (k α R H (.fieldAddr 43 0 x17) fun x32 H =>
 k α R H (.load 3 x32) fun x33 H =>
 k α R H (.bin .lss 3 true x33 (.int .i64 2)) fun x34 H =>
 selV x34 (k α R H (.un .not x26) fun x35 H =>
 selV x35 (k α R H (.bin .add 3 true x11 (.int .i64 1)) fun x36 H =>
 ∃ n', n' < n12 ∧ I12 n' [x6, x7, x8, x9, x10, x36] H) (k α R H (.fieldAddr 43 1 x17) fun x37 H =>
 k α R H (.load 9 x37) fun x38 H =>
 k α R H (.len 9 x38) fun x39 H =>
 k α R H (.bin .gtr 3 true x39 (.int .i64 20)) fun x40 H =>
 selV x40 (k α R H (.bin .add 3 true x11 (.int .i64 1)) fun x41 H =>
 ∃ n', n' < n12 ∧ I12 n' [x6, x7, x8, x9, x10, x41] H) (M27 [x6, x7, x8, x9, x10, x11, x17] H))) (M27 [x6, x7, x8, x9, x10, x11, x17] H))) ∧
  ∀ x42 : Value, ∀ x43 : Value, ∀ x44 : Value, ∀ x45 : Value, ∀ x46 : Value, ∀ x47 : Value, ∀ x48 : Value, ∀ H, M27 [x42, x43, x44, x45, x46, x47, x48] H →
 ∃ M49 : List Value → AH → Prop, (k α R H (.fieldAddr 43 0 x48) fun x50 H =>
 k α R H (.load 3 x50) fun x51 H =>
 k α R H (.bin .gtr 3 true x51 (.int .i64 1)) fun x52 H =>
 selV x52 (k α R H (.fieldAddr 43 1 x48) fun x53 H =>
 k α R H (.store 9 x53 (bS [])) fun x54 H =>
 M49 [x42, x43, x44, x45, x46, x47, x48] H) (M49 [x42, x43, x44, x45, x46, x47, x48] H)) ∧
  ∀ x55 : Value, ∀ x56 : Value, ∀ x57 : Value, ∀ x58 : Value, ∀ x59 : Value, ∀ x60 : Value, ∀ x61 : Value, ∀ H, M49 [x55, x56, x57, x58, x59, x60, x61] H →
 ∃ M62 : List Value → AH → Prop, (k α R H (.fieldAddr 43 0 x61) fun x63 H =>
 k α R H (.load 3 x63) fun x64 H =>
 k α R H (.bin .neq 3 true x64 (.int .i64 2)) fun x65 H =>
 selV x65 (k α R H (.fieldAddr 43 0 x61) fun x66 H =>
 k α R H (.load 3 x66) fun x67 H =>
 k α R H (.bin .neq 3 true x67 (.int .i64 3)) fun x68 H =>
 selV x68 (k α R H (.fieldAddr 43 2 x61) fun x69 H =>
 k α R H (.store 24 x69 (.int .u64 0)) fun x70 H =>
 M62 [x55, x56, x57, x58, x59, x60, x61] H) (M62 [x55, x56, x57, x58, x59, x60, x61] H)) (M62 [x55, x56, x57, x58, x59, x60, x61] H)) ∧
  ∀ x71 : Value, ∀ x72 : Value, ∀ x73 : Value, ∀ x74 : Value, ∀ x75 : Value, ∀ x76 : Value, ∀ x77 : Value, ∀ H, M62 [x71, x72, x73, x74, x75, x76, x77] H →
 k α R H (.bin .add 9 true x74 (bS [32])) fun x78 H =>
 ∃ M79 : List Value → AH → Prop, (∃ I88 : Nat → List Value → AH → Prop, (∃ n, I88 n [x71, x72, x73, x78, x75, x76, x77, (.int .i64 0)] H) ∧ ∀ n88, ∀ x80 : Value, ∀ x81 : Value, ∀ x82 : Value, ∀ x83 : Value, ∀ x84 : Value, ∀ x85 : Value, ∀ x86 : Value, ∀ x87 : Value, ∀ H, I88 n88 [x80, x81, x82, x83, x84, x85, x86, x87] H →
  k α R H (.len 41 x81) fun x89 H =>
 k α R H (.bin .lss 3 false x85 x89) fun x90 H =>
 selV x90 (k α R H (.indexAddr 41 x81 x85) fun x91 H =>
 k α R H (.load 5 x91) fun x92 H =>
 k α R H (.bin .rem 5 true x92 (.int .u8 4)) fun x93 H =>
 k α R H (.convert 5 3 x93) fun x94 H =>
 k α R H (.bin .lss 3 false x87 x94) fun x95 H =>
 selV x95 (k α R H (.bin .add 9 true x83 (bS [32])) fun x96 H =>
 k α R H (.bin .add 3 true x87 (.int .i64 1)) fun x97 H =>
 ∃ n', n' < n88 ∧ I88 n' [x80, x81, x82, x96, x84, x85, x86, x97] H) (M79 [x80, x81, x82, x83, x84, x85, x86] H)) (M79 [x80, x81, x82, x83, x84, x85, x86] H)) ∧
  ∀ x98 : Value, ∀ x99 : Value, ∀ x100 : Value, ∀ x101 : Value, ∀ x102 : Value, ∀ x103 : Value, ∀ x104 : Value, ∀ H, M79 [x98, x99, x100, x101, x102, x103, x104] H →
 k α R H (.len 9 x101) fun x105 H =>
 k α R H (.fieldAddr 43 3 x104) fun x106 H =>
 k α R H (.store 3 x106 x105) fun x107 H =>
 k α R H (.fieldAddr 43 0 x104) fun x108 H =>
 k α R H (.load 3 x108) fun x109 H =>
 k α R H (.fieldAddr 43 1 x104) fun x110 H =>
 k α R H (.load 9 x110) fun x111 H =>
 k α R H (.fieldAddr 43 2 x104) fun x112 H =>
 k α R H (.load 24 x112) fun x113 H =>
 k α R H (.build 45 [(0, x109), (1, x111), (2, x113)]) fun x114 H =>
 k α R H (.call (fnV 20) [x114]) fun x115 H =>
 k α R H (.bin .add 9 false x101 x115) fun x116 H =>
 k α R H (.load 43 x104) fun x117 H =>
 k α R H (.buildSlice 33 1 [(0, x117)]) fun x118 H =>
 k α R H (.append 33 x102 x118) fun x119 H =>
 k α R H (.bin .add 3 true x103 (.int .i64 1)) fun x120 H =>
 ∃ n', n' < n12 ∧ I12 n' [x98, x99, x100, x116, x119, x120] H) (k α R H (.call (fnV 15) [x9]) fun x121 H =>
 k α R H (.extract x121 0) fun x122 H =>
 k α R H (.extract x121 1) fun x123 H =>
 k α R H (.extract x121 2) fun x124 H =>
 k α R H (.len 33 x122) fun x125 H =>
 k α R H (.len 33 x10) fun x126 H =>
 k α R H (.bin .neq 3 false x125 x126) fun x127 H =>
 selV x127 (α.ret [.val (.bool false)] R H) (k α R H (.bin .neq 3 true x123 (.int .i64 0)) fun x128 H =>
 selV x128 (α.ret [.val (.bool false)] R H) (k α R H (.bin .neq 22 true x124 (.int .i64 0)) fun x129 H =>
 selV x129 (α.ret [.val (.bool false)] R H) (∃ I134 : Nat → List Value → AH → Prop, (∃ n, I134 n [x8, x10, x122, (.int .i64 0)] H) ∧ ∀ n134, ∀ x130 : Value, ∀ x131 : Value, ∀ x132 : Value, ∀ x133 : Value, ∀ H, I134 n134 [x130, x131, x132, x133] H →
  k α R H (.len 33 x132) fun x135 H =>
 k α R H (.bin .lss 3 false x133 x135) fun x136 H =>
 selV x136 (α.q H (.indexAddr 33 x132 x133) fun x137 => α.q H (.load 43 x137) fun x138 => α.q H (.indexAddr 33 x131 x133) fun x139 => α.q H (.load 43 x139) fun x140 => k α R H (.bin .neq 43 false x138 x140) fun x141 H =>
 selV x141 (α.ret [.val (.bool false)] R H) (k α R H (.bin .add 3 true x133 (.int .i64 1)) fun x142 H =>
 ∃ n', n' < n134 ∧ I134 n' [x130, x131, x132, x142] H)) (k α R H (.call (fnV 15) [x130]) fun x143 H =>
 k α R H (.extract x143 0) fun x144 H =>
 k α R H (.extract x143 1) fun x145 H =>
 k α R H (.extract x143 2) fun x146 H =>
 k α R H (.bin .add 9 true (bS [32, 32, 32]) x130) fun x147 H =>
 k α R H (.bin .add 9 true x147 (bS [32, 32])) fun x148 H =>
 k α R H (.call (fnV 15) [x148]) fun x149 H =>
 k α R H (.extract x149 0) fun x150 H =>
 k α R H (.extract x149 1) fun x151 H =>
 k α R H (.extract x149 2) fun x152 H =>
 k α R H (.bin .neq 22 false x146 x152) fun x153 H =>
 selV x153 (α.ret [.val (.bool false)] R H) (k α R H (.len 33 x144) fun x154 H =>
 k α R H (.len 33 x150) fun x155 H =>
 k α R H (.bin .neq 3 false x154 x155) fun x156 H =>
 selV x156 (α.ret [.val (.bool false)] R H) (∃ I160 : Nat → List Value → AH → Prop, (∃ n, I160 n [x144, x150, (.int .i64 0)] H) ∧ ∀ n160, ∀ x157 : Value, ∀ x158 : Value, ∀ x159 : Value, ∀ H, I160 n160 [x157, x158, x159] H →
  k α R H (.len 33 x157) fun x161 H =>
 k α R H (.bin .lss 3 false x159 x161) fun x162 H =>
 selV x162 (k α R H (.indexAddr 33 x158 x159) fun x163 H =>
 k α R H (.load 43 x163) fun x164 H =>
 k α R H (.alloc 43) fun x165 H =>
 k α R H (.store 43 x165 x164) fun x166 H =>
 k α R H (.fieldAddr 43 3 x165) fun x167 H =>
 k α R H (.load 3 x167) fun x168 H =>
 k α R H (.bin .sub 3 true x168 (.int .i64 3)) fun x169 H =>
 k α R H (.fieldAddr 43 3 x165) fun x170 H =>
 k α R H (.store 3 x170 x169) fun x171 H =>
 α.q H (.load 43 x165) fun x172 => α.q H (.indexAddr 33 x157 x159) fun x173 => α.q H (.load 43 x173) fun x174 => k α R H (.bin .neq 43 false x172 x174) fun x175 H =>
 selV x175 (α.ret [.val (.bool false)] R H) (k α R H (.bin .add 3 true x159 (.int .i64 1)) fun x176 H =>
 ∃ n', n' < n160 ∧ I160 n' [x157, x158, x176] H)) (k α R H (.call (fnV 14) []) fun x177 H =>
 α.ret [.val x177] R H))))))))))

theorem d6 {a0 a1 a2 : Value} {H : AH} {R : AOut → AH → Prop} (h : v6 a0 a1 a2 H R (real p)) : Does p 6 [a0, a1, a2] H R :=
  Does.of_wj (fun | 30 => some 8 | 41 => some 5 | _ => none) (fun | 6 => [0, 1, 2, 7, 8, 9] | 18 => [0, 1, 2, 7, 8, 9, 10, 12] | 28 => [2, 8, 13, 16] | 37 => [17, 20, 23] | _ => []) (fun | 21 => some [0, 1, 2, 7, 8, 9, 10] | 16 => some [0, 1, 2, 7, 8, 9, 10] | 14 => some [0, 1, 2, 7, 8, 9, 10] | 12 => some [0, 1, 2, 7, 8, 9, 10] | _ => none) (v6 a0 a1 a2 H R) hm Tryd.func6 Tryd.call6 (by kernel_rfl) (fun _ => by kernel_rfl) h

/-- socage/socagelaw18.alive -/
noncomputable def v14 (H : AH) (R : AOut → AH → Prop) (α : Ip) : Prop :=
 k α R H (.call (fnV 15) [(bS [32, 97, 49, 61, 49, 50, 32, 108, 111, 97, 100, 36, 98, 50, 32, 35, 48, 48, 48, 48, 48, 48, 48, 48, 48, 48, 48, 48, 48, 48, 102, 102, 61])]) fun x0 H =>
 k α R H (.extract x0 0) fun x1 H =>
 k α R H (.extract x0 1) fun x2 H =>
 k α R H (.extract x0 2) fun x3 H =>
 k α R H (.call (fnV 15) [(bS [97, 32, 36, 32, 98])]) fun x4 H =>
 k α R H (.extract x4 0) fun x5 H =>
 k α R H (.extract x4 1) fun x6 H =>
 k α R H (.extract x4 2) fun x7 H =>
 k α R H (.call (fnV 15) [(bS [49, 32, 49, 56, 52, 52, 54, 55, 52, 52, 48, 55, 51, 55, 48, 57, 53, 53, 49, 54, 49, 54])]) fun x8 H =>
 k α R H (.extract x8 0) fun x9 H =>
 k α R H (.extract x8 1) fun x10 H =>
 k α R H (.extract x8 2) fun x11 H =>
 k α R H (.call (fnV 15) [(bS [195, 169])]) fun x12 H =>
 k α R H (.extract x12 0) fun x13 H =>
 k α R H (.extract x12 1) fun x14 H =>
 k α R H (.extract x12 2) fun x15 H =>
 k α R H (.len 33 x1) fun x16 H =>
 k α R H (.bin .neq 3 true x16 (.int .i64 7)) fun x17 H =>
 selV x17 (α.ret [.val (.bool false)] R H) (k α R H (.bin .eql 3 true x2 (.int .i64 0)) fun x18 H =>
 selV x18 (k α R H (.bin .eql 22 true x3 (.int .i64 0)) fun x19 H =>
 selV x19 (k α R H (.indexAddr 33 x1 (.int .i64 0)) fun x20 H =>
 k α R H (.load 43 x20) fun x21 H =>
 k α R H (.build 43 [(1, (bS [97, 49])), (3, (.int .i64 1))]) fun x22 H =>
 k α R H (.bin .eql 43 false x21 x22) fun x23 H =>
 selV x23 (k α R H (.indexAddr 33 x1 (.int .i64 1)) fun x24 H =>
 k α R H (.load 43 x24) fun x25 H =>
 k α R H (.build 43 [(0, (.int .i64 4)), (3, (.int .i64 3))]) fun x26 H =>
 k α R H (.bin .eql 43 false x25 x26) fun x27 H =>
 selV x27 (k α R H (.indexAddr 33 x1 (.int .i64 2)) fun x28 H =>
 k α R H (.load 43 x28) fun x29 H =>
 k α R H (.build 43 [(0, (.int .i64 2)), (2, (.int .u64 12)), (3, (.int .i64 4))]) fun x30 H =>
 k α R H (.bin .eql 43 false x29 x30) fun x31 H =>
 selV x31 (k α R H (.indexAddr 33 x1 (.int .i64 3)) fun x32 H =>
 k α R H (.load 43 x32) fun x33 H =>
 k α R H (.build 43 [(1, (bS [108, 111, 97, 100])), (3, (.int .i64 7))]) fun x34 H =>
 k α R H (.bin .eql 43 false x33 x34) fun x35 H =>
 selV x35 (k α R H (.indexAddr 33 x1 (.int .i64 4)) fun x36 H =>
 k α R H (.load 43 x36) fun x37 H =>
 k α R H (.build 43 [(0, (.int .i64 1)), (1, (bS [98, 50])), (3, (.int .i64 11))]) fun x38 H =>
 k α R H (.bin .eql 43 false x37 x38) fun x39 H =>
 selV x39 (k α R H (.indexAddr 33 x1 (.int .i64 5)) fun x40 H =>
 k α R H (.load 43 x40) fun x41 H =>
 k α R H (.build 43 [(0, (.int .i64 3)), (2, (.int .u64 255)), (3, (.int .i64 15))]) fun x42 H =>
 k α R H (.bin .eql 43 false x41 x42) fun x43 H =>
 selV x43 (k α R H (.bin .eql 3 true x6 (.int .i64 2)) fun x44 H =>
 selV x44 (k α R H (.bin .eql 22 true x7 (.int .i64 2)) fun x45 H =>
 selV x45 (k α R H (.bin .eql 3 true x10 (.int .i64 2)) fun x46 H =>
 selV x46 (k α R H (.bin .eql 22 true x11 (.int .i64 2)) fun x47 H =>
 selV x47 (k α R H (.bin .eql 3 true x14 (.int .i64 0)) fun x48 H =>
 selV x48 (k α R H (.bin .eql 22 true x15 (.int .i64 2)) fun x49 H =>
 selV x49 (k α R H (.call (fnV 18) [(bS [97, 49])]) fun x50 H =>
 selV x50 (k α R H (.call (fnV 18) [(bS [49, 97])]) fun x51 H =>
 k α R H (.un .not x51) fun x52 H =>
 selV x52 (α.ret [.val (.bool true)] R H) (α.ret [.val (.bool false)] R H)) (α.ret [.val (.bool false)] R H)) (α.ret [.val (.bool false)] R H)) (α.ret [.val (.bool false)] R H)) (α.ret [.val (.bool false)] R H)) (α.ret [.val (.bool false)] R H)) (α.ret [.val (.bool false)] R H)) (α.ret [.val (.bool false)] R H)) (α.ret [.val (.bool false)] R H)) (α.ret [.val (.bool false)] R H)) (α.ret [.val (.bool false)] R H)) (α.ret [.val (.bool false)] R H)) (α.ret [.val (.bool false)] R H)) (α.ret [.val (.bool false)] R H)) (α.ret [.val (.bool false)] R H)) (α.ret [.val (.bool false)] R H))

theorem d14 {H : AH} {R : AOut → AH → Prop} (h : v14 H R (real p)) : Does p 14 [] H R :=
  Does.of_wj (fun _ => none) (fun _ => []) (fun _ => none) (v14 H R) hm Tryd.func14 Tryd.call14 (by kernel_rfl) (fun _ => by kernel_rfl) h

/-- socage/lexer.Scan -/
noncomputable def v15 (a0 : Value) (H : AH) (R : AOut → AH → Prop) (α : Ip) : Prop :=
 k α R H (.len 9 a0) fun x0 H =>
 k α R H (.bin .gtr 3 true x0 (.int .i64 1000)) fun x1 H =>
 selV x1 (α.ret [.val (.slice none 0 0), .val (.int .i64 0), .val (.int .i64 8)] R H) (k α R H (.call (fnV 29) [a0, (bS [32])]) fun x2 H =>
 ∃ I6 : Nat → List Value → AH → Prop, (∃ n, I6 n [a0, (.slice none 0 0), x2] H) ∧ ∀ n6, ∀ x3 : Value, ∀ x4 : Value, ∀ x5 : Value, ∀ H, I6 n6 [x3, x4, x5] H →
  k α R H (.bin .neq 9 true x5 (bS [])) fun x7 H =>
 selV x7 (k α R H (.len 9 x3) fun x8 H =>
 k α R H (.len 9 x5) fun x9 H =>
 k α R H (.bin .sub 3 false x8 x9) fun x10 H =>
 k α R H (.call (fnV 30) [x5]) fun x11 H =>
 k α R H (.extract x11 0) fun x12 H =>
 k α R H (.extract x11 1) fun x13 H =>
 k α R H (.alloc 43) fun x14 H =>
 k α R H (.store 43 x14 x12) fun x15 H =>
 k α R H (.bin .eql 3 true x13 (.int .i64 0)) fun x16 H =>
 selV x16 (α.ret [.val (.slice none 0 0), .val x10, .val (.int .i64 2)] R H) (k α R H (.fieldAddr 43 3 x14) fun x17 H =>
 k α R H (.store 3 x17 x10) fun x18 H =>
 k α R H (.load 43 x14) fun x19 H =>
 k α R H (.buildSlice 33 1 [(0, x19)]) fun x20 H =>
 k α R H (.append 33 x4 x20) fun x21 H =>
 k α R H (.slice 9 x5 (some x13) none none) fun x22 H =>
 k α R H (.call (fnV 29) [x22, (bS [32])]) fun x23 H =>
 ∃ n', n' < n6 ∧ I6 n' [x3, x21, x23] H)) (α.ret [.val x4, .val (.int .i64 0), .val (.int .i64 0)] R H))

theorem d15 {a0 : Value} {H : AH} {R : AOut → AH → Prop} (h : v15 a0 H R (real p)) : Does p 15 [a0] H R :=
  Does.of_wj (fun _ => none) (fun | 5 => [0, 5, 6] | _ => []) (fun _ => none) (v15 a0 H R) hm Tryd.func15 Tryd.call15 (by kernel_rfl) (fun _ => by kernel_rfl) h

/-- socage/socageref18.Scan -/
noncomputable def v16 (a0 : Value) (H : AH) (R : AOut → AH → Prop) (α : Ip) : Prop :=
 k α R H (.len 9 a0) fun x0 H =>
 k α R H (.bin .gtr 3 true x0 (.int .i64 1000)) fun x1 H =>
 selV x1 (α.ret [.val (.slice none 0 0), .val (.int .i64 0), .val (.int .i64 8)] R H) (∃ I5 : Nat → List Value → AH → Prop, (∃ n, I5 n [a0, (.slice none 0 0), (.int .i64 0)] H) ∧ ∀ n5, ∀ x2 : Value, ∀ x3 : Value, ∀ x4 : Value, ∀ H, I5 n5 [x2, x3, x4] H →
  k α R H (.len 9 x2) fun x6 H =>
 k α R H (.bin .lss 3 false x4 x6) fun x7 H =>
 selV x7 (k α R H (.index 9 x2 x4) fun x8 H =>
 k α R H (.bin .eql 5 true x8 (.int .u8 32)) fun x9 H =>
 selV x9 (k α R H (.bin .add 3 true x4 (.int .i64 1)) fun x10 H =>
 ∃ n', n' < n5 ∧ I5 n' [x2, x3, x10] H) (k α R H (.slice 9 x2 (some x4) none none) fun x11 H =>
 k α R H (.call (fnV 31) [x11]) fun x12 H =>
 k α R H (.extract x12 0) fun x13 H =>
 k α R H (.extract x12 1) fun x14 H =>
 k α R H (.alloc 45) fun x15 H =>
 k α R H (.store 45 x15 x13) fun x16 H =>
 k α R H (.bin .eql 3 true x14 (.int .i64 0)) fun x17 H =>
 selV x17 (α.ret [.val (.slice none 0 0), .val x4, .val (.int .i64 2)] R H) (k α R H (.fieldAddr 45 3 x15) fun x18 H =>
 k α R H (.store 3 x18 x4) fun x19 H =>
 k α R H (.load 45 x15) fun x20 H =>
 k α R H (.buildSlice 36 1 [(0, x20)]) fun x21 H =>
 k α R H (.append 36 x3 x21) fun x22 H =>
 k α R H (.bin .add 3 false x4 x14) fun x23 H =>
 ∃ n', n' < n5 ∧ I5 n' [x2, x22, x23] H))) (α.ret [.val x3, .val (.int .i64 0), .val (.int .i64 0)] R H))

theorem d16 {a0 : Value} {H : AH} {R : AOut → AH → Prop} (h : v16 a0 H R (real p)) : Does p 16 [a0] H R :=
  Does.of_wj (fun _ => none) (fun | 5 => [0, 5, 6] | _ => []) (fun _ => none) (v16 a0 H R) hm Tryd.func16 Tryd.call16 (by kernel_rfl) (fun _ => by kernel_rfl) h

/-- socage/socagelaw18.same -/
noncomputable def v17 (a0 a1 : Value) (H : AH) (R : AOut → AH → Prop) (α : Ip) : Prop :=
 k α R H (.len 33 a0) fun x0 H =>
 k α R H (.len 36 a1) fun x1 H =>
 k α R H (.bin .neq 3 false x0 x1) fun x2 H =>
 selV x2 (α.ret [.val (.bool false)] R H) (∃ I6 : Nat → List Value → AH → Prop, (∃ n, I6 n [a0, a1, (.int .i64 0)] H) ∧ ∀ n6, ∀ x3 : Value, ∀ x4 : Value, ∀ x5 : Value, ∀ H, I6 n6 [x3, x4, x5] H →
  k α R H (.len 33 x3) fun x7 H =>
 k α R H (.bin .lss 3 false x5 x7) fun x8 H =>
 selV x8 (α.q H (.indexAddr 33 x3 x5) fun x9 => α.q H (.fieldAddr 43 0 x9) fun x10 => α.q H (.load 3 x10) fun x11 => α.q H (.indexAddr 36 x4 x5) fun x12 => α.q H (.fieldAddr 45 0 x12) fun x13 => α.q H (.load 3 x13) fun x14 => α.q H (.bin .neq 3 false x11 x14) fun x15 => selV x15 (α.ret [.val (.bool false)] R H) (α.q H (.indexAddr 33 x3 x5) fun x16 => α.q H (.fieldAddr 43 1 x16) fun x17 => α.q H (.load 9 x17) fun x18 => α.q H (.indexAddr 36 x4 x5) fun x19 => α.q H (.fieldAddr 45 1 x19) fun x20 => α.q H (.load 9 x20) fun x21 => α.q H (.bin .neq 9 false x18 x21) fun x22 => selV x22 (α.ret [.val (.bool false)] R H) (α.q H (.indexAddr 33 x3 x5) fun x23 => α.q H (.fieldAddr 43 2 x23) fun x24 => α.q H (.load 24 x24) fun x25 => α.q H (.indexAddr 36 x4 x5) fun x26 => α.q H (.fieldAddr 45 2 x26) fun x27 => α.q H (.load 24 x27) fun x28 => α.q H (.bin .neq 24 false x25 x28) fun x29 => selV x29 (α.ret [.val (.bool false)] R H) (α.q H (.indexAddr 33 x3 x5) fun x30 => α.q H (.fieldAddr 43 3 x30) fun x31 => α.q H (.load 3 x31) fun x32 => α.q H (.indexAddr 36 x4 x5) fun x33 => α.q H (.fieldAddr 45 3 x33) fun x34 => α.q H (.load 3 x34) fun x35 => k α R H (.bin .neq 3 false x32 x35) fun x36 H =>
 selV x36 (α.ret [.val (.bool false)] R H) (k α R H (.bin .add 3 true x5 (.int .i64 1)) fun x37 H =>
 ∃ n', n' < n6 ∧ I6 n' [x3, x4, x37] H))))) (α.ret [.val (.bool true)] R H))

theorem d17 {a0 a1 : Value} {H : AH} {R : AOut → AH → Prop} (h : v17 a0 a1 H R (real p)) : Does p 17 [a0, a1] H R :=
  Does.of_wj (fun | 6 => some 48 | _ => none) (fun | 4 => [0, 1, 5] | _ => []) (fun _ => none) (v17 a0 a1 H R) hm Tryd.func17 Tryd.call17 (by kernel_rfl) (fun _ => by kernel_rfl) h

/-- socage/lexer.Name -/
noncomputable def v18 (a0 : Value) (H : AH) (R : AOut → AH → Prop) (α : Ip) : Prop :=
 k α R H (.bin .neq 9 true a0 (bS [])) fun x0 H =>
 selV x0 (k α R H (.index 9 a0 (.int .i64 0)) fun x1 H =>
 k α R H (.convert 5 21 x1) fun x2 H =>
 k α R H (.call (fnV 32) [x2]) fun x3 H =>
 selV x3 (k α R H (.call (fnV 33) [a0, (fnV 34)]) fun x4 H =>
 k α R H (.len 9 a0) fun x5 H =>
 k α R H (.bin .eql 3 false x4 x5) fun x6 H =>
 α.ret [.val x6] R H) (α.ret [.val (.bool false)] R H)) (α.ret [.val (.bool false)] R H)

theorem d18 {a0 : Value} {H : AH} {R : AOut → AH → Prop} (h : v18 a0 H R (real p)) : Does p 18 [a0] H R :=
  Does.of_wj (fun _ => none) (fun _ => []) (fun _ => none) (v18 a0 H R) hm Tryd.func18 Tryd.call18 (by kernel_rfl) (fun _ => by kernel_rfl) h

/-- socage/socageref18.Name -/
noncomputable def v19 (a0 : Value) (H : AH) (R : AOut → AH → Prop) (α : Ip) : Prop :=
 ∃ I2 : Nat → List Value → AH → Prop, (∃ n, I2 n [a0, (.int .i64 0)] H) ∧ ∀ n2, ∀ x0 : Value, ∀ x1 : Value, ∀ H, I2 n2 [x0, x1] H →
  k α R H (.len 9 x0) fun x3 H =>
 k α R H (.bin .lss 3 false x1 x3) fun x4 H =>
 selV x4 (k α R H (.index 9 x0 x1) fun x5 H =>
 k α R H (.call (fnV 35) [x5]) fun x6 H =>
 selV x6 (k α R H (.un .not (.bool true)) fun x7 H =>
 selV x7 (α.ret [.val (.bool false)] R H) (k α R H (.bin .add 3 true x1 (.int .i64 1)) fun x8 H =>
 ∃ n', n' < n2 ∧ I2 n' [x0, x8] H)) (k α R H (.bin .gtr 3 true x1 (.int .i64 0)) fun x9 H =>
 selV x9 (k α R H (.index 9 x0 x1) fun x10 H =>
 k α R H (.call (fnV 36) [x10]) fun x11 H =>
 k α R H (.un .not x11) fun x12 H =>
 selV x12 (α.ret [.val (.bool false)] R H) (k α R H (.bin .add 3 true x1 (.int .i64 1)) fun x13 H =>
 ∃ n', n' < n2 ∧ I2 n' [x0, x13] H)) (k α R H (.un .not (.bool false)) fun x14 H =>
 selV x14 (α.ret [.val (.bool false)] R H) (k α R H (.bin .add 3 true x1 (.int .i64 1)) fun x15 H =>
 ∃ n', n' < n2 ∧ I2 n' [x0, x15] H)))) (k α R H (.len 9 x0) fun x16 H =>
 k α R H (.bin .gtr 3 true x16 (.int .i64 0)) fun x17 H =>
 α.ret [.val x17] R H)

theorem d19 {a0 : Value} {H : AH} {R : AOut → AH → Prop} (h : v19 a0 H R (real p)) : Does p 19 [a0] H R :=
  Does.of_wj (fun _ => none) (fun | 2 => [0, 3] | _ => []) (fun _ => none) (v19 a0 H R) hm Tryd.func19 Tryd.call19 (by kernel_rfl) (fun _ => by kernel_rfl) h

/-- socage/lexer.token -/
noncomputable def v30 (a0 : Value) (H : AH) (R : AOut → AH → Prop) (α : Ip) : Prop :=
 k α R H (.alloc 43) fun x0 H =>
 k α R H (.slice 9 a0 (some (.int .i64 1)) none none) fun x1 H =>
 k α R H (.call (fnV 33) [x1, (fnV 34)]) fun x2 H =>
 k α R H (.bin .add 3 true x2 (.int .i64 1)) fun x3 H =>
 ∃ M4 : List Value → AH → Prop, (k α R H (.index 9 a0 (.int .i64 0)) fun x5 H =>
 k α R H (.convert 5 21 x5) fun x6 H =>
 k α R H (.bin .eql 21 true x6 (.int .i32 61)) fun x7 H =>
 selV x7 (k α R H (.build 43 [(0, (.int .i64 4))]) fun x8 H =>
 k α R H (.store 43 x0 x8) fun x9 H =>
 α.ret [.cell x0 43, .val (.int .i64 1)] R H) (k α R H (.call (fnV 32) [x6]) fun x10 H =>
 selV x10 (k α R H (.slice 9 a0 none (some x3) none) fun x11 H =>
 k α R H (.build 43 [(0, (.int .i64 0)), (1, x11)]) fun x12 H =>
 k α R H (.store 43 x0 x12) fun x13 H =>
 α.ret [.cell x0 43, .val x3] R H) (k α R H (.bin .eql 21 true x6 (.int .i32 36)) fun x14 H =>
 selV x14 (k α R H (.slice 9 a0 (some (.int .i64 1)) (some x3) none) fun x15 H =>
 k α R H (.call (fnV 18) [x15]) fun x16 H =>
 selV x16 (k α R H (.slice 9 a0 (some (.int .i64 1)) (some x3) none) fun x17 H =>
 k α R H (.build 43 [(0, (.int .i64 1)), (1, x17)]) fun x18 H =>
 k α R H (.store 43 x0 x18) fun x19 H =>
 α.ret [.cell x0 43, .val x3] R H) (k α R H (.bin .eql 21 true x6 (.int .i32 35)) fun x20 H =>
 selV x20 (k α R H (.slice 9 a0 (some (.int .i64 1)) none none) fun x21 H =>
 k α R H (.call (fnV 33) [x21, (fnV 49)]) fun x22 H =>
 k α R H (.bin .add 3 true x22 (.int .i64 1)) fun x23 H =>
 k α R H (.slice 9 a0 (some (.int .i64 1)) (some x23) none) fun x24 H =>
 k α R H (.call (fnV 39) [x24]) fun x25 H =>
 k α R H (.extract x25 0) fun x26 H =>
 k α R H (.extract x25 1) fun x27 H =>
 k α R H (.bin .eql 22 true x27 (.int .i64 0)) fun x28 H =>
 selV x28 (k α R H (.build 43 [(0, (.int .i64 3)), (2, x26)]) fun x29 H =>
 k α R H (.store 43 x0 x29) fun x30 H =>
 α.ret [.cell x0 43, .val x23] R H) (M4 [x0] H)) (k α R H (.call (fnV 50) [x6]) fun x31 H =>
 selV x31 (k α R H (.call (fnV 33) [a0, (fnV 50)]) fun x32 H =>
 k α R H (.slice 9 a0 none (some x32) none) fun x33 H =>
 k α R H (.call (fnV 40) [x33, (.int .i64 10), (.int .i64 64)]) fun x34 H =>
 k α R H (.extract x34 0) fun x35 H =>
 k α R H (.extract x34 1) fun x36 H =>
 k α R H (.bin .eql 66 true x36 .nilIface) fun x37 H =>
 selV x37 (k α R H (.build 43 [(0, (.int .i64 2)), (2, x35)]) fun x38 H =>
 k α R H (.store 43 x0 x38) fun x39 H =>
 α.ret [.cell x0 43, .val x32] R H) (M4 [x0] H)) (M4 [x0] H)))) (k α R H (.bin .eql 21 true x6 (.int .i32 35)) fun x40 H =>
 selV x40 (k α R H (.slice 9 a0 (some (.int .i64 1)) none none) fun x41 H =>
 k α R H (.call (fnV 33) [x41, (fnV 49)]) fun x42 H =>
 k α R H (.bin .add 3 true x42 (.int .i64 1)) fun x43 H =>
 k α R H (.slice 9 a0 (some (.int .i64 1)) (some x43) none) fun x44 H =>
 k α R H (.call (fnV 39) [x44]) fun x45 H =>
 k α R H (.extract x45 0) fun x46 H =>
 k α R H (.extract x45 1) fun x47 H =>
 k α R H (.bin .eql 22 true x47 (.int .i64 0)) fun x48 H =>
 selV x48 (k α R H (.build 43 [(0, (.int .i64 3)), (2, x46)]) fun x49 H =>
 k α R H (.store 43 x0 x49) fun x50 H =>
 α.ret [.cell x0 43, .val x43] R H) (M4 [x0] H)) (k α R H (.call (fnV 50) [x6]) fun x51 H =>
 selV x51 (k α R H (.call (fnV 33) [a0, (fnV 50)]) fun x52 H =>
 k α R H (.slice 9 a0 none (some x52) none) fun x53 H =>
 k α R H (.call (fnV 40) [x53, (.int .i64 10), (.int .i64 64)]) fun x54 H =>
 k α R H (.extract x54 0) fun x55 H =>
 k α R H (.extract x54 1) fun x56 H =>
 k α R H (.bin .eql 66 true x56 .nilIface) fun x57 H =>
 selV x57 (k α R H (.build 43 [(0, (.int .i64 2)), (2, x55)]) fun x58 H =>
 k α R H (.store 43 x0 x58) fun x59 H =>
 α.ret [.cell x0 43, .val x52] R H) (M4 [x0] H)) (M4 [x0] H)))))) ∧
  ∀ x60 : Value, ∀ H, M4 [x60] H →
 k α R H (.build 43 []) fun x61 H =>
 k α R H (.store 43 x60 x61) fun x62 H =>
 α.ret [.cell x60 43, .val (.int .i64 0)] R H

theorem d30 {a0 : Value} {H : AH} {R : AOut → AH → Prop} (h : v30 a0 H R (real p)) : Does p 30 [a0] H R :=
  Does.of_wj (fun _ => none) (fun _ => []) (fun | 19 => some [2] | _ => none) (v30 a0 H R) hm Tryd.func30 Tryd.call30 (by kernel_rfl) (fun _ => by kernel_rfl) h

/-- socage/socageref18.token -/
noncomputable def v31 (a0 : Value) (H : AH) (R : AOut → AH → Prop) (α : Ip) : Prop :=
 k α R H (.alloc 45) fun x0 H =>
 k α R H (.index 9 a0 (.int .i64 0)) fun x1 H =>
 k α R H (.bin .eql 5 true x1 (.int .u8 61)) fun x2 H =>
 selV x2 (k α R H (.build 45 [(0, (.int .i64 4))]) fun x3 H =>
 k α R H (.store 45 x0 x3) fun x4 H =>
 α.ret [.cell x0 45, .val (.int .i64 1)] R H) (k α R H (.index 9 a0 (.int .i64 0)) fun x5 H =>
 k α R H (.bin .eql 5 true x5 (.int .u8 36)) fun x6 H =>
 selV x6 (k α R H (.slice 9 a0 (some (.int .i64 1)) none none) fun x7 H =>
 k α R H (.call (fnV 51) [x7]) fun x8 H =>
 k α R H (.bin .eql 3 true x8 (.int .i64 0)) fun x9 H =>
 selV x9 (k α R H (.build 45 []) fun x10 H =>
 k α R H (.store 45 x0 x10) fun x11 H =>
 α.ret [.cell x0 45, .val (.int .i64 0)] R H) (k α R H (.bin .add 3 true x8 (.int .i64 1)) fun x12 H =>
 k α R H (.slice 9 a0 (some (.int .i64 1)) (some x12) none) fun x13 H =>
 k α R H (.build 45 [(0, (.int .i64 1)), (1, x13)]) fun x14 H =>
 k α R H (.bin .add 3 true x8 (.int .i64 1)) fun x15 H =>
 k α R H (.store 45 x0 x14) fun x16 H =>
 α.ret [.cell x0 45, .val x15] R H)) (k α R H (.index 9 a0 (.int .i64 0)) fun x17 H =>
 k α R H (.bin .eql 5 true x17 (.int .u8 35)) fun x18 H =>
 selV x18 (k α R H (.slice 9 a0 (some (.int .i64 1)) none none) fun x19 H =>
 k α R H (.call (fnV 52) [x19]) fun x20 H =>
 k α R H (.bin .add 3 true x20 (.int .i64 1)) fun x21 H =>
 k α R H (.slice 9 a0 (some (.int .i64 1)) (some x21) none) fun x22 H =>
 k α R H (.call (fnV 22) [x22]) fun x23 H =>
 k α R H (.extract x23 0) fun x24 H =>
 k α R H (.extract x23 1) fun x25 H =>
 k α R H (.bin .neq 22 true x25 (.int .i64 0)) fun x26 H =>
 selV x26 (k α R H (.build 45 []) fun x27 H =>
 k α R H (.store 45 x0 x27) fun x28 H =>
 α.ret [.cell x0 45, .val (.int .i64 0)] R H) (k α R H (.build 45 [(0, (.int .i64 3)), (2, x24)]) fun x29 H =>
 k α R H (.store 45 x0 x29) fun x30 H =>
 α.ret [.cell x0 45, .val (.int .i64 17)] R H)) (k α R H (.index 9 a0 (.int .i64 0)) fun x31 H =>
 k α R H (.call (fnV 36) [x31]) fun x32 H =>
 selV x32 (k α R H (.call (fnV 53) [a0]) fun x33 H =>
 k α R H (.extract x33 0) fun x34 H =>
 k α R H (.extract x33 1) fun x35 H =>
 k α R H (.build 45 [(0, (.int .i64 2)), (2, x34)]) fun x36 H =>
 k α R H (.store 45 x0 x36) fun x37 H =>
 α.ret [.cell x0 45, .val x35] R H) (k α R H (.call (fnV 51) [a0]) fun x38 H =>
 k α R H (.slice 9 a0 none (some x38) none) fun x39 H =>
 k α R H (.build 45 [(1, x39)]) fun x40 H =>
 k α R H (.store 45 x0 x40) fun x41 H =>
 α.ret [.cell x0 45, .val x38] R H))))

theorem d31 {a0 : Value} {H : AH} {R : AOut → AH → Prop} (h : v31 a0 H R (real p)) : Does p 31 [a0] H R :=
  Does.of_wj (fun _ => none) (fun _ => []) (fun _ => none) (v31 a0 H R) hm Tryd.func31 Tryd.call31 (by kernel_rfl) (fun _ => by kernel_rfl) h

/-- socage/lexer.letter -/
noncomputable def v32 (a0 : Value) (H : AH) (R : AOut → AH → Prop) (α : Ip) : Prop :=
 k α R H (.bin .geq 21 true a0 (.int .i32 97)) fun x0 H =>
 selV x0 (k α R H (.bin .leq 21 true a0 (.int .i32 122)) fun x1 H =>
 α.ret [.val x1] R H) (α.ret [.val (.bool false)] R H)

theorem d32 {a0 : Value} {H : AH} {R : AOut → AH → Prop} (h : v32 a0 H R (real p)) : Does p 32 [a0] H R :=
  Does.of_wj (fun _ => none) (fun _ => []) (fun _ => none) (v32 a0 H R) hm Tryd.func32 Tryd.call32 (by kernel_rfl) (fun _ => by kernel_rfl) h

/-- socage/lexer.front -/
noncomputable def v33 (a0 a1 : Value) (H : AH) (R : AOut → AH → Prop) (α : Ip) : Prop :=
 k α R H (.range 9 a0) fun x0 H =>
 ∃ I4 : Nat → List Value → AH → Prop, (∃ n, I4 n [a0, a1, x0] H) ∧ ∀ n4, ∀ x1 : Value, ∀ x2 : Value, ∀ x3 : Value, ∀ H, I4 n4 [x1, x2, x3] H →
  k α R H (.next x3 true) fun x5 H =>
 k α R H (.extract x5 0) fun x6 H =>
 selV x6 (k α R H (.extract x5 1) fun x7 H =>
 k α R H (.extract x5 2) fun x8 H =>
 k α R H (.call x2 [x8]) fun x9 H =>
 k α R H (.un .not x9) fun x10 H =>
 selV x10 (α.ret [.val x7] R H) (∃ n', n' < n4 ∧ I4 n' [x1, x2, x3] H)) (k α R H (.len 9 x1) fun x11 H =>
 α.ret [.val x11] R H)

theorem d33 {a0 a1 : Value} {H : AH} {R : AOut → AH → Prop} (h : v33 a0 a1 H R (real p)) : Does p 33 [a0, a1] H R :=
  Does.of_wj (fun _ => none) (fun | 2 => [0, 1, 8] | _ => []) (fun _ => none) (v33 a0 a1 H R) hm Tryd.func33 Tryd.call33 (by kernel_rfl) (fun _ => by kernel_rfl) h

/-- socage/lexer.either -/
noncomputable def v34 (a0 : Value) (H : AH) (R : AOut → AH → Prop) (α : Ip) : Prop :=
 k α R H (.call (fnV 32) [a0]) fun x0 H =>
 selV x0 (α.ret [.val (.bool true)] R H) (k α R H (.call (fnV 50) [a0]) fun x1 H =>
 α.ret [.val x1] R H)

theorem d34 {a0 : Value} {H : AH} {R : AOut → AH → Prop} (h : v34 a0 H R (real p)) : Does p 34 [a0] H R :=
  Does.of_wj (fun _ => none) (fun _ => []) (fun _ => none) (v34 a0 H R) hm Tryd.func34 Tryd.call34 (by kernel_rfl) (fun _ => by kernel_rfl) h

/-- socage/socageref18.letter -/
noncomputable def v35 (a0 : Value) (H : AH) (R : AOut → AH → Prop) (α : Ip) : Prop :=
 k α R H (.bin .geq 5 true a0 (.int .u8 97)) fun x0 H =>
 selV x0 (k α R H (.bin .leq 5 true a0 (.int .u8 122)) fun x1 H =>
 α.ret [.val x1] R H) (α.ret [.val (.bool false)] R H)

theorem d35 {a0 : Value} {H : AH} {R : AOut → AH → Prop} (h : v35 a0 H R (real p)) : Does p 35 [a0] H R :=
  Does.of_wj (fun _ => none) (fun _ => []) (fun _ => none) (v35 a0 H R) hm Tryd.func35 Tryd.call35 (by kernel_rfl) (fun _ => by kernel_rfl) h

/-- socage/socageref18.figure -/
noncomputable def v36 (a0 : Value) (H : AH) (R : AOut → AH → Prop) (α : Ip) : Prop :=
 k α R H (.bin .geq 5 true a0 (.int .u8 48)) fun x0 H =>
 selV x0 (k α R H (.bin .leq 5 true a0 (.int .u8 57)) fun x1 H =>
 α.ret [.val x1] R H) (α.ret [.val (.bool false)] R H)

theorem d36 {a0 : Value} {H : AH} {R : AOut → AH → Prop} (h : v36 a0 H R (real p)) : Does p 36 [a0] H R :=
  Does.of_wj (fun _ => none) (fun _ => []) (fun _ => none) (v36 a0 H R) hm Tryd.func36 Tryd.call36 (by kernel_rfl) (fun _ => by kernel_rfl) h

/-- socage/lexer.token$1 -/
noncomputable def v49 (a0 : Value) (H : AH) (R : AOut → AH → Prop) (α : Ip) : Prop :=
 k α R H (.call (fnV 50) [a0]) fun x0 H =>
 selV x0 (α.ret [.val (.bool true)] R H) (k α R H (.bin .geq 21 true a0 (.int .i32 97)) fun x1 H =>
 selV x1 (k α R H (.bin .leq 21 true a0 (.int .i32 102)) fun x2 H =>
 α.ret [.val x2] R H) (α.ret [.val (.bool false)] R H))

theorem d49 {a0 : Value} {H : AH} {R : AOut → AH → Prop} (h : v49 a0 H R (real p)) : Does p 49 [a0] H R :=
  Does.of_wj (fun _ => none) (fun _ => []) (fun _ => none) (v49 a0 H R) hm Tryd.func49 Tryd.call49 (by kernel_rfl) (fun _ => by kernel_rfl) h

/-- socage/lexer.figure -/
noncomputable def v50 (a0 : Value) (H : AH) (R : AOut → AH → Prop) (α : Ip) : Prop :=
 k α R H (.bin .geq 21 true a0 (.int .i32 48)) fun x0 H =>
 selV x0 (k α R H (.bin .leq 21 true a0 (.int .i32 57)) fun x1 H =>
 α.ret [.val x1] R H) (α.ret [.val (.bool false)] R H)

theorem d50 {a0 : Value} {H : AH} {R : AOut → AH → Prop} (h : v50 a0 H R (real p)) : Does p 50 [a0] H R :=
  Does.of_wj (fun _ => none) (fun _ => []) (fun _ => none) (v50 a0 H R) hm Tryd.func50 Tryd.call50 (by kernel_rfl) (fun _ => by kernel_rfl) h

/-- socage/socageref18.name -/
noncomputable def v51 (a0 : Value) (H : AH) (R : AOut → AH → Prop) (α : Ip) : Prop :=
 ∃ I2 : Nat → List Value → AH → Prop, (∃ n, I2 n [a0, (.int .i64 0)] H) ∧ ∀ n2, ∀ x0 : Value, ∀ x1 : Value, ∀ H, I2 n2 [x0, x1] H →
  k α R H (.len 9 x0) fun x3 H =>
 k α R H (.bin .lss 3 false x1 x3) fun x4 H =>
 selV x4 (k α R H (.bin .add 3 true x1 (.int .i64 1)) fun x5 H =>
 k α R H (.slice 9 x0 none (some x5) none) fun x6 H =>
 k α R H (.call (fnV 19) [x6]) fun x7 H =>
 selV x7 (k α R H (.bin .add 3 true x1 (.int .i64 1)) fun x8 H =>
 ∃ n', n' < n2 ∧ I2 n' [x0, x8] H) (α.ret [.val x1] R H)) (α.ret [.val x1] R H)

theorem d51 {a0 : Value} {H : AH} {R : AOut → AH → Prop} (h : v51 a0 H R (real p)) : Does p 51 [a0] H R :=
  Does.of_wj (fun _ => none) (fun | 2 => [0, 3] | _ => []) (fun _ => none) (v51 a0 H R) hm Tryd.func51 Tryd.call51 (by kernel_rfl) (fun _ => by kernel_rfl) h

/-- socage/socageref18.hex -/
noncomputable def v52 (a0 : Value) (H : AH) (R : AOut → AH → Prop) (α : Ip) : Prop :=
 ∃ I2 : Nat → List Value → AH → Prop, (∃ n, I2 n [a0, (.int .i64 0)] H) ∧ ∀ n2, ∀ x0 : Value, ∀ x1 : Value, ∀ H, I2 n2 [x0, x1] H →
  k α R H (.len 9 x0) fun x3 H =>
 k α R H (.bin .lss 3 false x1 x3) fun x4 H =>
 selV x4 (k α R H (.index 9 x0 x1) fun x5 H =>
 k α R H (.call (fnV 36) [x5]) fun x6 H =>
 selV x6 (k α R H (.bin .add 3 true x1 (.int .i64 1)) fun x7 H =>
 ∃ n', n' < n2 ∧ I2 n' [x0, x7] H) (k α R H (.index 9 x0 x1) fun x8 H =>
 k α R H (.bin .geq 5 true x8 (.int .u8 97)) fun x9 H =>
 selV x9 (k α R H (.index 9 x0 x1) fun x10 H =>
 k α R H (.bin .leq 5 true x10 (.int .u8 102)) fun x11 H =>
 selV x11 (k α R H (.bin .add 3 true x1 (.int .i64 1)) fun x12 H =>
 ∃ n', n' < n2 ∧ I2 n' [x0, x12] H) (α.ret [.val x1] R H)) (α.ret [.val x1] R H))) (α.ret [.val x1] R H)

theorem d52 {a0 : Value} {H : AH} {R : AOut → AH → Prop} (h : v52 a0 H R (real p)) : Does p 52 [a0] H R :=
  Does.of_wj (fun _ => none) (fun | 2 => [0, 3] | _ => []) (fun _ => none) (v52 a0 H R) hm Tryd.func52 Tryd.call52 (by kernel_rfl) (fun _ => by kernel_rfl) h

/-- socage/socageref18.number -/
noncomputable def v53 (a0 : Value) (H : AH) (R : AOut → AH → Prop) (α : Ip) : Prop :=
 ∃ I3 : Nat → List Value → AH → Prop, (∃ n, I3 n [a0, (.int .u64 0), (.int .i64 0)] H) ∧ ∀ n3, ∀ x0 : Value, ∀ x1 : Value, ∀ x2 : Value, ∀ H, I3 n3 [x0, x1, x2] H →
  k α R H (.len 9 x0) fun x4 H =>
 k α R H (.bin .lss 3 false x2 x4) fun x5 H =>
 selV x5 (k α R H (.index 9 x0 x2) fun x6 H =>
 k α R H (.call (fnV 36) [x6]) fun x7 H =>
 selV x7 (k α R H (.index 9 x0 x2) fun x8 H =>
 k α R H (.bin .sub 5 true x8 (.int .u8 48)) fun x9 H =>
 k α R H (.convert 5 24 x9) fun x10 H =>
 k α R H (.bin .gtr 24 true x1 (.int .u64 1844674407370955161)) fun x11 H =>
 selV x11 (α.ret [.val (.int .u64 0), .val (.int .i64 0)] R H) (k α R H (.bin .eql 24 true x1 (.int .u64 1844674407370955161)) fun x12 H =>
 selV x12 (k α R H (.bin .gtr 24 true x10 (.int .u64 5)) fun x13 H =>
 selV x13 (α.ret [.val (.int .u64 0), .val (.int .i64 0)] R H) (k α R H (.bin .mul 24 true (.int .u64 10) x1) fun x14 H =>
 k α R H (.bin .add 24 false x14 x10) fun x15 H =>
 k α R H (.bin .add 3 true x2 (.int .i64 1)) fun x16 H =>
 ∃ n', n' < n3 ∧ I3 n' [x0, x15, x16] H)) (k α R H (.bin .mul 24 true (.int .u64 10) x1) fun x17 H =>
 k α R H (.bin .add 24 false x17 x10) fun x18 H =>
 k α R H (.bin .add 3 true x2 (.int .i64 1)) fun x19 H =>
 ∃ n', n' < n3 ∧ I3 n' [x0, x18, x19] H))) (α.ret [.val x1, .val x2] R H)) (α.ret [.val x1, .val x2] R H)

theorem d53 {a0 : Value} {H : AH} {R : AOut → AH → Prop} (h : v53 a0 H R (real p)) : Does p 53 [a0] H R :=
  Does.of_wj (fun _ => none) (fun | 3 => [0, 4, 5] | _ => []) (fun _ => none) (v53 a0 H R) hm Tryd.func53 Tryd.call53 (by kernel_rfl) (fun _ => by kernel_rfl) h

end Go.Proofs.TD
