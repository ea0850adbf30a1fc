/- Functions of the program, told as plain functions of what they are called with, each with the proof that it is what the code does (printed by a program of the prover). -/
import Derived.Test.YtdchnobmkhcccaaGreatDoorF2
namespace Go.Cn
open Go.Proofs
set_option maxRecDepth 100000
set_option linter.unusedVariables false
/- (*concord/core.Core).weigh -/
noncomputable def l211 : List (Nat × (List V → HT → Option J)) := [(213, f213), (271, f271)]
noncomputable def t211 : Fns := tab l211
noncomputable def f211_0 (x0 : V) (x1 : V) (x8 : V) (x30 : V) (h : HT) : Option J := bndV (kBin .eql [x30, (.int .i64 (.ofNat (nat_lit 2)))]) fun x45 =>
  bndV (kMov [x45]) fun x44 =>
  tstv x44 (bndV (kMov [x0]) fun x46 =>
  bndV (kMov [x1]) fun x47 =>
  bndV (kMov [x1]) fun x48 =>
  bndV (kNilc [x48]) fun x49 =>
  bndV (kFa 6 [x49]) fun x50 =>
  bndV (qLd h (some 7) [x50]) fun x51 =>
  bndV (qLd h (some 8) [x8]) fun x52 =>
  bndC (noF [x46, x47, x51, x52] h) fun x53 h =>
  bndV (kMov [(.bool true)]) fun x6 =>
  ret1 x6 h)
  (bndV (kMov [(.bool false)]) fun x6 =>
  ret1 x6 h)
noncomputable def f211_1 (x0 : V) (x1 : V) (x8 : V) (x30 : V) (x31 : V) (h : HT) : Option J := tstv x31 (bndV (kMov [x0]) fun x33 =>
  bndV (kMov [x1]) fun x34 =>
  bndV (kNilc [x34]) fun x35 =>
  bndV (kFa 0 [x35]) fun x36 =>
  bndV (qLd h (some 2) [x36]) fun x37 =>
  bndV (kMov [x1]) fun x38 =>
  bndV (kNilc [x38]) fun x39 =>
  bndV (kFa 6 [x39]) fun x40 =>
  bndV (qLd h (some 7) [x40]) fun x41 =>
  bndV (qLd h (some 8) [x8]) fun x42 =>
  bndC (f213 [x33, x37, x41, x42] h) fun x43 h =>
  bndV (kMov [(.bool true)]) fun x6 =>
  ret1 x6 h)
  ((f211_0 x0 x1 x8 x30 h))
noncomputable def f211_2 (x0 : V) (x1 : V) (x2 : V) (x13 : V) (x17 : V) (x21 : V) (x22 : V) (h : HT) : Option J := bndV (kNilc [x22]) fun x23 =>
  bndV (kFa 28 [x23]) fun x24 =>
  bndV (qLd h none [x24]) fun x25 =>
  bndV (kMov [x2]) fun x26 =>
  bndN (kAlloc [(.int .i64 (.ofNat (nat_lit 0))), (.int .i64 (.ofNat (nat_lit 0))), (.int .i64 (.ofNat (nat_lit 0))), (.int .i64 (.ofNat (nat_lit 0))), (.int .i64 (.ofNat (nat_lit 0))), (.int .i64 (.ofNat (nat_lit 0))), (.int .i64 (.ofNat (nat_lit 0))), (.int .i64 (.ofNat (nat_lit 0)))] []) h fun x8 h =>
  bndC (f271 [x13, x17, x21, x25, x26] h) fun x27 h =>
  bndV (kMov [x27]) fun x9 =>
  bndV (kExt 0 [x9]) fun x28 =>
  bndV (kExt 1 [x9]) fun x29 =>
  bndV (kMov [x28]) fun x7 =>
  bndE (dSt h 8 [x8, x29]) h fun _ h =>
  bndV (kMov [x7]) fun x30 =>
  bndV (kBin .eql [x30, (.int .i64 (.ofNat (nat_lit 1)))]) fun x32 =>
  bndV (kMov [x32]) fun x31 =>
  (f211_1 x0 x1 x8 x30 x31 h)
noncomputable def f211_3 (x0 : V) (x1 : V) (x2 : V) (h : HT) : Option J := bndV (kMov [(.bool false)]) fun x6 =>
  bndV (kMov [x0]) fun x10 =>
  bndV (kNilc [x10]) fun x11 =>
  bndV (kFa 0 [x11]) fun x12 =>
  bndV (qLd h none [x12]) fun x13 =>
  bndV (kMov [x1]) fun x14 =>
  bndV (kNilc [x14]) fun x15 =>
  bndV (kFa 5 [x15]) fun x16 =>
  bndV (qLd h none [x16]) fun x17 =>
  bndV (kMov [x1]) fun x18 =>
  bndV (kNilc [x18]) fun x19 =>
  bndV (kFa 13 [x19]) fun x20 =>
  bndV (qLd h (some 8) [x20]) fun x21 =>
  bndV (kMov [x1]) fun x22 =>
  (f211_2 x0 x1 x2 x13 x17 x21 x22 h)
noncomputable def f211 (vs : List V) (h : HT) : Option J := unc vs fun x0 vs =>
  unc vs fun x1 vs =>
  unc vs fun x2 vs =>
  (f211_3 x0 x1 x2 h)
def a211 : List Ann := [.no, .no, .no]
theorem e211 : f211 = evFun Tryz.prog 211 3 a211 t211 := by kernel_rfl
theorem o211 : FnOk Tryz.prog 211 f211 := .of hmO (show enters Tryz.prog 211 = true by kernel_rfl) e211 (.cons o213 (.cons o271 (.nil)))

/- (*concord/core.Core).answered -/
noncomputable def l138 : List (Nat × (List V → HT → Option J)) := [(207, f207), (211, f211)]
noncomputable def t138 : Fns := tab l138
noncomputable def f138_0 (x0 : V) (x3 : V) (x4 : V) (x75 : V) (h : HT) : Option J := bndV (kMov [x4]) fun x76 =>
  bndV (kNilc [x76]) fun x77 =>
  bndV (kFa 28 [x77]) fun x78 =>
  bndV (qLd h none [x78]) fun x79 =>
  bndV (kFa 14 [x3]) fun x80 =>
  bndV (qLd h (some 8) [x80]) fun x81 =>
  bndN (kBsl 8 1 [(.int .i64 (.ofNat (nat_lit 0))), (.int .i64 (.ofNat (nat_lit 0))), (.int .i64 (.ofNat (nat_lit 0))), (.int .i64 (.ofNat (nat_lit 0))), (.int .i64 (.ofNat (nat_lit 0))), (.int .i64 (.ofNat (nat_lit 0))), (.int .i64 (.ofNat (nat_lit 0))), (.int .i64 (.ofNat (nat_lit 0)))] [(0, 8)] [x81]) h fun x82 h =>
  bndE (dApp h 8 64 [x79, x82]) h fun x83 h =>
  bndV (kNilc [x75]) fun x84 =>
  bndV (kFa 28 [x84]) fun x85 =>
  bndE (dSt h 1 [x85, x83]) h fun _ h =>
  bndV (kMov [x0]) fun x86 =>
  bndV (kMov [x4]) fun x87 =>
  bndC (f211 [x86, x87, (.bool false)] h) fun x88 h =>
  ret1 (.tuple []) h
noncomputable def f138_1 (x0 : V) (x4 : V) (h : HT) : Option J := bndV (kMov [x0]) fun x102 =>
  bndV (kMov [x4]) fun x103 =>
  bndV (kNilc [x103]) fun x104 =>
  bndV (kFa 0 [x104]) fun x105 =>
  bndV (qLd h (some 2) [x105]) fun x106 =>
  bndV (kMov [x4]) fun x107 =>
  bndV (kNilc [x107]) fun x108 =>
  bndV (kFa 6 [x108]) fun x109 =>
  bndV (qLd h (some 7) [x109]) fun x110 =>
  bndV (kMov [x4]) fun x111 =>
  bndV (kNilc [x111]) fun x112 =>
  bndV (kFa 13 [x112]) fun x113 =>
  bndV (qLd h (some 8) [x113]) fun x114 =>
  bndC (noF [x102, x106, x110, x114] h) fun x115 h =>
  ret1 (.tuple []) h
noncomputable def f138_2 (x0 : V) (x4 : V) (h : HT) : Option J := bndV (kMov [x4]) fun x91 =>
  bndV (kNilc [x91]) fun x92 =>
  bndV (kFa 30 [x92]) fun x93 =>
  bndV (qLd h none [x93]) fun x94 =>
  bndV (kBin .add [x94, (.int .i64 (.ofNat (nat_lit 1)))]) fun x95 =>
  bndV (kMov [x0]) fun x96 =>
  bndV (kNilc [x96]) fun x97 =>
  bndV (kFa 0 [x97]) fun x98 =>
  bndV (qLd h none [x98]) fun x99 =>
  bndC (noF [x99] h) fun x100 h =>
  chk1 (sameE (qLd h none [x93]) x94) (bndV (kBin .geq [x95, x100]) fun x101 =>
  tstv x101 ((f138_1 x0 x4 h))
  (ret1 (.tuple []) h))
noncomputable def f138_3 (x0 : V) (x3 : V) (x4 : V) (x56 : V) (x59 : V) (h : HT) : Option J := bndV (qLd h none [x59]) fun x60 =>
  bndV (kFa 1 [x3]) fun x61 =>
  bndV (qLd h none [x61]) fun x62 =>
  bndV (kFa 22 [x3]) fun x63 =>
  bndV (qLd h (some 21) [x63]) fun x64 =>
  bndV (kBld [(.int .i64 (.ofNat (nat_lit 0))), (.int .i64 (.ofNat (nat_lit 0))), (.int .i64 (.ofNat (nat_lit 0))), (.int .i64 (.ofNat (nat_lit 0))), (.int .i64 (.ofNat (nat_lit 0))), (.int .i64 (.ofNat (nat_lit 0))), (.int .i64 (.ofNat (nat_lit 0))), (.int .i64 (.ofNat (nat_lit 0))), (.int .i64 (.ofNat (nat_lit 0))), (.str (sb [])), (.str (sb [])), (.str (sb [])), (.str (sb [])), (.int .i64 (.ofNat (nat_lit 0))), (.int .i64 (.ofNat (nat_lit 0))), (.int .i64 (.ofNat (nat_lit 0))), (.int .i64 (.ofNat (nat_lit 0))), (.int .i64 (.ofNat (nat_lit 0))), (.int .i64 (.ofNat (nat_lit 0))), (.int .i64 (.ofNat (nat_lit 0))), (.int .i64 (.ofNat (nat_lit 0))), (.bool false)] [(0, 1), (1, 21)] [x62, x64]) fun x65 =>
  bndN (kBsl 22 1 [(.int .i64 (.ofNat (nat_lit 0))), (.int .i64 (.ofNat (nat_lit 0))), (.int .i64 (.ofNat (nat_lit 0))), (.int .i64 (.ofNat (nat_lit 0))), (.int .i64 (.ofNat (nat_lit 0))), (.int .i64 (.ofNat (nat_lit 0))), (.int .i64 (.ofNat (nat_lit 0))), (.int .i64 (.ofNat (nat_lit 0))), (.int .i64 (.ofNat (nat_lit 0))), (.str (sb [])), (.str (sb [])), (.str (sb [])), (.str (sb [])), (.int .i64 (.ofNat (nat_lit 0))), (.int .i64 (.ofNat (nat_lit 0))), (.int .i64 (.ofNat (nat_lit 0))), (.int .i64 (.ofNat (nat_lit 0))), (.int .i64 (.ofNat (nat_lit 0))), (.int .i64 (.ofNat (nat_lit 0))), (.int .i64 (.ofNat (nat_lit 0))), (.int .i64 (.ofNat (nat_lit 0))), (.bool false)] [(0, 22)] [x65]) h fun x66 h =>
  bndE (dApp h 22 208 [x60, x66]) h fun x67 h =>
  bndV (kNilc [x56]) fun x68 =>
  bndV (kFa 29 [x68]) fun x69 =>
  bndE (dSt h 1 [x69, x67]) h fun _ h =>
  bndV (kMov [x0]) fun x70 =>
  bndV (kMov [x4]) fun x71 =>
  bndC (noF [x70, x71] h) fun x72 h =>
  ret1 (.tuple []) h
noncomputable def f138_4 (x0 : V) (x3 : V) (x4 : V) (x5 : V) (h : HT) : Option J := bndV (kMov [x5]) fun x55 =>
  bndV (kBin .eql [x55, (.int .i64 (.ofNat (nat_lit 0)))]) fun x74 =>
  bndV (kMov [x74]) fun x73 =>
  tstv x73 (bndV (kMov [x4]) fun x75 =>
  (f138_0 x0 x3 x4 x75 h))
  (bndV (kBin .eql [x55, (.int .i64 (.ofNat (nat_lit 1)))]) fun x90 =>
  bndV (kMov [x90]) fun x89 =>
  tstv x89 ((f138_2 x0 x4 h))
  (bndV (kMov [x4]) fun x56 =>
  bndV (kMov [x4]) fun x57 =>
  bndV (kNilc [x57]) fun x58 =>
  bndV (kFa 29 [x58]) fun x59 =>
  (f138_3 x0 x3 x4 x56 x59 h)))
noncomputable def f138_5 (x0 : V) (x3 : V) (x4 : V) (x5 : V) (x42 : V) (h : HT) : Option J := bndV (kFa 1 [x3]) fun x43 =>
  bndV (qLd h none [x43]) fun x44 =>
  bndV (kNilc [x42]) fun x45 =>
  bndV (kFa 21 [x45]) fun x46 =>
  bndV (kIaA 7 1 [x46, x44]) fun x47 =>
  bndE (dSt h 1 [x47, (.int .i64 (.ofNat (nat_lit 1)))]) h fun _ h =>
  bndV (kMov [x4]) fun x48 =>
  bndV (kNilc [x48]) fun x49 =>
  bndV (kFa 30 [x49]) fun x50 =>
  bndV (qLd h none [x50]) fun x51 =>
  bndV (kBin .add [x51, (.int .i64 (.ofNat (nat_lit 1)))]) fun x52 =>
  bndV (kNilc [x48]) fun x53 =>
  bndV (kFa 30 [x53]) fun x54 =>
  bndE (dSt h 1 [x54, x52]) h fun _ h =>
  (f138_4 x0 x3 x4 x5 h)
noncomputable def f138_6 (x0 : V) (x3 : V) (x4 : V) (x31 : V) (h : HT) : Option J := bndV (kMov [x31]) fun x32 =>
  bndV (kFa 0 [x3]) fun x33 =>
  bndV (qLd h none [x33]) fun x34 =>
  bndV (kLkp h.heap false [.i] (.int .i64 (.ofNat (nat_lit 0))) false [x32, x34]) fun x35 =>
  bndV (kMov [x35]) fun x5 =>
  bndV (kMov [x4]) fun x36 =>
  bndV (kNilc [x36]) fun x37 =>
  bndV (kFa 2 [x37]) fun x38 =>
  bndV (qLd h none [x38]) fun x39 =>
  bndV (kMov [x5]) fun x40 =>
  bndV (kBin .neq [x39, x40]) fun x41 =>
  tstv x41 (ret1 (.tuple []) h)
  (bndV (kMov [x4]) fun x42 =>
  (f138_5 x0 x3 x4 x5 x42 h))
noncomputable def f138_7 (x0 : V) (x3 : V) (x4 : V) (x21 : V) (x22 : V) (h : HT) : Option J := bndC (gsel x21 false (retV (kFa 1 [x3]) h) h) fun x23 h =>
  bndC (gsel x21 false (retV (qLd h none [x23]) h) h) fun x24 h =>
  bndC (gsel x21 false (retV (kNilc [x22]) h) h) fun x25 h =>
  bndC (gsel x21 false (retV (kFa 21 [x25]) h) h) fun x26 h =>
  bndC (gsel x21 false (retV (kIaA 7 1 [x26, x24]) h) h) fun x27 h =>
  bndC (gsel x21 false (retV (qLd h none [x27]) h) h) fun x28 h =>
  bndC (gsel x21 false (retV (kBin .neq [x28, (.int .i64 (.ofNat (nat_lit 0)))]) h) h) fun x29 h =>
  bndV (kPick [x21, (.bool true), x29]) fun x30 =>
  tstv x30 (ret1 (.tuple []) h)
  (bndN (kMkM []) h fun x31 h =>
  bndE (dMset h false [.i] [x31, (.int .i64 (.ofNat (nat_lit 2))), (.int .i64 (.ofNat (nat_lit 0)))]) h fun _ h =>
  bndE (dMset h false [.i] [x31, (.int .i64 (.ofNat (nat_lit 4))), (.int .i64 (.ofNat (nat_lit 1)))]) h fun _ h =>
  bndE (dMset h false [.i] [x31, (.int .i64 (.ofNat (nat_lit 7))), (.int .i64 (.ofNat (nat_lit 2)))]) h fun _ h =>
  (f138_6 x0 x3 x4 x31 h))
noncomputable def f138_8 (x0 : V) (x3 : V) (x9 : V) (h : HT) : Option J := bndV (kMov [x9]) fun x4 =>
  bndV (kMov [x4]) fun x10 =>
  bndV (kEqN false [x10, (.ptr none)]) fun x11 =>
  bndV (kMov [x11]) fun x12 =>
  bndC (gsel x12 false (retV (kMov [x4]) h) h) fun x13 h =>
  bndC (gsel x12 false (retV (kNilc [x13]) h) h) fun x14 h =>
  bndC (gsel x12 false (retV (kFa 3 [x14]) h) h) fun x15 h =>
  bndC (gsel x12 false (retV (qLd h (some 2) [x15]) h) h) fun x16 h =>
  bndC (gsel x12 false (retV (kFa 5 [x3]) h) h) fun x17 h =>
  bndC (gsel x12 false (retV (qLd h (some 2) [x17]) h) h) fun x18 h =>
  bndC (gsel x12 false (retV (kEqF true [.i, .i] [x16, x18]) h) h) fun x19 h =>
  bndV (kPick [x12, (.bool true), x19]) fun x20 =>
  bndV (kMov [x20]) fun x21 =>
  bndC (gsel x21 false (retV (kMov [x4]) h) h) fun x22 h =>
  (f138_7 x0 x3 x4 x21 x22 h)
noncomputable def f138 (vs : List V) (h : HT) : Option J := unc vs fun x0 vs =>
  unc vs fun x1 vs =>
  bndN (kBox [x1]) h fun x3 h =>
  bndV (kMov [x0]) fun x6 =>
  bndV (kFa 3 [x3]) fun x7 =>
  bndV (qLd h (some 2) [x7]) fun x8 =>
  bndC (f207 [x6, x8] h) fun x9 h =>
  (f138_8 x0 x3 x9 h)
def a138 : List Ann := [.no, .no, .no, .no, .no, .no]
theorem e138 : f138 = evFun Tryz.prog 138 2 a138 t138 := by kernel_rfl
theorem o138 : FnOk Tryz.prog 138 f138 := .of hmO (show enters Tryz.prog 138 = true by kernel_rfl) e138 (.cons o207 (.cons o211 (.nil)))

/- (*concord/core.Core).Take -/
noncomputable def l47 : List (Nat × (List V → HT → Option J)) := [(44, f44), (133, f133), (134, f134), (135, f135), (136, f136), (138, f138)]
noncomputable def t47 : Fns := tab l47
noncomputable def f47_0 (x0 : V) (x3 : V) (h : HT) : Option J := bndV (kFa 0 [x3]) fun x75 =>
  bndV (qLd h none [x75]) fun x76 =>
  bndV (kBin .eql [x76, (.int .i64 (.ofNat (nat_lit 8)))]) fun x77 =>
  bndV (kMov [x77]) fun x74 =>
  tstv x74 (bndV (kMov [x0]) fun x78 =>
  bndV (qLd h (some 51) [x3]) fun x79 =>
  bndC (noF [x78, x79] h) fun x80 h =>
  bndV (kMov [(.bool false)]) fun x4 =>
  ret1 x4 h)
  (bndV (kMov [x0]) fun x59 =>
  bndV (qLd h (some 51) [x3]) fun x60 =>
  bndC (f138 [x59, x60] h) fun x61 h =>
  bndV (kMov [(.bool false)]) fun x4 =>
  ret1 x4 h)
noncomputable def f47_1 (x0 : V) (x3 : V) (x62 : V) (h : HT) : Option J := tstv x62 (bndV (kMov [x0]) fun x64 =>
  bndV (qLd h (some 51) [x3]) fun x65 =>
  bndC (f135 [x64, x65] h) fun x66 h =>
  bndV (kMov [(.bool false)]) fun x4 =>
  ret1 x4 h)
  (bndV (kFa 0 [x3]) fun x68 =>
  bndV (qLd h none [x68]) fun x69 =>
  bndV (kBin .eql [x69, (.int .i64 (.ofNat (nat_lit 5)))]) fun x70 =>
  bndV (kMov [x70]) fun x67 =>
  tstv x67 (bndV (kMov [x0]) fun x71 =>
  bndV (qLd h (some 51) [x3]) fun x72 =>
  bndC (f136 [x71, x72] h) fun x73 h =>
  bndV (kMov [(.bool false)]) fun x4 =>
  ret1 x4 h)
  ((f47_0 x0 x3 h)))
noncomputable def f47_2 (x0 : V) (x3 : V) (x50 : V) (h : HT) : Option J := bndV (kMov [x50]) fun x5 =>
  bndV (kMov [x0]) fun x51 =>
  bndV (kNilc [x51]) fun x52 =>
  bndV (kFa 2 [x52]) fun x53 =>
  bndV (qLd h none [x53]) fun x54 =>
  bndV (kFa 3 [x3]) fun x55 =>
  bndV (qLd h (some 2) [x55]) fun x56 =>
  bndC (f134 [x54, x56] h) fun x57 h =>
  tstv x57 (bndV (kMov [x5]) fun x58 =>
  bndV (kMov [x58]) fun x4 =>
  ret1 x4 h)
  (bndV (kMov [x5]) fun x63 =>
  bndV (kMov [x63]) fun x62 =>
  (f47_1 x0 x3 x62 h))
noncomputable def f47_3 (x0 : V) (x3 : V) (x37 : V) (h : HT) : Option J := tstv x37 (bndV (kMov [(.bool false)]) fun x4 =>
  ret1 x4 h)
  (bndV (kFa 0 [x3]) fun x38 =>
  bndV (qLd h none [x38]) fun x39 =>
  bndV (kBin .eql [x39, (.int .i64 (.ofNat (nat_lit 1)))]) fun x40 =>
  bndV (kMov [x40]) fun x41 =>
  bndC (gsel x41 false (retV (kFa 0 [x3]) h) h) fun x42 h =>
  bndC (gsel x41 false (retV (qLd h none [x42]) h) h) fun x43 h =>
  bndC (gsel x41 false (retV (kBin .eql [x43, (.int .i64 (.ofNat (nat_lit 3)))]) h) h) fun x44 h =>
  bndV (kPick [x41, (.bool true), x44]) fun x45 =>
  bndV (kMov [x45]) fun x46 =>
  bndC (gsel x46 false (retV (kFa 0 [x3]) h) h) fun x47 h =>
  bndC (gsel x46 false (retV (qLd h none [x47]) h) h) fun x48 h =>
  bndC (gsel x46 false (retV (kBin .eql [x48, (.int .i64 (.ofNat (nat_lit 6)))]) h) h) fun x49 h =>
  bndV (kPick [x46, (.bool true), x49]) fun x50 =>
  (f47_2 x0 x3 x50 h))
noncomputable def f47_4 (x0 : V) (x3 : V) (x18 : V) (x23 : V) (h : HT) : Option J := bndV (kPick [x18, (.bool true), x23]) fun x24 =>
  bndV (kMov [x24]) fun x25 =>
  bndC (gsel x25 false (retV (kFa 0 [x3]) h) h) fun x26 h =>
  bndC (gsel x25 false (retV (qLd h none [x26]) h) h) fun x27 h =>
  bndC (gsel x25 false (retV (kBin .geq [x27, (.int .i64 (.ofNat (nat_lit 9)))]) h) h) fun x28 h =>
  bndV (kPick [x25, (.bool true), x28]) fun x29 =>
  bndV (kMov [x29]) fun x30 =>
  bndC (gsel x30 false (retV (kMov [x0]) h) h) fun x31 h =>
  bndC (gsel x30 false (retV (kFa 3 [x3]) h) h) fun x32 h =>
  bndC (gsel x30 false (retV (kFa 0 [x32]) h) h) fun x33 h =>
  bndC (gsel x30 false (retV (qLd h none [x33]) h) h) fun x34 h =>
  bndC (gsel x30 false (f133 [x31, x34] h) h) fun x35 h =>
  bndC (gsel x30 false (retV (kUn .not [x35]) h) h) fun x36 h =>
  bndV (kPick [x30, (.bool true), x36]) fun x37 =>
  (f47_3 x0 x3 x37 h)
noncomputable def f47_5 (x0 : V) (x3 : V) (x9 : V) (h : HT) : Option J := bndC (gsel x9 false (retV (kFa 2 [x3]) h) h) fun x10 h =>
  bndC (gsel x9 false (retV (qLd h none [x10]) h) h) fun x11 h =>
  bndC (gsel x9 false (retV (kMov [x0]) h) h) fun x12 h =>
  bndC (gsel x9 false (retV (kNilc [x12]) h) h) fun x13 h =>
  bndC (gsel x9 false (retV (kFa 1 [x13]) h) h) fun x14 h =>
  bndC (gsel x9 false (retV (qLd h none [x14]) h) h) fun x15 h =>
  bndC (gsel x9 false (retV (kBin .neq [x11, x15]) h) h) fun x16 h =>
  bndV (kPick [x9, (.bool true), x16]) fun x17 =>
  bndV (kMov [x17]) fun x18 =>
  bndC (gsel x18 false (retV (kMov [x0]) h) h) fun x19 h =>
  bndC (gsel x18 false (retV (kFa 1 [x3]) h) h) fun x20 h =>
  bndC (gsel x18 false (retV (qLd h none [x20]) h) h) fun x21 h =>
  bndC (gsel x18 false (f133 [x19, x21] h) h) fun x22 h =>
  bndC (gsel x18 false (retV (kUn .not [x22]) h) h) fun x23 h =>
  (f47_4 x0 x3 x18 x23 h)
noncomputable def f47 (vs : List V) (h : HT) : Option J := unc vs fun x0 vs =>
  unc vs fun x1 vs =>
  bndN (kBox [x1]) h fun x3 h =>
  bndV (kMov [(.bool false)]) fun x4 =>
  bndV (qLd h (some 51) [x3]) fun x6 =>
  bndC (f44 [x6] h) fun x7 h =>
  bndV (kUn .not [x7]) fun x8 =>
  bndV (kMov [x8]) fun x9 =>
  (f47_5 x0 x3 x9 h)
def a47 : List Ann := [.no, .no, .no, .no, .no, .no]
theorem e47 : f47 = evFun Tryz.prog 47 2 a47 t47 := by kernel_rfl
theorem o47 : FnOk Tryz.prog 47 f47 := .of hmO (show enters Tryz.prog 47 = true by kernel_rfl) e47 (.cons o44 (.cons o133 (.cons o134 (.cons o135 (.cons o136 (.cons o138 (.nil)))))))

/- (*concord/node.Node).Take -/
noncomputable def l13 : List (Nat × (List V → HT → Option J)) := [(39, f39), (44, f44), (47, f47)]
noncomputable def t13 : Fns := tab l13
noncomputable def f13_0 (x0 : V) (x3 : V) (x34 : V) (h : HT) : Option J := bndV (kNilc [x34]) fun x35 =>
  bndV (kFa 4 [x35]) fun x36 =>
  bndV (qLd h none [x36]) fun x37 =>
  bndV (qLd h (some 51) [x3]) fun x38 =>
  bndC (f47 [x37, x38] h) fun x39 h =>
  bndJ (tstv x39 (bndV (kMov [x0]) fun x40 =>
  bndV (kFa 1 [x3]) fun x41 =>
  bndV (qLd h none [x41]) fun x42 =>
  bndC (noF [x40, x42] h) fun x43 h =>
  some ⟨0, [x0], h⟩)
  (some ⟨0, [x0], h⟩))
  fun j vs h => unc vs fun x0 vs =>
  some ⟨0, [x0], h⟩
noncomputable def f13_1 (x0 : V) (x3 : V) (x33 : V) (x55 : V) (h : HT) : Option J := tstv x55 (bndV (kMov [x0]) fun x57 =>
  bndV (qLd h (some 51) [x3]) fun x58 =>
  bndC (noF [x57, x58] h) fun x59 h =>
  some ⟨0, [x0], h⟩)
  (bndV (kBin .eql [x33, (.int .i64 (.ofNat (nat_lit 10)))]) fun x61 =>
  bndV (kMov [x61]) fun x60 =>
  bndJ (tstv x60 (bndV (kMov [x0]) fun x62 =>
  bndV (kFa 50 [x3]) fun x63 =>
  bndV (qLd h none [x63]) fun x64 =>
  bndN (kS2b [x64]) h fun x65 h =>
  bndC (noF [x62, x65] h) fun x66 h =>
  some ⟨0, [x0], h⟩)
  (bndV (kMov [x0]) fun x34 =>
  (f13_0 x0 x3 x34 h)))
  fun j vs h => unc vs fun x0 vs =>
  some ⟨0, [x0], h⟩)
noncomputable def f13_2 (x0 : V) (x3 : V) (x33 : V) (x44 : V) (h : HT) : Option J := tstv x44 (bndV (kMov [x0]) fun x46 =>
  bndV (kNilc [x46]) fun x47 =>
  bndV (kFa 5 [x47]) fun x48 =>
  bndV (qLd h none [x48]) fun x49 =>
  bndV (kFa 1 [x3]) fun x50 =>
  bndV (qLd h none [x50]) fun x51 =>
  bndV (kFa 43 [x3]) fun x52 =>
  bndV (qLd h (some 7) [x52]) fun x53 =>
  bndC (noF [x49, x51, x53] h) fun x54 h =>
  some ⟨0, [x0], h⟩)
  (bndV (kBin .eql [x33, (.int .i64 (.ofNat (nat_lit 11)))]) fun x56 =>
  bndV (kMov [x56]) fun x55 =>
  bndJ ((f13_1 x0 x3 x33 x55 h))
  fun j vs h => unc vs fun x0 vs =>
  some ⟨0, [x0], h⟩)
noncomputable def f13_3 (x0 : V) (x3 : V) (x23 : V) (x30 : V) (h : HT) : Option J := bndV (kPick [x23, (.bool true), x30]) fun x31 =>
  tstv x31 (bndV (kMov [(.bool false)]) fun x4 =>
  ret1 x4 h)
  (bndV (kFa 0 [x3]) fun x32 =>
  bndV (qLd h none [x32]) fun x33 =>
  bndV (kBin .eql [x33, (.int .i64 (.ofNat (nat_lit 9)))]) fun x45 =>
  bndV (kMov [x45]) fun x44 =>
  bndJ ((f13_2 x0 x3 x33 x44 h))
  fun j vs h => unc vs fun x0 vs =>
  bndV (kMov [x0]) fun x67 =>
  bndC (f39 [x67] h) fun x68 h =>
  bndV (kMov [(.bool true)]) fun x4 =>
  ret1 x4 h)
noncomputable def f13_4 (x0 : V) (x3 : V) (x14 : V) (x16 : V) (h : HT) : Option J := bndC (gsel x14 false (retV (kMov [x0]) h) h) fun x17 h =>
  bndC (gsel x14 false (retV (kNilc [x17]) h) h) fun x18 h =>
  bndC (gsel x14 false (retV (kFa 1 [x18]) h) h) fun x19 h =>
  bndC (gsel x14 false (retV (qLd h none [x19]) h) h) fun x20 h =>
  bndC (gsel x14 false (retV (kBin .neq [x16, x20]) h) h) fun x21 h =>
  bndV (kPick [x14, (.bool true), x21]) fun x22 =>
  bndV (kMov [x22]) fun x23 =>
  bndC (gsel x23 false (retV (kFa 1 [x3]) h) h) fun x24 h =>
  bndC (gsel x23 false (retV (qLd h none [x24]) h) h) fun x25 h =>
  bndC (gsel x23 false (retV (kMov [x0]) h) h) fun x26 h =>
  bndC (gsel x23 false (retV (kNilc [x26]) h) h) fun x27 h =>
  bndC (gsel x23 false (retV (kFa 0 [x27]) h) h) fun x28 h =>
  bndC (gsel x23 false (retV (qLd h none [x28]) h) h) fun x29 h =>
  bndC (gsel x23 false (retV (kBin .geq [x25, x29]) h) h) fun x30 h =>
  (f13_3 x0 x3 x23 x30 h)
noncomputable def f13_5 (x0 : V) (x1 : V) (h : HT) : Option J := bndN (kBox [x1]) h fun x3 h =>
  bndV (kMov [(.bool false)]) fun x4 =>
  bndV (kMov [x0]) fun x5 =>
  bndV (kNilc [x5]) fun x6 =>
  bndV (kFa 74 [x6]) fun x7 =>
  bndV (qLd h none [x7]) fun x8 =>
  bndV (kMov [x8]) fun x9 =>
  bndC (gsel x9 false (retV (qLd h (some 51) [x3]) h) h) fun x10 h =>
  bndC (gsel x9 false (f44 [x10] h) h) fun x11 h =>
  bndC (gsel x9 false (retV (kUn .not [x11]) h) h) fun x12 h =>
  bndV (kPick [x9, (.bool true), x12]) fun x13 =>
  bndV (kMov [x13]) fun x14 =>
  bndC (gsel x14 false (retV (kFa 2 [x3]) h) h) fun x15 h =>
  bndC (gsel x14 false (retV (qLd h none [x15]) h) h) fun x16 h =>
  (f13_4 x0 x3 x14 x16 h)
noncomputable def f13 (vs : List V) (h : HT) : Option J := unc vs fun x0 vs =>
  unc vs fun x1 vs =>
  (f13_5 x0 x1 h)
def a13 : List Ann := [.no, .no, .join [(.normal, [0])], .join [(.normal, [0])], .join [(.normal, [0])], .join [(.normal, [0])]]
theorem e13 : f13 = evFun Tryz.prog 13 2 a13 t13 := by kernel_rfl
theorem o13 : FnOk Tryz.prog 13 f13 := .of hmO (show enters Tryz.prog 13 = true by kernel_rfl) e13 (.cons o39 (.cons o44 (.cons o47 (.nil))))

/- (*concord/node.Node).Done -/
noncomputable def l14 : List (Nat × (List V → HT → Option J)) := []
noncomputable def t14 : Fns := tab l14

noncomputable def f14 (vs : List V) (h : HT) : Option J := unc vs fun x0 vs =>
  bndN (kAlloc [(.int .i64 (.ofNat (nat_lit 0))), (.int .i64 (.ofNat (nat_lit 0))), (.int .i64 (.ofNat (nat_lit 0))), (.int .i64 (.ofNat (nat_lit 0))), (.int .i64 (.ofNat (nat_lit 0))), (.int .i64 (.ofNat (nat_lit 0))), (.int .i64 (.ofNat (nat_lit 0)))] []) h fun x2 h =>
  bndV (kMov [x0]) fun x3 =>
  bndV (kNilc [x3]) fun x4 =>
  bndV (kFa 55 [x4]) fun x5 =>
  bndV (qLd h (some 7) [x5]) fun x6 =>
  bndE (dSt h 7 [x2, x6]) h fun _ h =>
  bndV (qLd h (some 7) [x2]) fun x900000 =>
  ret1 x900000 h
def a14 : List Ann := []
theorem e14 : f14 = evFun Tryz.prog 14 1 a14 t14 := by kernel_rfl
theorem o14 : FnOk Tryz.prog 14 f14 := .of hmO (show enters Tryz.prog 14 = true by kernel_rfl) e14 (.nil)

/- slices.Equal[[]concord/api.Pair,concord/api.Pair] -/
noncomputable def l50 : List (Nat × (List V → HT → Option J)) := []
noncomputable def t50 : Fns := tab l50
noncomputable def f50_0 (rc : List V → HT → Option J) (x0 : V) (x1 : V) (x5 : V) (x12 : V) (x13 : V) (h : HT) : Option J := bndV (kMov [x0]) fun x16 =>
  bndV (kMov [x5]) fun x17 =>
  bndV (kIaS 3 [x16, x17]) fun x18 =>
  bndV (qLd h (some 3) [x18]) fun x19 =>
  bndV (kMov [x1]) fun x20 =>
  bndV (kMov [x5]) fun x21 =>
  bndV (kIaS 3 [x20, x21]) fun x22 =>
  bndV (qLd h (some 3) [x22]) fun x23 =>
  bndV (kEqF true [.s, .s, .i] [x19, x23]) fun x24 =>
  tstv x24 (bndV (kMov [(.bool false)]) fun x4 =>
  some ⟨1, [x4], h⟩)
  (bndV (kBin .add [x13, (.int .i64 (.ofNat (nat_lit 1)))]) fun x25 =>
  bndV (kMov [x25]) fun x13 =>
  rc [x0, x1, x12, x13] h)
noncomputable def f50_1 (x0 : V) (x1 : V) (x12 : V) (x13 : V) (h : HT) : Option J := bndJ (loopF (fun rc vs h => unc vs fun x0 vs =>
  unc vs fun x1 vs =>
  unc vs fun x12 vs =>
  unc vs fun x13 vs =>
  bndV (kBin .lss [x13, x12]) fun x14 =>
  tstv x14 (bndV (kMov [x13]) fun x15 =>
  bndV (kMov [x15]) fun x5 =>
  (f50_0 rc x0 x1 x5 x12 x13 h))
  (some ⟨0, [], h⟩)) 1000000 [x0, x1, x12, x13] h)
  fun j vs h => nsw j (bndV (kMov [(.bool true)]) fun x4 =>
  ret1 x4 h)
  fun j => unc vs fun x4 vs =>
  ret1 x4 h
noncomputable def f50 (vs : List V) (h : HT) : Option J := unc vs fun x0 vs =>
  unc vs fun x1 vs =>
  bndV (kMov [(.bool false)]) fun x4 =>
  bndV (kMov [x0]) fun x6 =>
  bndV (kLenS [x6]) fun x7 =>
  bndV (kMov [x1]) fun x8 =>
  bndV (kLenS [x8]) fun x9 =>
  bndV (kBin .neq [x7, x9]) fun x10 =>
  tstv x10 (bndV (kMov [(.bool false)]) fun x4 =>
  ret1 x4 h)
  (bndV (kMov [x0]) fun x11 =>
  bndV (kLenS [x11]) fun x12 =>
  bndV (kMov [(.int .i64 (.ofNat (nat_lit 0)))]) fun x13 =>
  (f50_1 x0 x1 x12 x13 h))
def a50 : List Ann := [.no, .no, .loop [0, 1, 12, 13] [((.exit 0), []), (.ret, [4])], .no, .no, .no]
theorem e50 : f50 = evFun Tryz.prog 50 2 a50 t50 := by kernel_rfl
theorem o50 : FnOk Tryz.prog 50 f50 := .of hmO (show enters Tryz.prog 50 = true by kernel_rfl) e50 (.nil)

/- concord/state.same -/
noncomputable def l49 : List (Nat × (List V → HT → Option J)) := [(50, f50)]
noncomputable def t49 : Fns := tab l49
noncomputable def f49_0 (x2 : V) (x3 : V) (x24 : V) (h : HT) : Option J := bndC (gsel x24 true (retV (kFa 3 [x2]) h) h) fun x25 h =>
  bndC (gsel x24 true (retV (qLd h none [x25]) h) h) fun x26 h =>
  bndC (gsel x24 true (retV (kFa 3 [x3]) h) h) fun x27 h =>
  bndC (gsel x24 true (retV (qLd h none [x27]) h) h) fun x28 h =>
  bndC (gsel x24 true (retV (kBin .eql [x26, x28]) h) h) fun x29 h =>
  bndV (kPick [x24, x29, (.bool false)]) fun x30 =>
  bndV (kMov [x30]) fun x31 =>
  bndC (gsel x31 true (retV (kFa 4 [x2]) h) h) fun x32 h =>
  bndC (gsel x31 true (retV (qLd h none [x32]) h) h) fun x33 h =>
  bndC (gsel x31 true (retV (kFa 4 [x3]) h) h) fun x34 h =>
  bndC (gsel x31 true (retV (qLd h none [x34]) h) h) fun x35 h =>
  bndC (gsel x31 true (f50 [x33, x35] h) h) fun x36 h =>
  bndV (kPick [x31, x36, (.bool false)]) fun x37 =>
  bndV (kMov [x37]) fun x4 =>
  ret1 x4 h
noncomputable def f49_1 (x2 : V) (x3 : V) (x10 : V) (h : HT) : Option J := bndC (gsel x10 true (retV (kFa 1 [x2]) h) h) fun x11 h =>
  bndC (gsel x10 true (retV (qLd h none [x11]) h) h) fun x12 h =>
  bndC (gsel x10 true (retV (kFa 1 [x3]) h) h) fun x13 h =>
  bndC (gsel x10 true (retV (qLd h none [x13]) h) h) fun x14 h =>
  bndC (gsel x10 true (retV (kEqB false [x12, x14]) h) h) fun x15 h =>
  bndV (kPick [x10, x15, (.bool false)]) fun x16 =>
  bndV (kMov [x16]) fun x17 =>
  bndC (gsel x17 true (retV (kFa 2 [x2]) h) h) fun x18 h =>
  bndC (gsel x17 true (retV (qLd h none [x18]) h) h) fun x19 h =>
  bndC (gsel x17 true (retV (kFa 2 [x3]) h) h) fun x20 h =>
  bndC (gsel x17 true (retV (qLd h none [x20]) h) h) fun x21 h =>
  bndC (gsel x17 true (retV (kBin .eql [x19, x21]) h) h) fun x22 h =>
  bndV (kPick [x17, x22, (.bool false)]) fun x23 =>
  bndV (kMov [x23]) fun x24 =>
  (f49_0 x2 x3 x24 h)
noncomputable def f49 (vs : List V) (h : HT) : Option J := unc vs fun x0 vs =>
  unc vs fun x1 vs =>
  bndN (kBox [x0]) h fun x2 h =>
  bndN (kBox [x1]) h fun x3 h =>
  bndV (kMov [(.bool false)]) fun x4 =>
  bndV (kFa 0 [x2]) fun x5 =>
  bndV (qLd h none [x5]) fun x6 =>
  bndV (kFa 0 [x3]) fun x7 =>
  bndV (qLd h none [x7]) fun x8 =>
  bndV (kBin .eql [x6, x8]) fun x9 =>
  bndV (kMov [x9]) fun x10 =>
  (f49_1 x2 x3 x10 h)
def a49 : List Ann := []
theorem e49 : f49 = evFun Tryz.prog 49 2 a49 t49 := by kernel_rfl
theorem o49 : FnOk Tryz.prog 49 f49 := .of hmO (show enters Tryz.prog 49 = true by kernel_rfl) e49 (.cons o50 (.nil))

/- concord/state.Same -/
noncomputable def l15 : List (Nat × (List V → HT → Option J)) := [(49, f49), (50, f50)]
noncomputable def t15 : Fns := tab l15
noncomputable def f15_0 (rc : List V → HT → Option J) (x2 : V) (x3 : V) (x5 : V) (x8 : V) (x9 : V) (x21 : V) (x22 : V) (h : HT) : Option J := bndC (gsel x21 false (retV (qLd h (some 5) [x22]) h) h) fun x23 h =>
  bndC (gsel x21 false (retV (kMov [x5]) h) h) fun x24 h =>
  bndC (gsel x21 false (retV (kFa 1 [x3]) h) h) fun x25 h =>
  bndC (gsel x21 false (retV (kIaA 8 6 [x25, x24]) h) h) fun x26 h =>
  bndC (gsel x21 false (retV (kFa 1 [x26]) h) h) fun x27 h =>
  bndC (gsel x21 false (retV (qLd h (some 5) [x27]) h) h) fun x28 h =>
  bndC (gsel x21 false (f49 [x23, x28] h) h) fun x29 h =>
  bndC (gsel x21 false (retV (kUn .not [x29]) h) h) fun x30 h =>
  bndV (kPick [x21, (.bool true), x30]) fun x31 =>
  tstv x31 (bndV (kMov [(.bool false)]) fun x4 =>
  some ⟨1, [x4], h⟩)
  (bndV (kBin .add [x9, (.int .i64 (.ofNat (nat_lit 1)))]) fun x32 =>
  bndV (kMov [x32]) fun x9 =>
  rc [x2, x3, x8, x9] h)
noncomputable def f15_1 (rc : List V → HT → Option J) (x2 : V) (x3 : V) (x8 : V) (x9 : V) (x11 : V) (h : HT) : Option J := bndV (kIxA 8 6 true [x8, x9]) fun x12 =>
  bndN (kAlloc [(.int .i64 (.ofNat (nat_lit 0))), (.int .i64 (.ofNat (nat_lit 0))), (.bool false), (.str (sb [])), (.int .i64 (.ofNat (nat_lit 0))), (.slice none 0 true 0)] []) h fun x6 h =>
  bndV (kMov [x11]) fun x5 =>
  bndE (dSt h 6 [x6, x12]) h fun _ h =>
  bndV (kFa 0 [x6]) fun x13 =>
  bndV (qLd h none [x13]) fun x14 =>
  bndV (kMov [x5]) fun x15 =>
  bndV (kFa 1 [x3]) fun x16 =>
  bndV (kIaA 8 6 [x16, x15]) fun x17 =>
  bndV (kFa 0 [x17]) fun x18 =>
  bndV (qLd h none [x18]) fun x19 =>
  bndV (kBin .neq [x14, x19]) fun x20 =>
  bndV (kMov [x20]) fun x21 =>
  bndC (gsel x21 false (retV (kFa 1 [x6]) h) h) fun x22 h =>
  (f15_0 rc x2 x3 x5 x8 x9 x21 x22 h)
noncomputable def f15_2 (x2 : V) (x3 : V) (x8 : V) (x9 : V) (h : HT) : Option J := bndJ (loopF (fun rc vs h => unc vs fun x2 vs =>
  unc vs fun x3 vs =>
  unc vs fun x8 vs =>
  unc vs fun x9 vs =>
  bndV (kBin .lss [x9, (.int .i64 (.ofNat (nat_lit 8)))]) fun x10 =>
  tstv x10 (bndV (kMov [x9]) fun x11 =>
  (f15_1 rc x2 x3 x8 x9 x11 h))
  (some ⟨0, [x2, x3], h⟩)) 1000000 [x2, x3, x8, x9] h)
  fun j vs h => nsw j (unc vs fun x2 vs =>
  unc vs fun x3 vs =>
  bndV (kFa 0 [x2]) fun x33 =>
  bndV (qLd h none [x33]) fun x34 =>
  bndV (kFa 0 [x3]) fun x35 =>
  bndV (qLd h none [x35]) fun x36 =>
  bndC (f50 [x34, x36] h) fun x37 h =>
  bndV (kMov [x37]) fun x4 =>
  ret1 x4 h)
  fun j => unc vs fun x4 vs =>
  ret1 x4 h
noncomputable def f15 (vs : List V) (h : HT) : Option J := unc vs fun x0 vs =>
  unc vs fun x1 vs =>
  bndN (kBox [x0]) h fun x2 h =>
  bndN (kBox [x1]) h fun x3 h =>
  bndV (kMov [(.bool false)]) fun x4 =>
  bndV (kFa 1 [x2]) fun x7 =>
  bndV (qLd h (some 48) [x7]) fun x8 =>
  bndV (kMov [(.int .i64 (.ofNat (nat_lit 0)))]) fun x9 =>
  (f15_2 x2 x3 x8 x9 h)
def a15 : List Ann := [.no, .loop [2, 3, 8, 9] [((.exit 0), [2, 3]), (.ret, [4])], .no, .no, .no]
theorem e15 : f15 = evFun Tryz.prog 15 2 a15 t15 := by kernel_rfl
theorem o15 : FnOk Tryz.prog 15 f15 := .of hmO (show enters Tryz.prog 15 = true by kernel_rfl) e15 (.cons o49 (.cons o50 (.nil)))

/- concord/state.Play -/
noncomputable def l51 : List (Nat × (List V → HT → Option J)) := [(139, f139)]
noncomputable def t51 : Fns := tab l51
noncomputable def f51_0 (rc : List V → HT → Option J) (x2 : V) (x4 : V) (x6 : V) (x8 : V) (x9 : V) (x12 : V) (x13 : V) (x14 : V) (x19 : V) (h : HT) : Option J := bndV (qLd h (some 7) [x8]) fun x20 =>
  bndC (noF [x19, x20] h) fun x21 h =>
  bndV (kMov [x21]) fun x18 =>
  bndV (kExt 0 [x18]) fun x22 =>
  bndV (kExt 1 [x18]) fun x23 =>
  bndE (dSt h 49 [x2, x22]) h fun _ h =>
  bndE (dSt h 5 [x9, x23]) h fun _ h =>
  bndV (kMov [x6]) fun x24 =>
  bndV (qLd h (some 5) [x9]) fun x25 =>
  bndN (kBsl 5 1 [(.int .i64 (.ofNat (nat_lit 0))), (.bool false), (.str (sb [])), (.int .i64 (.ofNat (nat_lit 0))), (.slice none 0 true 0)] [(0, 5)] [x25]) h fun x26 h =>
  bndE (dApp h 5 64 [x24, x26]) h fun x27 h =>
  bndV (kMov [x27]) fun x6 =>
  bndV (kBin .add [x14, (.int .i64 (.ofNat (nat_lit 1)))]) fun x28 =>
  bndV (kMov [x28]) fun x14 =>
  rc [x2, x4, x6, x12, x13, x14] h
noncomputable def f51_1 (rc : List V → HT → Option J) (x2 : V) (vs : List V) (h : HT) : Option J := unc vs fun x4 vs =>
  unc vs fun x6 vs =>
  unc vs fun x12 vs =>
  unc vs fun x13 vs =>
  unc vs fun x14 vs =>
  bndV (kBin .lss [x14, x13]) fun x15 =>
  tstv x15 (bndV (kIaS 7 [x12, x14]) fun x16 =>
  bndV (qLd h (some 7) [x16]) fun x17 =>
  bndN (kAlloc [(.int .i64 (.ofNat (nat_lit 0))), (.int .i64 (.ofNat (nat_lit 0))), (.int .i64 (.ofNat (nat_lit 0))), (.str (sb [])), (.str (sb [])), (.str (sb [])), (.str (sb []))] []) h fun x8 h =>
  bndE (dSt h 7 [x8, x17]) h fun _ h =>
  bndN (kAlloc [(.int .i64 (.ofNat (nat_lit 0))), (.bool false), (.str (sb [])), (.int .i64 (.ofNat (nat_lit 0))), (.slice none 0 true 0)] []) h fun x9 h =>
  bndV (qLd h (some 49) [x2]) fun x19 =>
  (f51_0 rc x2 x4 x6 x8 x9 x12 x13 x14 x19 h))
  (some ⟨0, [x2, x4, x6], h⟩)
noncomputable def f51_2 (x2 : V) (x4 : V) (x6 : V) (x12 : V) (h : HT) : Option J := bndV (kLenS [x12]) fun x13 =>
  bndV (kMov [(.int .i64 (.ofNat (nat_lit 0)))]) fun x14 =>
  bndJ (loopF (fun rc vs h => unc vs fun x2 vs =>
  (f51_1 rc x2 vs h)) 1000000 [x2, x4, x6, x12, x13, x14] h)
  fun j vs h => unc vs fun x2 vs =>
  unc vs fun x4 vs =>
  unc vs fun x6 vs =>
  bndV (qLd h (some 49) [x2]) fun x29 =>
  bndV (kMov [x6]) fun x30 =>
  bndE (dSt h 49 [x4, x29]) h fun _ h =>
  bndV (kMov [x30]) fun x5 =>
  bndV (qLd h (some 49) [x4]) fun x900000 =>
  ret1 (.tuple [x900000, x5]) h
noncomputable def f51 (vs : List V) (h : HT) : Option J := unc vs fun x0 vs =>
  unc vs fun x1 vs =>
  bndN (kBox [x0]) h fun x2 h =>
  bndN (kAlloc [(.slice none 0 true 0), (.int .i64 (.ofNat (nat_lit 0))), (.int .i64 (.ofNat (nat_lit 0))), (.bool false), (.str (sb [])), (.int .i64 (.ofNat (nat_lit 0))), (.slice none 0 true 0), (.int .i64 (.ofNat (nat_lit 0))), (.int .i64 (.ofNat (nat_lit 0))), (.bool false), (.str (sb [])), (.int .i64 (.ofNat (nat_lit 0))), (.slice none 0 true 0), (.int .i64 (.ofNat (nat_lit 0))), (.int .i64 (.ofNat (nat_lit 0))), (.bool false), (.str (sb [])), (.int .i64 (.ofNat (nat_lit 0))), (.slice none 0 true 0), (.int .i64 (.ofNat (nat_lit 0))), (.int .i64 (.ofNat (nat_lit 0))), (.bool false), (.str (sb [])), (.int .i64 (.ofNat (nat_lit 0))), (.slice none 0 true 0), (.int .i64 (.ofNat (nat_lit 0))), (.int .i64 (.ofNat (nat_lit 0))), (.bool false), (.str (sb [])), (.int .i64 (.ofNat (nat_lit 0))), (.slice none 0 true 0), (.int .i64 (.ofNat (nat_lit 0))), (.int .i64 (.ofNat (nat_lit 0))), (.bool false), (.str (sb [])), (.int .i64 (.ofNat (nat_lit 0))), (.slice none 0 true 0), (.int .i64 (.ofNat (nat_lit 0))), (.int .i64 (.ofNat (nat_lit 0))), (.bool false), (.str (sb [])), (.int .i64 (.ofNat (nat_lit 0))), (.slice none 0 true 0), (.int .i64 (.ofNat (nat_lit 0))), (.int .i64 (.ofNat (nat_lit 0))), (.bool false), (.str (sb [])), (.int .i64 (.ofNat (nat_lit 0))), (.slice none 0 true 0)] []) h fun x4 h =>
  bndV (kMov [(.slice none 0 true 0)]) fun x5 =>
  bndV (qLd h (some 49) [x2]) fun x10 =>
  bndC (f139 [x10] h) fun x11 h =>
  bndE (dSt h 49 [x2, x11]) h fun _ h =>
  bndV (kMov [(.slice none 0 true 0)]) fun x6 =>
  bndV (kMov [x1]) fun x12 =>
  (f51_2 x2 x4 x6 x12 h)
def a51 : List Ann := [.no, .loop [2, 4, 6, 12, 13, 14] [((.exit 0), [2, 4, 6])], .no, .no]
theorem e51 : f51 = evFun Tryz.prog 51 2 a51 t51 := by kernel_rfl
theorem o51 : FnOk Tryz.prog 51 f51 := .of hmO (show enters Tryz.prog 51 = true by kernel_rfl) e51 (.cons o139 (.nil))

/- (*concord/node.Node).State -/
noncomputable def l16 : List (Nat × (List V → HT → Option J)) := [(51, f51)]
noncomputable def t16 : Fns := tab l16
noncomputable def f16_0 (x0 : V) (x2 : V) (h : HT) : Option J := bndV (kMov [x0]) fun x6 =>
  bndV (kNilc [x6]) fun x7 =>
  bndV (kFa 6 [x7]) fun x8 =>
  bndV (qLd h (some 49) [x8]) fun x9 =>
  bndC (f51 [x9, (.slice none 0 true 0)] h) fun x10 h =>
  bndV (kMov [x10]) fun x5 =>
  bndV (kExt 0 [x5]) fun x11 =>
  bndV (kExt 1 [x5]) fun x12 =>
  bndN (kAlloc [(.slice none 0 true 0), (.int .i64 (.ofNat (nat_lit 0))), (.int .i64 (.ofNat (nat_lit 0))), (.bool false), (.str (sb [])), (.int .i64 (.ofNat (nat_lit 0))), (.slice none 0 true 0), (.int .i64 (.ofNat (nat_lit 0))), (.int .i64 (.ofNat (nat_lit 0))), (.bool false), (.str (sb [])), (.int .i64 (.ofNat (nat_lit 0))), (.slice none 0 true 0), (.int .i64 (.ofNat (nat_lit 0))), (.int .i64 (.ofNat (nat_lit 0))), (.bool false), (.str (sb [])), (.int .i64 (.ofNat (nat_lit 0))), (.slice none 0 true 0), (.int .i64 (.ofNat (nat_lit 0))), (.int .i64 (.ofNat (nat_lit 0))), (.bool false), (.str (sb [])), (.int .i64 (.ofNat (nat_lit 0))), (.slice none 0 true 0), (.int .i64 (.ofNat (nat_lit 0))), (.int .i64 (.ofNat (nat_lit 0))), (.bool false), (.str (sb [])), (.int .i64 (.ofNat (nat_lit 0))), (.slice none 0 true 0), (.int .i64 (.ofNat (nat_lit 0))), (.int .i64 (.ofNat (nat_lit 0))), (.bool false), (.str (sb [])), (.int .i64 (.ofNat (nat_lit 0))), (.slice none 0 true 0), (.int .i64 (.ofNat (nat_lit 0))), (.int .i64 (.ofNat (nat_lit 0))), (.bool false), (.str (sb [])), (.int .i64 (.ofNat (nat_lit 0))), (.slice none 0 true 0), (.int .i64 (.ofNat (nat_lit 0))), (.int .i64 (.ofNat (nat_lit 0))), (.bool false), (.str (sb [])), (.int .i64 (.ofNat (nat_lit 0))), (.slice none 0 true 0)] []) h fun x3 h =>
  bndE (dSt h 49 [x3, x11]) h fun _ h =>
  bndV (kMov [x12]) fun x4 =>
  bndV (qLd h (some 49) [x3]) fun x13 =>
  bndE (dSt h 49 [x2, x13]) h fun _ h =>
  bndV (qLd h (some 49) [x2]) fun x900000 =>
  ret1 x900000 h
noncomputable def f16 (vs : List V) (h : HT) : Option J := unc vs fun x0 vs =>
  bndN (kAlloc [(.slice none 0 true 0), (.int .i64 (.ofNat (nat_lit 0))), (.int .i64 (.ofNat (nat_lit 0))), (.bool false), (.str (sb [])), (.int .i64 (.ofNat (nat_lit 0))), (.slice none 0 true 0), (.int .i64 (.ofNat (nat_lit 0))), (.int .i64 (.ofNat (nat_lit 0))), (.bool false), (.str (sb [])), (.int .i64 (.ofNat (nat_lit 0))), (.slice none 0 true 0), (.int .i64 (.ofNat (nat_lit 0))), (.int .i64 (.ofNat (nat_lit 0))), (.bool false), (.str (sb [])), (.int .i64 (.ofNat (nat_lit 0))), (.slice none 0 true 0), (.int .i64 (.ofNat (nat_lit 0))), (.int .i64 (.ofNat (nat_lit 0))), (.bool false), (.str (sb [])), (.int .i64 (.ofNat (nat_lit 0))), (.slice none 0 true 0), (.int .i64 (.ofNat (nat_lit 0))), (.int .i64 (.ofNat (nat_lit 0))), (.bool false), (.str (sb [])), (.int .i64 (.ofNat (nat_lit 0))), (.slice none 0 true 0), (.int .i64 (.ofNat (nat_lit 0))), (.int .i64 (.ofNat (nat_lit 0))), (.bool false), (.str (sb [])), (.int .i64 (.ofNat (nat_lit 0))), (.slice none 0 true 0), (.int .i64 (.ofNat (nat_lit 0))), (.int .i64 (.ofNat (nat_lit 0))), (.bool false), (.str (sb [])), (.int .i64 (.ofNat (nat_lit 0))), (.slice none 0 true 0), (.int .i64 (.ofNat (nat_lit 0))), (.int .i64 (.ofNat (nat_lit 0))), (.bool false), (.str (sb [])), (.int .i64 (.ofNat (nat_lit 0))), (.slice none 0 true 0)] []) h fun x2 h =>
  (f16_0 x0 x2 h)
def a16 : List Ann := []
theorem e16 : f16 = evFun Tryz.prog 16 1 a16 t16 := by kernel_rfl
theorem o16 : FnOk Tryz.prog 16 f16 := .of hmO (show enters Tryz.prog 16 = true by kernel_rfl) e16 (.cons o51 (.nil))

/- concord/concordlaw23.NodeRuns -/
noncomputable def l3 : List (Nat × (List V → HT → Option J)) := [(8, f8), (9, f9), (10, f10), (11, f11), (12, f12), (13, f13), (14, f14), (15, f15), (16, f16)]
noncomputable def t3 : Fns := tab l3
noncomputable def f3_0 (rc : List V → HT → Option J) (x1 : V) (x2 : V) (x3 : V) (x4 : V) (x6 : V) (x36 : V) (h : HT) : Option J := tstv x36 (bndV (kMov [(.bool false)]) fun x0 =>
  some ⟨1, [x0], h⟩)
  (bndV (kMov [x1]) fun x37 =>
  bndV (kMov [x6]) fun x38 =>
  bndN (kBsl 1 1 [(.ptr none)] [(0, 1)] [x38]) h fun x39 h =>
  bndE (dApp h 1 8 [x37, x39]) h fun x40 h =>
  bndV (kMov [x2]) fun x41 =>
  bndV (kMov [x4]) fun x42 =>
  bndN (kBsl 1 1 [(.ptr none)] [(0, 1)] [x42]) h fun x43 h =>
  bndE (dApp h 1 8 [x41, x43]) h fun x44 h =>
  bndV (kMov [x40]) fun x1 =>
  bndV (kMov [x44]) fun x2 =>
  bndV (kMov [x3]) fun x19 =>
  bndV (kBin .add [x19, (.int .i64 (.ofNat (nat_lit 1)))]) fun x20 =>
  bndV (kMov [x20]) fun x3 =>
  rc [x1, x2, x3] h)
noncomputable def f3_1 (rc : List V → HT → Option J) (x1 : V) (x2 : V) (x3 : V) (x4 : V) (h : HT) : Option J := bndV (kMov [x3]) fun x26 =>
  bndV (kMov [x4]) fun x27 =>
  bndC (f9 [(.int .i64 (.ofNat (nat_lit 3))), x26, x27] h) fun x28 h =>
  bndV (kMov [x28]) fun x25 =>
  bndV (kExt 0 [x25]) fun x29 =>
  bndV (kExt 1 [x25]) fun x30 =>
  bndV (kMov [x29]) fun x6 =>
  bndV (kMov [x30]) fun x7 =>
  bndV (kMov [x6]) fun x31 =>
  bndV (kEqN false [x31, (.ptr none)]) fun x32 =>
  bndV (kMov [x32]) fun x33 =>
  bndC (gsel x33 false (retV (kMov [x7]) h) h) fun x34 h =>
  bndC (gsel x33 false (retV (kBin .neq [x34, (.int .i64 (.ofNat (nat_lit 0)))]) h) h) fun x35 h =>
  bndV (kPick [x33, (.bool true), x35]) fun x36 =>
  (f3_0 rc x1 x2 x3 x4 x6 x36 h)
noncomputable def f3_2 (x1 : V) (x2 : V) (x3 : V) (h : HT) : Option J := loopF (fun rc vs h => unc vs fun x1 vs =>
  unc vs fun x2 vs =>
  unc vs fun x3 vs =>
  bndV (kMov [x3]) fun x17 =>
  bndV (kBin .lss [x17, (.int .i64 (.ofNat (nat_lit 3)))]) fun x18 =>
  tstv x18 (bndC (f8 [(.int .i64 (.ofNat (nat_lit 65536)))] h) fun x22 h =>
  bndV (kMov [x22]) fun x21 =>
  bndV (kExt 0 [x21]) fun x23 =>
  bndV (kExt 1 [x21]) fun x24 =>
  bndV (kMov [x23]) fun x4 =>
  bndV (kMov [x24]) fun x5 =>
  (f3_1 rc x1 x2 x3 x4 h))
  (some ⟨0, [x1, x2], h⟩)) 1000000 [x1, x2, x3] h
noncomputable def f3_3 (rc : List V → HT → Option J) (x1 : V) (x2 : V) (x8 : V) (x9 : V) (x10 : V) (x11 : V) (x13 : V) (x77 : V) (x78 : V) (h : HT) : Option J := bndV (kMov [x13]) fun x79 =>
  bndV (kIaS 51 [x78, x79]) fun x80 =>
  bndV (kFa 2 [x80]) fun x81 =>
  bndV (qLd h none [x81]) fun x82 =>
  bndV (kIaS 1 [x77, x82]) fun x83 =>
  bndV (qLd h none [x83]) fun x84 =>
  bndV (kMov [x11]) fun x85 =>
  bndV (kMov [x13]) fun x86 =>
  bndV (kIaS 51 [x85, x86]) fun x87 =>
  bndV (qLd h (some 51) [x87]) fun x88 =>
  bndC (f13 [x84, x88] h) fun x89 h =>
  bndV (kMov [x13]) fun x75 =>
  bndV (kBin .add [x75, (.int .i64 (.ofNat (nat_lit 1)))]) fun x76 =>
  bndV (kMov [x76]) fun x13 =>
  rc [x1, x2, x8, x9, x10, x11, x13] h
noncomputable def f3_4 (rc : List V → HT → Option J) (x1 : V) (vs : List V) (h : HT) : Option J := unc vs fun x2 vs =>
  unc vs fun x8 vs =>
  unc vs fun x9 vs =>
  unc vs fun x10 vs =>
  unc vs fun x11 vs =>
  unc vs fun x13 vs =>
  bndV (kMov [x13]) fun x71 =>
  bndV (kMov [x11]) fun x72 =>
  bndV (kLenS [x72]) fun x73 =>
  bndV (kBin .lss [x71, x73]) fun x74 =>
  tstv x74 (bndV (kMov [x1]) fun x77 =>
  bndV (kMov [x11]) fun x78 =>
  (f3_3 rc x1 x2 x8 x9 x10 x11 x13 x77 x78 h))
  (some ⟨0, [x1, x2, x8, x9, x10], h⟩)
noncomputable def f3_5 (rc : List V → HT → Option J) (x1 : V) (x2 : V) (x9 : V) (x10 : V) (x11 : V) (x70 : V) (h : HT) : Option J := bndV (kMov [x70]) fun x8 =>
  bndV (kMov [(.int .i64 (.ofNat (nat_lit 0)))]) fun x13 =>
  bndJ (loopF (fun rc vs h => unc vs fun x1 vs =>
  (f3_4 rc x1 vs h)) 1000000 [x1, x2, x8, x9, x10, x11, x13] h)
  fun j vs h => unc vs fun x1 vs =>
  unc vs fun x2 vs =>
  unc vs fun x8 vs =>
  unc vs fun x9 vs =>
  unc vs fun x10 vs =>
  bndV (kMov [x10]) fun x57 =>
  bndV (kBin .add [x57, (.int .i64 (.ofNat (nat_lit 1)))]) fun x58 =>
  bndV (kMov [x58]) fun x10 =>
  rc [x1, x2, x8, x9, x10] h
noncomputable def f3_6 (rc : List V → HT → Option J) (x1 : V) (x2 : V) (x8 : V) (x9 : V) (x10 : V) (h : HT) : Option J := bndV (kMov [x1]) fun x60 =>
  bndV (kMov [x10]) fun x61 =>
  bndV (kIaS 1 [x60, x61]) fun x62 =>
  bndV (qLd h none [x62]) fun x63 =>
  bndC (f12 [x63] h) fun x64 h =>
  bndV (kMov [x64]) fun x59 =>
  bndV (kExt 0 [x59]) fun x65 =>
  bndV (kExt 1 [x59]) fun x66 =>
  bndV (kMov [x65]) fun x11 =>
  bndV (kMov [x66]) fun x12 =>
  bndV (kMov [x8]) fun x67 =>
  bndV (kMov [x12]) fun x68 =>
  bndV (kLenS [x68]) fun x69 =>
  bndV (kBin .add [x67, x69]) fun x70 =>
  (f3_5 rc x1 x2 x9 x10 x11 x70 h)
noncomputable def f3_7 (rc : List V → HT → Option J) (x1 : V) (x2 : V) (x8 : V) (x9 : V) (x10 : V) (h : HT) : Option J := bndJ (loopF (fun rc vs h => unc vs fun x1 vs =>
  unc vs fun x2 vs =>
  unc vs fun x8 vs =>
  unc vs fun x9 vs =>
  unc vs fun x10 vs =>
  bndV (kMov [x10]) fun x55 =>
  bndV (kBin .lss [x55, (.int .i64 (.ofNat (nat_lit 3)))]) fun x56 =>
  tstv x56 ((f3_6 rc x1 x2 x8 x9 x10 h))
  (some ⟨0, [x1, x2, x8, x9], h⟩)) 1000000 [x1, x2, x8, x9, x10] h)
  fun j vs h => unc vs fun x1 vs =>
  unc vs fun x2 vs =>
  unc vs fun x8 vs =>
  unc vs fun x9 vs =>
  bndV (kMov [x9]) fun x53 =>
  bndV (kBin .add [x53, (.int .i64 (.ofNat (nat_lit 1)))]) fun x54 =>
  bndV (kMov [x54]) fun x9 =>
  rc [x1, x2, x8, x9] h
noncomputable def f3_8 (x15 : V) (x138 : V) (x139 : V) (x142 : V) (h : HT) : Option J := bndC (gsel x138 true (retV (qLd h none [x142]) h) h) fun x143 h =>
  bndC (gsel x138 true (f16 [x139] h) h) fun x140 h =>
  chk1 (gchk x138 true (sameE (qLd h none [x142]) x143)) (bndC (gsel x138 true (f16 [x143] h) h) fun x144 h =>
  bndC (gsel x138 true (f15 [x140, x144] h) h) fun x145 h =>
  bndV (kPick [x138, x145, (.bool false)]) fun x146 =>
  bndV (kMov [x146]) fun x147 =>
  bndC (gsel x147 true (retV (kMov [x15]) h) h) fun x148 h =>
  bndC (gsel x147 true (f16 [x148] h) h) fun x149 h =>
  bndC (gsel x147 true (retV (kFld 0 1 false [x149]) h) h) fun x150 h =>
  bndC (gsel x147 true (retV (kLenS [x150]) h) h) fun x151 h =>
  bndC (gsel x147 true (retV (kBin .eql [x151, (.int .i64 (.ofNat (nat_lit 1)))]) h) h) fun x152 h =>
  bndV (kPick [x147, x152, (.bool false)]) fun x153 =>
  bndV (kMov [x153]) fun x0 =>
  ret1 x0 h)
noncomputable def f3_9 (x1 : V) (x14 : V) (x15 : V) (x16 : V) (x128 : V) (h : HT) : Option J := bndC (gsel x128 true (retV (kMov [x16]) h) h) fun x129 h =>
  bndC (gsel x128 true (retV (kBin .eql [x129, (.int .i64 (.ofNat (nat_lit 0)))]) h) h) fun x130 h =>
  bndV (kPick [x128, x130, (.bool false)]) fun x131 =>
  bndV (kMov [x131]) fun x132 =>
  bndC (gsel x132 true (retV (kMov [x15]) h) h) fun x133 h =>
  bndC (gsel x132 true (retV (qLd h (some 7) [x14]) h) h) fun x135 h =>
  bndC (gsel x132 true (f14 [x133] h) h) fun x134 h =>
  chk1 (gchk x132 true (sameE (qLd h (some 7) [x14]) x135)) (bndC (gsel x132 true (retV (kEqF false [.i, .i, .i, .i, .i, .i, .i] [x134, x135]) h) h) fun x136 h =>
  bndV (kPick [x132, x136, (.bool false)]) fun x137 =>
  bndV (kMov [x137]) fun x138 =>
  bndC (gsel x138 true (retV (kMov [x15]) h) h) fun x139 h =>
  bndC (gsel x138 true (retV (kMov [x1]) h) h) fun x141 h =>
  bndC (gsel x138 true (retV (kIaS 1 [x141, (.int .i64 (.ofNat (nat_lit 0)))]) h) h) fun x142 h =>
  (f3_8 x15 x138 x139 x142 h))
noncomputable def f3_10 (x1 : V) (x14 : V) (x15 : V) (x16 : V) (x115 : V) (h : HT) : Option J := bndV (kMov [x115]) fun x116 =>
  bndC (gsel x116 true (retV (kMov [x1]) h) h) fun x117 h =>
  bndC (gsel x116 true (retV (kIaS 1 [x117, (.int .i64 (.ofNat (nat_lit 2)))]) h) h) fun x118 h =>
  bndC (gsel x116 true (retV (qLd h none [x118]) h) h) fun x119 h =>
  bndC (gsel x116 true (retV (qLd h (some 7) [x14]) h) h) fun x121 h =>
  bndC (gsel x116 true (f14 [x119] h) h) fun x120 h =>
  chk1 (gchk x116 true (sameE (qLd h (some 7) [x14]) x121)) (bndC (gsel x116 true (retV (kEqF false [.i, .i, .i, .i, .i, .i, .i] [x120, x121]) h) h) fun x122 h =>
  bndV (kPick [x116, x122, (.bool false)]) fun x123 =>
  bndV (kMov [x123]) fun x124 =>
  bndC (gsel x124 true (retV (kMov [x15]) h) h) fun x125 h =>
  bndC (gsel x124 true (retV (kEqN true [x125, (.ptr none)]) h) h) fun x126 h =>
  bndV (kPick [x124, x126, (.bool false)]) fun x127 =>
  bndV (kMov [x127]) fun x128 =>
  (f3_9 x1 x14 x15 x16 x128 h))
noncomputable def f3_11 (x1 : V) (x14 : V) (x15 : V) (x16 : V) (x100 : V) (x103 : V) (h : HT) : Option J := bndC (gsel x100 true (retV (qLd h (some 7) [x14]) h) h) fun x105 h =>
  bndC (gsel x100 true (f14 [x103] h) h) fun x104 h =>
  chk1 (gchk x100 true (sameE (qLd h (some 7) [x14]) x105)) (bndC (gsel x100 true (retV (kEqF false [.i, .i, .i, .i, .i, .i, .i] [x104, x105]) h) h) fun x106 h =>
  bndV (kPick [x100, x106, (.bool false)]) fun x107 =>
  bndV (kMov [x107]) fun x108 =>
  bndC (gsel x108 true (retV (kMov [x1]) h) h) fun x109 h =>
  bndC (gsel x108 true (retV (kIaS 1 [x109, (.int .i64 (.ofNat (nat_lit 1)))]) h) h) fun x110 h =>
  bndC (gsel x108 true (retV (qLd h none [x110]) h) h) fun x111 h =>
  bndC (gsel x108 true (retV (qLd h (some 7) [x14]) h) h) fun x113 h =>
  bndC (gsel x108 true (f14 [x111] h) h) fun x112 h =>
  chk1 (gchk x108 true (sameE (qLd h (some 7) [x14]) x113)) (bndC (gsel x108 true (retV (kEqF false [.i, .i, .i, .i, .i, .i, .i] [x112, x113]) h) h) fun x114 h =>
  bndV (kPick [x108, x114, (.bool false)]) fun x115 =>
  (f3_10 x1 x14 x15 x16 x115 h)))
noncomputable def f3_12 (x1 : V) (x8 : V) (x14 : V) (x92 : V) (h : HT) : Option J := bndV (kIaS 1 [x92, (.int .i64 (.ofNat (nat_lit 0)))]) fun x93 =>
  bndV (qLd h none [x93]) fun x94 =>
  bndC (f9 [(.int .i64 (.ofNat (nat_lit 3))), (.int .i64 (.ofNat (nat_lit 0))), x94] h) fun x95 h =>
  bndV (kMov [x95]) fun x91 =>
  bndV (kExt 0 [x91]) fun x96 =>
  bndV (kExt 1 [x91]) fun x97 =>
  bndV (kMov [x96]) fun x15 =>
  bndV (kMov [x97]) fun x16 =>
  bndV (kMov [x8]) fun x98 =>
  bndV (kBin .eql [x98, (.int .i64 (.ofNat (nat_lit 1)))]) fun x99 =>
  bndV (kMov [x99]) fun x100 =>
  bndC (gsel x100 true (retV (kMov [x1]) h) h) fun x101 h =>
  bndC (gsel x100 true (retV (kIaS 1 [x101, (.int .i64 (.ofNat (nat_lit 0)))]) h) h) fun x102 h =>
  bndC (gsel x100 true (retV (qLd h none [x102]) h) h) fun x103 h =>
  (f3_11 x1 x14 x15 x16 x100 x103 h)
noncomputable def f3_13 (x1 : V) (x2 : V) (x8 : V) (x9 : V) (h : HT) : Option J := bndJ (loopF (fun rc vs h => unc vs fun x1 vs =>
  unc vs fun x2 vs =>
  unc vs fun x8 vs =>
  unc vs fun x9 vs =>
  bndV (kMov [x9]) fun x51 =>
  bndV (kBin .lss [x51, (.int .i64 (.ofNat (nat_lit 10)))]) fun x52 =>
  tstv x52 (bndV (kMov [(.int .i64 (.ofNat (nat_lit 0)))]) fun x10 =>
  (f3_7 rc x1 x2 x8 x9 x10 h))
  (some ⟨0, [x1, x2, x8], h⟩)) 1000000 [x1, x2, x8, x9] h)
  fun j vs h => unc vs fun x1 vs =>
  unc vs fun x2 vs =>
  unc vs fun x8 vs =>
  bndV (kBld [(.int .i64 (.ofNat (nat_lit 0))), (.int .i64 (.ofNat (nat_lit 0))), (.int .i64 (.ofNat (nat_lit 0))), (.int .i64 (.ofNat (nat_lit 0))), (.int .i64 (.ofNat (nat_lit 0))), (.int .i64 (.ofNat (nat_lit 0))), (.int .i64 (.ofNat (nat_lit 0)))] [(0, 1)] [(.int .i64 (.ofNat (nat_lit 1)))]) fun x90 =>
  bndN (kAlloc [(.int .i64 (.ofNat (nat_lit 0))), (.int .i64 (.ofNat (nat_lit 0))), (.int .i64 (.ofNat (nat_lit 0))), (.int .i64 (.ofNat (nat_lit 0))), (.int .i64 (.ofNat (nat_lit 0))), (.int .i64 (.ofNat (nat_lit 0))), (.int .i64 (.ofNat (nat_lit 0)))] []) h fun x14 h =>
  bndE (dSt h 7 [x14, x90]) h fun _ h =>
  bndV (kMov [x2]) fun x92 =>
  (f3_12 x1 x8 x14 x92 h)
noncomputable def f3_14 (vs : List V) (h : HT) : Option J := unc vs fun x1 vs =>
  unc vs fun x2 vs =>
  bndV (kMov [x1]) fun x45 =>
  bndV (kIaS 1 [x45, (.int .i64 (.ofNat (nat_lit 0)))]) fun x46 =>
  bndV (qLd h none [x46]) fun x47 =>
  bndC (f11 [(.int .i64 (.ofNat (nat_lit 1))), (.int .i64 (.ofNat (nat_lit 1))), (.str (sb [97]))] h) fun x48 h =>
  chk1 (sameE (qLd h none [x46]) x47) (bndC (f10 [x47, x48] h) fun x49 h =>
  bndV (kBin .neq [x49, (.int .i64 (.ofNat (nat_lit 0)))]) fun x50 =>
  tstv x50 (bndV (kMov [(.bool false)]) fun x0 =>
  ret1 x0 h)
  (bndV (kMov [(.int .i64 (.ofNat (nat_lit 0)))]) fun x8 =>
  bndV (kMov [(.int .i64 (.ofNat (nat_lit 0)))]) fun x9 =>
  (f3_13 x1 x2 x8 x9 h)))
noncomputable def f3 (vs : List V) (h : HT) : Option J := bndV (kMov [(.bool false)]) fun x0 =>
  bndV (kMov [(.slice none 0 true 0)]) fun x1 =>
  bndV (kMov [(.slice none 0 true 0)]) fun x2 =>
  bndV (kMov [(.int .i64 (.ofNat (nat_lit 0)))]) fun x3 =>
  bndJ ((f3_2 x1 x2 x3 h))
  fun j vs h => nsw j ((f3_14 vs h))
  fun j => unc vs fun x0 vs =>
  ret1 x0 h
def a3 : List Ann := [.no, .loop [1, 2, 3] [((.exit 0), [1, 2]), (.ret, [0])], .no, .no, .no, .no, .no, .loop [1, 2, 8, 9] [((.exit 2), [1, 2, 8])], .no, .no, .no, .loop [1, 2, 8, 9, 10] [((.exit 4), [1, 2, 8, 9])], .no, .no, .no, .loop [1, 2, 8, 9, 10, 11, 13] [((.exit 6), [1, 2, 8, 9, 10])], .no, .no]
theorem e3 : f3 = evFun Tryz.prog 3 0 a3 t3 := by kernel_rfl
theorem o3 : FnOk Tryz.prog 3 f3 := .of hmO (show enters Tryz.prog 3 = true by kernel_rfl) e3 (.cons o8 (.cons o9 (.cons o10 (.cons o11 (.cons o12 (.cons o13 (.cons o14 (.cons o15 (.cons o16 (.nil))))))))))
end Go.Cn
