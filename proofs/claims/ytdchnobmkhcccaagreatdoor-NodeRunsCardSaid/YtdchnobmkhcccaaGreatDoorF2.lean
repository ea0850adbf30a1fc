/- Functions of the program, told as plain functions of what they are called with, each with the proof that it is what the code does (printed by a program of the prover). -/
import Derived.Test.YtdchnobmkhcccaaGreatDoorF1
namespace Go.Cn
open Go.Proofs
set_option maxRecDepth 100000
set_option linter.unusedVariables false
/- (*concord/core.Core).Cell -/
noncomputable def l119 : List (Nat × (List V → HT → Option J)) := [(200, f200)]
noncomputable def t119 : Fns := tab l119
noncomputable def f119_0 (x0 : V) (x1 : V) (h : HT) : Option J := bndN (kBox [x1]) h fun x3 h =>
  bndN (kAlloc [(.int .i64 (.ofNat (nat_lit 0))), (.int .i64 (.ofNat (nat_lit 0))), (.int .i64 (.ofNat (nat_lit 0))), (.int .i64 (.ofNat (nat_lit 0))), (.int .i64 (.ofNat (nat_lit 0))), (.int .i64 (.ofNat (nat_lit 0))), (.int .i64 (.ofNat (nat_lit 0))), (.int .i64 (.ofNat (nat_lit 0))), (.str (sb [])), (.str (sb [])), (.str (sb [])), (.str (sb [])), (.int .i64 (.ofNat (nat_lit 0))), (.int .i64 (.ofNat (nat_lit 0))), (.int .i64 (.ofNat (nat_lit 0))), (.int .i64 (.ofNat (nat_lit 0))), (.int .i64 (.ofNat (nat_lit 0))), (.int .i64 (.ofNat (nat_lit 0))), (.int .i64 (.ofNat (nat_lit 0))), (.int .i64 (.ofNat (nat_lit 0))), (.bool false)] []) h fun x4 h =>
  bndV (kMov [(.bool false)]) fun x5 =>
  bndV (kMov [x0]) fun x6 =>
  bndV (kNilc [x6]) fun x7 =>
  bndV (kFa 2 [x7]) fun x8 =>
  bndV (qLd h none [x8]) fun x9 =>
  bndV (qLd h (some 2) [x3]) fun x10 =>
  bndC (f200 [x9, x10] h) fun x11 h =>
  bndV (kExt 0 [x11]) fun x12 =>
  bndV (kExt 1 [x11]) fun x13 =>
  bndE (dSt h 21 [x4, x12]) h fun _ h =>
  bndV (kMov [x13]) fun x5 =>
  bndV (qLd h (some 21) [x4]) fun x900000 =>
  ret1 (.tuple [x900000, x5]) h
noncomputable def f119 (vs : List V) (h : HT) : Option J := unc vs fun x0 vs =>
  unc vs fun x1 vs =>
  (f119_0 x0 x1 h)
def a119 : List Ann := []
theorem e119 : f119 = evFun Tryz.prog 119 2 a119 t119 := by kernel_rfl
theorem o119 : FnOk Tryz.prog 119 f119 := .of hmO (show enters Tryz.prog 119 = true by kernel_rfl) e119 (.cons o200 (.nil))

/- (*concord/node.Node).committed -/
noncomputable def l191 : List (Nat × (List V → HT → Option J)) := [(118, f118), (119, f119)]
noncomputable def t191 : Fns := tab l191
noncomputable def f191_0 (rc : List V → HT → Option J) (x0 : V) (x3 : V) (x5 : V) (x6 : V) (x12 : V) (x13 : V) (x14 : V) (x41 : V) (h : HT) : Option J := bndJ (tstv x41 (bndV (kMov [x3]) fun x42 =>
  bndV (qLd h (some 2) [x5]) fun x43 =>
  bndV (qLd h (some 21) [x6]) fun x44 =>
  bndV (kBld [(.int .i64 (.ofNat (nat_lit 0))), (.int .i64 (.ofNat (nat_lit 0))), (.int .i64 (.ofNat (nat_lit 0))), (.int .i64 (.ofNat (nat_lit 0))), (.int .i64 (.ofNat (nat_lit 0))), (.int .i64 (.ofNat (nat_lit 0))), (.int .i64 (.ofNat (nat_lit 0))), (.int .i64 (.ofNat (nat_lit 0))), (.int .i64 (.ofNat (nat_lit 0))), (.int .i64 (.ofNat (nat_lit 0))), (.str (sb [])), (.str (sb [])), (.str (sb [])), (.str (sb [])), (.int .i64 (.ofNat (nat_lit 0))), (.int .i64 (.ofNat (nat_lit 0))), (.int .i64 (.ofNat (nat_lit 0))), (.int .i64 (.ofNat (nat_lit 0))), (.int .i64 (.ofNat (nat_lit 0))), (.int .i64 (.ofNat (nat_lit 0))), (.int .i64 (.ofNat (nat_lit 0))), (.int .i64 (.ofNat (nat_lit 0))), (.bool false)] [(0, 2), (2, 21)] [x43, x44]) fun x45 =>
  bndN (kBsl 23 1 [(.int .i64 (.ofNat (nat_lit 0))), (.int .i64 (.ofNat (nat_lit 0))), (.int .i64 (.ofNat (nat_lit 0))), (.int .i64 (.ofNat (nat_lit 0))), (.int .i64 (.ofNat (nat_lit 0))), (.int .i64 (.ofNat (nat_lit 0))), (.int .i64 (.ofNat (nat_lit 0))), (.int .i64 (.ofNat (nat_lit 0))), (.int .i64 (.ofNat (nat_lit 0))), (.int .i64 (.ofNat (nat_lit 0))), (.str (sb [])), (.str (sb [])), (.str (sb [])), (.str (sb [])), (.int .i64 (.ofNat (nat_lit 0))), (.int .i64 (.ofNat (nat_lit 0))), (.int .i64 (.ofNat (nat_lit 0))), (.int .i64 (.ofNat (nat_lit 0))), (.int .i64 (.ofNat (nat_lit 0))), (.int .i64 (.ofNat (nat_lit 0))), (.int .i64 (.ofNat (nat_lit 0))), (.int .i64 (.ofNat (nat_lit 0))), (.bool false)] [(0, 23)] [x45]) h fun x46 h =>
  bndE (dApp h 23 216 [x42, x46]) h fun x47 h =>
  bndV (kMov [x47]) fun x3 =>
  some ⟨0, [x0, x3, x12, x13, x14], h⟩)
  (some ⟨0, [x0, x3, x12, x13, x14], h⟩))
  fun j vs h => unc vs fun x0 vs =>
  unc vs fun x3 vs =>
  unc vs fun x12 vs =>
  unc vs fun x13 vs =>
  unc vs fun x14 vs =>
  bndV (kBin .add [x14, (.int .i64 (.ofNat (nat_lit 1)))]) fun x48 =>
  bndV (kMov [x48]) fun x14 =>
  rc [x0, x3, x12, x13, x14] h
noncomputable def f191_1 (rc : List V → HT → Option J) (x0 : V) (x3 : V) (x5 : V) (x6 : V) (x12 : V) (x13 : V) (x14 : V) (x27 : V) (h : HT) : Option J := bndV (qLd h none [x27]) fun x28 =>
  bndV (kMov [x0]) fun x29 =>
  bndV (kFa 0 [x5]) fun x30 =>
  bndV (qLd h none [x30]) fun x31 =>
  bndV (kNilc [x29]) fun x32 =>
  bndV (kFa 55 [x32]) fun x33 =>
  bndV (kIaA 7 1 [x33, x31]) fun x34 =>
  bndV (qLd h none [x34]) fun x35 =>
  bndV (kBin .gtr [x28, x35]) fun x36 =>
  bndV (kMov [x36]) fun x37 =>
  bndC (gsel x37 true (retV (kFa 0 [x6]) h) h) fun x38 h =>
  bndC (gsel x37 true (retV (qLd h none [x38]) h) h) fun x39 h =>
  bndC (gsel x37 true (retV (kBin .eql [x39, (.int .i64 (.ofNat (nat_lit 3)))]) h) h) fun x40 h =>
  bndV (kPick [x37, x40, (.bool false)]) fun x41 =>
  (f191_0 rc x0 x3 x5 x6 x12 x13 x14 x41 h)
noncomputable def f191_2 (rc : List V → HT → Option J) (x0 : V) (x3 : V) (x5 : V) (x12 : V) (x13 : V) (x14 : V) (x17 : V) (h : HT) : Option J := bndE (dSt h 2 [x5, x17]) h fun _ h =>
  bndV (kMov [x0]) fun x19 =>
  bndV (kNilc [x19]) fun x20 =>
  bndV (kFa 4 [x20]) fun x21 =>
  bndV (qLd h none [x21]) fun x22 =>
  bndV (qLd h (some 2) [x5]) fun x23 =>
  bndN (kAlloc [(.int .i64 (.ofNat (nat_lit 0))), (.int .i64 (.ofNat (nat_lit 0))), (.int .i64 (.ofNat (nat_lit 0))), (.int .i64 (.ofNat (nat_lit 0))), (.int .i64 (.ofNat (nat_lit 0))), (.int .i64 (.ofNat (nat_lit 0))), (.int .i64 (.ofNat (nat_lit 0))), (.int .i64 (.ofNat (nat_lit 0))), (.str (sb [])), (.str (sb [])), (.str (sb [])), (.str (sb [])), (.int .i64 (.ofNat (nat_lit 0))), (.int .i64 (.ofNat (nat_lit 0))), (.int .i64 (.ofNat (nat_lit 0))), (.int .i64 (.ofNat (nat_lit 0))), (.int .i64 (.ofNat (nat_lit 0))), (.int .i64 (.ofNat (nat_lit 0))), (.int .i64 (.ofNat (nat_lit 0))), (.int .i64 (.ofNat (nat_lit 0))), (.bool false)] []) h fun x6 h =>
  bndC (f119 [x22, x23] h) fun x24 h =>
  bndV (kMov [x24]) fun x18 =>
  bndV (kExt 0 [x18]) fun x25 =>
  bndV (kExt 1 [x18]) fun x26 =>
  bndE (dSt h 21 [x6, x25]) h fun _ h =>
  bndV (kMov [x26]) fun x7 =>
  bndV (kFa 1 [x5]) fun x27 =>
  (f191_1 rc x0 x3 x5 x6 x12 x13 x14 x27 h)
noncomputable def f191_3 (x0 : V) (x3 : V) (x12 : V) (x13 : V) (x14 : V) (h : HT) : Option J := bndJ (loopF (fun rc vs h => unc vs fun x0 vs =>
  unc vs fun x3 vs =>
  unc vs fun x12 vs =>
  unc vs fun x13 vs =>
  unc vs fun x14 vs =>
  bndV (kBin .lss [x14, x13]) fun x15 =>
  tstv x15 (bndV (kIaS 2 [x12, x14]) fun x16 =>
  bndV (qLd h (some 2) [x16]) fun x17 =>
  bndN (kAlloc [(.int .i64 (.ofNat (nat_lit 0))), (.int .i64 (.ofNat (nat_lit 0)))] []) h fun x5 h =>
  (f191_2 rc x0 x3 x5 x12 x13 x14 x17 h))
  (some ⟨0, [x3], h⟩)) 1000000 [x0, x3, x12, x13, x14] h)
  fun j vs h => unc vs fun x3 vs =>
  bndV (kMov [x3]) fun x49 =>
  bndV (kMov [x49]) fun x2 =>
  ret1 x2 h
noncomputable def f191 (vs : List V) (h : HT) : Option J := unc vs fun x0 vs =>
  bndV (kMov [(.slice none 0 true 0)]) fun x2 =>
  bndV (kMov [(.slice none 0 true 0)]) fun x3 =>
  bndV (kMov [x0]) fun x8 =>
  bndV (kNilc [x8]) fun x9 =>
  bndV (kFa 4 [x9]) fun x10 =>
  bndV (qLd h none [x10]) fun x11 =>
  bndC (f118 [x11] h) fun x12 h =>
  bndV (kLenS [x12]) fun x13 =>
  bndV (kMov [(.int .i64 (.ofNat (nat_lit 0)))]) fun x14 =>
  (f191_3 x0 x3 x12 x13 x14 h)
def a191 : List Ann := [.no, .loop [0, 3, 12, 13, 14] [((.exit 0), [3])], .no, .no, .join [(.normal, [0, 3, 12, 13, 14])]]
theorem e191 : f191 = evFun Tryz.prog 191 1 a191 t191 := by kernel_rfl
theorem o191 : FnOk Tryz.prog 191 f191 := .of hmO (show enters Tryz.prog 191 = true by kernel_rfl) e191 (.cons o118 (.cons o119 (.nil)))

/- (*concord/node.Node).run -/
noncomputable def l111 : List (Nat × (List V → HT → Option J)) := [(140, f140), (190, f190), (191, f191)]
noncomputable def t111 : Fns := tab l111
noncomputable def f111_0 (rc : List V → HT → Option J) (x0 : V) (x3 : V) (x18 : V) (x19 : V) (x20 : V) (x38 : V) (x41 : V) (x53 : V) (h : HT) : Option J := bndV (kNilc [x38]) fun x54 =>
  bndV (kFa 55 [x54]) fun x55 =>
  bndV (kIaA 7 1 [x55, x41]) fun x56 =>
  bndE (dSt h 1 [x56, x53]) h fun _ h =>
  bndV (kMov [x0]) fun x57 =>
  bndV (kNilc [x57]) fun x58 =>
  bndV (kFa 69 [x58]) fun x59 =>
  bndV (qLd h none [x59]) fun x60 =>
  bndV (kBin .add [x60, (.int .i64 (.ofNat (nat_lit 1)))]) fun x61 =>
  bndV (kNilc [x57]) fun x62 =>
  bndV (kFa 69 [x62]) fun x63 =>
  bndE (dSt h 1 [x63, x61]) h fun _ h =>
  bndV (kBin .add [x20, (.int .i64 (.ofNat (nat_lit 1)))]) fun x64 =>
  bndV (kMov [x64]) fun x20 =>
  rc [x0, x3, x18, x19, x20] h
noncomputable def f111_1 (rc : List V → HT → Option J) (x0 : V) (x3 : V) (x5 : V) (x18 : V) (x19 : V) (x20 : V) (x38 : V) (x39 : V) (h : HT) : Option J := bndV (kFa 0 [x39]) fun x40 =>
  bndV (qLd h none [x40]) fun x41 =>
  bndV (kMov [x0]) fun x42 =>
  bndV (kFa 0 [x5]) fun x43 =>
  bndV (kFa 0 [x43]) fun x44 =>
  bndV (qLd h none [x44]) fun x45 =>
  bndV (kNilc [x42]) fun x46 =>
  bndV (kFa 55 [x46]) fun x47 =>
  bndV (kIaA 7 1 [x47, x45]) fun x48 =>
  bndV (qLd h none [x48]) fun x49 =>
  bndV (kFa 0 [x5]) fun x50 =>
  bndV (kFa 1 [x50]) fun x51 =>
  bndV (qLd h none [x51]) fun x52 =>
  bndV (kMaxI [x49, x52]) fun x53 =>
  (f111_0 rc x0 x3 x18 x19 x20 x38 x41 x53 h)
noncomputable def f111_2 (rc : List V → HT → Option J) (x0 : V) (x3 : V) (x5 : V) (x18 : V) (x19 : V) (x20 : V) (x25 : V) (x27 : V) (h : HT) : Option J := bndV (kFa 6 [x27]) fun x28 =>
  bndV (qLd h (some 49) [x28]) fun x29 =>
  bndV (kFa 2 [x5]) fun x30 =>
  bndV (kFa 5 [x30]) fun x31 =>
  bndV (qLd h (some 7) [x31]) fun x32 =>
  bndC (f140 [x29, x32] h) fun x33 h =>
  bndV (kMov [x33]) fun x24 =>
  bndV (kExt 0 [x24]) fun x34 =>
  bndV (kExt 1 [x24]) fun x35 =>
  bndV (kNilc [x25]) fun x36 =>
  bndV (kFa 6 [x36]) fun x37 =>
  bndE (dSt h 49 [x37, x34]) h fun _ h =>
  bndV (kMov [x0]) fun x38 =>
  bndV (kFa 0 [x5]) fun x39 =>
  (f111_1 rc x0 x3 x5 x18 x19 x20 x38 x39 h)
noncomputable def f111_3 (rc : List V → HT → Option J) (x0 : V) (vs : List V) (h : HT) : Option J := unc vs fun x3 vs =>
  unc vs fun x18 vs =>
  unc vs fun x19 vs =>
  unc vs fun x20 vs =>
  bndV (kBin .lss [x20, x19]) fun x21 =>
  tstv x21 (bndV (kIaS 23 [x18, x20]) fun x22 =>
  bndV (qLd h (some 23) [x22]) fun x23 =>
  bndN (kAlloc [(.int .i64 (.ofNat (nat_lit 0))), (.int .i64 (.ofNat (nat_lit 0))), (.int .i64 (.ofNat (nat_lit 0))), (.int .i64 (.ofNat (nat_lit 0))), (.int .i64 (.ofNat (nat_lit 0))), (.int .i64 (.ofNat (nat_lit 0))), (.int .i64 (.ofNat (nat_lit 0))), (.int .i64 (.ofNat (nat_lit 0))), (.int .i64 (.ofNat (nat_lit 0))), (.int .i64 (.ofNat (nat_lit 0))), (.str (sb [])), (.str (sb [])), (.str (sb [])), (.str (sb [])), (.int .i64 (.ofNat (nat_lit 0))), (.int .i64 (.ofNat (nat_lit 0))), (.int .i64 (.ofNat (nat_lit 0))), (.int .i64 (.ofNat (nat_lit 0))), (.int .i64 (.ofNat (nat_lit 0))), (.int .i64 (.ofNat (nat_lit 0))), (.int .i64 (.ofNat (nat_lit 0))), (.int .i64 (.ofNat (nat_lit 0))), (.bool false)] []) h fun x5 h =>
  bndE (dSt h 23 [x5, x23]) h fun _ h =>
  bndV (kMov [x0]) fun x25 =>
  bndV (kMov [x0]) fun x26 =>
  bndV (kNilc [x26]) fun x27 =>
  (f111_2 rc x0 x3 x5 x18 x19 x20 x25 x27 h))
  (some ⟨0, [x0, x3], h⟩)
noncomputable def f111_4 (rc : List V → HT → Option J) (x0 : V) (x65 : V) (x66 : V) (x67 : V) (x68 : V) (h : HT) : Option J := tstv x68 (bndV (kIaS 2 [x65, x67]) fun x69 =>
  bndV (qLd h (some 2) [x69]) fun x70 =>
  bndN (kAlloc [(.int .i64 (.ofNat (nat_lit 0))), (.int .i64 (.ofNat (nat_lit 0)))] []) h fun x7 h =>
  bndE (dSt h 2 [x7, x70]) h fun _ h =>
  bndV (kMov [x0]) fun x71 =>
  bndV (kFa 0 [x7]) fun x72 =>
  bndV (qLd h none [x72]) fun x73 =>
  bndV (kFa 1 [x7]) fun x74 =>
  bndV (qLd h none [x74]) fun x75 =>
  bndC (noF [x71, x73, x75] h) fun x76 h =>
  bndV (kBin .add [x67, (.int .i64 (.ofNat (nat_lit 1)))]) fun x77 =>
  bndV (kMov [x77]) fun x67 =>
  rc [x0, x65, x66, x67] h)
  (some ⟨0, [], h⟩)
noncomputable def f111_5 (x0 : V) (x3 : V) (x18 : V) (x19 : V) (x20 : V) (h : HT) : Option J := bndJ (loopF (fun rc vs h => unc vs fun x0 vs =>
  (f111_3 rc x0 vs h)) 1000000 [x0, x3, x18, x19, x20] h)
  fun j vs h => unc vs fun x0 vs =>
  unc vs fun x3 vs =>
  bndV (kMov [x3]) fun x65 =>
  bndV (kLenS [x65]) fun x66 =>
  bndV (kMov [(.int .i64 (.ofNat (nat_lit 0)))]) fun x67 =>
  bndJ (loopF (fun rc vs h => unc vs fun x0 vs =>
  unc vs fun x65 vs =>
  unc vs fun x66 vs =>
  unc vs fun x67 vs =>
  bndV (kBin .lss [x67, x66]) fun x68 =>
  (f111_4 rc x0 x65 x66 x67 x68 h)) 1000000 [x0, x65, x66, x67] h)
  fun j vs h => ret1 (.tuple []) h
noncomputable def f111_6 (x0 : V) (x10 : V) (h : HT) : Option J := bndV (kFa 55 [x10]) fun x11 =>
  bndV (qLd h (some 7) [x11]) fun x12 =>
  bndV (kMov [x0]) fun x13 =>
  bndC (f191 [x13] h) fun x14 h =>
  chk1 (sameE (qLd h (some 7) [x11]) x12) (bndC (f190 [x12, x14] h) fun x15 h =>
  bndV (kMov [x15]) fun x8 =>
  bndV (kExt 0 [x8]) fun x16 =>
  bndV (kExt 1 [x8]) fun x17 =>
  bndV (kMov [x16]) fun x2 =>
  bndV (kMov [x17]) fun x3 =>
  bndV (kMov [x2]) fun x18 =>
  bndV (kLenS [x18]) fun x19 =>
  bndV (kMov [(.int .i64 (.ofNat (nat_lit 0)))]) fun x20 =>
  (f111_5 x0 x3 x18 x19 x20 h))
noncomputable def f111 (vs : List V) (h : HT) : Option J := unc vs fun x0 vs =>
  bndV (kMov [x0]) fun x9 =>
  bndV (kNilc [x9]) fun x10 =>
  (f111_6 x0 x10 h)
def a111 : List Ann := [.no, .loop [0, 3, 18, 19, 20] [((.exit 0), [0, 3])], .no, .no, .no, .loop [0, 65, 66, 67] [((.exit 2), [])], .no, .no]
theorem e111 : f111 = evFun Tryz.prog 111 1 a111 t111 := by kernel_rfl
theorem o111 : FnOk Tryz.prog 111 f111 := .of hmO (show enters Tryz.prog 111 = true by kernel_rfl) e111 (.cons o140 (.cons o190 (.cons o191 (.nil))))

/- (*concord/node.Node).answer -/
noncomputable def l112 : List (Nat × (List V → HT → Option J)) := [(63, f63)]
noncomputable def t112 : Fns := tab l112
noncomputable def f112_0 (x0 : V) (x2 : V) (x4 : V) (x6 : V) (x10 : V) (x11 : V) (x12 : V) (x37 : V) (x38 : V) (h : HT) : Option J := bndV (kNilc [x38]) fun x39 =>
  bndV (kFa 73 [x39]) fun x40 =>
  bndV (qLd h none [x40]) fun x41 =>
  bndV (kFa 0 [x4]) fun x42 =>
  bndV (qLd h none [x42]) fun x43 =>
  bndV (kFa 1 [x4]) fun x44 =>
  bndV (qLd h none [x44]) fun x45 =>
  bndV (qLd h (some 5) [x6]) fun x46 =>
  bndV (kBld [(.int .i64 (.ofNat (nat_lit 0))), (.int .i64 (.ofNat (nat_lit 0))), (.int .i64 (.ofNat (nat_lit 0))), (.bool false), (.str (sb [])), (.int .i64 (.ofNat (nat_lit 0))), (.slice none 0 true 0)] [(0, 1), (1, 1), (2, 5)] [x43, x45, x46]) fun x47 =>
  bndN (kBsl 7 1 [(.int .i64 (.ofNat (nat_lit 0))), (.int .i64 (.ofNat (nat_lit 0))), (.int .i64 (.ofNat (nat_lit 0))), (.bool false), (.str (sb [])), (.int .i64 (.ofNat (nat_lit 0))), (.slice none 0 true 0)] [(0, 7)] [x47]) h fun x48 h =>
  bndE (dApp h 7 80 [x41, x48]) h fun x49 h =>
  bndV (kNilc [x37]) fun x50 =>
  bndV (kFa 73 [x50]) fun x51 =>
  bndE (dSt h 1 [x51, x49]) h fun _ h =>
  some ⟨0, [x0, x2, x10, x11, x12], h⟩
noncomputable def f112_1 (x0 : V) (x2 : V) (x4 : V) (x10 : V) (x11 : V) (x12 : V) (x52 : V) (h : HT) : Option J := bndJ (tstv x52 (bndV (kMov [x2]) fun x58 =>
  bndV (qLd h (some 2) [x4]) fun x59 =>
  bndN (kBsl 2 1 [(.int .i64 (.ofNat (nat_lit 0))), (.int .i64 (.ofNat (nat_lit 0)))] [(0, 2)] [x59]) h fun x60 h =>
  bndE (dApp h 2 16 [x58, x60]) h fun x61 h =>
  bndV (kMov [x61]) fun x2 =>
  some ⟨0, [x0, x2, x10, x11, x12], h⟩)
  (some ⟨0, [x0, x2, x10, x11, x12], h⟩))
  fun j vs h => unc vs fun x0 vs =>
  unc vs fun x2 vs =>
  unc vs fun x10 vs =>
  unc vs fun x11 vs =>
  unc vs fun x12 vs =>
  some ⟨0, [x0, x2, x10, x11, x12], h⟩
noncomputable def f112_2 (x0 : V) (x2 : V) (x4 : V) (x5 : V) (x10 : V) (x11 : V) (x12 : V) (x25 : V) (h : HT) : Option J := tstv x25 (bndV (kFa 1 [x5]) fun x31 =>
  bndV (qLd h (some 5) [x31]) fun x32 =>
  bndN (kAlloc [(.int .i64 (.ofNat (nat_lit 0))), (.bool false), (.str (sb [])), (.int .i64 (.ofNat (nat_lit 0))), (.slice none 0 true 0)] []) h fun x6 h =>
  bndE (dSt h 5 [x6, x32]) h fun _ h =>
  bndV (kFa 4 [x6]) fun x33 =>
  bndV (qLd h none [x33]) fun x34 =>
  bndC (f63 [x34] h) fun x35 h =>
  bndV (kFa 4 [x6]) fun x36 =>
  bndE (dSt h 1 [x36, x35]) h fun _ h =>
  bndV (kMov [x0]) fun x37 =>
  bndV (kMov [x0]) fun x38 =>
  (f112_0 x0 x2 x4 x6 x10 x11 x12 x37 x38 h))
  (bndV (kFa 0 [x5]) fun x53 =>
  bndV (qLd h none [x53]) fun x54 =>
  bndV (kFa 1 [x4]) fun x55 =>
  bndV (qLd h none [x55]) fun x56 =>
  bndV (kBin .lss [x54, x56]) fun x57 =>
  bndV (kMov [x57]) fun x52 =>
  (f112_1 x0 x2 x4 x10 x11 x12 x52 h))
noncomputable def f112_3 (rc : List V → HT → Option J) (x0 : V) (x2 : V) (x4 : V) (x5 : V) (x10 : V) (x11 : V) (x12 : V) (x26 : V) (h : HT) : Option J := bndV (qLd h none [x26]) fun x27 =>
  bndV (kFa 1 [x4]) fun x28 =>
  bndV (qLd h none [x28]) fun x29 =>
  bndV (kBin .eql [x27, x29]) fun x30 =>
  bndV (kMov [x30]) fun x25 =>
  bndJ ((f112_2 x0 x2 x4 x5 x10 x11 x12 x25 h))
  fun j vs h => unc vs fun x0 vs =>
  unc vs fun x2 vs =>
  unc vs fun x10 vs =>
  unc vs fun x11 vs =>
  unc vs fun x12 vs =>
  bndV (kBin .add [x12, (.int .i64 (.ofNat (nat_lit 1)))]) fun x62 =>
  bndV (kMov [x62]) fun x12 =>
  rc [x0, x2, x10, x11, x12] h
noncomputable def f112_4 (rc : List V → HT → Option J) (x0 : V) (x2 : V) (x10 : V) (x11 : V) (x12 : V) (x15 : V) (h : HT) : Option J := bndN (kAlloc [(.int .i64 (.ofNat (nat_lit 0))), (.int .i64 (.ofNat (nat_lit 0)))] []) h fun x4 h =>
  bndE (dSt h 2 [x4, x15]) h fun _ h =>
  bndV (kMov [x0]) fun x16 =>
  bndV (kFa 0 [x4]) fun x17 =>
  bndV (qLd h none [x17]) fun x18 =>
  bndV (kBin .sub [x18, (.int .i64 (.ofNat (nat_lit 1)))]) fun x19 =>
  bndV (kNilc [x16]) fun x20 =>
  bndV (kFa 6 [x20]) fun x21 =>
  bndV (kFa 1 [x21]) fun x22 =>
  bndV (kIaA 8 6 [x22, x19]) fun x23 =>
  bndV (qLd h (some 6) [x23]) fun x24 =>
  bndN (kAlloc [(.int .i64 (.ofNat (nat_lit 0))), (.int .i64 (.ofNat (nat_lit 0))), (.bool false), (.str (sb [])), (.int .i64 (.ofNat (nat_lit 0))), (.slice none 0 true 0)] []) h fun x5 h =>
  bndE (dSt h 6 [x5, x24]) h fun _ h =>
  bndV (kFa 0 [x5]) fun x26 =>
  (f112_3 rc x0 x2 x4 x5 x10 x11 x12 x26 h)
noncomputable def f112_5 (x0 : V) (x2 : V) (x10 : V) (x11 : V) (x12 : V) (h : HT) : Option J := bndJ (loopF (fun rc vs h => unc vs fun x0 vs =>
  unc vs fun x2 vs =>
  unc vs fun x10 vs =>
  unc vs fun x11 vs =>
  unc vs fun x12 vs =>
  bndV (kBin .lss [x12, x11]) fun x13 =>
  tstv x13 (bndV (kIaS 2 [x10, x12]) fun x14 =>
  bndV (qLd h (some 2) [x14]) fun x15 =>
  (f112_4 rc x0 x2 x10 x11 x12 x15 h))
  (some ⟨0, [x0, x2], h⟩)) 1000000 [x0, x2, x10, x11, x12] h)
  fun j vs h => unc vs fun x0 vs =>
  unc vs fun x2 vs =>
  bndV (kMov [x0]) fun x63 =>
  bndV (kMov [x2]) fun x64 =>
  bndV (kNilc [x63]) fun x65 =>
  bndV (kFa 71 [x65]) fun x66 =>
  bndE (dSt h 1 [x66, x64]) h fun _ h =>
  ret1 (.tuple []) h
noncomputable def f112 (vs : List V) (h : HT) : Option J := unc vs fun x0 vs =>
  bndV (kMov [(.slice none 0 true 0)]) fun x2 =>
  bndV (kMov [x0]) fun x7 =>
  bndV (kNilc [x7]) fun x8 =>
  bndV (kFa 71 [x8]) fun x9 =>
  bndV (qLd h none [x9]) fun x10 =>
  bndV (kLenS [x10]) fun x11 =>
  bndV (kMov [(.int .i64 (.ofNat (nat_lit 0)))]) fun x12 =>
  (f112_5 x0 x2 x10 x11 x12 h)
def a112 : List Ann := [.no, .loop [0, 2, 10, 11, 12] [((.exit 0), [0, 2])], .no, .no, .no, .join [(.normal, [0, 2, 10, 11, 12])], .join [(.normal, [0, 2, 10, 11, 12])]]
theorem e112 : f112 = evFun Tryz.prog 112 1 a112 t112 := by kernel_rfl
theorem o112 : FnOk Tryz.prog 112 f112 := .of hmO (show enters Tryz.prog 112 = true by kernel_rfl) e112 (.cons o63 (.nil))

/- (*concord/front.Fronts).Stable -/
noncomputable def l195 : List (Nat × (List V → HT → Option J)) := []
noncomputable def t195 : Fns := tab l195
noncomputable def f195_0 (rc : List V → HT → Option J) (x0 : V) (x2 : V) (x3 : V) (x19 : V) (x20 : V) (x28 : V) (x29 : V) (h : HT) : Option J := bndV (kMov [x29]) fun x31 =>
  bndV (kIxA 7 1 false [x28, x29]) fun x32 =>
  bndV (kMov [x31]) fun x5 =>
  bndV (kMov [x32]) fun x6 =>
  bndV (kMov [x5]) fun x33 =>
  bndV (kMov [x5]) fun x34 =>
  bndV (kIaA 7 1 [x3, x34]) fun x35 =>
  bndV (qLd h none [x35]) fun x36 =>
  bndV (kMov [x6]) fun x37 =>
  bndV (kMinI [x36, x37]) fun x38 =>
  bndV (kIaA 7 1 [x3, x33]) fun x39 =>
  bndE (dSt h 1 [x39, x38]) h fun _ h =>
  bndV (kBin .add [x29, (.int .i64 (.ofNat (nat_lit 1)))]) fun x40 =>
  bndV (kMov [x40]) fun x29 =>
  rc [x0, x2, x3, x19, x20, x28, x29] h
noncomputable def f195_1 (rc : List V → HT → Option J) (x0 : V) (x2 : V) (x3 : V) (x19 : V) (x20 : V) (x28 : V) (x29 : V) (h : HT) : Option J := bndJ (loopF (fun rc vs h => unc vs fun x0 vs =>
  unc vs fun x2 vs =>
  unc vs fun x3 vs =>
  unc vs fun x19 vs =>
  unc vs fun x20 vs =>
  unc vs fun x28 vs =>
  unc vs fun x29 vs =>
  bndV (kBin .lss [x29, (.int .i64 (.ofNat (nat_lit 7)))]) fun x30 =>
  tstv x30 ((f195_0 rc x0 x2 x3 x19 x20 x28 x29 h))
  (some ⟨0, [x0, x2, x3, x19, x20], h⟩)) 1000000 [x0, x2, x3, x19, x20, x28, x29] h)
  fun j vs h => unc vs fun x0 vs =>
  unc vs fun x2 vs =>
  unc vs fun x3 vs =>
  unc vs fun x19 vs =>
  unc vs fun x20 vs =>
  bndV (kBin .add [x20, (.int .i64 (.ofNat (nat_lit 1)))]) fun x41 =>
  bndV (kMov [x41]) fun x20 =>
  rc [x0, x2, x3, x19, x20] h
noncomputable def f195_2 (rc : List V → HT → Option J) (x0 : V) (x2 : V) (x3 : V) (vs : List V) (h : HT) : Option J := unc vs fun x19 vs =>
  unc vs fun x20 vs =>
  bndV (kBin .lss [x20, x19]) fun x21 =>
  tstv x21 (bndV (kMov [x20]) fun x22 =>
  bndV (kMov [x22]) fun x4 =>
  bndV (kMov [x0]) fun x23 =>
  bndV (kMov [x4]) fun x24 =>
  bndV (kNilc [x23]) fun x25 =>
  bndV (kFa 2 [x25]) fun x26 =>
  bndV (kIaA 7 7 [x26, x24]) fun x27 =>
  bndV (qLd h (some 7) [x27]) fun x28 =>
  bndV (kMov [(.int .i64 (.ofNat (nat_lit 0)))]) fun x29 =>
  (f195_1 rc x0 x2 x3 x19 x20 x28 x29 h))
  (some ⟨0, [x2, x3], h⟩)
noncomputable def f195_3 (x0 : V) (x2 : V) (x3 : V) (x17 : V) (h : HT) : Option J := bndV (kFa 0 [x17]) fun x18 =>
  bndV (qLd h none [x18]) fun x19 =>
  bndV (kMov [(.int .i64 (.ofNat (nat_lit 0)))]) fun x20 =>
  bndJ (loopF (fun rc vs h => unc vs fun x0 vs =>
  unc vs fun x2 vs =>
  unc vs fun x3 vs =>
  (f195_2 rc x0 x2 x3 vs h)) 1000000 [x0, x2, x3, x19, x20] h)
  fun j vs h => unc vs fun x2 vs =>
  unc vs fun x3 vs =>
  bndV (qLd h (some 7) [x3]) fun x42 =>
  bndE (dSt h 7 [x2, x42]) h fun _ h =>
  bndV (qLd h (some 7) [x2]) fun x900000 =>
  ret1 x900000 h
noncomputable def f195_4 (x0 : V) (h : HT) : Option J := bndN (kAlloc [(.int .i64 (.ofNat (nat_lit 0))), (.int .i64 (.ofNat (nat_lit 0))), (.int .i64 (.ofNat (nat_lit 0))), (.int .i64 (.ofNat (nat_lit 0))), (.int .i64 (.ofNat (nat_lit 0))), (.int .i64 (.ofNat (nat_lit 0))), (.int .i64 (.ofNat (nat_lit 0)))] []) h fun x2 h =>
  bndV (kMov [x0]) fun x7 =>
  bndV (kMov [x0]) fun x8 =>
  bndV (kNilc [x8]) fun x9 =>
  bndV (kFa 1 [x9]) fun x10 =>
  bndV (qLd h none [x10]) fun x11 =>
  bndV (kNilc [x7]) fun x12 =>
  bndV (kFa 2 [x12]) fun x13 =>
  bndV (kIaA 7 7 [x13, x11]) fun x14 =>
  bndV (qLd h (some 7) [x14]) fun x15 =>
  bndN (kAlloc [(.int .i64 (.ofNat (nat_lit 0))), (.int .i64 (.ofNat (nat_lit 0))), (.int .i64 (.ofNat (nat_lit 0))), (.int .i64 (.ofNat (nat_lit 0))), (.int .i64 (.ofNat (nat_lit 0))), (.int .i64 (.ofNat (nat_lit 0))), (.int .i64 (.ofNat (nat_lit 0)))] []) h fun x3 h =>
  bndE (dSt h 7 [x3, x15]) h fun _ h =>
  bndV (kMov [x0]) fun x16 =>
  bndV (kNilc [x16]) fun x17 =>
  (f195_3 x0 x2 x3 x17 h)
noncomputable def f195 (vs : List V) (h : HT) : Option J := unc vs fun x0 vs =>
  (f195_4 x0 h)
def a195 : List Ann := [.no, .loop [0, 2, 3, 19, 20] [((.exit 0), [2, 3])], .no, .no, .no, .loop [0, 2, 3, 19, 20, 28, 29] [((.exit 2), [0, 2, 3, 19, 20])], .no, .no]
theorem e195 : f195 = evFun Tryz.prog 195 1 a195 t195 := by kernel_rfl
theorem o195 : FnOk Tryz.prog 195 f195 := .of hmO (show enters Tryz.prog 195 = true by kernel_rfl) e195 (.nil)

/- (*concord/log.Log).Cut -/
noncomputable def l259 : List (Nat × (List V → HT → Option J)) := []
noncomputable def t259 : Fns := tab l259

noncomputable def f259 (vs : List V) (h : HT) : Option J := unc vs fun x0 vs =>
  bndN (kAlloc [(.int .i64 (.ofNat (nat_lit 0))), (.int .i64 (.ofNat (nat_lit 0))), (.int .i64 (.ofNat (nat_lit 0))), (.int .i64 (.ofNat (nat_lit 0))), (.int .i64 (.ofNat (nat_lit 0))), (.int .i64 (.ofNat (nat_lit 0))), (.int .i64 (.ofNat (nat_lit 0)))] []) h fun x2 h =>
  bndV (kMov [x0]) fun x3 =>
  bndV (kNilc [x3]) fun x4 =>
  bndV (kFa 1 [x4]) fun x5 =>
  bndV (qLd h (some 7) [x5]) fun x6 =>
  bndE (dSt h 7 [x2, x6]) h fun _ h =>
  bndV (qLd h (some 7) [x2]) fun x900000 =>
  ret1 x900000 h
def a259 : List Ann := []
theorem e259 : f259 = evFun Tryz.prog 259 1 a259 t259 := by kernel_rfl
theorem o259 : FnOk Tryz.prog 259 f259 := .of hmO (show enters Tryz.prog 259 = true by kernel_rfl) e259 (.nil)

/- (*concord/core.Core).Cut -/
noncomputable def l196 : List (Nat × (List V → HT → Option J)) := [(259, f259)]
noncomputable def t196 : Fns := tab l196

noncomputable def f196 (vs : List V) (h : HT) : Option J := unc vs fun x0 vs =>
  bndN (kAlloc [(.int .i64 (.ofNat (nat_lit 0))), (.int .i64 (.ofNat (nat_lit 0))), (.int .i64 (.ofNat (nat_lit 0))), (.int .i64 (.ofNat (nat_lit 0))), (.int .i64 (.ofNat (nat_lit 0))), (.int .i64 (.ofNat (nat_lit 0))), (.int .i64 (.ofNat (nat_lit 0)))] []) h fun x2 h =>
  bndV (kMov [x0]) fun x3 =>
  bndV (kNilc [x3]) fun x4 =>
  bndV (kFa 2 [x4]) fun x5 =>
  bndV (qLd h none [x5]) fun x6 =>
  bndC (f259 [x6] h) fun x7 h =>
  bndE (dSt h 7 [x2, x7]) h fun _ h =>
  bndV (qLd h (some 7) [x2]) fun x900000 =>
  ret1 x900000 h
def a196 : List Ann := []
theorem e196 : f196 = evFun Tryz.prog 196 1 a196 t196 := by kernel_rfl
theorem o196 : FnOk Tryz.prog 196 f196 := .of hmO (show enters Tryz.prog 196 = true by kernel_rfl) e196 (.cons o259 (.nil))

/- (*concord/node.Node).trim -/
noncomputable def l115 : List (Nat × (List V → HT → Option J)) := [(195, f195), (196, f196)]
noncomputable def t115 : Fns := tab l115
noncomputable def f115_0 (rc : List V → HT → Option J) (x0 : V) (x2 : V) (x3 : V) (x4 : V) (x21 : V) (x23 : V) (h : HT) : Option J := bndV (kMov [x23]) fun x5 =>
  bndV (kMov [x4]) fun x24 =>
  bndV (kMov [x5]) fun x25 =>
  bndV (kIaA 7 1 [x2, x25]) fun x26 =>
  bndV (qLd h none [x26]) fun x27 =>
  bndV (kMov [x5]) fun x28 =>
  bndV (kIaA 7 1 [x3, x28]) fun x29 =>
  bndV (qLd h none [x29]) fun x30 =>
  bndV (kBin .sub [x27, x30]) fun x31 =>
  bndV (kMaxI [x31, (.int .i64 (.ofNat (nat_lit 0)))]) fun x32 =>
  bndV (kBin .add [x24, x32]) fun x33 =>
  bndV (kMov [x33]) fun x4 =>
  bndV (kBin .add [x21, (.int .i64 (.ofNat (nat_lit 1)))]) fun x34 =>
  bndV (kMov [x34]) fun x21 =>
  rc [x0, x2, x3, x4, x21] h
noncomputable def f115_1 (rc : List V → HT → Option J) (x0 : V) (x6 : V) (x8 : V) (x9 : V) (x54 : V) (x55 : V) (x56 : V) (x69 : V) (h : HT) : Option J := bndJ (tstv x69 (bndV (kMov [x6]) fun x70 =>
  bndV (qLd h (some 2) [x8]) fun x71 =>
  bndV (qLd h (some 21) [x9]) fun x72 =>
  bndC (noF [x71, x72] h) fun x73 h =>
  bndC (noF [x73] h) fun x74 h =>
  bndN (kBsl 1 1 [(.slice none 0 true 0)] [(0, 1)] [x74]) h fun x75 h =>
  bndE (dApp h 1 24 [x70, x75]) h fun x76 h =>
  bndV (kMov [x76]) fun x6 =>
  some ⟨0, [x0, x6, x54, x55, x56], h⟩)
  (some ⟨0, [x0, x6, x54, x55, x56], h⟩))
  fun j vs h => unc vs fun x0 vs =>
  unc vs fun x6 vs =>
  unc vs fun x54 vs =>
  unc vs fun x55 vs =>
  unc vs fun x56 vs =>
  bndV (kBin .add [x56, (.int .i64 (.ofNat (nat_lit 1)))]) fun x77 =>
  bndV (kMov [x77]) fun x56 =>
  rc [x0, x6, x54, x55, x56] h
noncomputable def f115_2 (rc : List V → HT → Option J) (x0 : V) (x6 : V) (x8 : V) (x54 : V) (x55 : V) (x56 : V) (x59 : V) (h : HT) : Option J := bndE (dSt h 2 [x8, x59]) h fun _ h =>
  bndV (kMov [x0]) fun x61 =>
  bndV (kNilc [x61]) fun x62 =>
  bndV (kFa 4 [x62]) fun x63 =>
  bndV (qLd h none [x63]) fun x64 =>
  bndV (qLd h (some 2) [x8]) fun x65 =>
  bndN (kAlloc [(.int .i64 (.ofNat (nat_lit 0))), (.int .i64 (.ofNat (nat_lit 0))), (.int .i64 (.ofNat (nat_lit 0))), (.int .i64 (.ofNat (nat_lit 0))), (.int .i64 (.ofNat (nat_lit 0))), (.int .i64 (.ofNat (nat_lit 0))), (.int .i64 (.ofNat (nat_lit 0))), (.int .i64 (.ofNat (nat_lit 0))), (.str (sb [])), (.str (sb [])), (.str (sb [])), (.str (sb [])), (.int .i64 (.ofNat (nat_lit 0))), (.int .i64 (.ofNat (nat_lit 0))), (.int .i64 (.ofNat (nat_lit 0))), (.int .i64 (.ofNat (nat_lit 0))), (.int .i64 (.ofNat (nat_lit 0))), (.int .i64 (.ofNat (nat_lit 0))), (.int .i64 (.ofNat (nat_lit 0))), (.int .i64 (.ofNat (nat_lit 0))), (.bool false)] []) h fun x9 h =>
  bndC (noF [x64, x65] h) fun x66 h =>
  bndV (kMov [x66]) fun x60 =>
  bndV (kExt 0 [x60]) fun x67 =>
  bndV (kExt 1 [x60]) fun x68 =>
  bndE (dSt h 21 [x9, x67]) h fun _ h =>
  bndV (kMov [x68]) fun x10 =>
  bndV (kMov [x10]) fun x69 =>
  (f115_1 rc x0 x6 x8 x9 x54 x55 x56 x69 h)
noncomputable def f115_3 (x0 : V) (x6 : V) (x54 : V) (x55 : V) (x56 : V) (h : HT) : Option J := bndJ (loopF (fun rc vs h => unc vs fun x0 vs =>
  unc vs fun x6 vs =>
  unc vs fun x54 vs =>
  unc vs fun x55 vs =>
  unc vs fun x56 vs =>
  bndV (kBin .lss [x56, x55]) fun x57 =>
  tstv x57 (bndV (kIaS 2 [x54, x56]) fun x58 =>
  bndV (qLd h (some 2) [x58]) fun x59 =>
  bndN (kAlloc [(.int .i64 (.ofNat (nat_lit 0))), (.int .i64 (.ofNat (nat_lit 0)))] []) h fun x8 h =>
  (f115_2 rc x0 x6 x8 x54 x55 x56 x59 h))
  (some ⟨0, [x0, x6], h⟩)) 1000000 [x0, x6, x54, x55, x56] h)
  fun j vs h => unc vs fun x0 vs =>
  unc vs fun x6 vs =>
  bndV (kMov [x0]) fun x78 =>
  bndV (kNilc [x78]) fun x79 =>
  bndV (kFa 3 [x79]) fun x80 =>
  bndV (qLd h none [x80]) fun x81 =>
  bndV (kMov [x6]) fun x82 =>
  bndC (noF [x81, x82] h) fun x83 h =>
  bndV (kBin .neq [x83, (.int .i64 (.ofNat (nat_lit 0)))]) fun x84 =>
  tstv x84 (bndV (kMov [x0]) fun x85 =>
  bndC (noF [x85] h) fun x86 h =>
  ret1 (.tuple []) h)
  (ret1 (.tuple []) h)
noncomputable def f115_4 (x0 : V) (x43 : V) (h : HT) : Option J := bndV (kNilc [x43]) fun x44 =>
  bndV (kFa 4 [x44]) fun x45 =>
  bndV (qLd h none [x45]) fun x46 =>
  bndC (f196 [x46] h) fun x47 h =>
  bndC (noF [x47] h) fun x48 h =>
  bndN (kBsl 1 1 [(.slice none 0 true 0)] [(0, 1)] [x48]) h fun x49 h =>
  bndV (kMov [x49]) fun x6 =>
  bndV (kMov [x0]) fun x50 =>
  bndV (kNilc [x50]) fun x51 =>
  bndV (kFa 4 [x51]) fun x52 =>
  bndV (qLd h none [x52]) fun x53 =>
  bndC (noF [x53] h) fun x54 h =>
  bndV (kLenS [x54]) fun x55 =>
  bndV (kMov [(.int .i64 (.ofNat (nat_lit 0)))]) fun x56 =>
  (f115_3 x0 x6 x54 x55 x56 h)
noncomputable def f115_5 (vs : List V) (h : HT) : Option J := unc vs fun x0 vs =>
  unc vs fun x2 vs =>
  unc vs fun x4 vs =>
  bndV (kMov [x4]) fun x35 =>
  bndV (kBin .lss [x35, (.int .i64 (.ofNat (nat_lit 8)))]) fun x36 =>
  tstv x36 (ret1 (.tuple []) h)
  (bndV (kMov [x0]) fun x37 =>
  bndV (kNilc [x37]) fun x38 =>
  bndV (kFa 4 [x38]) fun x39 =>
  bndV (qLd h none [x39]) fun x40 =>
  bndV (qLd h (some 7) [x2]) fun x41 =>
  bndC (noF [x40, x41] h) fun x42 h =>
  bndV (kMov [x0]) fun x43 =>
  (f115_4 x0 x43 h))
noncomputable def f115_6 (x0 : V) (x2 : V) (x3 : V) (h : HT) : Option J := bndV (kMov [(.int .i64 (.ofNat (nat_lit 0)))]) fun x4 =>
  bndV (kMov [(.int .i64 (.ofNat (nat_lit 0)))]) fun x21 =>
  bndJ (loopF (fun rc vs h => unc vs fun x0 vs =>
  unc vs fun x2 vs =>
  unc vs fun x3 vs =>
  unc vs fun x4 vs =>
  unc vs fun x21 vs =>
  bndV (kBin .lss [x21, (.int .i64 (.ofNat (nat_lit 7)))]) fun x22 =>
  tstv x22 (bndV (kMov [x21]) fun x23 =>
  (f115_0 rc x0 x2 x3 x4 x21 x23 h))
  (some ⟨0, [x0, x2, x4], h⟩)) 1000000 [x0, x2, x3, x4, x21] h)
  fun j vs h => (f115_5 vs h)
noncomputable def f115_7 (x0 : V) (x11 : V) (h : HT) : Option J := bndV (kNilc [x11]) fun x12 =>
  bndV (kFa 5 [x12]) fun x13 =>
  bndV (qLd h none [x13]) fun x14 =>
  bndV (kMov [x0]) fun x16 =>
  bndV (kNilc [x16]) fun x17 =>
  bndV (kFa 4 [x17]) fun x18 =>
  bndV (qLd h none [x18]) fun x19 =>
  bndN (kAlloc [(.int .i64 (.ofNat (nat_lit 0))), (.int .i64 (.ofNat (nat_lit 0))), (.int .i64 (.ofNat (nat_lit 0))), (.int .i64 (.ofNat (nat_lit 0))), (.int .i64 (.ofNat (nat_lit 0))), (.int .i64 (.ofNat (nat_lit 0))), (.int .i64 (.ofNat (nat_lit 0)))] []) h fun x2 h =>
  bndN (kAlloc [(.int .i64 (.ofNat (nat_lit 0))), (.int .i64 (.ofNat (nat_lit 0))), (.int .i64 (.ofNat (nat_lit 0))), (.int .i64 (.ofNat (nat_lit 0))), (.int .i64 (.ofNat (nat_lit 0))), (.int .i64 (.ofNat (nat_lit 0))), (.int .i64 (.ofNat (nat_lit 0)))] []) h fun x3 h =>
  bndC (f195 [x14] h) fun x15 h =>
  chk1 (sameE (qLd h none [x18]) x19) (bndC (f196 [x19] h) fun x20 h =>
  bndE (dSt h 7 [x2, x15]) h fun _ h =>
  bndE (dSt h 7 [x3, x20]) h fun _ h =>
  (f115_6 x0 x2 x3 h))
noncomputable def f115 (vs : List V) (h : HT) : Option J := unc vs fun x0 vs =>
  bndV (kMov [x0]) fun x11 =>
  (f115_7 x0 x11 h)
def a115 : List Ann := [.no, .loop [0, 2, 3, 4, 21] [((.exit 0), [0, 2, 4])], .no, .no, .no, .no, .loop [0, 6, 54, 55, 56] [((.exit 2), [0, 6])], .no, .no, .join [(.normal, [0, 6, 54, 55, 56])], .no]
theorem e115 : f115 = evFun Tryz.prog 115 1 a115 t115 := by kernel_rfl
theorem o115 : FnOk Tryz.prog 115 f115 := .of hmO (show enters Tryz.prog 115 = true by kernel_rfl) e115 (.cons o195 (.cons o196 (.nil)))

/- (*concord/node.Node).settle -/
noncomputable def l39 : List (Nat × (List V → HT → Option J)) := [(110, f110), (111, f111), (112, f112), (115, f115)]
noncomputable def t39 : Fns := tab l39
noncomputable def f39_0 (x0 : V) (x20 : V) (x21 : V) (x23 : V) (h : HT) : Option J := bndC (gsel x20 true (retV (kFa 55 [x23]) h) h) fun x24 h =>
  bndC (gsel x20 true (retV (qLd h (some 7) [x24]) h) h) fun x25 h =>
  bndC (gsel x20 true (retV (kMov [x0]) h) h) fun x26 h =>
  bndC (gsel x20 true (retV (kNilc [x26]) h) h) fun x27 h =>
  bndC (gsel x20 true (retV (kFa 6 [x27]) h) h) fun x28 h =>
  bndC (gsel x20 true (retV (qLd h (some 49) [x28]) h) h) fun x29 h =>
  bndC (gsel x20 true (noF [x25, x29] h) h) fun x30 h =>
  bndC (gsel x20 true (noF [x21, x30] h) h) fun x31 h =>
  bndC (gsel x20 true (retV (kUn .not [x31]) h) h) fun x32 h =>
  bndV (kPick [x20, x32, (.bool false)]) fun x33 =>
  tstv x33 (ret1 (.tuple []) h)
  (bndV (kMov [x0]) fun x34 =>
  bndC (f115 [x34] h) fun x35 h =>
  ret1 (.tuple []) h)
noncomputable def f39_1 (x0 : V) (x10 : V) (h : HT) : Option J := tstv x10 (ret1 (.tuple []) h)
  (bndV (kMov [x0]) fun x11 =>
  bndC (f111 [x11] h) fun x12 h =>
  bndV (kMov [x0]) fun x13 =>
  bndC (f112 [x13] h) fun x14 h =>
  bndV (kMov [x0]) fun x15 =>
  bndV (kNilc [x15]) fun x16 =>
  bndV (kFa 69 [x16]) fun x17 =>
  bndV (qLd h none [x17]) fun x18 =>
  bndV (kBin .geq [x18, (.int .i64 (.ofNat (nat_lit 8)))]) fun x19 =>
  bndV (kMov [x19]) fun x20 =>
  bndC (gsel x20 true (retV (kMov [x0]) h) h) fun x21 h =>
  bndC (gsel x20 true (retV (kMov [x0]) h) h) fun x22 h =>
  bndC (gsel x20 true (retV (kNilc [x22]) h) h) fun x23 h =>
  (f39_0 x0 x20 x21 x23 h))
noncomputable def f39 (vs : List V) (h : HT) : Option J := unc vs fun x0 vs =>
  bndV (kMov [x0]) fun x2 =>
  bndV (kNilc [x2]) fun x3 =>
  bndV (kFa 74 [x3]) fun x4 =>
  bndV (qLd h none [x4]) fun x5 =>
  bndV (kMov [x5]) fun x6 =>
  bndC (gsel x6 false (retV (kMov [x0]) h) h) fun x7 h =>
  bndC (gsel x6 false (f110 [x7] h) h) fun x8 h =>
  bndC (gsel x6 false (retV (kUn .not [x8]) h) h) fun x9 h =>
  bndV (kPick [x6, (.bool true), x9]) fun x10 =>
  (f39_1 x0 x10 h)
def a39 : List Ann := [.no, .no]
theorem e39 : f39 = evFun Tryz.prog 39 1 a39 t39 := by kernel_rfl
theorem o39 : FnOk Tryz.prog 39 f39 := .of hmO (show enters Tryz.prog 39 = true by kernel_rfl) e39 (.cons o110 (.cons o111 (.cons o112 (.cons o115 (.nil)))))

/- concord/node.New -/
noncomputable def l9 : List (Nat × (List V → HT → Option J)) := [(29, f29), (30, f30), (31, f31), (32, f32), (33, f33), (34, f34), (35, f35), (36, f36), (37, f37), (38, f38), (39, f39)]
noncomputable def t9 : Fns := tab l9
noncomputable def f9_0 (x0 : V) (x1 : V) (x8 : V) (x10 : V) (x13 : V) (x14 : V) (x16 : V) (x70 : V) (x71 : V) (x72 : V) (x91 : V) (h : HT) : Option J := bndJ (tstv x91 (bndV (kMov [x14]) fun x92 =>
  bndV (kMov [x16]) fun x93 =>
  bndV (kSlS 1 true false [x93, (.int .i64 (.ofNat (nat_lit 1)))]) fun x94 =>
  bndN (kBsl 1 1 [(.slice none 0 true 0)] [(0, 1)] [x94]) h fun x95 h =>
  bndE (dApp h 1 24 [x92, x95]) h fun x96 h =>
  bndV (kMov [x96]) fun x14 =>
  some ⟨0, [x0, x1, x8, x10, x13, x14, x70, x71, x72], h⟩)
  (some ⟨0, [x0, x1, x8, x10, x13, x14, x70, x71, x72], h⟩))
  fun j vs h => unc vs fun x0 vs =>
  unc vs fun x1 vs =>
  unc vs fun x8 vs =>
  unc vs fun x10 vs =>
  unc vs fun x13 vs =>
  unc vs fun x14 vs =>
  unc vs fun x70 vs =>
  unc vs fun x71 vs =>
  unc vs fun x72 vs =>
  some ⟨0, [x0, x1, x8, x10, x13, x14, x70, x71, x72], h⟩
noncomputable def f9_1 (rc : List V → HT → Option J) (x0 : V) (x1 : V) (x8 : V) (x10 : V) (x13 : V) (x14 : V) (x16 : V) (x17 : V) (x70 : V) (x71 : V) (x72 : V) (x81 : V) (h : HT) : Option J := bndJ (tstv x81 (bndV (qLd h (some 7) [x17]) fun x82 =>
  bndE (dSt h 7 [x13, x82]) h fun _ h =>
  some ⟨0, [x0, x1, x8, x10, x13, x14, x70, x71, x72], h⟩)
  (bndV (kMov [x16]) fun x83 =>
  bndV (kLenS [x83]) fun x84 =>
  bndV (kBin .gtr [x84, (.int .i64 (.ofNat (nat_lit 0)))]) fun x85 =>
  bndV (kMov [x85]) fun x86 =>
  bndC (gsel x86 true (retV (kMov [x16]) h) h) fun x87 h =>
  bndC (gsel x86 true (retV (kIaS 1 [x87, (.int .i64 (.ofNat (nat_lit 0)))]) h) h) fun x88 h =>
  bndC (gsel x86 true (retV (qLd h none [x88]) h) h) fun x89 h =>
  bndC (gsel x86 true (retV (kBin .eql [x89, (.int .u8 (.ofNat (nat_lit 2)))]) h) h) fun x90 h =>
  bndV (kPick [x86, x90, (.bool false)]) fun x91 =>
  (f9_0 x0 x1 x8 x10 x13 x14 x16 x70 x71 x72 x91 h)))
  fun j vs h => unc vs fun x0 vs =>
  unc vs fun x1 vs =>
  unc vs fun x8 vs =>
  unc vs fun x10 vs =>
  unc vs fun x13 vs =>
  unc vs fun x14 vs =>
  unc vs fun x70 vs =>
  unc vs fun x71 vs =>
  unc vs fun x72 vs =>
  bndV (kBin .add [x72, (.int .i64 (.ofNat (nat_lit 1)))]) fun x97 =>
  bndV (kMov [x97]) fun x72 =>
  rc [x0, x1, x8, x10, x13, x14, x70, x71, x72] h
noncomputable def f9_2 (rc : List V → HT → Option J) (x0 : V) (x1 : V) (x8 : V) (x10 : V) (x13 : V) (x14 : V) (x70 : V) (x71 : V) (x72 : V) (x73 : V) (h : HT) : Option J := tstv x73 (bndV (kIaS 1 [x70, x72]) fun x74 =>
  bndV (qLd h none [x74]) fun x75 =>
  bndV (kMov [x75]) fun x16 =>
  bndV (kMov [x16]) fun x77 =>
  bndC (f33 [x77] h) fun x78 h =>
  bndV (kMov [x78]) fun x76 =>
  bndV (kExt 0 [x76]) fun x79 =>
  bndV (kExt 1 [x76]) fun x80 =>
  bndN (kAlloc [(.int .i64 (.ofNat (nat_lit 0))), (.int .i64 (.ofNat (nat_lit 0))), (.int .i64 (.ofNat (nat_lit 0))), (.int .i64 (.ofNat (nat_lit 0))), (.int .i64 (.ofNat (nat_lit 0))), (.int .i64 (.ofNat (nat_lit 0))), (.int .i64 (.ofNat (nat_lit 0)))] []) h fun x17 h =>
  bndE (dSt h 7 [x17, x79]) h fun _ h =>
  bndV (kMov [x80]) fun x18 =>
  bndV (kMov [x18]) fun x81 =>
  (f9_1 rc x0 x1 x8 x10 x13 x14 x16 x17 x70 x71 x72 x81 h))
  (some ⟨0, [x0, x1, x8, x10, x13, x14], h⟩)
noncomputable def f9_3 (x1 : V) (x8 : V) (x10 : V) (x13 : V) (x118 : V) (h : HT) : Option J := tstv x118 (bndV (kMov [x10]) fun x119 =>
  bndV (qLd h (some 7) [x13]) fun x120 =>
  bndC (f37 [x120] h) fun x121 h =>
  bndN (kBsl 1 1 [(.slice none 0 true 0)] [(0, 1)] [x121]) h fun x122 h =>
  bndC (f36 [x119, x122] h) fun x123 h =>
  bndV (kMov [x123]) fun x21 =>
  bndV (kMov [x21]) fun x124 =>
  bndV (kBin .neq [x124, (.int .i64 (.ofNat (nat_lit 0)))]) fun x125 =>
  tstv x125 (bndV (kMov [x21]) fun x126 =>
  bndV (kMov [(.ptr none)]) fun x6 =>
  bndV (kMov [x126]) fun x7 =>
  some ⟨0, [x6, x7], h⟩)
  (some ⟨1, [x1, x8], h⟩))
  (some ⟨1, [x1, x8], h⟩)
noncomputable def f9_4 (x1 : V) (x8 : V) (x127 : V) (h : HT) : Option J := bndV (kNilc [x127]) fun x128 =>
  bndV (kFa 5 [x128]) fun x129 =>
  bndV (qLd h none [x129]) fun x130 =>
  bndV (kMov [x1]) fun x131 =>
  bndV (kMov [x8]) fun x132 =>
  bndV (kNilc [x132]) fun x133 =>
  bndV (kFa 62 [x133]) fun x134 =>
  bndV (qLd h (some 7) [x134]) fun x135 =>
  bndC (f38 [x130, x131, x135] h) fun x136 h =>
  bndV (kMov [x8]) fun x137 =>
  bndC (f39 [x137] h) fun x138 h =>
  bndV (kMov [x8]) fun x139 =>
  bndV (kMov [x139]) fun x6 =>
  bndV (kMov [(.int .i64 (.ofNat (nat_lit 0)))]) fun x7 =>
  ret1 (.tuple [x6, x7]) h
noncomputable def f9_5 (x1 : V) (x8 : V) (x10 : V) (x13 : V) (x112 : V) (x115 : V) (h : HT) : Option J := bndV (kExt 1 [x112]) fun x116 =>
  bndV (kMov [x115]) fun x19 =>
  bndV (kMov [x116]) fun x20 =>
  bndV (kMov [x19]) fun x117 =>
  bndV (kBin .eql [x117, (.int .i64 (.ofNat (nat_lit 0)))]) fun x118 =>
  bndJ ((f9_3 x1 x8 x10 x13 x118 h))
  fun j vs h => nsw j (unc vs fun x6 vs =>
  unc vs fun x7 vs =>
  ret1 (.tuple [x6, x7]) h)
  fun j => unc vs fun x1 vs =>
  unc vs fun x8 vs =>
  bndV (kMov [x8]) fun x127 =>
  (f9_4 x1 x8 x127 h)
noncomputable def f9_6 (x1 : V) (x8 : V) (x10 : V) (x13 : V) (x105 : V) (x106 : V) (x107 : V) (h : HT) : Option J := bndV (kFa 4 [x107]) fun x108 =>
  bndE (dSt h 1 [x108, x105]) h fun _ h =>
  bndV (kMov [x106]) fun x12 =>
  bndV (kMov [x12]) fun x109 =>
  bndV (kBin .neq [x109, (.int .i64 (.ofNat (nat_lit 0)))]) fun x110 =>
  tstv x110 (bndV (kMov [x12]) fun x111 =>
  bndV (kMov [(.ptr none)]) fun x6 =>
  bndV (kMov [x111]) fun x7 =>
  ret1 (.tuple [x6, x7]) h)
  (bndV (kMov [x10]) fun x113 =>
  bndC (f35 [x113] h) fun x114 h =>
  bndV (kMov [x114]) fun x112 =>
  bndV (kExt 0 [x112]) fun x115 =>
  (f9_5 x1 x8 x10 x13 x112 x115 h))
noncomputable def f9_7 (x0 : V) (x1 : V) (vs : List V) (h : HT) : Option J := unc vs fun x8 vs =>
  unc vs fun x10 vs =>
  unc vs fun x13 vs =>
  unc vs fun x14 vs =>
  bndV (kMov [x8]) fun x99 =>
  bndV (kMov [x0]) fun x100 =>
  bndV (kMov [x1]) fun x101 =>
  bndV (qLd h (some 7) [x13]) fun x102 =>
  bndV (kMov [x14]) fun x103 =>
  bndC (f34 [x100, x101, x102, x103] h) fun x104 h =>
  bndV (kMov [x104]) fun x98 =>
  bndV (kExt 0 [x98]) fun x105 =>
  bndV (kExt 1 [x98]) fun x106 =>
  bndV (kNilc [x99]) fun x107 =>
  (f9_6 x1 x8 x10 x13 x105 x106 x107 h)
noncomputable def f9_8 (x0 : V) (x1 : V) (x8 : V) (x10 : V) (x13 : V) (x14 : V) (x70 : V) (x71 : V) (x72 : V) (h : HT) : Option J := bndJ (loopF (fun rc vs h => unc vs fun x0 vs =>
  unc vs fun x1 vs =>
  unc vs fun x8 vs =>
  unc vs fun x10 vs =>
  unc vs fun x13 vs =>
  unc vs fun x14 vs =>
  unc vs fun x70 vs =>
  unc vs fun x71 vs =>
  unc vs fun x72 vs =>
  bndV (kBin .lss [x72, x71]) fun x73 =>
  (f9_2 rc x0 x1 x8 x10 x13 x14 x70 x71 x72 x73 h)) 1000000 [x0, x1, x8, x10, x13, x14, x70, x71, x72] h)
  fun j vs h => unc vs fun x0 vs =>
  unc vs fun x1 vs =>
  (f9_7 x0 x1 vs h)
noncomputable def f9_9 (x0 : V) (x1 : V) (x8 : V) (x10 : V) (x11 : V) (x12 : V) (x64 : V) (h : HT) : Option J := tstv x64 (bndV (kMov [x12]) fun x65 =>
  bndV (kMov [(.ptr none)]) fun x6 =>
  bndV (kMov [x65]) fun x7 =>
  ret1 (.tuple [x6, x7]) h)
  (bndV (kMov [x8]) fun x66 =>
  bndV (kMov [x10]) fun x67 =>
  bndV (kNilc [x66]) fun x68 =>
  bndV (kFa 3 [x68]) fun x69 =>
  bndE (dSt h 1 [x69, x67]) h fun _ h =>
  bndN (kAlloc [(.int .i64 (.ofNat (nat_lit 0))), (.int .i64 (.ofNat (nat_lit 0))), (.int .i64 (.ofNat (nat_lit 0))), (.int .i64 (.ofNat (nat_lit 0))), (.int .i64 (.ofNat (nat_lit 0))), (.int .i64 (.ofNat (nat_lit 0))), (.int .i64 (.ofNat (nat_lit 0)))] []) h fun x13 h =>
  bndV (kMov [(.slice none 0 true 0)]) fun x14 =>
  bndV (kMov [x11]) fun x70 =>
  bndV (kLenS [x70]) fun x71 =>
  bndV (kMov [(.int .i64 (.ofNat (nat_lit 0)))]) fun x72 =>
  (f9_8 x0 x1 x8 x10 x13 x14 x70 x71 x72 h))
noncomputable def f9_10 (x0 : V) (x1 : V) (x2 : V) (x8 : V) (x9 : V) (x55 : V) (h : HT) : Option J := tstv x55 (bndV (kMov [x9]) fun x56 =>
  bndV (kMov [(.ptr none)]) fun x6 =>
  bndV (kMov [x56]) fun x7 =>
  ret1 (.tuple [x6, x7]) h)
  (bndV (kMov [x2]) fun x58 =>
  bndC (f32 [x58] h) fun x59 h =>
  bndV (kMov [x59]) fun x57 =>
  bndV (kExt 0 [x57]) fun x60 =>
  bndV (kExt 1 [x57]) fun x61 =>
  bndV (kExt 2 [x57]) fun x62 =>
  bndV (kMov [x60]) fun x10 =>
  bndV (kMov [x61]) fun x11 =>
  bndV (kMov [x62]) fun x12 =>
  bndV (kMov [x12]) fun x63 =>
  bndV (kBin .neq [x63, (.int .i64 (.ofNat (nat_lit 0)))]) fun x64 =>
  (f9_9 x0 x1 x8 x10 x11 x12 x64 h))
noncomputable def f9_11 (x0 : V) (x1 : V) (x2 : V) (x8 : V) (x44 : V) (h : HT) : Option J := bndV (kMov [x0]) fun x45 =>
  bndV (kMov [x1]) fun x46 =>
  bndC (f30 [x45, x46] h) fun x47 h =>
  bndV (kMov [x47]) fun x43 =>
  bndV (kExt 0 [x43]) fun x48 =>
  bndV (kExt 1 [x43]) fun x49 =>
  bndV (kNilc [x44]) fun x50 =>
  bndV (kFa 5 [x50]) fun x51 =>
  bndE (dSt h 1 [x51, x48]) h fun _ h =>
  bndV (kMov [x8]) fun x52 =>
  bndC (f31 [x52] h) fun x53 h =>
  bndV (kMov [x53]) fun x9 =>
  bndV (kMov [x9]) fun x54 =>
  bndV (kBin .neq [x54, (.int .i64 (.ofNat (nat_lit 0)))]) fun x55 =>
  (f9_10 x0 x1 x2 x8 x9 x55 h)
noncomputable def f9_12 (x0 : V) (x1 : V) (x2 : V) (x34 : V) (h : HT) : Option J := bndC (gsel x34 false (retV (kMov [x2]) h) h) fun x35 h =>
  bndC (gsel x34 false (retV (kEqN false [x35, (.ptr none)]) h) h) fun x36 h =>
  bndV (kPick [x34, (.bool true), x36]) fun x37 =>
  tstv x37 (bndV (kMov [(.ptr none)]) fun x6 =>
  bndV (kMov [(.int .i64 (.ofNat (nat_lit 1)))]) fun x7 =>
  ret1 (.tuple [x6, x7]) h)
  (bndV (kMov [x0]) fun x38 =>
  bndV (kMov [x1]) fun x39 =>
  bndV (kMov [x2]) fun x40 =>
  bndV (kBld [(.int .i64 (.ofNat (nat_lit 0))), (.int .i64 (.ofNat (nat_lit 0))), (.ptr none), (.ptr none), (.ptr none), (.ptr none), (.slice none 0 true 0), (.int .i64 (.ofNat (nat_lit 0))), (.int .i64 (.ofNat (nat_lit 0))), (.bool false), (.str (sb [])), (.int .i64 (.ofNat (nat_lit 0))), (.slice none 0 true 0), (.int .i64 (.ofNat (nat_lit 0))), (.int .i64 (.ofNat (nat_lit 0))), (.bool false), (.str (sb [])), (.int .i64 (.ofNat (nat_lit 0))), (.slice none 0 true 0), (.int .i64 (.ofNat (nat_lit 0))), (.int .i64 (.ofNat (nat_lit 0))), (.bool false), (.str (sb [])), (.int .i64 (.ofNat (nat_lit 0))), (.slice none 0 true 0), (.int .i64 (.ofNat (nat_lit 0))), (.int .i64 (.ofNat (nat_lit 0))), (.bool false), (.str (sb [])), (.int .i64 (.ofNat (nat_lit 0))), (.slice none 0 true 0), (.int .i64 (.ofNat (nat_lit 0))), (.int .i64 (.ofNat (nat_lit 0))), (.bool false), (.str (sb [])), (.int .i64 (.ofNat (nat_lit 0))), (.slice none 0 true 0), (.int .i64 (.ofNat (nat_lit 0))), (.int .i64 (.ofNat (nat_lit 0))), (.bool false), (.str (sb [])), (.int .i64 (.ofNat (nat_lit 0))), (.slice none 0 true 0), (.int .i64 (.ofNat (nat_lit 0))), (.int .i64 (.ofNat (nat_lit 0))), (.bool false), (.str (sb [])), (.int .i64 (.ofNat (nat_lit 0))), (.slice none 0 true 0), (.int .i64 (.ofNat (nat_lit 0))), (.int .i64 (.ofNat (nat_lit 0))), (.bool false), (.str (sb [])), (.int .i64 (.ofNat (nat_lit 0))), (.slice none 0 true 0), (.int .i64 (.ofNat (nat_lit 0))), (.int .i64 (.ofNat (nat_lit 0))), (.int .i64 (.ofNat (nat_lit 0))), (.int .i64 (.ofNat (nat_lit 0))), (.int .i64 (.ofNat (nat_lit 0))), (.int .i64 (.ofNat (nat_lit 0))), (.int .i64 (.ofNat (nat_lit 0))), (.int .i64 (.ofNat (nat_lit 0))), (.int .i64 (.ofNat (nat_lit 0))), (.int .i64 (.ofNat (nat_lit 0))), (.int .i64 (.ofNat (nat_lit 0))), (.int .i64 (.ofNat (nat_lit 0))), (.int .i64 (.ofNat (nat_lit 0))), (.int .i64 (.ofNat (nat_lit 0))), (.int .i64 (.ofNat (nat_lit 0))), (.int .i64 (.ofNat (nat_lit 0))), (.slice none 0 true 0), (.slice none 0 true 0), (.slice none 0 true 0), (.bool false)] [(0, 1), (1, 1), (2, 1)] [x38, x39, x40]) fun x41 =>
  bndN (kBox [x41]) h fun x42 h =>
  bndV (kMov [x42]) fun x8 =>
  bndV (kMov [x8]) fun x44 =>
  (f9_11 x0 x1 x2 x8 x44 h))
noncomputable def f9_13 (x0 : V) (x1 : V) (x2 : V) (h : HT) : Option J := bndV (kMov [(.int .i64 (.ofNat (nat_lit 0)))]) fun x7 =>
  bndV (kMov [x0]) fun x22 =>
  bndC (f29 [x22] h) fun x23 h =>
  bndV (kUn .not [x23]) fun x24 =>
  bndV (kMov [x24]) fun x25 =>
  bndC (gsel x25 false (retV (kMov [x1]) h) h) fun x26 h =>
  bndC (gsel x25 false (retV (kBin .lss [x26, (.int .i64 (.ofNat (nat_lit 0)))]) h) h) fun x27 h =>
  bndV (kPick [x25, (.bool true), x27]) fun x28 =>
  bndV (kMov [x28]) fun x29 =>
  bndC (gsel x29 false (retV (kMov [x1]) h) h) fun x30 h =>
  bndC (gsel x29 false (retV (kMov [x0]) h) h) fun x31 h =>
  bndC (gsel x29 false (retV (kBin .geq [x30, x31]) h) h) fun x32 h =>
  bndV (kPick [x29, (.bool true), x32]) fun x33 =>
  bndV (kMov [x33]) fun x34 =>
  (f9_12 x0 x1 x2 x34 h)
noncomputable def f9 (vs : List V) (h : HT) : Option J := unc vs fun x0 vs =>
  unc vs fun x1 vs =>
  unc vs fun x2 vs =>
  bndV (kMov [(.ptr none)]) fun x6 =>
  (f9_13 x0 x1 x2 h)
def a9 : List Ann := [.no, .no, .no, .no, .loop [0, 1, 8, 10, 13, 14, 70, 71, 72] [((.exit 0), [0, 1, 8, 10, 13, 14])], .no, .no, .join [(.normal, [0, 1, 8, 10, 13, 14, 70, 71, 72])], .join [(.normal, [0, 1, 8, 10, 13, 14, 70, 71, 72])], .no, .join [(.ret, [6, 7]), (.normal, [1, 8])], .no]
theorem e9 : f9 = evFun Tryz.prog 9 3 a9 t9 := by kernel_rfl
theorem o9 : FnOk Tryz.prog 9 f9 := .of hmO (show enters Tryz.prog 9 = true by kernel_rfl) e9 (.cons o29 (.cons o30 (.cons o31 (.cons o32 (.cons o33 (.cons o34 (.cons o35 (.cons o36 (.cons o37 (.cons o38 (.cons o39 (.nil))))))))))))

/- (*concord/node.Node).way -/
noncomputable def l41 : List (Nat × (List V → HT → Option J)) := [(118, f118)]
noncomputable def t41 : Fns := tab l41
noncomputable def f41_0 (rc : List V → HT → Option J) (x0 : V) (x3 : V) (x7 : V) (x13 : V) (x14 : V) (x15 : V) (x49 : V) (x55 : V) (h : HT) : Option J := bndV (kPick [x49, x55, (.bool false)]) fun x56 =>
  bndV (kMov [x56]) fun x57 =>
  bndC (gsel x57 true (retV (kFa 5 [x7]) h) h) fun x58 h =>
  bndC (gsel x57 true (retV (kFa 2 [x58]) h) h) fun x59 h =>
  bndC (gsel x57 true (retV (qLd h none [x59]) h) h) fun x60 h =>
  bndC (gsel x57 true (retV (kFa 1 [x3]) h) h) fun x61 h =>
  bndC (gsel x57 true (retV (qLd h none [x61]) h) h) fun x62 h =>
  bndC (gsel x57 true (retV (kBin .eql [x60, x62]) h) h) fun x63 h =>
  bndV (kPick [x57, x63, (.bool false)]) fun x64 =>
  tstv x64 (bndV (kMov [(.bool true)]) fun x4 =>
  some ⟨1, [x4], h⟩)
  (bndV (kBin .add [x15, (.int .i64 (.ofNat (nat_lit 1)))]) fun x65 =>
  bndV (kMov [x65]) fun x15 =>
  rc [x0, x3, x13, x14, x15] h)
noncomputable def f41_1 (rc : List V → HT → Option J) (x0 : V) (x3 : V) (x7 : V) (x13 : V) (x14 : V) (x15 : V) (x35 : V) (x37 : V) (x38 : V) (x41 : V) (h : HT) : Option J := bndC (gsel x35 true (retV (qLd h none [x41]) h) h) fun x42 h =>
  bndC (gsel x35 true (retV (kNilc [x38]) h) h) fun x43 h =>
  bndC (gsel x35 true (retV (kFa 55 [x43]) h) h) fun x44 h =>
  bndC (gsel x35 true (retV (kIaA 7 1 [x44, x42]) h) h) fun x45 h =>
  bndC (gsel x35 true (retV (qLd h none [x45]) h) h) fun x46 h =>
  bndC (gsel x35 true (retV (kBin .gtr [x37, x46]) h) h) fun x47 h =>
  bndV (kPick [x35, x47, (.bool false)]) fun x48 =>
  bndV (kMov [x48]) fun x49 =>
  bndC (gsel x49 true (retV (kFa 5 [x7]) h) h) fun x50 h =>
  bndC (gsel x49 true (retV (kFa 1 [x50]) h) h) fun x51 h =>
  bndC (gsel x49 true (retV (qLd h none [x51]) h) h) fun x52 h =>
  bndC (gsel x49 true (retV (kFa 0 [x3]) h) h) fun x53 h =>
  bndC (gsel x49 true (retV (qLd h none [x53]) h) h) fun x54 h =>
  bndC (gsel x49 true (retV (kBin .eql [x52, x54]) h) h) fun x55 h =>
  (f41_0 rc x0 x3 x7 x13 x14 x15 x49 x55 h)
noncomputable def f41_2 (rc : List V → HT → Option J) (x0 : V) (x3 : V) (x6 : V) (x7 : V) (x13 : V) (x14 : V) (x15 : V) (h : HT) : Option J := bndV (kFa 0 [x6]) fun x28 =>
  bndV (qLd h none [x28]) fun x29 =>
  bndV (kMov [x0]) fun x30 =>
  bndV (kNilc [x30]) fun x31 =>
  bndV (kFa 1 [x31]) fun x32 =>
  bndV (qLd h none [x32]) fun x33 =>
  bndV (kBin .eql [x29, x33]) fun x34 =>
  bndV (kMov [x34]) fun x35 =>
  bndC (gsel x35 true (retV (kFa 1 [x6]) h) h) fun x36 h =>
  bndC (gsel x35 true (retV (qLd h none [x36]) h) h) fun x37 h =>
  bndC (gsel x35 true (retV (kMov [x0]) h) h) fun x38 h =>
  bndC (gsel x35 true (retV (kMov [x0]) h) h) fun x39 h =>
  bndC (gsel x35 true (retV (kNilc [x39]) h) h) fun x40 h =>
  bndC (gsel x35 true (retV (kFa 1 [x40]) h) h) fun x41 h =>
  (f41_1 rc x0 x3 x7 x13 x14 x15 x35 x37 x38 x41 h)
noncomputable def f41_3 (rc : List V → HT → Option J) (x0 : V) (x3 : V) (x13 : V) (x14 : V) (x15 : V) (x18 : V) (h : HT) : Option J := bndN (kAlloc [(.int .i64 (.ofNat (nat_lit 0))), (.int .i64 (.ofNat (nat_lit 0)))] []) h fun x6 h =>
  bndE (dSt h 2 [x6, x18]) h fun _ h =>
  bndV (kMov [x0]) fun x20 =>
  bndV (kNilc [x20]) fun x21 =>
  bndV (kFa 4 [x21]) fun x22 =>
  bndV (qLd h none [x22]) fun x23 =>
  bndV (qLd h (some 2) [x6]) fun x24 =>
  bndN (kAlloc [(.int .i64 (.ofNat (nat_lit 0))), (.int .i64 (.ofNat (nat_lit 0))), (.int .i64 (.ofNat (nat_lit 0))), (.int .i64 (.ofNat (nat_lit 0))), (.int .i64 (.ofNat (nat_lit 0))), (.int .i64 (.ofNat (nat_lit 0))), (.int .i64 (.ofNat (nat_lit 0))), (.int .i64 (.ofNat (nat_lit 0))), (.str (sb [])), (.str (sb [])), (.str (sb [])), (.str (sb [])), (.int .i64 (.ofNat (nat_lit 0))), (.int .i64 (.ofNat (nat_lit 0))), (.int .i64 (.ofNat (nat_lit 0))), (.int .i64 (.ofNat (nat_lit 0))), (.int .i64 (.ofNat (nat_lit 0))), (.int .i64 (.ofNat (nat_lit 0))), (.int .i64 (.ofNat (nat_lit 0))), (.int .i64 (.ofNat (nat_lit 0))), (.bool false)] []) h fun x7 h =>
  bndC (noF [x23, x24] h) fun x25 h =>
  bndV (kMov [x25]) fun x19 =>
  bndV (kExt 0 [x19]) fun x26 =>
  bndV (kExt 1 [x19]) fun x27 =>
  bndE (dSt h 21 [x7, x26]) h fun _ h =>
  bndV (kMov [x27]) fun x8 =>
  (f41_2 rc x0 x3 x6 x7 x13 x14 x15 h)
noncomputable def f41_4 (x0 : V) (x3 : V) (x13 : V) (x14 : V) (x15 : V) (h : HT) : Option J := bndJ (loopF (fun rc vs h => unc vs fun x0 vs =>
  unc vs fun x3 vs =>
  unc vs fun x13 vs =>
  unc vs fun x14 vs =>
  unc vs fun x15 vs =>
  bndV (kBin .lss [x15, x14]) fun x16 =>
  tstv x16 (bndV (kIaS 2 [x13, x15]) fun x17 =>
  bndV (qLd h (some 2) [x17]) fun x18 =>
  (f41_3 rc x0 x3 x13 x14 x15 x18 h))
  (some ⟨0, [], h⟩)) 1000000 [x0, x3, x13, x14, x15] h)
  fun j vs h => nsw j (bndV (kMov [(.bool false)]) fun x4 =>
  ret1 x4 h)
  fun j => unc vs fun x4 vs =>
  ret1 x4 h
noncomputable def f41 (vs : List V) (h : HT) : Option J := unc vs fun x0 vs =>
  unc vs fun x1 vs =>
  bndN (kBox [x1]) h fun x3 h =>
  bndV (kMov [(.bool false)]) fun x4 =>
  bndV (kMov [x0]) fun x9 =>
  bndV (kNilc [x9]) fun x10 =>
  bndV (kFa 4 [x10]) fun x11 =>
  bndV (qLd h none [x11]) fun x12 =>
  bndC (f118 [x12] h) fun x13 h =>
  bndV (kLenS [x13]) fun x14 =>
  bndV (kMov [(.int .i64 (.ofNat (nat_lit 0)))]) fun x15 =>
  (f41_4 x0 x3 x13 x14 x15 h)
def a41 : List Ann := [.no, .loop [0, 3, 13, 14, 15] [((.exit 0), []), (.ret, [4])], .no, .no, .no]
theorem e41 : f41 = evFun Tryz.prog 41 2 a41 t41 := by kernel_rfl
theorem o41 : FnOk Tryz.prog 41 f41 := .of hmO (show enters Tryz.prog 41 = true by kernel_rfl) e41 (.cons o118 (.nil))

/- (*concord/log.Log).Top -/
noncomputable def l120 : List (Nat × (List V → HT → Option J)) := []
noncomputable def t120 : Fns := tab l120
noncomputable def f120_0 (rc : List V → HT → Option J) (x2 : V) (x3 : V) (x13 : V) (x16 : V) (h : HT) : Option J := bndV (kExt 0 [x16]) fun x17 =>
  bndN (kAlloc [(.int .i64 (.ofNat (nat_lit 0))), (.int .i64 (.ofNat (nat_lit 0)))] []) h fun x4 h =>
  bndE (dSt h 2 [x4, x17]) h fun _ h =>
  bndV (kFa 0 [x4]) fun x18 =>
  bndV (qLd h none [x18]) fun x19 =>
  bndV (kFa 0 [x4]) fun x20 =>
  bndV (qLd h none [x20]) fun x21 =>
  bndV (kIaA 7 1 [x3, x21]) fun x22 =>
  bndV (qLd h none [x22]) fun x23 =>
  bndV (kFa 1 [x4]) fun x24 =>
  bndV (qLd h none [x24]) fun x25 =>
  bndV (kMaxI [x23, x25]) fun x26 =>
  bndV (kIaA 7 1 [x3, x19]) fun x27 =>
  bndE (dSt h 1 [x27, x26]) h fun _ h =>
  rc [x2, x3, x13] h
noncomputable def f120_1 (x2 : V) (x3 : V) (x13 : V) (h : HT) : Option J := bndJ (loopF (fun rc vs h => unc vs fun x2 vs =>
  unc vs fun x3 vs =>
  unc vs fun x13 vs =>
  bndE (dNx h [x13]) h fun x14 h =>
  bndV (kExt 0 [x14]) fun x15 =>
  tstv x15 (bndV (kEnt h.heap [x13]) fun x16 =>
  (f120_0 rc x2 x3 x13 x16 h))
  (some ⟨0, [x2, x3], h⟩)) 1000000 [x2, x3, x13] h)
  fun j vs h => unc vs fun x2 vs =>
  unc vs fun x3 vs =>
  bndV (qLd h (some 7) [x3]) fun x28 =>
  bndE (dSt h 7 [x2, x28]) h fun _ h =>
  bndV (qLd h (some 7) [x2]) fun x900000 =>
  ret1 x900000 h
noncomputable def f120 (vs : List V) (h : HT) : Option J := unc vs fun x0 vs =>
  bndN (kAlloc [(.int .i64 (.ofNat (nat_lit 0))), (.int .i64 (.ofNat (nat_lit 0))), (.int .i64 (.ofNat (nat_lit 0))), (.int .i64 (.ofNat (nat_lit 0))), (.int .i64 (.ofNat (nat_lit 0))), (.int .i64 (.ofNat (nat_lit 0))), (.int .i64 (.ofNat (nat_lit 0)))] []) h fun x2 h =>
  bndV (kMov [x0]) fun x5 =>
  bndV (kNilc [x5]) fun x6 =>
  bndV (kFa 1 [x6]) fun x7 =>
  bndV (qLd h (some 7) [x7]) fun x8 =>
  bndN (kAlloc [(.int .i64 (.ofNat (nat_lit 0))), (.int .i64 (.ofNat (nat_lit 0))), (.int .i64 (.ofNat (nat_lit 0))), (.int .i64 (.ofNat (nat_lit 0))), (.int .i64 (.ofNat (nat_lit 0))), (.int .i64 (.ofNat (nat_lit 0))), (.int .i64 (.ofNat (nat_lit 0)))] []) h fun x3 h =>
  bndE (dSt h 7 [x3, x8]) h fun _ h =>
  bndV (kMov [x0]) fun x9 =>
  bndV (kNilc [x9]) fun x10 =>
  bndV (kFa 0 [x10]) fun x11 =>
  bndV (qLd h none [x11]) fun x12 =>
  bndN (kRng h.heap [x12]) h fun x13 h =>
  (f120_1 x2 x3 x13 h)
def a120 : List Ann := [.no, .loop [2, 3, 13] [((.exit 0), [2, 3])], .no, .no]
theorem e120 : f120 = evFun Tryz.prog 120 1 a120 t120 := by kernel_rfl
theorem o120 : FnOk Tryz.prog 120 f120 := .of hmO (show enters Tryz.prog 120 = true by kernel_rfl) e120 (.nil)

/- (*concord/interf.Index).Attr -/
noncomputable def l121 : List (Nat × (List V → HT → Option J)) := [(128, f128)]
noncomputable def t121 : Fns := tab l121
noncomputable def f121_0 (rc : List V → HT → Option J) (x0 : V) (x4 : V) (x5 : V) (x6 : V) (x7 : V) (x8 : V) (x15 : V) (x45 : V) (x46 : V) (h : HT) : Option J := bndE (dSt h 1 [x46, x45]) h fun _ h =>
  bndV (kFa 0 [x8]) fun x47 =>
  bndV (qLd h none [x47]) fun x48 =>
  bndV (kFa 0 [x8]) fun x49 =>
  bndV (qLd h none [x49]) fun x50 =>
  bndV (kFa 1 [x7]) fun x51 =>
  bndV (kIaA 7 1 [x51, x50]) fun x52 =>
  bndV (qLd h none [x52]) fun x53 =>
  bndV (kFa 1 [x8]) fun x54 =>
  bndV (qLd h none [x54]) fun x55 =>
  bndV (kMaxI [x53, x55]) fun x56 =>
  bndV (kFa 1 [x7]) fun x57 =>
  bndV (kIaA 7 1 [x57, x48]) fun x58 =>
  bndE (dSt h 1 [x58, x56]) h fun _ h =>
  rc [x0, x4, x5, x6, x7, x15] h
noncomputable def f121_1 (rc : List V → HT → Option J) (x0 : V) (x4 : V) (x5 : V) (x6 : V) (x7 : V) (x8 : V) (x9 : V) (x15 : V) (x33 : V) (x34 : V) (h : HT) : Option J := bndC (gsel x33 false (retV (qLd h (some 7) [x34]) h) h) fun x35 h =>
  bndC (gsel x33 false (retV (qLd h (some 7) [x5]) h) h) fun x36 h =>
  bndC (gsel x33 false (noF [x35, x36] h) h) fun x37 h =>
  bndC (gsel x33 false (retV (kUn .not [x37]) h) h) fun x38 h =>
  bndV (kPick [x33, (.bool true), x38]) fun x39 =>
  tstv x39 (rc [x0, x4, x5, x6, x7, x15] h)
  (bndV (kFa 0 [x7]) fun x40 =>
  bndV (qLd h none [x40]) fun x41 =>
  bndV (kFa 7 [x9]) fun x42 =>
  bndV (qLd h none [x42]) fun x43 =>
  bndV (kBin .add [x43, (.int .i64 (.ofNat (nat_lit 1)))]) fun x44 =>
  bndV (kMaxI [x41, x44]) fun x45 =>
  bndV (kFa 0 [x7]) fun x46 =>
  (f121_0 rc x0 x4 x5 x6 x7 x8 x15 x45 x46 h))
noncomputable def f121_2 (rc : List V → HT → Option J) (x0 : V) (x4 : V) (x5 : V) (x6 : V) (x7 : V) (x8 : V) (x9 : V) (x15 : V) (h : HT) : Option J := bndV (kFa 0 [x8]) fun x21 =>
  bndV (qLd h none [x21]) fun x22 =>
  bndV (kFa 0 [x4]) fun x23 =>
  bndV (qLd h none [x23]) fun x24 =>
  bndV (kBin .eql [x22, x24]) fun x25 =>
  bndV (kMov [x25]) fun x26 =>
  bndC (gsel x26 true (retV (kFa 1 [x8]) h) h) fun x27 h =>
  bndC (gsel x26 true (retV (qLd h none [x27]) h) h) fun x28 h =>
  bndC (gsel x26 true (retV (kFa 1 [x4]) h) h) fun x29 h =>
  bndC (gsel x26 true (retV (qLd h none [x29]) h) h) fun x30 h =>
  bndC (gsel x26 true (retV (kBin .geq [x28, x30]) h) h) fun x31 h =>
  bndV (kPick [x26, x31, (.bool false)]) fun x32 =>
  bndV (kMov [x32]) fun x33 =>
  bndC (gsel x33 false (retV (kFa 0 [x9]) h) h) fun x34 h =>
  (f121_1 rc x0 x4 x5 x6 x7 x8 x9 x15 x33 x34 h)
noncomputable def f121_3 (rc : List V → HT → Option J) (x0 : V) (x4 : V) (x5 : V) (vs : List V) (h : HT) : Option J := unc vs fun x6 vs =>
  unc vs fun x7 vs =>
  unc vs fun x15 vs =>
  bndE (dNx h [x15]) h fun x16 h =>
  bndV (kExt 0 [x16]) fun x17 =>
  tstv x17 (bndV (kEnt h.heap [x15]) fun x18 =>
  bndV (kExt 0 [x18]) fun x19 =>
  bndV (kExt 1 [x18]) fun x20 =>
  bndN (kAlloc [(.int .i64 (.ofNat (nat_lit 0))), (.int .i64 (.ofNat (nat_lit 0)))] []) h fun x8 h =>
  bndN (kAlloc [(.int .i64 (.ofNat (nat_lit 0))), (.int .i64 (.ofNat (nat_lit 0))), (.int .i64 (.ofNat (nat_lit 0))), (.str (sb [])), (.str (sb [])), (.str (sb [])), (.str (sb [])), (.int .i64 (.ofNat (nat_lit 0)))] []) h fun x9 h =>
  bndE (dSt h 2 [x8, x19]) h fun _ h =>
  bndE (dSt h 8 [x9, x20]) h fun _ h =>
  (f121_2 rc x0 x4 x5 x6 x7 x8 x9 x15 h))
  (some ⟨0, [x0, x4, x6, x7], h⟩)
noncomputable def f121_4 (x0 : V) (x4 : V) (x6 : V) (x7 : V) (x10 : V) (x59 : V) (x67 : V) (h : HT) : Option J := bndV (kMov [x10]) fun x68 =>
  bndV (kFa 1 [x7]) fun x69 =>
  bndV (kIaA 7 1 [x69, x68]) fun x70 =>
  bndV (qLd h none [x70]) fun x71 =>
  bndV (kMov [x0]) fun x72 =>
  bndV (kMov [x10]) fun x73 =>
  bndV (kNilc [x72]) fun x74 =>
  bndV (kFa 1 [x74]) fun x75 =>
  bndV (kIaA 7 1 [x75, x73]) fun x76 =>
  bndV (qLd h none [x76]) fun x77 =>
  bndV (kMaxI [x71, x77]) fun x78 =>
  bndV (kFa 1 [x7]) fun x79 =>
  bndV (kIaA 7 1 [x79, x67]) fun x80 =>
  bndE (dSt h 1 [x80, x78]) h fun _ h =>
  some ⟨0, [x0, x4, x6, x7, x59], h⟩
noncomputable def f121_5 (x0 : V) (x4 : V) (x6 : V) (x7 : V) (x10 : V) (x59 : V) (x81 : V) (h : HT) : Option J := tstv x81 (bndV (kMov [x10]) fun x84 =>
  bndV (kMov [x10]) fun x85 =>
  bndV (kFa 1 [x7]) fun x86 =>
  bndV (kIaA 7 1 [x86, x85]) fun x87 =>
  bndV (qLd h none [x87]) fun x88 =>
  bndV (kFa 1 [x4]) fun x89 =>
  bndV (qLd h none [x89]) fun x90 =>
  bndV (kBin .sub [x90, (.int .i64 (.ofNat (nat_lit 1)))]) fun x91 =>
  bndV (kMaxI [x88, x91]) fun x92 =>
  bndV (kFa 1 [x7]) fun x93 =>
  bndV (kIaA 7 1 [x93, x84]) fun x94 =>
  bndE (dSt h 1 [x94, x92]) h fun _ h =>
  some ⟨0, [x0, x4, x6, x7, x59], h⟩)
  (some ⟨0, [x0, x4, x6, x7, x59], h⟩)
noncomputable def f121_6 (rc : List V → HT → Option J) (x0 : V) (x4 : V) (x6 : V) (x7 : V) (x10 : V) (x59 : V) (x62 : V) (h : HT) : Option J := bndJ (tstv x62 (bndV (kMov [x10]) fun x67 =>
  (f121_4 x0 x4 x6 x7 x10 x59 x67 h))
  (bndV (qLd h (some 2) [x4]) fun x82 =>
  bndC (f128 [x82] h) fun x83 h =>
  bndV (kMov [x83]) fun x81 =>
  bndJ ((f121_5 x0 x4 x6 x7 x10 x59 x81 h))
  fun j vs h => unc vs fun x0 vs =>
  unc vs fun x4 vs =>
  unc vs fun x6 vs =>
  unc vs fun x7 vs =>
  unc vs fun x59 vs =>
  some ⟨0, [x0, x4, x6, x7, x59], h⟩))
  fun j vs h => unc vs fun x0 vs =>
  unc vs fun x4 vs =>
  unc vs fun x6 vs =>
  unc vs fun x7 vs =>
  unc vs fun x59 vs =>
  bndV (kBin .add [x59, (.int .i64 (.ofNat (nat_lit 1)))]) fun x95 =>
  bndV (kMov [x95]) fun x59 =>
  rc [x0, x4, x6, x7, x59] h
noncomputable def f121_7 (rc : List V → HT → Option J) (x0 : V) (vs : List V) (h : HT) : Option J := unc vs fun x4 vs =>
  unc vs fun x6 vs =>
  unc vs fun x7 vs =>
  unc vs fun x59 vs =>
  bndV (kBin .lss [x59, (.int .i64 (.ofNat (nat_lit 7)))]) fun x60 =>
  tstv x60 (bndV (kMov [x59]) fun x61 =>
  bndV (kMov [x61]) fun x10 =>
  bndV (kMov [x10]) fun x63 =>
  bndV (kFa 0 [x4]) fun x64 =>
  bndV (qLd h none [x64]) fun x65 =>
  bndV (kBin .neq [x63, x65]) fun x66 =>
  bndV (kMov [x66]) fun x62 =>
  (f121_6 rc x0 x4 x6 x7 x10 x59 x62 h))
  (some ⟨0, [x6, x7], h⟩)
noncomputable def f121_8 (vs : List V) (h : HT) : Option J := unc vs fun x0 vs =>
  unc vs fun x4 vs =>
  unc vs fun x6 vs =>
  unc vs fun x7 vs =>
  bndV (kMov [(.int .i64 (.ofNat (nat_lit 0)))]) fun x59 =>
  bndJ (loopF (fun rc vs h => unc vs fun x0 vs =>
  (f121_7 rc x0 vs h)) 1000000 [x0, x4, x6, x7, x59] h)
  fun j vs h => unc vs fun x6 vs =>
  unc vs fun x7 vs =>
  bndV (qLd h (some 8) [x7]) fun x96 =>
  bndE (dSt h 8 [x6, x96]) h fun _ h =>
  bndV (qLd h (some 8) [x6]) fun x900000 =>
  ret1 x900000 h
noncomputable def f121_9 (x0 : V) (x2 : V) (x4 : V) (h : HT) : Option J := bndN (kBox [x2]) h fun x5 h =>
  bndN (kAlloc [(.int .i64 (.ofNat (nat_lit 0))), (.int .i64 (.ofNat (nat_lit 0))), (.int .i64 (.ofNat (nat_lit 0))), (.int .i64 (.ofNat (nat_lit 0))), (.int .i64 (.ofNat (nat_lit 0))), (.int .i64 (.ofNat (nat_lit 0))), (.int .i64 (.ofNat (nat_lit 0))), (.int .i64 (.ofNat (nat_lit 0)))] []) h fun x6 h =>
  bndN (kAlloc [(.int .i64 (.ofNat (nat_lit 0))), (.int .i64 (.ofNat (nat_lit 0))), (.int .i64 (.ofNat (nat_lit 0))), (.int .i64 (.ofNat (nat_lit 0))), (.int .i64 (.ofNat (nat_lit 0))), (.int .i64 (.ofNat (nat_lit 0))), (.int .i64 (.ofNat (nat_lit 0))), (.int .i64 (.ofNat (nat_lit 0)))] []) h fun x7 h =>
  bndV (kMov [x0]) fun x11 =>
  bndV (kNilc [x11]) fun x12 =>
  bndV (kFa 0 [x12]) fun x13 =>
  bndV (qLd h none [x13]) fun x14 =>
  bndN (kRng h.heap [x14]) h fun x15 h =>
  bndJ (loopF (fun rc vs h => unc vs fun x0 vs =>
  unc vs fun x4 vs =>
  unc vs fun x5 vs =>
  (f121_3 rc x0 x4 x5 vs h)) 1000000 [x0, x4, x5, x6, x7, x15] h)
  fun j vs h => (f121_8 vs h)
noncomputable def f121 (vs : List V) (h : HT) : Option J := unc vs fun x0 vs =>
  unc vs fun x1 vs =>
  unc vs fun x2 vs =>
  bndN (kBox [x1]) h fun x4 h =>
  (f121_9 x0 x2 x4 h)
def a121 : List Ann := [.no, .loop [0, 4, 5, 6, 7, 15] [((.exit 0), [0, 4, 6, 7])], .no, .no, .no, .no, .loop [0, 4, 6, 7, 59] [((.exit 2), [6, 7])], .no, .no, .no, .join [(.normal, [0, 4, 6, 7, 59])], .join [(.normal, [0, 4, 6, 7, 59])]]
theorem e121 : f121 = evFun Tryz.prog 121 3 a121 t121 := by kernel_rfl
theorem o121 : FnOk Tryz.prog 121 f121 := .of hmO (show enters Tryz.prog 121 = true by kernel_rfl) e121 (.cons o128 (.nil))

/- concord/pack.Flag -/
noncomputable def l257 : List (Nat × (List V → HT → Option J)) := [(176, f176)]
noncomputable def t257 : Fns := tab l257
noncomputable def f257_0 (x0 : V) (x1 : V) (h : HT) : Option J := bndV (kMov [(.slice none 0 true 0)]) fun x4 =>
  bndV (kMov [x1]) fun x5 =>
  tstv x5 (bndV (kMov [x0]) fun x6 =>
  bndC (f176 [x6, (.int .i64 (.ofNat (nat_lit 1)))] h) fun x7 h =>
  bndN (kBsl 1 1 [(.int .u8 (.ofNat (nat_lit 0)))] [(0, 1)] [(.int .u8 (.ofNat (nat_lit 1)))]) h fun x8 h =>
  bndE (dApp h 1 1 [x7, x8]) h fun x9 h =>
  bndV (kMov [x9]) fun x4 =>
  ret1 x4 h)
  (bndV (kMov [x0]) fun x10 =>
  bndC (f176 [x10, (.int .i64 (.ofNat (nat_lit 1)))] h) fun x11 h =>
  bndN (kBsl 1 1 [(.int .u8 (.ofNat (nat_lit 0)))] [(0, 1)] [(.int .u8 (.ofNat (nat_lit 0)))]) h fun x12 h =>
  bndE (dApp h 1 1 [x11, x12]) h fun x13 h =>
  bndV (kMov [x13]) fun x4 =>
  ret1 x4 h)
noncomputable def f257 (vs : List V) (h : HT) : Option J := unc vs fun x0 vs =>
  unc vs fun x1 vs =>
  (f257_0 x0 x1 h)
def a257 : List Ann := [.no]
theorem e257 : f257 = evFun Tryz.prog 257 2 a257 t257 := by kernel_rfl
theorem o257 : FnOk Tryz.prog 257 f257 := .of hmO (show enters Tryz.prog 257 = true by kernel_rfl) e257 (.cons o176 (.nil))

/- concord/letter.ballot -/
noncomputable def l311 : List (Nat × (List V → HT → Option J)) := [(108, f108)]
noncomputable def t311 : Fns := tab l311

noncomputable def f311 (vs : List V) (h : HT) : Option J := unc vs fun x0 vs =>
  unc vs fun x1 vs =>
  bndN (kBox [x1]) h fun x3 h =>
  bndV (kMov [(.slice none 0 true 0)]) fun x4 =>
  bndV (kMov [x0]) fun x5 =>
  bndV (kFa 0 [x3]) fun x6 =>
  bndV (qLd h none [x6]) fun x7 =>
  bndV (kFa 1 [x3]) fun x9 =>
  bndV (qLd h none [x9]) fun x10 =>
  bndC (f108 [x5, x7] h) fun x8 h =>
  chk1 (sameE (qLd h none [x9]) x10) (bndC (f108 [x8, x10] h) fun x11 h =>
  bndV (kMov [x11]) fun x4 =>
  ret1 x4 h)
def a311 : List Ann := []
theorem e311 : f311 = evFun Tryz.prog 311 2 a311 t311 := by kernel_rfl
theorem o311 : FnOk Tryz.prog 311 f311 := .of hmO (show enters Tryz.prog 311 = true by kernel_rfl) e311 (.cons o108 (.nil))

/- concord/pack.Text -/
noncomputable def l258 : List (Nat × (List V → HT → Option J)) := [(176, f176), (184, f184)]
noncomputable def t258 : Fns := tab l258

noncomputable def f258 (vs : List V) (h : HT) : Option J := unc vs fun x0 vs =>
  unc vs fun x1 vs =>
  bndV (kMov [(.slice none 0 true 0)]) fun x4 =>
  bndV (kMov [x0]) fun x5 =>
  bndV (kMov [x1]) fun x6 =>
  bndV (kLenT [x6]) fun x7 =>
  bndV (kBin .add [(.int .i64 (.ofNat (nat_lit 10))), x7]) fun x8 =>
  bndC (f176 [x5, x8] h) fun x9 h =>
  bndV (kMov [x1]) fun x10 =>
  bndV (kLenT [x10]) fun x11 =>
  bndC (f184 [x9, x11] h) fun x12 h =>
  bndV (kMov [x1]) fun x13 =>
  bndE (dAppStr h [x12, x13]) h fun x14 h =>
  bndV (kMov [x14]) fun x4 =>
  ret1 x4 h
def a258 : List Ann := []
theorem e258 : f258 = evFun Tryz.prog 258 2 a258 t258 := by kernel_rfl
theorem o258 : FnOk Tryz.prog 258 f258 := .of hmO (show enters Tryz.prog 258 = true by kernel_rfl) e258 (.cons o176 (.cons o184 (.nil)))

/- concord/cmd.Put -/
noncomputable def l312 : List (Nat × (List V → HT → Option J)) := [(40, f40), (108, f108), (258, f258)]
noncomputable def t312 : Fns := tab l312
noncomputable def f312_0 (x0 : V) (x3 : V) (x29 : V) (x36 : V) (h : HT) : Option J := tstv x36 (bndV (kMov [x0]) fun x38 =>
  bndV (kFa 5 [x3]) fun x39 =>
  bndV (qLd h none [x39]) fun x40 =>
  bndV (kFa 6 [x3]) fun x42 =>
  bndV (qLd h none [x42]) fun x43 =>
  bndC (f258 [x38, x40] h) fun x41 h =>
  chk1 (sameE (qLd h none [x42]) x43) (bndC (f258 [x41, x43] h) fun x44 h =>
  bndV (kMov [x44]) fun x0 =>
  some ⟨0, [x0], h⟩))
  (bndV (kBin .eql [x29, (.int .i64 (.ofNat (nat_lit 5)))]) fun x46 =>
  bndV (kMov [x46]) fun x45 =>
  bndJ (tstv x45 (bndV (kMov [x0]) fun x47 =>
  bndV (kFa 4 [x3]) fun x48 =>
  bndV (qLd h none [x48]) fun x49 =>
  bndC (f258 [x47, x49] h) fun x50 h =>
  bndV (kMov [x50]) fun x0 =>
  some ⟨0, [x0], h⟩)
  (some ⟨0, [x0], h⟩))
  fun j vs h => unc vs fun x0 vs =>
  some ⟨0, [x0], h⟩)
noncomputable def f312_1 (x0 : V) (x3 : V) (x29 : V) (x30 : V) (h : HT) : Option J := bndJ (tstv x30 (bndV (kMov [x0]) fun x32 =>
  bndV (kFa 6 [x3]) fun x33 =>
  bndV (qLd h none [x33]) fun x34 =>
  bndC (f258 [x32, x34] h) fun x35 h =>
  bndV (kMov [x35]) fun x0 =>
  some ⟨0, [x0], h⟩)
  (bndV (kBin .eql [x29, (.int .i64 (.ofNat (nat_lit 4)))]) fun x37 =>
  bndV (kMov [x37]) fun x36 =>
  bndJ ((f312_0 x0 x3 x29 x36 h))
  fun j vs h => unc vs fun x0 vs =>
  some ⟨0, [x0], h⟩))
  fun j vs h => unc vs fun x0 vs =>
  bndV (kMov [x0]) fun x51 =>
  bndV (kMov [x51]) fun x4 =>
  ret1 x4 h
noncomputable def f312_2 (x3 : V) (x18 : V) (x20 : V) (x22 : V) (h : HT) : Option J := bndV (qLd h none [x22]) fun x23 =>
  bndV (kFa 3 [x3]) fun x25 =>
  bndV (qLd h none [x25]) fun x26 =>
  bndC (f108 [x18, x20] h) fun x21 h =>
  chk1 (sameE (qLd h none [x25]) x26) (chk1 (sameE (qLd h none [x22]) x23) (bndC (f108 [x21, x23] h) fun x24 h =>
  chk1 (sameE (qLd h none [x25]) x26) (bndC (f258 [x24, x26] h) fun x27 h =>
  bndV (kMov [x27]) fun x0 =>
  bndV (kFa 0 [x3]) fun x28 =>
  bndV (qLd h none [x28]) fun x29 =>
  bndV (kBin .eql [x29, (.int .i64 (.ofNat (nat_lit 2)))]) fun x31 =>
  bndV (kMov [x31]) fun x30 =>
  (f312_1 x0 x3 x29 x30 h))))
noncomputable def f312_3 (x3 : V) (x10 : V) (x11 : V) (h : HT) : Option J := bndV (qLd h none [x11]) fun x12 =>
  bndC (f108 [x10, x12] h) fun x13 h =>
  bndV (kMov [x13]) fun x0 =>
  bndV (kFa 0 [x3]) fun x14 =>
  bndV (qLd h none [x14]) fun x15 =>
  bndV (kBin .eql [x15, (.int .i64 (.ofNat (nat_lit 0)))]) fun x16 =>
  tstv x16 (bndV (kMov [x0]) fun x17 =>
  bndV (kMov [x17]) fun x4 =>
  ret1 x4 h)
  (bndV (kMov [x0]) fun x18 =>
  bndV (kFa 1 [x3]) fun x19 =>
  bndV (qLd h none [x19]) fun x20 =>
  bndV (kFa 2 [x3]) fun x22 =>
  (f312_2 x3 x18 x20 x22 h))
noncomputable def f312 (vs : List V) (h : HT) : Option J := unc vs fun x0 vs =>
  unc vs fun x1 vs =>
  bndN (kBox [x1]) h fun x3 h =>
  bndV (kMov [(.slice none 0 true 0)]) fun x4 =>
  bndV (qLd h (some 7) [x3]) fun x5 =>
  bndC (f40 [x5] h) fun x6 h =>
  bndV (kUn .not [x6]) fun x7 =>
  tstv x7 (bndV (kMov [x0]) fun x8 =>
  bndE (dApp h 1 1 [(.slice none 0 true 0), x8]) h fun x9 h =>
  bndV (kMov [x9]) fun x4 =>
  ret1 x4 h)
  (bndV (kMov [x0]) fun x10 =>
  bndV (kFa 0 [x3]) fun x11 =>
  (f312_3 x3 x10 x11 h))
def a312 : List Ann := [.no, .no, .no, .join [(.normal, [0])], .join [(.normal, [0])], .join [(.normal, [0])]]
theorem e312 : f312 = evFun Tryz.prog 312 2 a312 t312 := by kernel_rfl
theorem o312 : FnOk Tryz.prog 312 f312 := .of hmO (show enters Tryz.prog 312 = true by kernel_rfl) e312 (.cons o40 (.cons o108 (.cons o258 (.nil))))

/- concord/deps.Put -/
noncomputable def l313 : List (Nat × (List V → HT → Option J)) := [(108, f108)]
noncomputable def t313 : Fns := tab l313
noncomputable def f313_0 (rc : List V → HT → Option J) (vs : List V) (h : HT) : Option J := unc vs fun x0 vs =>
  unc vs fun x12 vs =>
  unc vs fun x13 vs =>
  bndV (kBin .lss [x13, (.int .i64 (.ofNat (nat_lit 7)))]) fun x14 =>
  tstv x14 (bndV (kIxA 7 1 false [x12, x13]) fun x15 =>
  bndV (kMov [x15]) fun x6 =>
  bndV (kMov [x0]) fun x16 =>
  bndV (kMov [x6]) fun x17 =>
  bndC (f108 [x16, x17] h) fun x18 h =>
  bndV (kMov [x18]) fun x0 =>
  bndV (kBin .add [x13, (.int .i64 (.ofNat (nat_lit 1)))]) fun x19 =>
  bndV (kMov [x19]) fun x13 =>
  rc [x0, x12, x13] h)
  (some ⟨0, [x0], h⟩)
noncomputable def f313_1 (x0 : V) (x3 : V) (h : HT) : Option J := bndV (kMov [x0]) fun x7 =>
  bndV (kFa 0 [x3]) fun x8 =>
  bndV (qLd h none [x8]) fun x9 =>
  bndC (f108 [x7, x9] h) fun x10 h =>
  bndV (kMov [x10]) fun x0 =>
  bndV (kFa 1 [x3]) fun x11 =>
  bndV (qLd h (some 7) [x11]) fun x12 =>
  bndV (kMov [(.int .i64 (.ofNat (nat_lit 0)))]) fun x13 =>
  bndJ (loopF (fun rc vs h => (f313_0 rc vs h)) 1000000 [x0, x12, x13] h)
  fun j vs h => unc vs fun x0 vs =>
  bndV (kMov [x0]) fun x20 =>
  bndV (kMov [x20]) fun x4 =>
  ret1 x4 h
noncomputable def f313 (vs : List V) (h : HT) : Option J := unc vs fun x0 vs =>
  unc vs fun x1 vs =>
  bndN (kBox [x1]) h fun x3 h =>
  bndV (kMov [(.slice none 0 true 0)]) fun x4 =>
  (f313_1 x0 x3 h)
def a313 : List Ann := [.no, .loop [0, 12, 13] [((.exit 0), [0])], .no, .no]
theorem e313 : f313 = evFun Tryz.prog 313 2 a313 t313 := by kernel_rfl
theorem o313 : FnOk Tryz.prog 313 f313 := .of hmO (show enters Tryz.prog 313 = true by kernel_rfl) e313 (.cons o108 (.nil))

/- concord/letter.PutCell -/
noncomputable def l263 : List (Nat × (List V → HT → Option J)) := [(108, f108), (130, f130), (257, f257), (311, f311), (312, f312), (313, f313)]
noncomputable def t263 : Fns := tab l263
noncomputable def f263_0 (x3 : V) (x21 : V) (x23 : V) (x25 : V) (h : HT) : Option J := bndV (qLd h (some 7) [x25]) fun x26 =>
  bndC (f311 [x21, x23] h) fun x24 h =>
  chk1 (sameE (qLd h (some 7) [x25]) x26) (bndC (f312 [x24, x26] h) fun x27 h =>
  bndV (kMov [x27]) fun x0 =>
  bndV (kMov [x0]) fun x28 =>
  bndV (kFa 12 [x3]) fun x29 =>
  bndV (qLd h (some 8) [x29]) fun x30 =>
  bndV (kFa 20 [x3]) fun x32 =>
  bndV (qLd h none [x32]) fun x33 =>
  bndC (f313 [x28, x30] h) fun x31 h =>
  chk1 (sameE (qLd h none [x32]) x33) (bndC (f257 [x31, x33] h) fun x34 h =>
  bndV (kMov [x34]) fun x4 =>
  ret1 x4 h))
noncomputable def f263_1 (x3 : V) (x13 : V) (x14 : V) (x15 : V) (h : HT) : Option J := chk1 (sameE (qLd h (some 2) [x14]) x15) (bndC (f311 [x13, x15] h) fun x16 h =>
  bndV (kMov [x16]) fun x0 =>
  bndV (kFa 0 [x3]) fun x17 =>
  bndV (qLd h none [x17]) fun x18 =>
  bndV (kBin .eql [x18, (.int .i64 (.ofNat (nat_lit 0)))]) fun x19 =>
  tstv x19 (bndV (kMov [x0]) fun x20 =>
  bndV (kMov [x20]) fun x4 =>
  ret1 x4 h)
  (bndV (kMov [x0]) fun x21 =>
  bndV (kFa 3 [x3]) fun x22 =>
  bndV (qLd h (some 2) [x22]) fun x23 =>
  bndV (kFa 5 [x3]) fun x25 =>
  (f263_0 x3 x21 x23 x25 h)))
noncomputable def f263_2 (x0 : V) (x3 : V) (h : HT) : Option J := bndV (qLd h (some 21) [x3]) fun x5 =>
  bndC (f130 [x5] h) fun x6 h =>
  bndV (kUn .not [x6]) fun x7 =>
  tstv x7 (bndV (kMov [x0]) fun x8 =>
  bndE (dApp h 1 1 [(.slice none 0 true 0), x8]) h fun x9 h =>
  bndV (kMov [x9]) fun x4 =>
  ret1 x4 h)
  (bndV (kMov [x0]) fun x10 =>
  bndV (kFa 0 [x3]) fun x11 =>
  bndV (qLd h none [x11]) fun x12 =>
  bndV (kFa 1 [x3]) fun x14 =>
  bndV (qLd h (some 2) [x14]) fun x15 =>
  bndC (f108 [x10, x12] h) fun x13 h =>
  (f263_1 x3 x13 x14 x15 h))
noncomputable def f263 (vs : List V) (h : HT) : Option J := unc vs fun x0 vs =>
  unc vs fun x1 vs =>
  bndN (kBox [x1]) h fun x3 h =>
  bndV (kMov [(.slice none 0 true 0)]) fun x4 =>
  (f263_2 x0 x3 h)
def a263 : List Ann := [.no, .no]
theorem e263 : f263 = evFun Tryz.prog 263 2 a263 t263 := by kernel_rfl
theorem o263 : FnOk Tryz.prog 263 f263 := .of hmO (show enters Tryz.prog 263 = true by kernel_rfl) e263 (.cons o108 (.cons o130 (.cons o257 (.cons o311 (.cons o312 (.cons o313 (.nil)))))))

/- concord/log.Record -/
noncomputable def l198 : List (Nat × (List V → HT → Option J)) := [(108, f108), (263, f263)]
noncomputable def t198 : Fns := tab l198
noncomputable def f198_0 (x1 : V) (x2 : V) (h : HT) : Option J := bndN (kBox [x1]) h fun x3 h =>
  bndV (kMov [(.slice none 0 true 0)]) fun x4 =>
  bndV (kFa 0 [x2]) fun x5 =>
  bndV (qLd h none [x5]) fun x6 =>
  bndV (kFa 1 [x2]) fun x8 =>
  bndV (qLd h none [x8]) fun x9 =>
  bndV (qLd h (some 21) [x3]) fun x11 =>
  bndC (f108 [(.slice none 0 true 0), x6] h) fun x7 h =>
  chk1 (sameE (qLd h (some 21) [x3]) x11) (chk1 (sameE (qLd h none [x8]) x9) (bndC (f108 [x7, x9] h) fun x10 h =>
  chk1 (sameE (qLd h (some 21) [x3]) x11) (bndC (f263 [x10, x11] h) fun x12 h =>
  bndV (kMov [x12]) fun x4 =>
  ret1 x4 h)))
noncomputable def f198 (vs : List V) (h : HT) : Option J := unc vs fun x0 vs =>
  unc vs fun x1 vs =>
  bndN (kBox [x0]) h fun x2 h =>
  (f198_0 x1 x2 h)
def a198 : List Ann := []
theorem e198 : f198 = evFun Tryz.prog 198 2 a198 t198 := by kernel_rfl
theorem o198 : FnOk Tryz.prog 198 f198 := .of hmO (show enters Tryz.prog 198 = true by kernel_rfl) e198 (.cons o108 (.cons o263 (.nil)))

/- (*concord/core.Core).set -/
noncomputable def l122 : List (Nat × (List V → HT → Option J)) := [(104, f104), (105, f105), (198, f198)]
noncomputable def t122 : Fns := tab l122
noncomputable def f122_0 (x0 : V) (x4 : V) (x5 : V) (x15 : V) (x18 : V) (x19 : V) (h : HT) : Option J := bndV (qLd h (some 2) [x4]) fun x20 =>
  bndV (qLd h (some 21) [x5]) fun x21 =>
  bndC (f198 [x20, x21] h) fun x22 h =>
  chk1 (sameE (qLd h none [x18]) x19) (bndN (kBsl 1 1 [(.slice none 0 true 0)] [(0, 1)] [x22]) h fun x23 h =>
  bndE (dApp h 1 24 [x19, x23]) h fun x24 h =>
  bndV (kNilc [x15]) fun x25 =>
  bndV (kFa 6 [x25]) fun x26 =>
  bndE (dSt h 1 [x26, x24]) h fun _ h =>
  bndV (kMov [x0]) fun x27 =>
  bndV (qLd h (some 2) [x4]) fun x28 =>
  bndV (qLd h (some 21) [x5]) fun x29 =>
  bndC (f105 [x27, x28, x29] h) fun x30 h =>
  bndV (kMov [(.bool true)]) fun x6 =>
  ret1 x6 h)
noncomputable def f122_1 (x0 : V) (x4 : V) (x5 : V) (x8 : V) (h : HT) : Option J := bndV (kFa 2 [x8]) fun x9 =>
  bndV (qLd h none [x9]) fun x10 =>
  bndV (qLd h (some 2) [x4]) fun x11 =>
  bndV (qLd h (some 21) [x5]) fun x12 =>
  bndC (f104 [x10, x11, x12] h) fun x13 h =>
  bndV (kUn .not [x13]) fun x14 =>
  tstv x14 (bndV (kMov [(.bool false)]) fun x6 =>
  ret1 x6 h)
  (bndV (kMov [x0]) fun x15 =>
  bndV (kMov [x0]) fun x16 =>
  bndV (kNilc [x16]) fun x17 =>
  bndV (kFa 6 [x17]) fun x18 =>
  bndV (qLd h none [x18]) fun x19 =>
  (f122_0 x0 x4 x5 x15 x18 x19 h))
noncomputable def f122 (vs : List V) (h : HT) : Option J := unc vs fun x0 vs =>
  unc vs fun x1 vs =>
  unc vs fun x2 vs =>
  bndN (kBox [x1]) h fun x4 h =>
  bndN (kBox [x2]) h fun x5 h =>
  bndV (kMov [(.bool false)]) fun x6 =>
  bndV (kMov [x0]) fun x7 =>
  bndV (kNilc [x7]) fun x8 =>
  (f122_1 x0 x4 x5 x8 h)
def a122 : List Ann := [.no]
theorem e122 : f122 = evFun Tryz.prog 122 3 a122 t122 := by kernel_rfl
theorem o122 : FnOk Tryz.prog 122 f122 := .of hmO (show enters Tryz.prog 122 = true by kernel_rfl) e122 (.cons o104 (.cons o105 (.cons o198 (.nil))))

/- (*concord/core.Core).leave$1 -/
noncomputable def l269 : List (Nat × (List V → HT → Option J)) := []
noncomputable def t269 : Fns := tab l269

noncomputable def f269 (vs : List V) (h : HT) : Option J := unc vs fun x0 vs =>
  unc vs fun x1 vs =>
  bndV (kMov [(.bool false)]) fun x3 =>
  bndV (kMov [x0]) fun x4 =>
  bndV (kNilc [x4]) fun x5 =>
  bndV (kFa 0 [x5]) fun x6 =>
  bndV (qLd h (some 2) [x6]) fun x7 =>
  bndV (qLd h (some 2) [x1]) fun x8 =>
  bndV (kEqF false [.i, .i] [x7, x8]) fun x9 =>
  bndV (kMov [x9]) fun x3 =>
  ret1 x3 h
def a269 : List Ann := []
theorem e269 : f269 = evFun Tryz.prog 269 2 a269 t269 := by kernel_rfl
theorem o269 : FnOk Tryz.prog 269 f269 := .of hmO (show enters Tryz.prog 269 = true by kernel_rfl) e269 (.nil)

/- slices.IndexFunc[[]*concord/core.lead,*concord/core.lead] -/
noncomputable def l310 : List (Nat × (List V → HT → Option J)) := [(269, f269)]
noncomputable def t310 : Fns := tab l310
noncomputable def f310_0 (rc : List V → HT → Option J) (x0 : V) (x1 : V) (x7 : V) (x8 : V) (h : HT) : Option J := bndV (kMov [x8]) fun x10 =>
  bndV (kMov [x10]) fun x5 =>
  bndV (kMov [x1]) fun x11 =>
  bndV (kMov [x0]) fun x12 =>
  bndV (kMov [x5]) fun x13 =>
  bndV (kIaS 1 [x12, x13]) fun x14 =>
  bndV (qLd h none [x14]) fun x15 =>
  bndC (callvT t310 [x11, x15] h) fun x16 h =>
  tstv x16 (bndV (kMov [x5]) fun x17 =>
  bndV (kMov [x17]) fun x4 =>
  some ⟨1, [x4], h⟩)
  (bndV (kBin .add [x8, (.int .i64 (.ofNat (nat_lit 1)))]) fun x18 =>
  bndV (kMov [x18]) fun x8 =>
  rc [x0, x1, x7, x8] h)
noncomputable def f310_1 (x0 : V) (x1 : V) (x7 : V) (x8 : V) (h : HT) : Option J := bndJ (loopF (fun rc vs h => unc vs fun x0 vs =>
  unc vs fun x1 vs =>
  unc vs fun x7 vs =>
  unc vs fun x8 vs =>
  bndV (kBin .lss [x8, x7]) fun x9 =>
  tstv x9 ((f310_0 rc x0 x1 x7 x8 h))
  (some ⟨0, [], h⟩)) 1000000 [x0, x1, x7, x8] h)
  fun j vs h => nsw j (bndV (kMov [(.int .i64 (.negSucc (nat_lit 0)))]) fun x4 =>
  ret1 x4 h)
  fun j => unc vs fun x4 vs =>
  ret1 x4 h
noncomputable def f310 (vs : List V) (h : HT) : Option J := unc vs fun x0 vs =>
  unc vs fun x1 vs =>
  bndV (kMov [(.int .i64 (.ofNat (nat_lit 0)))]) fun x4 =>
  bndV (kMov [x0]) fun x6 =>
  bndV (kLenS [x6]) fun x7 =>
  bndV (kMov [(.int .i64 (.ofNat (nat_lit 0)))]) fun x8 =>
  (f310_1 x0 x1 x7 x8 h)
def a310 : List Ann := [.no, .loop [0, 1, 7, 8] [((.exit 0), []), (.ret, [4])], .no, .no, .no]
theorem e310 : f310 = evFun Tryz.prog 310 2 a310 t310 := by kernel_rfl
theorem o310 : FnOk Tryz.prog 310 f310 := .of hmO (show enters Tryz.prog 310 = true by kernel_rfl) e310 (.cons o269 (.nil))

/- slices.DeleteFunc[[]*concord/core.lead,*concord/core.lead] -/
noncomputable def l260 : List (Nat × (List V → HT → Option J)) := [(310, f310)]
noncomputable def t260 : Fns := tab l260
noncomputable def f260_0 (rc : List V → HT → Option J) (x0 : V) (x1 : V) (x5 : V) (x6 : V) (x7 : V) (x29 : V) (h : HT) : Option J := bndJ (tstv x29 (bndV (kMov [x0]) fun x30 =>
  bndV (kMov [x5]) fun x31 =>
  bndV (kMov [x7]) fun x32 =>
  bndV (kIaS 1 [x30, x31]) fun x33 =>
  bndE (dSt h 1 [x33, x32]) h fun _ h =>
  bndV (kMov [x5]) fun x34 =>
  bndV (kBin .add [x34, (.int .i64 (.ofNat (nat_lit 1)))]) fun x35 =>
  bndV (kMov [x35]) fun x5 =>
  some ⟨0, [x0, x1, x5, x6], h⟩)
  (some ⟨0, [x0, x1, x5, x6], h⟩))
  fun j vs h => unc vs fun x0 vs =>
  unc vs fun x1 vs =>
  unc vs fun x5 vs =>
  unc vs fun x6 vs =>
  bndV (kMov [x6]) fun x20 =>
  bndV (kBin .add [x20, (.int .i64 (.ofNat (nat_lit 1)))]) fun x21 =>
  bndV (kMov [x21]) fun x6 =>
  rc [x0, x1, x5, x6] h
noncomputable def f260_1 (rc : List V → HT → Option J) (x0 : V) (x1 : V) (x5 : V) (x6 : V) (x16 : V) (h : HT) : Option J := bndV (kMov [x0]) fun x17 =>
  bndV (kLenS [x17]) fun x18 =>
  bndV (kBin .lss [x16, x18]) fun x19 =>
  tstv x19 (bndV (kMov [x0]) fun x22 =>
  bndV (kMov [x6]) fun x23 =>
  bndV (kIaS 1 [x22, x23]) fun x24 =>
  bndV (qLd h none [x24]) fun x25 =>
  bndV (kMov [x25]) fun x7 =>
  bndV (kMov [x1]) fun x26 =>
  bndV (kMov [x7]) fun x27 =>
  bndC (callvT t260 [x26, x27] h) fun x28 h =>
  bndV (kUn .not [x28]) fun x29 =>
  (f260_0 rc x0 x1 x5 x6 x7 x29 h))
  (some ⟨0, [x0, x5], h⟩)
noncomputable def f260_2 (x0 : V) (x1 : V) (x5 : V) (x6 : V) (h : HT) : Option J := bndJ (loopF (fun rc vs h => unc vs fun x0 vs =>
  unc vs fun x1 vs =>
  unc vs fun x5 vs =>
  unc vs fun x6 vs =>
  bndV (kMov [x6]) fun x16 =>
  (f260_1 rc x0 x1 x5 x6 x16 h)) 1000000 [x0, x1, x5, x6] h)
  fun j vs h => unc vs fun x0 vs =>
  unc vs fun x5 vs =>
  bndV (kMov [x0]) fun x36 =>
  bndV (kMov [x5]) fun x37 =>
  bndV (kSlS 1 true false [x36, x37]) fun x38 =>
  bndE (dClr h [(.ptr none)] [x38]) h fun _ h =>
  bndV (kMov [x0]) fun x39 =>
  bndV (kMov [x5]) fun x40 =>
  bndV (kSlS 1 false true [x39, x40]) fun x41 =>
  bndV (kMov [x41]) fun x4 =>
  ret1 x4 h
noncomputable def f260_3 (x0 : V) (x1 : V) (h : HT) : Option J := bndV (kMov [(.slice none 0 true 0)]) fun x4 =>
  bndV (kMov [x0]) fun x8 =>
  bndV (kMov [x1]) fun x9 =>
  bndC (f310 [x8, x9] h) fun x10 h =>
  bndV (kMov [x10]) fun x5 =>
  bndV (kMov [x5]) fun x11 =>
  bndV (kBin .eql [x11, (.int .i64 (.negSucc (nat_lit 0)))]) fun x12 =>
  tstv x12 (bndV (kMov [x0]) fun x13 =>
  bndV (kMov [x13]) fun x4 =>
  ret1 x4 h)
  (bndV (kMov [x5]) fun x14 =>
  bndV (kBin .add [x14, (.int .i64 (.ofNat (nat_lit 1)))]) fun x15 =>
  bndV (kMov [x15]) fun x6 =>
  (f260_2 x0 x1 x5 x6 h))
noncomputable def f260 (vs : List V) (h : HT) : Option J := unc vs fun x0 vs =>
  unc vs fun x1 vs =>
  (f260_3 x0 x1 h)
def a260 : List Ann := [.no, .no, .loop [0, 1, 5, 6] [((.exit 0), [0, 5])], .no, .no, .join [(.normal, [0, 1, 5, 6])]]
theorem e260 : f260 = evFun Tryz.prog 260 2 a260 t260 := by kernel_rfl
theorem o260 : FnOk Tryz.prog 260 f260 := .of hmO (show enters Tryz.prog 260 = true by kernel_rfl) e260 (.cons o310 (.nil))

/- (*concord/core.Core).leave -/
noncomputable def l208 : List (Nat × (List V → HT → Option J)) := [(260, f260)]
noncomputable def t208 : Fns := tab l208

noncomputable def f208 (vs : List V) (h : HT) : Option J := unc vs fun x0 vs =>
  unc vs fun x1 vs =>
  bndN (kBox [x1]) h fun x3 h =>
  bndV (kMov [x0]) fun x4 =>
  bndV (kMov [x0]) fun x5 =>
  bndV (kNilc [x5]) fun x6 =>
  bndV (kFa 4 [x6]) fun x7 =>
  bndV (qLd h none [x7]) fun x8 =>
  bndV (kMkF 269 [x3]) fun x9 =>
  bndC (f260 [x8, x9] h) fun x10 h =>
  bndV (kNilc [x4]) fun x11 =>
  bndV (kFa 4 [x11]) fun x12 =>
  bndE (dSt h 1 [x12, x10]) h fun _ h =>
  ret1 (.tuple []) h
def a208 : List Ann := []
theorem e208 : f208 = evFun Tryz.prog 208 2 a208 t208 := by kernel_rfl
theorem o208 : FnOk Tryz.prog 208 f208 := .of hmO (show enters Tryz.prog 208 = true by kernel_rfl) e208 (.cons o260 (.nil))

/- slices.Insert[[]*concord/core.lead,*concord/core.lead] -/
noncomputable def l267 : List (Nat × (List V → HT → Option J)) := []
noncomputable def t267 : Fns := tab l267
noncomputable def f267_0 (x0 : V) (x1 : V) (x2 : V) (x7 : V) (x8 : V) (x31 : V) : Option J := tstv x31 (bndV (kMov [x0]) fun x32 =>
  bndV (kMov [x1]) fun x33 =>
  bndV (kSlS 1 false true [x32, x33]) fun x34 =>
  bndV (kMov [x8]) fun x35 =>
  bndV (kMov [x7]) fun x36 =>
  bndV (kBin .add [x35, x36]) fun x37 =>
  bndV (kMov [x1]) fun x38 =>
  bndV (kBin .sub [x37, x38]) fun x39 =>
  none)
  (bndV (kMov [x0]) fun x56 =>
  bndV (kMov [x8]) fun x57 =>
  bndV (kMov [x7]) fun x58 =>
  bndV (kBin .add [x57, x58]) fun x59 =>
  bndV (kSlS 1 false true [x56, x59]) fun x60 =>
  bndV (kMov [x60]) fun x0 =>
  bndV (kMov [x2]) fun x61 =>
  bndV (kMov [x0]) fun x62 =>
  bndV (kMov [x1]) fun x63 =>
  bndV (kMov [x7]) fun x64 =>
  bndV (kBin .add [x63, x64]) fun x65 =>
  bndV (kSlS 1 true false [x62, x65]) fun x66 =>
  none)
noncomputable def f267_1 (x0 : V) (x1 : V) (x2 : V) (x7 : V) (x8 : V) (x20 : V) (h : HT) : Option J := bndV (kMov [x8]) fun x21 =>
  bndV (kBin .eql [x20, x21]) fun x22 =>
  tstv x22 (bndV (kMov [x0]) fun x23 =>
  bndV (kMov [x2]) fun x24 =>
  bndE (dApp h 1 8 [x23, x24]) h fun x25 h =>
  bndV (kMov [x25]) fun x6 =>
  ret1 x6 h)
  (bndV (kMov [x8]) fun x26 =>
  bndV (kMov [x7]) fun x27 =>
  bndV (kBin .add [x26, x27]) fun x28 =>
  bndV (kMov [x0]) fun x29 =>
  bndV (kCapS [x29]) fun x30 =>
  bndV (kBin .gtr [x28, x30]) fun x31 =>
  (f267_0 x0 x1 x2 x7 x8 x31))
noncomputable def f267_2 (x0 : V) (x1 : V) (x2 : V) (x10 : V) (x11 : V) (h : HT) : Option J := bndV (kSlS 1 true false [x10, x11]) fun x12 =>
  bndV (kMov [x2]) fun x13 =>
  bndV (kLenS [x13]) fun x14 =>
  bndV (kMov [x14]) fun x7 =>
  bndV (kMov [x7]) fun x15 =>
  bndV (kBin .eql [x15, (.int .i64 (.ofNat (nat_lit 0)))]) fun x16 =>
  tstv x16 (bndV (kMov [x0]) fun x17 =>
  bndV (kMov [x17]) fun x6 =>
  ret1 x6 h)
  (bndV (kMov [x0]) fun x18 =>
  bndV (kLenS [x18]) fun x19 =>
  bndV (kMov [x19]) fun x8 =>
  bndV (kMov [x1]) fun x20 =>
  (f267_1 x0 x1 x2 x7 x8 x20 h))
noncomputable def f267 (vs : List V) (h : HT) : Option J := unc vs fun x0 vs =>
  unc vs fun x1 vs =>
  unc vs fun x2 vs =>
  bndV (kMov [(.slice none 0 true 0)]) fun x6 =>
  bndV (kMov [x0]) fun x10 =>
  bndV (kMov [x1]) fun x11 =>
  (f267_2 x0 x1 x2 x10 x11 h)
def a267 : List Ann := [.no, .no, .no, .no]
theorem e267 : f267 = evFun Tryz.prog 267 3 a267 t267 := by kernel_rfl
theorem o267 : FnOk Tryz.prog 267 f267 := .of hmO (show enters Tryz.prog 267 = true by kernel_rfl) e267 (.nil)

/- (*concord/core.Core).take -/
noncomputable def l201 : List (Nat × (List V → HT → Option J)) := [(208, f208), (267, f267)]
noncomputable def t201 : Fns := tab l201
noncomputable def f201_0 (rc : List V → HT → Option J) (x0 : V) (x1 : V) (x4 : V) (x18 : V) (x25 : V) (h : HT) : Option J := bndC (gsel x18 true (retV (kNilc [x25]) h) h) fun x26 h =>
  bndC (gsel x18 true (retV (kFa 0 [x26]) h) h) fun x27 h =>
  bndC (gsel x18 true (retV (qLd h (some 2) [x27]) h) h) fun x28 h =>
  bndC (gsel x18 true (retV (kMov [x1]) h) h) fun x29 h =>
  bndC (gsel x18 true (retV (kNilc [x29]) h) h) fun x30 h =>
  bndC (gsel x18 true (retV (kFa 0 [x30]) h) h) fun x31 h =>
  bndC (gsel x18 true (retV (qLd h (some 2) [x31]) h) h) fun x32 h =>
  bndC (gsel x18 true (noF [x28, x32] h) h) fun x33 h =>
  bndV (kPick [x18, x33, (.bool false)]) fun x34 =>
  tstv x34 (bndV (kMov [x4]) fun x35 =>
  bndV (kBin .add [x35, (.int .i64 (.ofNat (nat_lit 1)))]) fun x36 =>
  bndV (kMov [x36]) fun x4 =>
  rc [x0, x1, x4] h)
  (some ⟨0, [x0, x1, x4], h⟩)
noncomputable def f201_1 (rc : List V → HT → Option J) (x0 : V) (x1 : V) (x4 : V) (x11 : V) (h : HT) : Option J := bndV (kMov [x0]) fun x12 =>
  bndV (kNilc [x12]) fun x13 =>
  bndV (kFa 4 [x13]) fun x14 =>
  bndV (qLd h none [x14]) fun x15 =>
  bndV (kLenS [x15]) fun x16 =>
  bndV (kBin .lss [x11, x16]) fun x17 =>
  bndV (kMov [x17]) fun x18 =>
  bndC (gsel x18 true (retV (kMov [x0]) h) h) fun x19 h =>
  bndC (gsel x18 true (retV (kNilc [x19]) h) h) fun x20 h =>
  bndC (gsel x18 true (retV (kFa 4 [x20]) h) h) fun x21 h =>
  bndC (gsel x18 true (retV (qLd h none [x21]) h) h) fun x22 h =>
  bndC (gsel x18 true (retV (kMov [x4]) h) h) fun x23 h =>
  bndC (gsel x18 true (retV (kIaS 1 [x22, x23]) h) h) fun x24 h =>
  bndC (gsel x18 true (retV (qLd h none [x24]) h) h) fun x25 h =>
  (f201_0 rc x0 x1 x4 x18 x25 h)
noncomputable def f201_2 (x0 : V) (vs : List V) (h : HT) : Option J := unc vs fun x1 vs =>
  unc vs fun x4 vs =>
  bndV (kMov [x0]) fun x37 =>
  bndV (kMov [x0]) fun x38 =>
  bndV (kNilc [x38]) fun x39 =>
  bndV (kFa 4 [x39]) fun x40 =>
  bndV (qLd h none [x40]) fun x41 =>
  bndV (kMov [x4]) fun x42 =>
  bndV (kMov [x1]) fun x43 =>
  bndN (kBsl 1 1 [(.ptr none)] [(0, 1)] [x43]) h fun x44 h =>
  bndC (f267 [x41, x42, x44] h) fun x45 h =>
  bndV (kNilc [x37]) fun x46 =>
  bndV (kFa 4 [x46]) fun x47 =>
  bndE (dSt h 1 [x47, x45]) h fun _ h =>
  ret1 (.tuple []) h
noncomputable def f201_3 (x0 : V) (x1 : V) (x5 : V) (h : HT) : Option J := bndV (kMov [x1]) fun x6 =>
  bndV (kNilc [x6]) fun x7 =>
  bndV (kFa 0 [x7]) fun x8 =>
  bndV (qLd h (some 2) [x8]) fun x9 =>
  bndC (f208 [x5, x9] h) fun x10 h =>
  bndV (kMov [(.int .i64 (.ofNat (nat_lit 0)))]) fun x4 =>
  bndJ (loopF (fun rc vs h => unc vs fun x0 vs =>
  unc vs fun x1 vs =>
  unc vs fun x4 vs =>
  bndV (kMov [x4]) fun x11 =>
  (f201_1 rc x0 x1 x4 x11 h)) 1000000 [x0, x1, x4] h)
  fun j vs h => unc vs fun x0 vs =>
  (f201_2 x0 vs h)
noncomputable def f201 (vs : List V) (h : HT) : Option J := unc vs fun x0 vs =>
  unc vs fun x1 vs =>
  bndV (kMov [x0]) fun x5 =>
  (f201_3 x0 x1 x5 h)
def a201 : List Ann := [.no, .loop [0, 1, 4] [((.exit 0), [0, 1, 4])], .no, .no]
theorem e201 : f201 = evFun Tryz.prog 201 2 a201 t201 := by kernel_rfl
theorem o201 : FnOk Tryz.prog 201 f201 := .of hmO (show enters Tryz.prog 201 = true by kernel_rfl) e201 (.cons o208 (.cons o267 (.nil)))

/- (*concord/core.Core).send -/
noncomputable def l206 : List (Nat × (List V → HT → Option J)) := []
noncomputable def t206 : Fns := tab l206
noncomputable def f206_0 (x0 : V) (x5 : V) (x9 : V) (x10 : V) (x11 : V) (h : HT) : Option J := bndE (dSt h 1 [x11, x9]) h fun _ h =>
  bndV (kFa 2 [x5]) fun x12 =>
  bndE (dSt h 1 [x12, x10]) h fun _ h =>
  bndV (kMov [x0]) fun x13 =>
  bndV (kMov [x0]) fun x14 =>
  bndV (kNilc [x14]) fun x15 =>
  bndV (kFa 7 [x15]) fun x16 =>
  bndV (qLd h none [x16]) fun x17 =>
  bndV (qLd h (some 51) [x5]) fun x18 =>
  bndN (kBsl 51 1 [(.int .i64 (.ofNat (nat_lit 0))), (.int .i64 (.ofNat (nat_lit 0))), (.int .i64 (.ofNat (nat_lit 0))), (.int .i64 (.ofNat (nat_lit 0))), (.int .i64 (.ofNat (nat_lit 0))), (.int .i64 (.ofNat (nat_lit 0))), (.int .i64 (.ofNat (nat_lit 0))), (.int .i64 (.ofNat (nat_lit 0))), (.int .i64 (.ofNat (nat_lit 0))), (.int .i64 (.ofNat (nat_lit 0))), (.str (sb [])), (.str (sb [])), (.str (sb [])), (.str (sb [])), (.int .i64 (.ofNat (nat_lit 0))), (.int .i64 (.ofNat (nat_lit 0))), (.int .i64 (.ofNat (nat_lit 0))), (.int .i64 (.ofNat (nat_lit 0))), (.int .i64 (.ofNat (nat_lit 0))), (.int .i64 (.ofNat (nat_lit 0))), (.int .i64 (.ofNat (nat_lit 0))), (.int .i64 (.ofNat (nat_lit 0))), (.int .i64 (.ofNat (nat_lit 0))), (.int .i64 (.ofNat (nat_lit 0))), (.int .i64 (.ofNat (nat_lit 0))), (.int .i64 (.ofNat (nat_lit 0))), (.int .i64 (.ofNat (nat_lit 0))), (.int .i64 (.ofNat (nat_lit 0))), (.int .i64 (.ofNat (nat_lit 0))), (.int .i64 (.ofNat (nat_lit 0))), (.str (sb [])), (.str (sb [])), (.str (sb [])), (.str (sb [])), (.int .i64 (.ofNat (nat_lit 0))), (.int .i64 (.ofNat (nat_lit 0))), (.int .i64 (.ofNat (nat_lit 0))), (.int .i64 (.ofNat (nat_lit 0))), (.int .i64 (.ofNat (nat_lit 0))), (.int .i64 (.ofNat (nat_lit 0))), (.int .i64 (.ofNat (nat_lit 0))), (.int .i64 (.ofNat (nat_lit 0))), (.bool false), (.int .i64 (.ofNat (nat_lit 0))), (.int .i64 (.ofNat (nat_lit 0))), (.int .i64 (.ofNat (nat_lit 0))), (.int .i64 (.ofNat (nat_lit 0))), (.int .i64 (.ofNat (nat_lit 0))), (.int .i64 (.ofNat (nat_lit 0))), (.int .i64 (.ofNat (nat_lit 0))), (.str (sb []))] [(0, 51)] [x18]) h fun x19 h =>
  bndE (dApp h 51 480 [x17, x19]) h fun x20 h =>
  bndV (kNilc [x13]) fun x21 =>
  bndV (kFa 7 [x21]) fun x22 =>
  bndE (dSt h 1 [x22, x20]) h fun _ h =>
  ret1 (.tuple []) h
noncomputable def f206 (vs : List V) (h : HT) : Option J := unc vs fun x0 vs =>
  unc vs fun x1 vs =>
  unc vs fun x2 vs =>
  bndN (kBox [x2]) h fun x5 h =>
  bndV (kMov [x0]) fun x6 =>
  bndV (kNilc [x6]) fun x7 =>
  bndV (kFa 1 [x7]) fun x8 =>
  bndV (qLd h none [x8]) fun x9 =>
  bndV (kMov [x1]) fun x10 =>
  bndV (kFa 1 [x5]) fun x11 =>
  (f206_0 x0 x5 x9 x10 x11 h)
def a206 : List Ann := []
theorem e206 : f206 = evFun Tryz.prog 206 3 a206 t206 := by kernel_rfl
theorem o206 : FnOk Tryz.prog 206 f206 := .of hmO (show enters Tryz.prog 206 = true by kernel_rfl) e206 (.nil)

/- (*concord/core.Core).all -/
noncomputable def l202 : List (Nat × (List V → HT → Option J)) := [(206, f206)]
noncomputable def t202 : Fns := tab l202
noncomputable def f202_0 (rc : List V → HT → Option J) (x0 : V) (x4 : V) (x5 : V) (x6 : V) (x10 : V) (x11 : V) (x25 : V) (h : HT) : Option J := bndJ (tstv x25 (bndV (kMov [x0]) fun x26 =>
  bndV (kMov [x6]) fun x27 =>
  bndV (qLd h (some 51) [x4]) fun x28 =>
  bndC (f206 [x26, x27, x28] h) fun x29 h =>
  some ⟨0, [x0, x4, x5, x10, x11], h⟩)
  (some ⟨0, [x0, x4, x5, x10, x11], h⟩))
  fun j vs h => unc vs fun x0 vs =>
  unc vs fun x4 vs =>
  unc vs fun x5 vs =>
  unc vs fun x10 vs =>
  unc vs fun x11 vs =>
  bndV (kBin .add [x11, (.int .i64 (.ofNat (nat_lit 1)))]) fun x30 =>
  bndV (kMov [x30]) fun x11 =>
  rc [x0, x4, x5, x10, x11] h
noncomputable def f202_1 (rc : List V → HT → Option J) (x0 : V) (x4 : V) (x5 : V) (x10 : V) (x11 : V) (h : HT) : Option J := bndV (kMov [x11]) fun x13 =>
  bndV (kMov [x13]) fun x6 =>
  bndV (kMov [x6]) fun x14 =>
  bndV (kMov [x0]) fun x15 =>
  bndV (kNilc [x15]) fun x16 =>
  bndV (kFa 1 [x16]) fun x17 =>
  bndV (qLd h none [x17]) fun x18 =>
  bndV (kBin .neq [x14, x18]) fun x19 =>
  bndV (kMov [x19]) fun x20 =>
  bndC (gsel x20 true (retV (kMov [x6]) h) h) fun x21 h =>
  bndC (gsel x20 true (retV (kIaA 7 1 [x5, x21]) h) h) fun x22 h =>
  bndC (gsel x20 true (retV (qLd h none [x22]) h) h) fun x23 h =>
  bndC (gsel x20 true (retV (kBin .eql [x23, (.int .i64 (.ofNat (nat_lit 0)))]) h) h) fun x24 h =>
  bndV (kPick [x20, x24, (.bool false)]) fun x25 =>
  (f202_0 rc x0 x4 x5 x6 x10 x11 x25 h)
noncomputable def f202_2 (x0 : V) (x4 : V) (x5 : V) (x8 : V) (h : HT) : Option J := bndV (kFa 0 [x8]) fun x9 =>
  bndV (qLd h none [x9]) fun x10 =>
  bndV (kMov [(.int .i64 (.ofNat (nat_lit 0)))]) fun x11 =>
  bndJ (loopF (fun rc vs h => unc vs fun x0 vs =>
  unc vs fun x4 vs =>
  unc vs fun x5 vs =>
  unc vs fun x10 vs =>
  unc vs fun x11 vs =>
  bndV (kBin .lss [x11, x10]) fun x12 =>
  tstv x12 ((f202_1 rc x0 x4 x5 x10 x11 h))
  (some ⟨0, [], h⟩)) 1000000 [x0, x4, x5, x10, x11] h)
  fun j vs h => ret1 (.tuple []) h
noncomputable def f202 (vs : List V) (h : HT) : Option J := unc vs fun x0 vs =>
  unc vs fun x1 vs =>
  unc vs fun x2 vs =>
  bndN (kBox [x1]) h fun x4 h =>
  bndN (kBox [x2]) h fun x5 h =>
  bndV (kMov [x0]) fun x7 =>
  bndV (kNilc [x7]) fun x8 =>
  (f202_2 x0 x4 x5 x8 h)
def a202 : List Ann := [.no, .loop [0, 4, 5, 10, 11] [((.exit 0), [])], .no, .no, .join [(.normal, [0, 4, 5, 10, 11])]]
theorem e202 : f202 = evFun Tryz.prog 202 3 a202 t202 := by kernel_rfl
theorem o202 : FnOk Tryz.prog 202 f202 := .of hmO (show enters Tryz.prog 202 = true by kernel_rfl) e202 (.cons o206 (.nil))

/- (*concord/core.lead).ask -/
noncomputable def l203 : List (Nat × (List V → HT → Option J)) := []
noncomputable def t203 : Fns := tab l203
noncomputable def f203_0 (x0 : V) (x2 : V) (x3 : V) (x22 : V) (h : HT) : Option J := bndV (qLd h (some 7) [x22]) fun x23 =>
  bndV (kMov [x0]) fun x24 =>
  bndV (kNilc [x24]) fun x25 =>
  bndV (kFa 13 [x25]) fun x26 =>
  bndV (qLd h (some 8) [x26]) fun x27 =>
  bndV (kFa 0 [x3]) fun x28 =>
  bndE (dSt h 1 [x28, (.int .i64 (.ofNat (nat_lit 1)))]) h fun _ h =>
  chk1 (sameE (qLd h (some 8) [x26]) x27) (chk1 (sameE (qLd h (some 7) [x22]) x23) (bndV (kFa 7 [x3]) fun x29 =>
  bndE (dSt h 7 [x29, x23]) h fun _ h =>
  chk1 (sameE (qLd h (some 8) [x26]) x27) (bndV (kFa 14 [x3]) fun x30 =>
  bndE (dSt h 8 [x30, x27]) h fun _ h =>
  some ⟨0, [x2, x3], h⟩)))
noncomputable def f203_1 (x0 : V) (x2 : V) (x3 : V) (x35 : V) (h : HT) : Option J := bndV (qLd h (some 7) [x35]) fun x36 =>
  bndV (kMov [x0]) fun x37 =>
  bndV (kNilc [x37]) fun x38 =>
  bndV (kFa 13 [x38]) fun x39 =>
  bndV (qLd h (some 8) [x39]) fun x40 =>
  bndV (kFa 0 [x3]) fun x41 =>
  bndE (dSt h 1 [x41, (.int .i64 (.ofNat (nat_lit 3)))]) h fun _ h =>
  chk1 (sameE (qLd h (some 8) [x39]) x40) (chk1 (sameE (qLd h (some 7) [x35]) x36) (bndV (kFa 7 [x3]) fun x42 =>
  bndE (dSt h 7 [x42, x36]) h fun _ h =>
  chk1 (sameE (qLd h (some 8) [x39]) x40) (bndV (kFa 14 [x3]) fun x43 =>
  bndE (dSt h 8 [x43, x40]) h fun _ h =>
  some ⟨0, [x2, x3], h⟩)))
noncomputable def f203_2 (x0 : V) (x2 : V) (x3 : V) (x16 : V) (x18 : V) (h : HT) : Option J := tstv x18 (bndV (kMov [x0]) fun x20 =>
  bndV (kNilc [x20]) fun x21 =>
  bndV (kFa 6 [x21]) fun x22 =>
  (f203_0 x0 x2 x3 x22 h))
  (bndV (kBin .eql [x16, (.int .i64 (.ofNat (nat_lit 1)))]) fun x32 =>
  bndV (kMov [x32]) fun x31 =>
  bndJ (tstv x31 (bndV (kMov [x0]) fun x33 =>
  bndV (kNilc [x33]) fun x34 =>
  bndV (kFa 6 [x34]) fun x35 =>
  (f203_1 x0 x2 x3 x35 h))
  (bndV (kFa 0 [x3]) fun x17 =>
  bndE (dSt h 1 [x17, (.int .i64 (.ofNat (nat_lit 6)))]) h fun _ h =>
  some ⟨0, [x2, x3], h⟩))
  fun j vs h => unc vs fun x2 vs =>
  unc vs fun x3 vs =>
  some ⟨0, [x2, x3], h⟩)
noncomputable def f203_3 (x0 : V) (x2 : V) (x3 : V) (x12 : V) (h : HT) : Option J := bndE (dSt h 51 [x3, x12]) h fun _ h =>
  bndV (kMov [x0]) fun x13 =>
  bndV (kNilc [x13]) fun x14 =>
  bndV (kFa 2 [x14]) fun x15 =>
  bndV (qLd h none [x15]) fun x16 =>
  bndV (kBin .eql [x16, (.int .i64 (.ofNat (nat_lit 0)))]) fun x19 =>
  bndV (kMov [x19]) fun x18 =>
  bndJ ((f203_2 x0 x2 x3 x16 x18 h))
  fun j vs h => unc vs fun x2 vs =>
  unc vs fun x3 vs =>
  bndV (qLd h (some 51) [x3]) fun x44 =>
  bndE (dSt h 51 [x2, x44]) h fun _ h =>
  bndV (qLd h (some 51) [x2]) fun x900000 =>
  ret1 x900000 h
noncomputable def f203 (vs : List V) (h : HT) : Option J := unc vs fun x0 vs =>
  bndN (kAlloc [(.int .i64 (.ofNat (nat_lit 0))), (.int .i64 (.ofNat (nat_lit 0))), (.int .i64 (.ofNat (nat_lit 0))), (.int .i64 (.ofNat (nat_lit 0))), (.int .i64 (.ofNat (nat_lit 0))), (.int .i64 (.ofNat (nat_lit 0))), (.int .i64 (.ofNat (nat_lit 0))), (.int .i64 (.ofNat (nat_lit 0))), (.int .i64 (.ofNat (nat_lit 0))), (.int .i64 (.ofNat (nat_lit 0))), (.str (sb [])), (.str (sb [])), (.str (sb [])), (.str (sb [])), (.int .i64 (.ofNat (nat_lit 0))), (.int .i64 (.ofNat (nat_lit 0))), (.int .i64 (.ofNat (nat_lit 0))), (.int .i64 (.ofNat (nat_lit 0))), (.int .i64 (.ofNat (nat_lit 0))), (.int .i64 (.ofNat (nat_lit 0))), (.int .i64 (.ofNat (nat_lit 0))), (.int .i64 (.ofNat (nat_lit 0))), (.int .i64 (.ofNat (nat_lit 0))), (.int .i64 (.ofNat (nat_lit 0))), (.int .i64 (.ofNat (nat_lit 0))), (.int .i64 (.ofNat (nat_lit 0))), (.int .i64 (.ofNat (nat_lit 0))), (.int .i64 (.ofNat (nat_lit 0))), (.int .i64 (.ofNat (nat_lit 0))), (.int .i64 (.ofNat (nat_lit 0))), (.str (sb [])), (.str (sb [])), (.str (sb [])), (.str (sb [])), (.int .i64 (.ofNat (nat_lit 0))), (.int .i64 (.ofNat (nat_lit 0))), (.int .i64 (.ofNat (nat_lit 0))), (.int .i64 (.ofNat (nat_lit 0))), (.int .i64 (.ofNat (nat_lit 0))), (.int .i64 (.ofNat (nat_lit 0))), (.int .i64 (.ofNat (nat_lit 0))), (.int .i64 (.ofNat (nat_lit 0))), (.bool false), (.int .i64 (.ofNat (nat_lit 0))), (.int .i64 (.ofNat (nat_lit 0))), (.int .i64 (.ofNat (nat_lit 0))), (.int .i64 (.ofNat (nat_lit 0))), (.int .i64 (.ofNat (nat_lit 0))), (.int .i64 (.ofNat (nat_lit 0))), (.int .i64 (.ofNat (nat_lit 0))), (.str (sb []))] []) h fun x2 h =>
  bndV (kMov [x0]) fun x4 =>
  bndV (kNilc [x4]) fun x5 =>
  bndV (kFa 0 [x5]) fun x6 =>
  bndV (qLd h (some 2) [x6]) fun x7 =>
  bndV (kMov [x0]) fun x8 =>
  bndV (kNilc [x8]) fun x9 =>
  bndV (kFa 3 [x9]) fun x10 =>
  bndV (qLd h (some 2) [x10]) fun x11 =>
  bndV (kBld [(.int .i64 (.ofNat (nat_lit 0))), (.int .i64 (.ofNat (nat_lit 0))), (.int .i64 (.ofNat (nat_lit 0))), (.int .i64 (.ofNat (nat_lit 0))), (.int .i64 (.ofNat (nat_lit 0))), (.int .i64 (.ofNat (nat_lit 0))), (.int .i64 (.ofNat (nat_lit 0))), (.int .i64 (.ofNat (nat_lit 0))), (.int .i64 (.ofNat (nat_lit 0))), (.int .i64 (.ofNat (nat_lit 0))), (.str (sb [])), (.str (sb [])), (.str (sb [])), (.str (sb [])), (.int .i64 (.ofNat (nat_lit 0))), (.int .i64 (.ofNat (nat_lit 0))), (.int .i64 (.ofNat (nat_lit 0))), (.int .i64 (.ofNat (nat_lit 0))), (.int .i64 (.ofNat (nat_lit 0))), (.int .i64 (.ofNat (nat_lit 0))), (.int .i64 (.ofNat (nat_lit 0))), (.int .i64 (.ofNat (nat_lit 0))), (.int .i64 (.ofNat (nat_lit 0))), (.int .i64 (.ofNat (nat_lit 0))), (.int .i64 (.ofNat (nat_lit 0))), (.int .i64 (.ofNat (nat_lit 0))), (.int .i64 (.ofNat (nat_lit 0))), (.int .i64 (.ofNat (nat_lit 0))), (.int .i64 (.ofNat (nat_lit 0))), (.int .i64 (.ofNat (nat_lit 0))), (.str (sb [])), (.str (sb [])), (.str (sb [])), (.str (sb [])), (.int .i64 (.ofNat (nat_lit 0))), (.int .i64 (.ofNat (nat_lit 0))), (.int .i64 (.ofNat (nat_lit 0))), (.int .i64 (.ofNat (nat_lit 0))), (.int .i64 (.ofNat (nat_lit 0))), (.int .i64 (.ofNat (nat_lit 0))), (.int .i64 (.ofNat (nat_lit 0))), (.int .i64 (.ofNat (nat_lit 0))), (.bool false), (.int .i64 (.ofNat (nat_lit 0))), (.int .i64 (.ofNat (nat_lit 0))), (.int .i64 (.ofNat (nat_lit 0))), (.int .i64 (.ofNat (nat_lit 0))), (.int .i64 (.ofNat (nat_lit 0))), (.int .i64 (.ofNat (nat_lit 0))), (.int .i64 (.ofNat (nat_lit 0))), (.str (sb []))] [(3, 2), (5, 2)] [x7, x11]) fun x12 =>
  bndN (kAlloc [(.int .i64 (.ofNat (nat_lit 0))), (.int .i64 (.ofNat (nat_lit 0))), (.int .i64 (.ofNat (nat_lit 0))), (.int .i64 (.ofNat (nat_lit 0))), (.int .i64 (.ofNat (nat_lit 0))), (.int .i64 (.ofNat (nat_lit 0))), (.int .i64 (.ofNat (nat_lit 0))), (.int .i64 (.ofNat (nat_lit 0))), (.int .i64 (.ofNat (nat_lit 0))), (.int .i64 (.ofNat (nat_lit 0))), (.str (sb [])), (.str (sb [])), (.str (sb [])), (.str (sb [])), (.int .i64 (.ofNat (nat_lit 0))), (.int .i64 (.ofNat (nat_lit 0))), (.int .i64 (.ofNat (nat_lit 0))), (.int .i64 (.ofNat (nat_lit 0))), (.int .i64 (.ofNat (nat_lit 0))), (.int .i64 (.ofNat (nat_lit 0))), (.int .i64 (.ofNat (nat_lit 0))), (.int .i64 (.ofNat (nat_lit 0))), (.int .i64 (.ofNat (nat_lit 0))), (.int .i64 (.ofNat (nat_lit 0))), (.int .i64 (.ofNat (nat_lit 0))), (.int .i64 (.ofNat (nat_lit 0))), (.int .i64 (.ofNat (nat_lit 0))), (.int .i64 (.ofNat (nat_lit 0))), (.int .i64 (.ofNat (nat_lit 0))), (.int .i64 (.ofNat (nat_lit 0))), (.str (sb [])), (.str (sb [])), (.str (sb [])), (.str (sb [])), (.int .i64 (.ofNat (nat_lit 0))), (.int .i64 (.ofNat (nat_lit 0))), (.int .i64 (.ofNat (nat_lit 0))), (.int .i64 (.ofNat (nat_lit 0))), (.int .i64 (.ofNat (nat_lit 0))), (.int .i64 (.ofNat (nat_lit 0))), (.int .i64 (.ofNat (nat_lit 0))), (.int .i64 (.ofNat (nat_lit 0))), (.bool false), (.int .i64 (.ofNat (nat_lit 0))), (.int .i64 (.ofNat (nat_lit 0))), (.int .i64 (.ofNat (nat_lit 0))), (.int .i64 (.ofNat (nat_lit 0))), (.int .i64 (.ofNat (nat_lit 0))), (.int .i64 (.ofNat (nat_lit 0))), (.int .i64 (.ofNat (nat_lit 0))), (.str (sb []))] []) h fun x3 h =>
  (f203_3 x0 x2 x3 x12 h)
def a203 : List Ann := [.no, .join [(.normal, [2, 3])], .join [(.normal, [2, 3])]]
theorem e203 : f203 = evFun Tryz.prog 203 1 a203 t203 := by kernel_rfl
theorem o203 : FnOk Tryz.prog 203 f203 := .of hmO (show enters Tryz.prog 203 = true by kernel_rfl) e203 (.nil)

/- (*concord/core.Core).begin -/
noncomputable def l123 : List (Nat × (List V → HT → Option J)) := [(201, f201), (202, f202), (203, f203)]
noncomputable def t123 : Fns := tab l123

noncomputable def f123 (vs : List V) (h : HT) : Option J := unc vs fun x0 vs =>
  unc vs fun x1 vs =>
  bndV (kMov [x0]) fun x4 =>
  bndV (kMov [x1]) fun x5 =>
  bndC (f201 [x4, x5] h) fun x6 h =>
  bndV (kMov [x0]) fun x7 =>
  bndV (kMov [x1]) fun x8 =>
  bndV (kMov [x1]) fun x10 =>
  bndV (kNilc [x10]) fun x11 =>
  bndV (kFa 21 [x11]) fun x12 =>
  bndV (qLd h (some 7) [x12]) fun x13 =>
  bndC (f203 [x8] h) fun x9 h =>
  chk1 (sameE (qLd h (some 7) [x12]) x13) (bndC (f202 [x7, x9, x13] h) fun x14 h =>
  ret1 (.tuple []) h)
def a123 : List Ann := []
theorem e123 : f123 = evFun Tryz.prog 123 2 a123 t123 := by kernel_rfl
theorem o123 : FnOk Tryz.prog 123 f123 := .of hmO (show enters Tryz.prog 123 = true by kernel_rfl) e123 (.cons o201 (.cons o202 (.cons o203 (.nil))))

/- (*concord/core.Core).Propose -/
noncomputable def l42 : List (Nat × (List V → HT → Option J)) := [(40, f40), (99, f99), (120, f120), (121, f121), (122, f122), (123, f123)]
noncomputable def t42 : Fns := tab l42
noncomputable def f42_0 (x0 : V) (x3 : V) (x4 : V) (x6 : V) (x7 : V) (x57 : V) (x58 : V) (x59 : V) (h : HT) : Option J := bndV (qLd h (some 8) [x7]) fun x60 =>
  bndV (kBld [(.int .i64 (.ofNat (nat_lit 0))), (.int .i64 (.ofNat (nat_lit 0))), (.int .i64 (.ofNat (nat_lit 0))), (.int .i64 (.ofNat (nat_lit 0))), (.int .i64 (.ofNat (nat_lit 0))), (.int .i64 (.ofNat (nat_lit 0))), (.int .i64 (.ofNat (nat_lit 0))), (.int .i64 (.ofNat (nat_lit 0))), (.str (sb [])), (.str (sb [])), (.str (sb [])), (.str (sb [])), (.int .i64 (.ofNat (nat_lit 0))), (.int .i64 (.ofNat (nat_lit 0))), (.int .i64 (.ofNat (nat_lit 0))), (.int .i64 (.ofNat (nat_lit 0))), (.int .i64 (.ofNat (nat_lit 0))), (.int .i64 (.ofNat (nat_lit 0))), (.int .i64 (.ofNat (nat_lit 0))), (.int .i64 (.ofNat (nat_lit 0))), (.bool false)] [(0, 1), (5, 7), (12, 8), (20, 1)] [(.int .i64 (.ofNat (nat_lit 1))), x59, x60, (.bool true)]) fun x61 =>
  bndC (f122 [x57, x58, x61] h) fun x62 h =>
  bndV (kMov [x0]) fun x63 =>
  bndV (qLd h (some 2) [x6]) fun x64 =>
  bndV (qLd h (some 7) [x3]) fun x65 =>
  bndV (qLd h (some 8) [x7]) fun x66 =>
  bndV (kBld [(.int .i64 (.ofNat (nat_lit 0))), (.int .i64 (.ofNat (nat_lit 0))), (.int .i64 (.ofNat (nat_lit 0))), (.int .i64 (.ofNat (nat_lit 0))), (.int .i64 (.ofNat (nat_lit 0))), (.bool false), (.int .i64 (.ofNat (nat_lit 0))), (.int .i64 (.ofNat (nat_lit 0))), (.int .i64 (.ofNat (nat_lit 0))), (.str (sb [])), (.str (sb [])), (.str (sb [])), (.str (sb [])), (.int .i64 (.ofNat (nat_lit 0))), (.int .i64 (.ofNat (nat_lit 0))), (.int .i64 (.ofNat (nat_lit 0))), (.int .i64 (.ofNat (nat_lit 0))), (.int .i64 (.ofNat (nat_lit 0))), (.int .i64 (.ofNat (nat_lit 0))), (.int .i64 (.ofNat (nat_lit 0))), (.int .i64 (.ofNat (nat_lit 0))), (.int .i64 (.ofNat (nat_lit 0))), (.int .i64 (.ofNat (nat_lit 0))), (.int .i64 (.ofNat (nat_lit 0))), (.int .i64 (.ofNat (nat_lit 0))), (.int .i64 (.ofNat (nat_lit 0))), (.int .i64 (.ofNat (nat_lit 0))), (.int .i64 (.ofNat (nat_lit 0))), (.slice none 0 true 0), (.slice none 0 true 0), (.int .i64 (.ofNat (nat_lit 0))), (.int .i64 (.ofNat (nat_lit 0)))] [(0, 2), (2, 1), (5, 1), (6, 7), (13, 8)] [x64, (.int .i64 (.ofNat (nat_lit 0))), (.bool true), x65, x66]) fun x67 =>
  bndN (kBox [x67]) h fun x68 h =>
  bndC (f123 [x63, x68] h) fun x69 h =>
  bndV (qLd h (some 2) [x6]) fun x70 =>
  bndE (dSt h 2 [x4, x70]) h fun _ h =>
  bndV (kMov [(.bool true)]) fun x5 =>
  bndV (qLd h (some 2) [x4]) fun x900000 =>
  ret1 (.tuple [x900000, x5]) h
noncomputable def f42_1 (x0 : V) (x3 : V) (x4 : V) (x6 : V) (x7 : V) (x49 : V) (x50 : V) (x51 : V) (h : HT) : Option J := bndC (f121 [x49, x50, x51] h) fun x52 h =>
  bndE (dSt h 8 [x7, x52]) h fun _ h =>
  bndV (qLd h (some 8) [x7]) fun x53 =>
  bndC (f99 [x53] h) fun x54 h =>
  bndV (kUn .not [x54]) fun x55 =>
  tstv x55 (bndV (kBld [(.int .i64 (.ofNat (nat_lit 0))), (.int .i64 (.ofNat (nat_lit 0)))] [] []) fun x56 =>
  bndE (dSt h 2 [x4, x56]) h fun _ h =>
  bndV (kMov [(.bool false)]) fun x5 =>
  bndV (qLd h (some 2) [x4]) fun x900000 =>
  ret1 (.tuple [x900000, x5]) h)
  (bndV (kMov [x0]) fun x57 =>
  bndV (qLd h (some 2) [x6]) fun x58 =>
  bndV (qLd h (some 7) [x3]) fun x59 =>
  (f42_0 x0 x3 x4 x6 x7 x57 x58 x59 h))
noncomputable def f42_2 (x0 : V) (x3 : V) (x4 : V) (x6 : V) (x37 : V) (x43 : V) (h : HT) : Option J := bndV (kPick [x37, (.bool true), x43]) fun x44 =>
  tstv x44 (bndV (kBld [(.int .i64 (.ofNat (nat_lit 0))), (.int .i64 (.ofNat (nat_lit 0)))] [] []) fun x45 =>
  bndE (dSt h 2 [x4, x45]) h fun _ h =>
  bndV (kMov [(.bool false)]) fun x5 =>
  bndV (qLd h (some 2) [x4]) fun x900000 =>
  ret1 (.tuple [x900000, x5]) h)
  (bndV (kMov [x0]) fun x46 =>
  bndV (kNilc [x46]) fun x47 =>
  bndV (kFa 3 [x47]) fun x48 =>
  bndV (qLd h none [x48]) fun x49 =>
  bndV (qLd h (some 2) [x6]) fun x50 =>
  bndV (qLd h (some 7) [x3]) fun x51 =>
  bndN (kAlloc [(.int .i64 (.ofNat (nat_lit 0))), (.int .i64 (.ofNat (nat_lit 0))), (.int .i64 (.ofNat (nat_lit 0))), (.int .i64 (.ofNat (nat_lit 0))), (.int .i64 (.ofNat (nat_lit 0))), (.int .i64 (.ofNat (nat_lit 0))), (.int .i64 (.ofNat (nat_lit 0))), (.int .i64 (.ofNat (nat_lit 0)))] []) h fun x7 h =>
  (f42_1 x0 x3 x4 x6 x7 x49 x50 x51 h))
noncomputable def f42_3 (x0 : V) (x3 : V) (x4 : V) (x6 : V) (x27 : V) (x29 : V) (h : HT) : Option J := bndC (gsel x27 false (retV (kBin .eql [x29, (.int .i64 (.ofNat (nat_lit 0)))]) h) h) fun x30 h =>
  bndV (kPick [x27, (.bool true), x30]) fun x31 =>
  bndV (kMov [x31]) fun x32 =>
  bndC (gsel x32 false (retV (kFa 1 [x6]) h) h) fun x33 h =>
  bndC (gsel x32 false (retV (qLd h none [x33]) h) h) fun x34 h =>
  bndC (gsel x32 false (retV (kBin .gtr [x34, (.int .i64 (.ofNat (nat_lit 1073741824)))]) h) h) fun x35 h =>
  bndV (kPick [x32, (.bool true), x35]) fun x36 =>
  bndV (kMov [x36]) fun x37 =>
  bndC (gsel x37 false (retV (kMov [x0]) h) h) fun x38 h =>
  bndC (gsel x37 false (retV (kNilc [x38]) h) h) fun x39 h =>
  bndC (gsel x37 false (retV (kFa 4 [x39]) h) h) fun x40 h =>
  bndC (gsel x37 false (retV (qLd h none [x40]) h) h) fun x41 h =>
  bndC (gsel x37 false (retV (kLenS [x41]) h) h) fun x42 h =>
  bndC (gsel x37 false (retV (kBin .geq [x42, (.int .i64 (.ofNat (nat_lit 256)))]) h) h) fun x43 h =>
  (f42_2 x0 x3 x4 x6 x37 x43 h)
noncomputable def f42_4 (x0 : V) (x3 : V) (x4 : V) (x10 : V) (x11 : V) (x15 : V) (x19 : V) (x20 : V) (h : HT) : Option J := bndN (kAlloc [(.int .i64 (.ofNat (nat_lit 0))), (.int .i64 (.ofNat (nat_lit 0)))] []) h fun x6 h =>
  bndC (f120 [x15] h) fun x16 h =>
  chk1 (sameE (qLd h none [x19]) x20) (chk1 (sameE (qLd h none [x10]) x11) (bndV (kIxA 7 1 false [x16, x20]) fun x21 =>
  bndV (kBin .add [x21, (.int .i64 (.ofNat (nat_lit 1)))]) fun x22 =>
  bndV (kBld [(.int .i64 (.ofNat (nat_lit 0))), (.int .i64 (.ofNat (nat_lit 0)))] [(0, 1), (1, 1)] [x11, x22]) fun x23 =>
  bndE (dSt h 2 [x6, x23]) h fun _ h =>
  bndV (qLd h (some 7) [x3]) fun x24 =>
  bndC (f40 [x24] h) fun x25 h =>
  bndV (kUn .not [x25]) fun x26 =>
  bndV (kMov [x26]) fun x27 =>
  bndC (gsel x27 false (retV (kFa 0 [x3]) h) h) fun x28 h =>
  bndC (gsel x27 false (retV (qLd h none [x28]) h) h) fun x29 h =>
  (f42_3 x0 x3 x4 x6 x27 x29 h)))
noncomputable def f42_5 (x0 : V) (x3 : V) (h : HT) : Option J := bndN (kAlloc [(.int .i64 (.ofNat (nat_lit 0))), (.int .i64 (.ofNat (nat_lit 0)))] []) h fun x4 h =>
  bndV (kMov [(.bool false)]) fun x5 =>
  bndV (kMov [x0]) fun x8 =>
  bndV (kNilc [x8]) fun x9 =>
  bndV (kFa 1 [x9]) fun x10 =>
  bndV (qLd h none [x10]) fun x11 =>
  bndV (kMov [x0]) fun x12 =>
  bndV (kNilc [x12]) fun x13 =>
  bndV (kFa 2 [x13]) fun x14 =>
  bndV (qLd h none [x14]) fun x15 =>
  bndV (kMov [x0]) fun x17 =>
  bndV (kNilc [x17]) fun x18 =>
  bndV (kFa 1 [x18]) fun x19 =>
  bndV (qLd h none [x19]) fun x20 =>
  (f42_4 x0 x3 x4 x10 x11 x15 x19 x20 h)
noncomputable def f42 (vs : List V) (h : HT) : Option J := unc vs fun x0 vs =>
  unc vs fun x1 vs =>
  bndN (kBox [x1]) h fun x3 h =>
  (f42_5 x0 x3 h)
def a42 : List Ann := [.no, .no]
theorem e42 : f42 = evFun Tryz.prog 42 2 a42 t42 := by kernel_rfl
theorem o42 : FnOk Tryz.prog 42 f42 := .of hmO (show enters Tryz.prog 42 = true by kernel_rfl) e42 (.cons o40 (.cons o99 (.cons o120 (.cons o121 (.cons o122 (.cons o123 (.nil)))))))

/- slices.Index[[]concord/api.Inst,concord/api.Inst] -/
noncomputable def l124 : List (Nat × (List V → HT → Option J)) := []
noncomputable def t124 : Fns := tab l124
noncomputable def f124_0 (rc : List V → HT → Option J) (x0 : V) (x3 : V) (x7 : V) (x8 : V) (h : HT) : Option J := bndV (kMov [x8]) fun x10 =>
  bndV (kMov [x10]) fun x5 =>
  bndV (qLd h (some 2) [x3]) fun x11 =>
  bndV (kMov [x0]) fun x12 =>
  bndV (kMov [x5]) fun x13 =>
  bndV (kIaS 2 [x12, x13]) fun x14 =>
  bndV (qLd h (some 2) [x14]) fun x15 =>
  bndV (kEqF false [.i, .i] [x11, x15]) fun x16 =>
  tstv x16 (bndV (kMov [x5]) fun x17 =>
  bndV (kMov [x17]) fun x4 =>
  some ⟨1, [x4], h⟩)
  (bndV (kBin .add [x8, (.int .i64 (.ofNat (nat_lit 1)))]) fun x18 =>
  bndV (kMov [x18]) fun x8 =>
  rc [x0, x3, x7, x8] h)
noncomputable def f124_1 (x0 : V) (x3 : V) (x7 : V) (x8 : V) (h : HT) : Option J := bndJ (loopF (fun rc vs h => unc vs fun x0 vs =>
  unc vs fun x3 vs =>
  unc vs fun x7 vs =>
  unc vs fun x8 vs =>
  bndV (kBin .lss [x8, x7]) fun x9 =>
  tstv x9 ((f124_0 rc x0 x3 x7 x8 h))
  (some ⟨0, [], h⟩)) 1000000 [x0, x3, x7, x8] h)
  fun j vs h => nsw j (bndV (kMov [(.int .i64 (.negSucc (nat_lit 0)))]) fun x4 =>
  ret1 x4 h)
  fun j => unc vs fun x4 vs =>
  ret1 x4 h
noncomputable def f124 (vs : List V) (h : HT) : Option J := unc vs fun x0 vs =>
  unc vs fun x1 vs =>
  bndN (kBox [x1]) h fun x3 h =>
  bndV (kMov [(.int .i64 (.ofNat (nat_lit 0)))]) fun x4 =>
  bndV (kMov [x0]) fun x6 =>
  bndV (kLenS [x6]) fun x7 =>
  bndV (kMov [(.int .i64 (.ofNat (nat_lit 0)))]) fun x8 =>
  (f124_1 x0 x3 x7 x8 h)
def a124 : List Ann := [.no, .loop [0, 3, 7, 8] [((.exit 0), []), (.ret, [4])], .no, .no, .no]
theorem e124 : f124 = evFun Tryz.prog 124 2 a124 t124 := by kernel_rfl
theorem o124 : FnOk Tryz.prog 124 f124 := .of hmO (show enters Tryz.prog 124 = true by kernel_rfl) e124 (.nil)

/- slices.Contains[[]concord/api.Inst,concord/api.Inst] -/
noncomputable def l43 : List (Nat × (List V → HT → Option J)) := [(124, f124)]
noncomputable def t43 : Fns := tab l43

noncomputable def f43 (vs : List V) (h : HT) : Option J := unc vs fun x0 vs =>
  unc vs fun x1 vs =>
  bndN (kBox [x1]) h fun x3 h =>
  bndV (kMov [(.bool false)]) fun x4 =>
  bndV (kMov [x0]) fun x5 =>
  bndV (qLd h (some 2) [x3]) fun x6 =>
  bndC (f124 [x5, x6] h) fun x7 h =>
  bndV (kBin .geq [x7, (.int .i64 (.ofNat (nat_lit 0)))]) fun x8 =>
  bndV (kMov [x8]) fun x4 =>
  ret1 x4 h
def a43 : List Ann := []
theorem e43 : f43 = evFun Tryz.prog 43 2 a43 t43 := by kernel_rfl
theorem o43 : FnOk Tryz.prog 43 f43 := .of hmO (show enters Tryz.prog 43 = true by kernel_rfl) e43 (.cons o124 (.nil))

/- (*concord/node.Node).Ask -/
noncomputable def l10 : List (Nat × (List V → HT → Option J)) := [(39, f39), (40, f40), (41, f41), (42, f42), (43, f43)]
noncomputable def t10 : Fns := tab l10
noncomputable def f10_0 (x0 : V) (x3 : V) (x6 : V) (x53 : V) (h : HT) : Option J := bndV (qLd h none [x53]) fun x54 =>
  bndV (qLd h (some 7) [x3]) fun x55 =>
  bndN (kAlloc [(.int .i64 (.ofNat (nat_lit 0))), (.int .i64 (.ofNat (nat_lit 0)))] []) h fun x7 h =>
  bndC (f42 [x54, x55] h) fun x56 h =>
  bndV (kMov [x56]) fun x50 =>
  bndV (kExt 0 [x50]) fun x57 =>
  bndV (kExt 1 [x50]) fun x58 =>
  bndE (dSt h 2 [x7, x57]) h fun _ h =>
  bndV (kMov [x58]) fun x8 =>
  bndV (kMov [x8]) fun x59 =>
  bndV (kUn .not [x59]) fun x60 =>
  tstv x60 (bndV (kMov [(.int .i64 (.ofNat (nat_lit 7)))]) fun x4 =>
  some ⟨0, [x4], h⟩)
  (some ⟨1, [x0, x6], h⟩)
noncomputable def f10_1 (x0 : V) (x6 : V) (x67 : V) (h : HT) : Option J := bndJ (tstv x67 (bndV (kMov [x0]) fun x68 =>
  bndV (kMov [x0]) fun x69 =>
  bndV (kNilc [x69]) fun x70 =>
  bndV (kFa 71 [x70]) fun x71 =>
  bndV (qLd h none [x71]) fun x72 =>
  bndV (qLd h (some 2) [x6]) fun x73 =>
  bndN (kBsl 2 1 [(.int .i64 (.ofNat (nat_lit 0))), (.int .i64 (.ofNat (nat_lit 0)))] [(0, 2)] [x73]) h fun x74 h =>
  bndE (dApp h 2 16 [x72, x74]) h fun x75 h =>
  bndV (kNilc [x68]) fun x76 =>
  bndV (kFa 71 [x76]) fun x77 =>
  bndE (dSt h 1 [x77, x75]) h fun _ h =>
  some ⟨0, [x0], h⟩)
  (some ⟨0, [x0], h⟩))
  fun j vs h => unc vs fun x0 vs =>
  bndV (kMov [x0]) fun x78 =>
  bndC (f39 [x78] h) fun x79 h =>
  bndV (kMov [(.int .i64 (.ofNat (nat_lit 0)))]) fun x4 =>
  ret1 x4 h
noncomputable def f10_2 (x0 : V) (x3 : V) (x6 : V) (x49 : V) (h : HT) : Option J := bndJ (tstv x49 (bndV (kMov [x0]) fun x51 =>
  bndV (kNilc [x51]) fun x52 =>
  bndV (kFa 4 [x52]) fun x53 =>
  (f10_0 x0 x3 x6 x53 h))
  (some ⟨1, [x0, x6], h⟩))
  fun j vs h => nsw j (unc vs fun x4 vs =>
  ret1 x4 h)
  fun j => unc vs fun x0 vs =>
  unc vs fun x6 vs =>
  bndV (kMov [x0]) fun x61 =>
  bndV (kNilc [x61]) fun x62 =>
  bndV (kFa 71 [x62]) fun x63 =>
  bndV (qLd h none [x63]) fun x64 =>
  bndV (qLd h (some 2) [x6]) fun x65 =>
  bndC (f43 [x64, x65] h) fun x66 h =>
  bndV (kUn .not [x66]) fun x67 =>
  (f10_1 x0 x6 x67 h)
noncomputable def f10_3 (x0 : V) (x3 : V) (x5 : V) (x36 : V) (x37 : V) (h : HT) : Option J := bndV (qLd h none [x37]) fun x38 =>
  bndV (kBld [(.int .i64 (.ofNat (nat_lit 0))), (.int .i64 (.ofNat (nat_lit 0)))] [(0, 1), (1, 1)] [x36, x38]) fun x39 =>
  bndN (kAlloc [(.int .i64 (.ofNat (nat_lit 0))), (.int .i64 (.ofNat (nat_lit 0)))] []) h fun x6 h =>
  bndE (dSt h 2 [x6, x39]) h fun _ h =>
  bndV (kFa 2 [x3]) fun x40 =>
  bndV (qLd h none [x40]) fun x41 =>
  bndV (kMov [x5]) fun x42 =>
  bndV (kBin .gtr [x41, x42]) fun x43 =>
  bndV (kMov [x43]) fun x44 =>
  bndC (gsel x44 true (retV (kMov [x0]) h) h) fun x45 h =>
  bndC (gsel x44 true (retV (qLd h (some 2) [x6]) h) h) fun x46 h =>
  bndC (gsel x44 true (f41 [x45, x46] h) h) fun x47 h =>
  bndC (gsel x44 true (retV (kUn .not [x47]) h) h) fun x48 h =>
  bndV (kPick [x44, x48, (.bool false)]) fun x49 =>
  (f10_2 x0 x3 x6 x49 h)
noncomputable def f10_4 (x0 : V) (x3 : V) (x24 : V) (x27 : V) (h : HT) : Option J := bndV (kIaA 8 6 [x27, x24]) fun x28 =>
  bndV (kFa 0 [x28]) fun x29 =>
  bndV (qLd h none [x29]) fun x30 =>
  bndV (kMov [x30]) fun x5 =>
  bndV (kFa 2 [x3]) fun x31 =>
  bndV (qLd h none [x31]) fun x32 =>
  bndV (kMov [x5]) fun x33 =>
  bndV (kBin .lss [x32, x33]) fun x34 =>
  tstv x34 (bndV (kMov [(.int .i64 (.ofNat (nat_lit 9)))]) fun x4 =>
  ret1 x4 h)
  (bndV (kFa 1 [x3]) fun x35 =>
  bndV (qLd h none [x35]) fun x36 =>
  bndV (kFa 2 [x3]) fun x37 =>
  (f10_3 x0 x3 x5 x36 x37 h))
noncomputable def f10_5 (x0 : V) (x3 : V) (x16 : V) (h : HT) : Option J := bndC (gsel x16 false (retV (kFa 0 [x3]) h) h) fun x17 h =>
  bndC (gsel x16 false (retV (qLd h none [x17]) h) h) fun x18 h =>
  bndC (gsel x16 false (retV (kBin .eql [x18, (.int .i64 (.ofNat (nat_lit 0)))]) h) h) fun x19 h =>
  bndV (kPick [x16, (.bool true), x19]) fun x20 =>
  tstv x20 (bndV (kMov [(.int .i64 (.ofNat (nat_lit 1)))]) fun x4 =>
  ret1 x4 h)
  (bndV (kMov [x0]) fun x21 =>
  bndV (kFa 1 [x3]) fun x22 =>
  bndV (qLd h none [x22]) fun x23 =>
  bndV (kBin .sub [x23, (.int .i64 (.ofNat (nat_lit 1)))]) fun x24 =>
  bndV (kNilc [x21]) fun x25 =>
  bndV (kFa 6 [x25]) fun x26 =>
  bndV (kFa 1 [x26]) fun x27 =>
  (f10_4 x0 x3 x24 x27 h))
noncomputable def f10_6 (x0 : V) (vs : List V) (h : HT) : Option J := unc vs fun x1 vs =>
  bndN (kBox [x1]) h fun x3 h =>
  bndV (kMov [(.int .i64 (.ofNat (nat_lit 0)))]) fun x4 =>
  bndV (kMov [x0]) fun x9 =>
  bndV (kNilc [x9]) fun x10 =>
  bndV (kFa 74 [x10]) fun x11 =>
  bndV (qLd h none [x11]) fun x12 =>
  tstv x12 (bndV (kMov [(.int .i64 (.ofNat (nat_lit 10)))]) fun x4 =>
  ret1 x4 h)
  (bndV (qLd h (some 7) [x3]) fun x13 =>
  bndC (f40 [x13] h) fun x14 h =>
  bndV (kUn .not [x14]) fun x15 =>
  bndV (kMov [x15]) fun x16 =>
  (f10_5 x0 x3 x16 h))
noncomputable def f10 (vs : List V) (h : HT) : Option J := unc vs fun x0 vs =>
  (f10_6 x0 vs h)
def a10 : List Ann := [.no, .no, .no, .join [(.ret, [4]), (.normal, [0, 6])], .no, .join [(.normal, [0])]]
theorem e10 : f10 = evFun Tryz.prog 10 2 a10 t10 := by kernel_rfl
theorem o10 : FnOk Tryz.prog 10 f10 := .of hmO (show enters Tryz.prog 10 = true by kernel_rfl) e10 (.cons o39 (.cons o40 (.cons o41 (.cons o42 (.cons o43 (.nil))))))

/- concord/concordlaw23.put -/
noncomputable def l11 : List (Nat × (List V → HT → Option J)) := []
noncomputable def t11 : Fns := tab l11

noncomputable def f11 (vs : List V) (h : HT) : Option J := unc vs fun x0 vs =>
  unc vs fun x1 vs =>
  unc vs fun x2 vs =>
  bndN (kAlloc [(.int .i64 (.ofNat (nat_lit 0))), (.int .i64 (.ofNat (nat_lit 0))), (.int .i64 (.ofNat (nat_lit 0))), (.str (sb [])), (.str (sb [])), (.str (sb [])), (.str (sb []))] []) h fun x6 h =>
  bndV (kMov [x0]) fun x7 =>
  bndV (kMov [x1]) fun x8 =>
  bndV (kMov [x2]) fun x9 =>
  bndV (kBld [(.int .i64 (.ofNat (nat_lit 0))), (.int .i64 (.ofNat (nat_lit 0))), (.int .i64 (.ofNat (nat_lit 0))), (.str (sb [])), (.str (sb [])), (.str (sb [])), (.str (sb []))] [(0, 1), (1, 1), (2, 1), (3, 1)] [(.int .i64 (.ofNat (nat_lit 2))), x7, x8, x9]) fun x10 =>
  bndE (dSt h 7 [x6, x10]) h fun _ h =>
  bndV (qLd h (some 7) [x6]) fun x900000 =>
  ret1 x900000 h
def a11 : List Ann := []
theorem e11 : f11 = evFun Tryz.prog 11 3 a11 t11 := by kernel_rfl
theorem o11 : FnOk Tryz.prog 11 f11 := .of hmO (show enters Tryz.prog 11 = true by kernel_rfl) e11 (.nil)

/- (*concord/node.Node).Out -/
noncomputable def l12 : List (Nat × (List V → HT → Option J)) := []
noncomputable def t12 : Fns := tab l12
noncomputable def f12_0 (x0 : V) (x9 : V) (x13 : V) (h : HT) : Option J := bndV (kMov [x9]) fun x4 =>
  bndV (kMov [x13]) fun x5 =>
  bndV (kMov [x0]) fun x14 =>
  bndV (kMov [x0]) fun x15 =>
  bndV (kNilc [x14]) fun x16 =>
  bndV (kFa 72 [x16]) fun x17 =>
  bndE (dSt h 1 [x17, (.slice none 0 true 0)]) h fun _ h =>
  bndV (kNilc [x15]) fun x18 =>
  bndV (kFa 73 [x18]) fun x19 =>
  bndE (dSt h 1 [x19, (.slice none 0 true 0)]) h fun _ h =>
  bndV (kMov [x4]) fun x20 =>
  bndV (kMov [x5]) fun x21 =>
  bndV (kMov [x20]) fun x2 =>
  bndV (kMov [x21]) fun x3 =>
  ret1 (.tuple [x2, x3]) h
noncomputable def f12 (vs : List V) (h : HT) : Option J := unc vs fun x0 vs =>
  bndV (kMov [(.slice none 0 true 0)]) fun x2 =>
  bndV (kMov [(.slice none 0 true 0)]) fun x3 =>
  bndV (kMov [x0]) fun x6 =>
  bndV (kNilc [x6]) fun x7 =>
  bndV (kFa 72 [x7]) fun x8 =>
  bndV (qLd h none [x8]) fun x9 =>
  bndV (kMov [x0]) fun x10 =>
  bndV (kNilc [x10]) fun x11 =>
  bndV (kFa 73 [x11]) fun x12 =>
  bndV (qLd h none [x12]) fun x13 =>
  (f12_0 x0 x9 x13 h)
def a12 : List Ann := []
theorem e12 : f12 = evFun Tryz.prog 12 1 a12 t12 := by kernel_rfl
theorem o12 : FnOk Tryz.prog 12 f12 := .of hmO (show enters Tryz.prog 12 = true by kernel_rfl) e12 (.nil)

/- concord/letter.named -/
noncomputable def l125 : List (Nat × (List V → HT → Option J)) := []
noncomputable def t125 : Fns := tab l125
noncomputable def f125_0 (x2 : V) (x4 : V) (x23 : V) (h : HT) : Option J := tstv x23 (bndV (kBld [(.bool false), (.bool false), (.bool false), (.bool false), (.bool false), (.bool false), (.bool false)] [(5, 1)] [(.bool true)]) fun x26 =>
  bndE (dSt h 7 [x2, x26]) h fun _ h =>
  bndV (kMov [(.bool true)]) fun x3 =>
  bndV (qLd h (some 7) [x2]) fun x900000 =>
  ret1 (.tuple [x900000, x3]) h)
  (bndV (kBin .eql [x4, (.int .i64 (.ofNat (nat_lit 10)))]) fun x28 =>
  bndV (kMov [x28]) fun x27 =>
  tstv x27 (bndV (kBld [(.bool false), (.bool false), (.bool false), (.bool false), (.bool false), (.bool false), (.bool false)] [(6, 1)] [(.bool true)]) fun x29 =>
  bndE (dSt h 7 [x2, x29]) h fun _ h =>
  bndV (kMov [(.bool true)]) fun x3 =>
  bndV (qLd h (some 7) [x2]) fun x900000 =>
  ret1 (.tuple [x900000, x3]) h)
  (bndV (kBld [(.bool false), (.bool false), (.bool false), (.bool false), (.bool false), (.bool false), (.bool false)] [] []) fun x30 =>
  bndE (dSt h 7 [x2, x30]) h fun _ h =>
  bndV (kMov [(.bool false)]) fun x3 =>
  bndV (qLd h (some 7) [x2]) fun x900000 =>
  ret1 (.tuple [x900000, x3]) h))
noncomputable def f125_1 (x2 : V) (x4 : V) (x20 : V) (h : HT) : Option J := tstv x20 (bndV (kBld [(.bool false), (.bool false), (.bool false), (.bool false), (.bool false), (.bool false), (.bool false)] [(0, 1), (1, 1), (4, 1)] [(.bool true), (.bool true), (.bool true)]) fun x22 =>
  bndE (dSt h 7 [x2, x22]) h fun _ h =>
  bndV (kMov [(.bool true)]) fun x3 =>
  bndV (qLd h (some 7) [x2]) fun x900000 =>
  ret1 (.tuple [x900000, x3]) h)
  (bndV (kBin .eql [x4, (.int .i64 (.ofNat (nat_lit 9)))]) fun x24 =>
  bndV (kMov [x24]) fun x23 =>
  bndJ (tstv x23 (some ⟨0, [x2, x4, x23], h⟩)
  (bndV (kBin .eql [x4, (.int .i64 (.ofNat (nat_lit 11)))]) fun x25 =>
  bndV (kMov [x25]) fun x23 =>
  some ⟨0, [x2, x4, x23], h⟩))
  fun j vs h => unc vs fun x2 vs =>
  unc vs fun x4 vs =>
  unc vs fun x23 vs =>
  (f125_0 x2 x4 x23 h))
noncomputable def f125_2 (x2 : V) (x4 : V) (x12 : V) (h : HT) : Option J := tstv x12 (bndV (kBld [(.bool false), (.bool false), (.bool false), (.bool false), (.bool false), (.bool false), (.bool false)] [(0, 1), (1, 1)] [(.bool true), (.bool true)]) fun x16 =>
  bndE (dSt h 7 [x2, x16]) h fun _ h =>
  bndV (kMov [(.bool true)]) fun x3 =>
  bndV (qLd h (some 7) [x2]) fun x900000 =>
  ret1 (.tuple [x900000, x3]) h)
  (bndV (kBin .eql [x4, (.int .i64 (.ofNat (nat_lit 5)))]) fun x18 =>
  bndV (kMov [x18]) fun x17 =>
  tstv x17 (bndV (kBld [(.bool false), (.bool false), (.bool false), (.bool false), (.bool false), (.bool false), (.bool false)] [(0, 1), (2, 1), (3, 1)] [(.bool true), (.bool true), (.bool true)]) fun x19 =>
  bndE (dSt h 7 [x2, x19]) h fun _ h =>
  bndV (kMov [(.bool true)]) fun x3 =>
  bndV (qLd h (some 7) [x2]) fun x900000 =>
  ret1 (.tuple [x900000, x3]) h)
  (bndV (kBin .eql [x4, (.int .i64 (.ofNat (nat_lit 7)))]) fun x21 =>
  bndV (kMov [x21]) fun x20 =>
  (f125_1 x2 x4 x20 h)))
noncomputable def f125_3 (x2 : V) (x4 : V) (x12 : V) (h : HT) : Option J := bndJ (tstv x12 (some ⟨0, [x2, x4, x12], h⟩)
  (bndV (kBin .eql [x4, (.int .i64 (.ofNat (nat_lit 6)))]) fun x14 =>
  bndV (kMov [x14]) fun x12 =>
  bndJ (tstv x12 (some ⟨0, [x2, x4, x12], h⟩)
  (bndV (kBin .eql [x4, (.int .i64 (.ofNat (nat_lit 8)))]) fun x15 =>
  bndV (kMov [x15]) fun x12 =>
  some ⟨0, [x2, x4, x12], h⟩))
  fun j vs h => unc vs fun x2 vs =>
  unc vs fun x4 vs =>
  unc vs fun x12 vs =>
  some ⟨0, [x2, x4, x12], h⟩))
  fun j vs h => unc vs fun x2 vs =>
  unc vs fun x4 vs =>
  unc vs fun x12 vs =>
  (f125_2 x2 x4 x12 h)
noncomputable def f125_4 (x2 : V) (x4 : V) (x5 : V) (h : HT) : Option J := tstv x5 (bndV (kBld [(.bool false), (.bool false), (.bool false), (.bool false), (.bool false), (.bool false), (.bool false)] [(0, 1), (1, 1), (2, 1), (3, 1)] [(.bool true), (.bool true), (.bool true), (.bool true)]) fun x8 =>
  bndE (dSt h 7 [x2, x8]) h fun _ h =>
  bndV (kMov [(.bool true)]) fun x3 =>
  bndV (qLd h (some 7) [x2]) fun x900000 =>
  ret1 (.tuple [x900000, x3]) h)
  (bndV (kBin .eql [x4, (.int .i64 (.ofNat (nat_lit 2)))]) fun x10 =>
  bndV (kMov [x10]) fun x9 =>
  tstv x9 (bndV (kBld [(.bool false), (.bool false), (.bool false), (.bool false), (.bool false), (.bool false), (.bool false)] [(0, 1), (1, 1), (3, 1)] [(.bool true), (.bool true), (.bool true)]) fun x11 =>
  bndE (dSt h 7 [x2, x11]) h fun _ h =>
  bndV (kMov [(.bool true)]) fun x3 =>
  bndV (qLd h (some 7) [x2]) fun x900000 =>
  ret1 (.tuple [x900000, x3]) h)
  (bndV (kBin .eql [x4, (.int .i64 (.ofNat (nat_lit 4)))]) fun x13 =>
  bndV (kMov [x13]) fun x12 =>
  (f125_3 x2 x4 x12 h)))
noncomputable def f125_5 (x0 : V) (h : HT) : Option J := bndN (kAlloc [(.bool false), (.bool false), (.bool false), (.bool false), (.bool false), (.bool false), (.bool false)] []) h fun x2 h =>
  bndV (kMov [(.bool false)]) fun x3 =>
  bndV (kMov [x0]) fun x4 =>
  bndV (kBin .eql [x4, (.int .i64 (.ofNat (nat_lit 1)))]) fun x6 =>
  bndV (kMov [x6]) fun x5 =>
  bndJ (tstv x5 (some ⟨0, [x2, x4, x5], h⟩)
  (bndV (kBin .eql [x4, (.int .i64 (.ofNat (nat_lit 3)))]) fun x7 =>
  bndV (kMov [x7]) fun x5 =>
  some ⟨0, [x2, x4, x5], h⟩))
  fun j vs h => unc vs fun x2 vs =>
  unc vs fun x4 vs =>
  unc vs fun x5 vs =>
  (f125_4 x2 x4 x5 h)
noncomputable def f125 (vs : List V) (h : HT) : Option J := unc vs fun x0 vs =>
  (f125_5 x0 h)
def a125 : List Ann := [.no, .join [(.normal, [2, 4, 5])], .no, .no, .join [(.normal, [2, 4, 12])], .join [(.normal, [2, 4, 12])], .no, .no, .no, .join [(.normal, [2, 4, 23])], .no, .no]
theorem e125 : f125 = evFun Tryz.prog 125 1 a125 t125 := by kernel_rfl
theorem o125 : FnOk Tryz.prog 125 f125 := .of hmO (show enters Tryz.prog 125 = true by kernel_rfl) e125 (.nil)

/- concord/letter.place -/
noncomputable def l126 : List (Nat × (List V → HT → Option J)) := []
noncomputable def t126 : Fns := tab l126

noncomputable def f126 (vs : List V) (h : HT) : Option J := unc vs fun x0 vs =>
  bndV (kMov [(.bool false)]) fun x2 =>
  bndV (kMov [x0]) fun x3 =>
  bndV (kBin .geq [x3, (.int .i64 (.ofNat (nat_lit 0)))]) fun x4 =>
  bndV (kMov [x4]) fun x5 =>
  bndC (gsel x5 true (retV (kMov [x0]) h) h) fun x6 h =>
  bndC (gsel x5 true (retV (kBin .lss [x6, (.int .i64 (.ofNat (nat_lit 7)))]) h) h) fun x7 h =>
  bndV (kPick [x5, x7, (.bool false)]) fun x8 =>
  bndV (kMov [x8]) fun x2 =>
  ret1 x2 h
def a126 : List Ann := []
theorem e126 : f126 = evFun Tryz.prog 126 1 a126 t126 := by kernel_rfl
theorem o126 : FnOk Tryz.prog 126 f126 := .of hmO (show enters Tryz.prog 126 = true by kernel_rfl) e126 (.nil)

/- concord/letter.bare -/
noncomputable def l127 : List (Nat × (List V → HT → Option J)) := []
noncomputable def t127 : Fns := tab l127
noncomputable def f127_0 (x2 : V) (x4 : V) (x5 : V) (x43 : V) (h : HT) : Option J := bndV (qLd h none [x43]) fun x44 =>
  bndJ (tstv x44 (bndV (kFa 50 [x2]) fun x45 =>
  bndV (qLd h none [x45]) fun x46 =>
  bndV (kFa 50 [x5]) fun x47 =>
  bndE (dSt h 1 [x47, x46]) h fun _ h =>
  some ⟨0, [x4, x5], h⟩)
  (some ⟨0, [x4, x5], h⟩))
  fun j vs h => unc vs fun x4 vs =>
  unc vs fun x5 vs =>
  bndV (qLd h (some 51) [x5]) fun x48 =>
  bndE (dSt h 51 [x4, x48]) h fun _ h =>
  bndV (qLd h (some 51) [x4]) fun x900000 =>
  ret1 x900000 h
noncomputable def f127_1 (x2 : V) (x3 : V) (x4 : V) (x5 : V) (x38 : V) (h : HT) : Option J := bndV (qLd h none [x38]) fun x39 =>
  bndJ (tstv x39 (bndV (kFa 43 [x2]) fun x40 =>
  bndV (qLd h (some 7) [x40]) fun x41 =>
  bndV (kFa 43 [x5]) fun x42 =>
  bndE (dSt h 7 [x42, x41]) h fun _ h =>
  some ⟨0, [x2, x3, x4, x5], h⟩)
  (some ⟨0, [x2, x3, x4, x5], h⟩))
  fun j vs h => unc vs fun x2 vs =>
  unc vs fun x3 vs =>
  unc vs fun x4 vs =>
  unc vs fun x5 vs =>
  bndV (kFa 6 [x3]) fun x43 =>
  (f127_0 x2 x4 x5 x43 h)
noncomputable def f127_2 (x2 : V) (x3 : V) (x4 : V) (x5 : V) (x33 : V) (h : HT) : Option J := bndV (qLd h none [x33]) fun x34 =>
  bndJ (tstv x34 (bndV (kFa 22 [x2]) fun x35 =>
  bndV (qLd h (some 21) [x35]) fun x36 =>
  bndV (kFa 22 [x5]) fun x37 =>
  bndE (dSt h 21 [x37, x36]) h fun _ h =>
  some ⟨0, [x2, x3, x4, x5], h⟩)
  (some ⟨0, [x2, x3, x4, x5], h⟩))
  fun j vs h => unc vs fun x2 vs =>
  unc vs fun x3 vs =>
  unc vs fun x4 vs =>
  unc vs fun x5 vs =>
  bndV (kFa 5 [x3]) fun x38 =>
  (f127_1 x2 x3 x4 x5 x38 h)
noncomputable def f127_3 (x2 : V) (x3 : V) (x4 : V) (x5 : V) (x28 : V) (h : HT) : Option J := bndV (qLd h none [x28]) fun x29 =>
  bndJ (tstv x29 (bndV (kFa 14 [x2]) fun x30 =>
  bndV (qLd h (some 8) [x30]) fun x31 =>
  bndV (kFa 14 [x5]) fun x32 =>
  bndE (dSt h 8 [x32, x31]) h fun _ h =>
  some ⟨0, [x2, x3, x4, x5], h⟩)
  (some ⟨0, [x2, x3, x4, x5], h⟩))
  fun j vs h => unc vs fun x2 vs =>
  unc vs fun x3 vs =>
  unc vs fun x4 vs =>
  unc vs fun x5 vs =>
  bndV (kFa 4 [x3]) fun x33 =>
  (f127_2 x2 x3 x4 x5 x33 h)
noncomputable def f127_4 (x2 : V) (x3 : V) (x4 : V) (x5 : V) (x23 : V) (h : HT) : Option J := bndV (qLd h none [x23]) fun x24 =>
  bndJ (tstv x24 (bndV (kFa 7 [x2]) fun x25 =>
  bndV (qLd h (some 7) [x25]) fun x26 =>
  bndV (kFa 7 [x5]) fun x27 =>
  bndE (dSt h 7 [x27, x26]) h fun _ h =>
  some ⟨0, [x2, x3, x4, x5], h⟩)
  (some ⟨0, [x2, x3, x4, x5], h⟩))
  fun j vs h => unc vs fun x2 vs =>
  unc vs fun x3 vs =>
  unc vs fun x4 vs =>
  unc vs fun x5 vs =>
  bndV (kFa 3 [x3]) fun x28 =>
  (f127_3 x2 x3 x4 x5 x28 h)
noncomputable def f127_5 (x2 : V) (x3 : V) (x4 : V) (x5 : V) (x18 : V) (h : HT) : Option J := bndV (qLd h none [x18]) fun x19 =>
  bndJ (tstv x19 (bndV (kFa 5 [x2]) fun x20 =>
  bndV (qLd h (some 2) [x20]) fun x21 =>
  bndV (kFa 5 [x5]) fun x22 =>
  bndE (dSt h 2 [x22, x21]) h fun _ h =>
  some ⟨0, [x2, x3, x4, x5], h⟩)
  (some ⟨0, [x2, x3, x4, x5], h⟩))
  fun j vs h => unc vs fun x2 vs =>
  unc vs fun x3 vs =>
  unc vs fun x4 vs =>
  unc vs fun x5 vs =>
  bndV (kFa 2 [x3]) fun x23 =>
  (f127_4 x2 x3 x4 x5 x23 h)
noncomputable def f127_6 (x2 : V) (x3 : V) (x4 : V) (x5 : V) (x13 : V) (h : HT) : Option J := bndV (qLd h none [x13]) fun x14 =>
  bndJ (tstv x14 (bndV (kFa 3 [x2]) fun x15 =>
  bndV (qLd h (some 2) [x15]) fun x16 =>
  bndV (kFa 3 [x5]) fun x17 =>
  bndE (dSt h 2 [x17, x16]) h fun _ h =>
  some ⟨0, [x2, x3, x4, x5], h⟩)
  (some ⟨0, [x2, x3, x4, x5], h⟩))
  fun j vs h => unc vs fun x2 vs =>
  unc vs fun x3 vs =>
  unc vs fun x4 vs =>
  unc vs fun x5 vs =>
  bndV (kFa 1 [x3]) fun x18 =>
  (f127_5 x2 x3 x4 x5 x18 h)
noncomputable def f127_7 (x0 : V) (vs : List V) (h : HT) : Option J := unc vs fun x1 vs =>
  bndN (kBox [x0]) h fun x2 h =>
  bndN (kBox [x1]) h fun x3 h =>
  bndN (kAlloc [(.int .i64 (.ofNat (nat_lit 0))), (.int .i64 (.ofNat (nat_lit 0))), (.int .i64 (.ofNat (nat_lit 0))), (.int .i64 (.ofNat (nat_lit 0))), (.int .i64 (.ofNat (nat_lit 0))), (.int .i64 (.ofNat (nat_lit 0))), (.int .i64 (.ofNat (nat_lit 0))), (.int .i64 (.ofNat (nat_lit 0))), (.int .i64 (.ofNat (nat_lit 0))), (.int .i64 (.ofNat (nat_lit 0))), (.str (sb [])), (.str (sb [])), (.str (sb [])), (.str (sb [])), (.int .i64 (.ofNat (nat_lit 0))), (.int .i64 (.ofNat (nat_lit 0))), (.int .i64 (.ofNat (nat_lit 0))), (.int .i64 (.ofNat (nat_lit 0))), (.int .i64 (.ofNat (nat_lit 0))), (.int .i64 (.ofNat (nat_lit 0))), (.int .i64 (.ofNat (nat_lit 0))), (.int .i64 (.ofNat (nat_lit 0))), (.int .i64 (.ofNat (nat_lit 0))), (.int .i64 (.ofNat (nat_lit 0))), (.int .i64 (.ofNat (nat_lit 0))), (.int .i64 (.ofNat (nat_lit 0))), (.int .i64 (.ofNat (nat_lit 0))), (.int .i64 (.ofNat (nat_lit 0))), (.int .i64 (.ofNat (nat_lit 0))), (.int .i64 (.ofNat (nat_lit 0))), (.str (sb [])), (.str (sb [])), (.str (sb [])), (.str (sb [])), (.int .i64 (.ofNat (nat_lit 0))), (.int .i64 (.ofNat (nat_lit 0))), (.int .i64 (.ofNat (nat_lit 0))), (.int .i64 (.ofNat (nat_lit 0))), (.int .i64 (.ofNat (nat_lit 0))), (.int .i64 (.ofNat (nat_lit 0))), (.int .i64 (.ofNat (nat_lit 0))), (.int .i64 (.ofNat (nat_lit 0))), (.bool false), (.int .i64 (.ofNat (nat_lit 0))), (.int .i64 (.ofNat (nat_lit 0))), (.int .i64 (.ofNat (nat_lit 0))), (.int .i64 (.ofNat (nat_lit 0))), (.int .i64 (.ofNat (nat_lit 0))), (.int .i64 (.ofNat (nat_lit 0))), (.int .i64 (.ofNat (nat_lit 0))), (.str (sb []))] []) h fun x4 h =>
  bndV (kFa 0 [x2]) fun x6 =>
  bndV (qLd h none [x6]) fun x7 =>
  bndV (kFa 1 [x2]) fun x8 =>
  bndV (qLd h none [x8]) fun x9 =>
  bndV (kFa 2 [x2]) fun x10 =>
  bndV (qLd h none [x10]) fun x11 =>
  bndV (kBld [(.int .i64 (.ofNat (nat_lit 0))), (.int .i64 (.ofNat (nat_lit 0))), (.int .i64 (.ofNat (nat_lit 0))), (.int .i64 (.ofNat (nat_lit 0))), (.int .i64 (.ofNat (nat_lit 0))), (.int .i64 (.ofNat (nat_lit 0))), (.int .i64 (.ofNat (nat_lit 0))), (.int .i64 (.ofNat (nat_lit 0))), (.int .i64 (.ofNat (nat_lit 0))), (.int .i64 (.ofNat (nat_lit 0))), (.str (sb [])), (.str (sb [])), (.str (sb [])), (.str (sb [])), (.int .i64 (.ofNat (nat_lit 0))), (.int .i64 (.ofNat (nat_lit 0))), (.int .i64 (.ofNat (nat_lit 0))), (.int .i64 (.ofNat (nat_lit 0))), (.int .i64 (.ofNat (nat_lit 0))), (.int .i64 (.ofNat (nat_lit 0))), (.int .i64 (.ofNat (nat_lit 0))), (.int .i64 (.ofNat (nat_lit 0))), (.int .i64 (.ofNat (nat_lit 0))), (.int .i64 (.ofNat (nat_lit 0))), (.int .i64 (.ofNat (nat_lit 0))), (.int .i64 (.ofNat (nat_lit 0))), (.int .i64 (.ofNat (nat_lit 0))), (.int .i64 (.ofNat (nat_lit 0))), (.int .i64 (.ofNat (nat_lit 0))), (.int .i64 (.ofNat (nat_lit 0))), (.str (sb [])), (.str (sb [])), (.str (sb [])), (.str (sb [])), (.int .i64 (.ofNat (nat_lit 0))), (.int .i64 (.ofNat (nat_lit 0))), (.int .i64 (.ofNat (nat_lit 0))), (.int .i64 (.ofNat (nat_lit 0))), (.int .i64 (.ofNat (nat_lit 0))), (.int .i64 (.ofNat (nat_lit 0))), (.int .i64 (.ofNat (nat_lit 0))), (.int .i64 (.ofNat (nat_lit 0))), (.bool false), (.int .i64 (.ofNat (nat_lit 0))), (.int .i64 (.ofNat (nat_lit 0))), (.int .i64 (.ofNat (nat_lit 0))), (.int .i64 (.ofNat (nat_lit 0))), (.int .i64 (.ofNat (nat_lit 0))), (.int .i64 (.ofNat (nat_lit 0))), (.int .i64 (.ofNat (nat_lit 0))), (.str (sb []))] [(0, 1), (1, 1), (2, 1)] [x7, x9, x11]) fun x12 =>
  bndN (kAlloc [(.int .i64 (.ofNat (nat_lit 0))), (.int .i64 (.ofNat (nat_lit 0))), (.int .i64 (.ofNat (nat_lit 0))), (.int .i64 (.ofNat (nat_lit 0))), (.int .i64 (.ofNat (nat_lit 0))), (.int .i64 (.ofNat (nat_lit 0))), (.int .i64 (.ofNat (nat_lit 0))), (.int .i64 (.ofNat (nat_lit 0))), (.int .i64 (.ofNat (nat_lit 0))), (.int .i64 (.ofNat (nat_lit 0))), (.str (sb [])), (.str (sb [])), (.str (sb [])), (.str (sb [])), (.int .i64 (.ofNat (nat_lit 0))), (.int .i64 (.ofNat (nat_lit 0))), (.int .i64 (.ofNat (nat_lit 0))), (.int .i64 (.ofNat (nat_lit 0))), (.int .i64 (.ofNat (nat_lit 0))), (.int .i64 (.ofNat (nat_lit 0))), (.int .i64 (.ofNat (nat_lit 0))), (.int .i64 (.ofNat (nat_lit 0))), (.int .i64 (.ofNat (nat_lit 0))), (.int .i64 (.ofNat (nat_lit 0))), (.int .i64 (.ofNat (nat_lit 0))), (.int .i64 (.ofNat (nat_lit 0))), (.int .i64 (.ofNat (nat_lit 0))), (.int .i64 (.ofNat (nat_lit 0))), (.int .i64 (.ofNat (nat_lit 0))), (.int .i64 (.ofNat (nat_lit 0))), (.str (sb [])), (.str (sb [])), (.str (sb [])), (.str (sb [])), (.int .i64 (.ofNat (nat_lit 0))), (.int .i64 (.ofNat (nat_lit 0))), (.int .i64 (.ofNat (nat_lit 0))), (.int .i64 (.ofNat (nat_lit 0))), (.int .i64 (.ofNat (nat_lit 0))), (.int .i64 (.ofNat (nat_lit 0))), (.int .i64 (.ofNat (nat_lit 0))), (.int .i64 (.ofNat (nat_lit 0))), (.bool false), (.int .i64 (.ofNat (nat_lit 0))), (.int .i64 (.ofNat (nat_lit 0))), (.int .i64 (.ofNat (nat_lit 0))), (.int .i64 (.ofNat (nat_lit 0))), (.int .i64 (.ofNat (nat_lit 0))), (.int .i64 (.ofNat (nat_lit 0))), (.int .i64 (.ofNat (nat_lit 0))), (.str (sb []))] []) h fun x5 h =>
  bndE (dSt h 51 [x5, x12]) h fun _ h =>
  bndV (kFa 0 [x3]) fun x13 =>
  (f127_6 x2 x3 x4 x5 x13 h)
noncomputable def f127 (vs : List V) (h : HT) : Option J := unc vs fun x0 vs =>
  (f127_7 x0 vs h)
def a127 : List Ann := [.join [(.normal, [2, 3, 4, 5])], .join [(.normal, [2, 3, 4, 5])], .join [(.normal, [2, 3, 4, 5])], .join [(.normal, [2, 3, 4, 5])], .join [(.normal, [2, 3, 4, 5])], .join [(.normal, [2, 3, 4, 5])], .join [(.normal, [4, 5])]]
theorem e127 : f127 = evFun Tryz.prog 127 2 a127 t127 := by kernel_rfl
theorem o127 : FnOk Tryz.prog 127 f127 := .of hmO (show enters Tryz.prog 127 = true by kernel_rfl) e127 (.nil)

/- concord/letter.Right -/
noncomputable def l44 : List (Nat × (List V → HT → Option J)) := [(40, f40), (99, f99), (125, f125), (126, f126), (127, f127), (128, f128), (129, f129), (130, f130)]
noncomputable def t44 : Fns := tab l44
noncomputable def f44_0 (x1 : V) (x70 : V) (h : HT) : Option J := tstv x70 (bndV (kMov [(.bool false)]) fun x2 =>
  ret1 x2 h)
  (bndV (kFa 43 [x1]) fun x71 =>
  bndV (qLd h (some 7) [x71]) fun x72 =>
  bndV (kBld [(.int .i64 (.ofNat (nat_lit 0))), (.int .i64 (.ofNat (nat_lit 0))), (.int .i64 (.ofNat (nat_lit 0))), (.int .i64 (.ofNat (nat_lit 0))), (.int .i64 (.ofNat (nat_lit 0))), (.int .i64 (.ofNat (nat_lit 0))), (.int .i64 (.ofNat (nat_lit 0))), (.int .i64 (.ofNat (nat_lit 0)))] [(1, 7)] [x72]) fun x73 =>
  bndC (f99 [x73] h) fun x74 h =>
  bndV (kMov [x74]) fun x75 =>
  bndC (gsel x75 true (retV (kFa 50 [x1]) h) h) fun x76 h =>
  bndC (gsel x75 true (retV (qLd h none [x76]) h) h) fun x77 h =>
  bndC (gsel x75 true (retV (kLenT [x77]) h) h) fun x78 h =>
  bndC (gsel x75 true (retV (kBin .leq [x78, (.int .i64 (.ofNat (nat_lit 16384)))]) h) h) fun x79 h =>
  bndV (kPick [x75, x79, (.bool false)]) fun x80 =>
  bndV (kMov [x80]) fun x2 =>
  ret1 x2 h)
noncomputable def f44_1 (x1 : V) (x53 : V) (x56 : V) (h : HT) : Option J := bndC (gsel x53 false (retV (kUn .not [x56]) h) h) fun x57 h =>
  bndV (kPick [x53, (.bool true), x57]) fun x58 =>
  bndV (kMov [x58]) fun x59 =>
  bndC (gsel x59 false (retV (kFa 14 [x1]) h) h) fun x60 h =>
  bndC (gsel x59 false (retV (qLd h (some 8) [x60]) h) h) fun x61 h =>
  bndC (gsel x59 false (f99 [x61] h) h) fun x62 h =>
  bndC (gsel x59 false (retV (kUn .not [x62]) h) h) fun x63 h =>
  bndV (kPick [x59, (.bool true), x63]) fun x64 =>
  bndV (kMov [x64]) fun x65 =>
  bndC (gsel x65 false (retV (kFa 22 [x1]) h) h) fun x66 h =>
  bndC (gsel x65 false (retV (qLd h (some 21) [x66]) h) h) fun x67 h =>
  bndC (gsel x65 false (f130 [x67] h) h) fun x68 h =>
  bndC (gsel x65 false (retV (kUn .not [x68]) h) h) fun x69 h =>
  bndV (kPick [x65, (.bool true), x69]) fun x70 =>
  (f44_0 x1 x70 h)
noncomputable def f44_2 (x1 : V) (x41 : V) (x42 : V) (h : HT) : Option J := bndC (gsel x41 true (retV (qLd h (some 2) [x42]) h) h) fun x43 h =>
  bndC (gsel x41 true (f128 [x43] h) h) fun x44 h =>
  bndC (gsel x41 true (retV (kUn .not [x44]) h) h) fun x45 h =>
  bndV (kPick [x41, x45, (.bool false)]) fun x46 =>
  bndV (kMov [x46]) fun x47 =>
  bndC (gsel x47 false (retV (kFa 5 [x1]) h) h) fun x48 h =>
  bndC (gsel x47 false (retV (qLd h (some 2) [x48]) h) h) fun x49 h =>
  bndC (gsel x47 false (f129 [x49] h) h) fun x50 h =>
  bndC (gsel x47 false (retV (kUn .not [x50]) h) h) fun x51 h =>
  bndV (kPick [x47, (.bool true), x51]) fun x52 =>
  bndV (kMov [x52]) fun x53 =>
  bndC (gsel x53 false (retV (kFa 7 [x1]) h) h) fun x54 h =>
  bndC (gsel x53 false (retV (qLd h (some 7) [x54]) h) h) fun x55 h =>
  bndC (gsel x53 false (f40 [x55] h) h) fun x56 h =>
  (f44_1 x1 x53 x56 h)
noncomputable def f44_3 (x1 : V) (x3 : V) (x32 : V) (h : HT) : Option J := bndC (gsel x32 false (retV (qLd h (some 51) [x1]) h) h) fun x33 h =>
  bndC (gsel x32 false (retV (qLd h (some 51) [x1]) h) h) fun x34 h =>
  bndC (gsel x32 false (retV (qLd h (some 7) [x3]) h) h) fun x35 h =>
  bndC (gsel x32 false (f127 [x34, x35] h) h) fun x36 h =>
  chk1 (gchk x32 false (sameE (qLd h (some 51) [x1]) x33)) (bndC (gsel x32 false (retV (kEqF true [.i, .i, .i, .i, .i, .i, .i, .i, .i, .i, .s, .s, .s, .s, .i, .i, .i, .i, .i, .i, .i, .i, .i, .i, .i, .i, .i, .i, .i, .i, .s, .s, .s, .s, .i, .i, .i, .i, .i, .i, .i, .i, .b, .i, .i, .i, .i, .i, .i, .i, .s] [x33, x36]) h) h) fun x37 h =>
  bndV (kPick [x32, (.bool true), x37]) fun x38 =>
  tstv x38 (bndV (kMov [(.bool false)]) fun x2 =>
  ret1 x2 h)
  (bndV (kFa 0 [x3]) fun x39 =>
  bndV (qLd h none [x39]) fun x40 =>
  bndV (kMov [x40]) fun x41 =>
  bndC (gsel x41 true (retV (kFa 3 [x1]) h) h) fun x42 h =>
  (f44_2 x1 x41 x42 h)))
noncomputable def f44_4 (x1 : V) (x3 : V) (x18 : V) (h : HT) : Option J := bndV (kMov [x18]) fun x19 =>
  bndC (gsel x19 false (retV (kFa 2 [x1]) h) h) fun x20 h =>
  bndC (gsel x19 false (retV (qLd h none [x20]) h) h) fun x21 h =>
  bndC (gsel x19 false (f126 [x21] h) h) fun x22 h =>
  bndC (gsel x19 false (retV (kUn .not [x22]) h) h) fun x23 h =>
  bndV (kPick [x19, (.bool true), x23]) fun x24 =>
  bndV (kMov [x24]) fun x25 =>
  bndC (gsel x25 false (retV (kFa 1 [x1]) h) h) fun x26 h =>
  bndC (gsel x25 false (retV (qLd h none [x26]) h) h) fun x27 h =>
  bndC (gsel x25 false (retV (kFa 2 [x1]) h) h) fun x28 h =>
  bndC (gsel x25 false (retV (qLd h none [x28]) h) h) fun x29 h =>
  bndC (gsel x25 false (retV (kBin .eql [x27, x29]) h) h) fun x30 h =>
  bndV (kPick [x25, (.bool true), x30]) fun x31 =>
  bndV (kMov [x31]) fun x32 =>
  (f44_3 x1 x3 x32 h)
noncomputable def f44_5 (x1 : V) (x8 : V) (h : HT) : Option J := bndV (kMov [x8]) fun x5 =>
  bndV (kExt 0 [x5]) fun x9 =>
  bndV (kExt 1 [x5]) fun x10 =>
  bndN (kAlloc [(.bool false), (.bool false), (.bool false), (.bool false), (.bool false), (.bool false), (.bool false)] []) h fun x3 h =>
  bndE (dSt h 7 [x3, x9]) h fun _ h =>
  bndV (kMov [x10]) fun x4 =>
  bndV (kMov [x4]) fun x11 =>
  bndV (kUn .not [x11]) fun x12 =>
  bndV (kMov [x12]) fun x13 =>
  bndC (gsel x13 false (retV (kFa 1 [x1]) h) h) fun x14 h =>
  bndC (gsel x13 false (retV (qLd h none [x14]) h) h) fun x15 h =>
  bndC (gsel x13 false (f126 [x15] h) h) fun x16 h =>
  bndC (gsel x13 false (retV (kUn .not [x16]) h) h) fun x17 h =>
  bndV (kPick [x13, (.bool true), x17]) fun x18 =>
  (f44_4 x1 x3 x18 h)
noncomputable def f44 (vs : List V) (h : HT) : Option J := unc vs fun x0 vs =>
  bndN (kBox [x0]) h fun x1 h =>
  bndV (kMov [(.bool false)]) fun x2 =>
  bndV (kFa 0 [x1]) fun x6 =>
  bndV (qLd h none [x6]) fun x7 =>
  bndC (f125 [x7] h) fun x8 h =>
  (f44_5 x1 x8 h)
def a44 : List Ann := [.no, .no]
theorem e44 : f44 = evFun Tryz.prog 44 1 a44 t44 := by kernel_rfl
theorem o44 : FnOk Tryz.prog 44 f44 := .of hmO (show enters Tryz.prog 44 = true by kernel_rfl) e44 (.cons o40 (.cons o99 (.cons o125 (.cons o126 (.cons o127 (.cons o128 (.cons o129 (.cons o130 (.nil)))))))))

/- (*concord/core.Core).one -/
noncomputable def l133 : List (Nat × (List V → HT → Option J)) := []
noncomputable def t133 : Fns := tab l133

noncomputable def f133 (vs : List V) (h : HT) : Option J := unc vs fun x0 vs =>
  unc vs fun x1 vs =>
  bndV (kMov [(.bool false)]) fun x4 =>
  bndV (kMov [x1]) fun x5 =>
  bndV (kBin .geq [x5, (.int .i64 (.ofNat (nat_lit 0)))]) fun x6 =>
  bndV (kMov [x6]) fun x7 =>
  bndC (gsel x7 true (retV (kMov [x1]) h) h) fun x8 h =>
  bndC (gsel x7 true (retV (kMov [x0]) h) h) fun x9 h =>
  bndC (gsel x7 true (retV (kNilc [x9]) h) h) fun x10 h =>
  bndC (gsel x7 true (retV (kFa 0 [x10]) h) h) fun x11 h =>
  bndC (gsel x7 true (retV (qLd h none [x11]) h) h) fun x12 h =>
  bndC (gsel x7 true (retV (kBin .lss [x8, x12]) h) h) fun x13 h =>
  bndV (kPick [x7, x13, (.bool false)]) fun x14 =>
  bndV (kMov [x14]) fun x4 =>
  ret1 x4 h
def a133 : List Ann := []
theorem e133 : f133 = evFun Tryz.prog 133 2 a133 t133 := by kernel_rfl
theorem o133 : FnOk Tryz.prog 133 f133 := .of hmO (show enters Tryz.prog 133 = true by kernel_rfl) e133 (.nil)

/- (*concord/core.Core).find -/
noncomputable def l207 : List (Nat × (List V → HT → Option J)) := []
noncomputable def t207 : Fns := tab l207
noncomputable def f207_0 (rc : List V → HT → Option J) (x3 : V) (x10 : V) (x11 : V) (x12 : V) (x14 : V) (h : HT) : Option J := bndV (qLd h none [x14]) fun x15 =>
  bndV (kMov [x15]) fun x6 =>
  bndV (kMov [x6]) fun x16 =>
  bndV (kNilc [x16]) fun x17 =>
  bndV (kFa 0 [x17]) fun x18 =>
  bndV (qLd h (some 2) [x18]) fun x19 =>
  bndV (qLd h (some 2) [x3]) fun x20 =>
  bndV (kEqF false [.i, .i] [x19, x20]) fun x21 =>
  tstv x21 (bndV (kMov [x6]) fun x22 =>
  bndV (kMov [x22]) fun x4 =>
  some ⟨1, [x4], h⟩)
  (bndV (kBin .add [x12, (.int .i64 (.ofNat (nat_lit 1)))]) fun x23 =>
  bndV (kMov [x23]) fun x12 =>
  rc [x3, x10, x11, x12] h)
noncomputable def f207_1 (x3 : V) (x10 : V) (x11 : V) (x12 : V) (h : HT) : Option J := bndJ (loopF (fun rc vs h => unc vs fun x3 vs =>
  unc vs fun x10 vs =>
  unc vs fun x11 vs =>
  unc vs fun x12 vs =>
  bndV (kBin .lss [x12, x11]) fun x13 =>
  tstv x13 (bndV (kIaS 1 [x10, x12]) fun x14 =>
  (f207_0 rc x3 x10 x11 x12 x14 h))
  (some ⟨0, [], h⟩)) 1000000 [x3, x10, x11, x12] h)
  fun j vs h => nsw j (bndV (kMov [(.ptr none)]) fun x4 =>
  ret1 x4 h)
  fun j => unc vs fun x4 vs =>
  ret1 x4 h
noncomputable def f207 (vs : List V) (h : HT) : Option J := unc vs fun x0 vs =>
  unc vs fun x1 vs =>
  bndN (kBox [x1]) h fun x3 h =>
  bndV (kMov [(.ptr none)]) fun x4 =>
  bndV (kMov [x0]) fun x7 =>
  bndV (kNilc [x7]) fun x8 =>
  bndV (kFa 4 [x8]) fun x9 =>
  bndV (qLd h none [x9]) fun x10 =>
  bndV (kLenS [x10]) fun x11 =>
  bndV (kMov [(.int .i64 (.ofNat (nat_lit 0)))]) fun x12 =>
  (f207_1 x3 x10 x11 x12 h)
def a207 : List Ann := [.no, .loop [3, 10, 11, 12] [((.exit 0), []), (.ret, [4])], .no, .no, .no]
theorem e207 : f207 = evFun Tryz.prog 207 2 a207 t207 := by kernel_rfl
theorem o207 : FnOk Tryz.prog 207 f207 := .of hmO (show enters Tryz.prog 207 = true by kernel_rfl) e207 (.nil)

/- concord/deps.Join -/
noncomputable def l270 : List (Nat × (List V → HT → Option J)) := []
noncomputable def t270 : Fns := tab l270
noncomputable def f270_0 (rc : List V → HT → Option J) (x2 : V) (x3 : V) (x16 : V) (x17 : V) (x18 : V) (x29 : V) (x30 : V) (x32 : V) (x33 : V) (h : HT) : Option J := bndV (kMov [x32]) fun x6 =>
  bndV (kMov [x33]) fun x7 =>
  bndV (kMov [x6]) fun x34 =>
  bndV (kMov [x6]) fun x35 =>
  bndV (kFa 1 [x3]) fun x36 =>
  bndV (kIaA 7 1 [x36, x35]) fun x37 =>
  bndV (qLd h none [x37]) fun x38 =>
  bndV (kMov [x7]) fun x39 =>
  bndV (kMaxI [x38, x39]) fun x40 =>
  bndV (kFa 1 [x3]) fun x41 =>
  bndV (kIaA 7 1 [x41, x34]) fun x42 =>
  bndE (dSt h 1 [x42, x40]) h fun _ h =>
  bndV (kBin .add [x30, (.int .i64 (.ofNat (nat_lit 1)))]) fun x43 =>
  bndV (kMov [x43]) fun x30 =>
  rc [x2, x3, x16, x17, x18, x29, x30] h
noncomputable def f270_1 (rc : List V → HT → Option J) (x2 : V) (x3 : V) (x16 : V) (x17 : V) (x18 : V) (x29 : V) (x30 : V) (h : HT) : Option J := bndJ (loopF (fun rc vs h => unc vs fun x2 vs =>
  unc vs fun x3 vs =>
  unc vs fun x16 vs =>
  unc vs fun x17 vs =>
  unc vs fun x18 vs =>
  unc vs fun x29 vs =>
  unc vs fun x30 vs =>
  bndV (kBin .lss [x30, (.int .i64 (.ofNat (nat_lit 7)))]) fun x31 =>
  tstv x31 (bndV (kMov [x30]) fun x32 =>
  bndV (kIxA 7 1 false [x29, x30]) fun x33 =>
  (f270_0 rc x2 x3 x16 x17 x18 x29 x30 x32 x33 h))
  (some ⟨0, [x2, x3, x16, x17, x18], h⟩)) 1000000 [x2, x3, x16, x17, x18, x29, x30] h)
  fun j vs h => unc vs fun x2 vs =>
  unc vs fun x3 vs =>
  unc vs fun x16 vs =>
  unc vs fun x17 vs =>
  unc vs fun x18 vs =>
  bndV (kBin .add [x18, (.int .i64 (.ofNat (nat_lit 1)))]) fun x44 =>
  bndV (kMov [x44]) fun x18 =>
  rc [x2, x3, x16, x17, x18] h
noncomputable def f270_2 (rc : List V → HT → Option J) (x2 : V) (x3 : V) (x16 : V) (x17 : V) (x18 : V) (h : HT) : Option J := bndV (kIaS 8 [x16, x18]) fun x20 =>
  bndV (qLd h (some 8) [x20]) fun x21 =>
  bndN (kAlloc [(.int .i64 (.ofNat (nat_lit 0))), (.int .i64 (.ofNat (nat_lit 0))), (.int .i64 (.ofNat (nat_lit 0))), (.int .i64 (.ofNat (nat_lit 0))), (.int .i64 (.ofNat (nat_lit 0))), (.int .i64 (.ofNat (nat_lit 0))), (.int .i64 (.ofNat (nat_lit 0))), (.int .i64 (.ofNat (nat_lit 0)))] []) h fun x5 h =>
  bndE (dSt h 8 [x5, x21]) h fun _ h =>
  bndV (kFa 0 [x3]) fun x22 =>
  bndV (qLd h none [x22]) fun x23 =>
  bndV (kFa 0 [x5]) fun x24 =>
  bndV (qLd h none [x24]) fun x25 =>
  bndV (kMaxI [x23, x25]) fun x26 =>
  bndV (kFa 0 [x3]) fun x27 =>
  bndE (dSt h 1 [x27, x26]) h fun _ h =>
  bndV (kFa 1 [x5]) fun x28 =>
  bndV (qLd h (some 7) [x28]) fun x29 =>
  bndV (kMov [(.int .i64 (.ofNat (nat_lit 0)))]) fun x30 =>
  (f270_1 rc x2 x3 x16 x17 x18 x29 x30 h)
noncomputable def f270_3 (x2 : V) (x3 : V) (x16 : V) (x17 : V) (x18 : V) (h : HT) : Option J := bndJ (loopF (fun rc vs h => unc vs fun x2 vs =>
  unc vs fun x3 vs =>
  unc vs fun x16 vs =>
  unc vs fun x17 vs =>
  unc vs fun x18 vs =>
  bndV (kBin .lss [x18, x17]) fun x19 =>
  tstv x19 ((f270_2 rc x2 x3 x16 x17 x18 h))
  (some ⟨0, [x2, x3], h⟩)) 1000000 [x2, x3, x16, x17, x18] h)
  fun j vs h => unc vs fun x2 vs =>
  unc vs fun x3 vs =>
  bndV (qLd h (some 8) [x3]) fun x45 =>
  bndE (dSt h 8 [x2, x45]) h fun _ h =>
  bndV (qLd h (some 8) [x2]) fun x900000 =>
  ret1 x900000 h
noncomputable def f270_4 (x0 : V) (x2 : V) (x10 : V) (h : HT) : Option J := tstv x10 (bndV (kBld [(.int .i64 (.ofNat (nat_lit 0))), (.int .i64 (.ofNat (nat_lit 0))), (.int .i64 (.ofNat (nat_lit 0))), (.int .i64 (.ofNat (nat_lit 0))), (.int .i64 (.ofNat (nat_lit 0))), (.int .i64 (.ofNat (nat_lit 0))), (.int .i64 (.ofNat (nat_lit 0))), (.int .i64 (.ofNat (nat_lit 0)))] [] []) fun x11 =>
  bndE (dSt h 8 [x2, x11]) h fun _ h =>
  bndV (qLd h (some 8) [x2]) fun x900000 =>
  ret1 x900000 h)
  (bndV (kMov [x0]) fun x12 =>
  bndV (kIaS 8 [x12, (.int .i64 (.ofNat (nat_lit 0)))]) fun x13 =>
  bndV (qLd h (some 8) [x13]) fun x14 =>
  bndN (kAlloc [(.int .i64 (.ofNat (nat_lit 0))), (.int .i64 (.ofNat (nat_lit 0))), (.int .i64 (.ofNat (nat_lit 0))), (.int .i64 (.ofNat (nat_lit 0))), (.int .i64 (.ofNat (nat_lit 0))), (.int .i64 (.ofNat (nat_lit 0))), (.int .i64 (.ofNat (nat_lit 0))), (.int .i64 (.ofNat (nat_lit 0)))] []) h fun x3 h =>
  bndE (dSt h 8 [x3, x14]) h fun _ h =>
  bndV (kMov [x0]) fun x15 =>
  bndV (kSlS 8 true false [x15, (.int .i64 (.ofNat (nat_lit 1)))]) fun x16 =>
  bndV (kLenS [x16]) fun x17 =>
  bndV (kMov [(.int .i64 (.ofNat (nat_lit 0)))]) fun x18 =>
  (f270_3 x2 x3 x16 x17 x18 h))
noncomputable def f270 (vs : List V) (h : HT) : Option J := unc vs fun x0 vs =>
  bndN (kAlloc [(.int .i64 (.ofNat (nat_lit 0))), (.int .i64 (.ofNat (nat_lit 0))), (.int .i64 (.ofNat (nat_lit 0))), (.int .i64 (.ofNat (nat_lit 0))), (.int .i64 (.ofNat (nat_lit 0))), (.int .i64 (.ofNat (nat_lit 0))), (.int .i64 (.ofNat (nat_lit 0))), (.int .i64 (.ofNat (nat_lit 0)))] []) h fun x2 h =>
  bndV (kMov [x0]) fun x8 =>
  bndV (kLenS [x8]) fun x9 =>
  bndV (kBin .eql [x9, (.int .i64 (.ofNat (nat_lit 0)))]) fun x10 =>
  (f270_4 x0 x2 x10 h)
def a270 : List Ann := [.no, .no, .loop [2, 3, 16, 17, 18] [((.exit 0), [2, 3])], .no, .no, .no, .loop [2, 3, 16, 17, 18, 29, 30] [((.exit 2), [2, 3, 16, 17, 18])], .no, .no]
theorem e270 : f270 = evFun Tryz.prog 270 1 a270 t270 := by kernel_rfl
theorem o270 : FnOk Tryz.prog 270 f270 := .of hmO (show enters Tryz.prog 270 = true by kernel_rfl) e270 (.nil)

/- (*concord/core.Core).pre -/
noncomputable def l209 : List (Nat × (List V → HT → Option J)) := [(99, f99), (121, f121), (122, f122), (206, f206), (270, f270)]
noncomputable def t209 : Fns := tab l209
noncomputable def f209_0 (x0 : V) (x5 : V) (x8 : V) (x9 : V) (x53 : V) (x54 : V) (x56 : V) (x58 : V) (x60 : V) (x62 : V) (x63 : V) (x64 : V) (h : HT) : Option J := bndC (gsel x53 false (retV (kBld [(.int .i64 (.ofNat (nat_lit 0))), (.int .i64 (.ofNat (nat_lit 0))), (.int .i64 (.ofNat (nat_lit 0))), (.int .i64 (.ofNat (nat_lit 0))), (.int .i64 (.ofNat (nat_lit 0))), (.int .i64 (.ofNat (nat_lit 0))), (.int .i64 (.ofNat (nat_lit 0))), (.int .i64 (.ofNat (nat_lit 0))), (.str (sb [])), (.str (sb [])), (.str (sb [])), (.str (sb [])), (.int .i64 (.ofNat (nat_lit 0))), (.int .i64 (.ofNat (nat_lit 0))), (.int .i64 (.ofNat (nat_lit 0))), (.int .i64 (.ofNat (nat_lit 0))), (.int .i64 (.ofNat (nat_lit 0))), (.int .i64 (.ofNat (nat_lit 0))), (.int .i64 (.ofNat (nat_lit 0))), (.int .i64 (.ofNat (nat_lit 0))), (.bool false)] [(0, 1), (1, 2), (3, 2), (5, 7), (12, 8), (20, 1)] [(.int .i64 (.ofNat (nat_lit 1))), x58, x60, x62, x63, x64]) h) h) fun x65 h =>
  bndC (gsel x53 false (f122 [x54, x56, x65] h) h) fun x66 h =>
  bndC (gsel x53 false (retV (kUn .not [x66]) h) h) fun x67 h =>
  bndV (kPick [x53, (.bool true), x67]) fun x68 =>
  tstv x68 (ret1 (.tuple []) h)
  (bndV (qLd h (some 8) [x9]) fun x69 =>
  bndV (kFa 14 [x8]) fun x70 =>
  bndE (dSt h 8 [x70, x69]) h fun _ h =>
  bndV (kMov [x0]) fun x71 =>
  bndV (kFa 1 [x5]) fun x72 =>
  bndV (qLd h none [x72]) fun x73 =>
  bndV (qLd h (some 51) [x8]) fun x74 =>
  bndC (f206 [x71, x73, x74] h) fun x75 h =>
  ret1 (.tuple []) h)
noncomputable def f209_1 (x0 : V) (x5 : V) (x8 : V) (x9 : V) (x10 : V) (x50 : V) (h : HT) : Option J := bndC (f99 [x50] h) fun x51 h =>
  bndV (kUn .not [x51]) fun x52 =>
  bndV (kMov [x52]) fun x53 =>
  bndC (gsel x53 false (retV (kMov [x0]) h) h) fun x54 h =>
  bndC (gsel x53 false (retV (kFa 3 [x5]) h) h) fun x55 h =>
  bndC (gsel x53 false (retV (qLd h (some 2) [x55]) h) h) fun x56 h =>
  bndC (gsel x53 false (retV (kFa 5 [x5]) h) h) fun x57 h =>
  bndC (gsel x53 false (retV (qLd h (some 2) [x57]) h) h) fun x58 h =>
  bndC (gsel x53 false (retV (kFa 5 [x5]) h) h) fun x59 h =>
  bndC (gsel x53 false (retV (qLd h (some 2) [x59]) h) h) fun x60 h =>
  bndC (gsel x53 false (retV (kFa 7 [x5]) h) h) fun x61 h =>
  bndC (gsel x53 false (retV (qLd h (some 7) [x61]) h) h) fun x62 h =>
  bndC (gsel x53 false (retV (qLd h (some 8) [x9]) h) h) fun x63 h =>
  bndC (gsel x53 false (retV (kMov [x10]) h) h) fun x64 h =>
  (f209_0 x0 x5 x8 x9 x53 x54 x56 x58 x60 x62 x63 x64 h)
noncomputable def f209_2 (x0 : V) (x5 : V) (x8 : V) (x9 : V) (x38 : V) (h : HT) : Option J := bndC (f270 [x38] h) fun x39 h =>
  bndE (dSt h 8 [x9, x39]) h fun _ h =>
  bndV (kFa 5 [x5]) fun x40 =>
  bndV (qLd h (some 2) [x40]) fun x41 =>
  bndV (kBld [(.int .i64 (.ofNat (nat_lit 0))), (.int .i64 (.ofNat (nat_lit 0)))] [] []) fun x42 =>
  bndV (kEqF false [.i, .i] [x41, x42]) fun x43 =>
  bndV (kMov [x43]) fun x44 =>
  bndC (gsel x44 true (retV (qLd h (some 8) [x9]) h) h) fun x45 h =>
  bndC (gsel x44 true (retV (kFa 14 [x5]) h) h) fun x46 h =>
  bndC (gsel x44 true (retV (qLd h (some 8) [x46]) h) h) fun x47 h =>
  bndC (gsel x44 true (retV (kEqF false [.i, .i, .i, .i, .i, .i, .i, .i] [x45, x47]) h) h) fun x48 h =>
  bndV (kPick [x44, x48, (.bool false)]) fun x49 =>
  bndV (kMov [x49]) fun x10 =>
  bndV (qLd h (some 8) [x9]) fun x50 =>
  (f209_1 x0 x5 x8 x9 x10 x50 h)
noncomputable def f209_3 (x0 : V) (x5 : V) (x8 : V) (h : HT) : Option J := bndV (kFa 14 [x5]) fun x27 =>
  bndV (qLd h (some 8) [x27]) fun x28 =>
  bndV (kMov [x0]) fun x29 =>
  bndV (kNilc [x29]) fun x30 =>
  bndV (kFa 3 [x30]) fun x31 =>
  bndV (qLd h none [x31]) fun x32 =>
  bndV (kFa 3 [x5]) fun x33 =>
  bndV (qLd h (some 2) [x33]) fun x34 =>
  bndV (kFa 7 [x5]) fun x35 =>
  bndV (qLd h (some 7) [x35]) fun x36 =>
  bndN (kAlloc [(.int .i64 (.ofNat (nat_lit 0))), (.int .i64 (.ofNat (nat_lit 0))), (.int .i64 (.ofNat (nat_lit 0))), (.int .i64 (.ofNat (nat_lit 0))), (.int .i64 (.ofNat (nat_lit 0))), (.int .i64 (.ofNat (nat_lit 0))), (.int .i64 (.ofNat (nat_lit 0))), (.int .i64 (.ofNat (nat_lit 0)))] []) h fun x9 h =>
  bndC (f121 [x32, x34, x36] h) fun x37 h =>
  chk1 (sameE (qLd h (some 8) [x27]) x28) (bndN (kBsl 8 2 [(.int .i64 (.ofNat (nat_lit 0))), (.int .i64 (.ofNat (nat_lit 0))), (.int .i64 (.ofNat (nat_lit 0))), (.int .i64 (.ofNat (nat_lit 0))), (.int .i64 (.ofNat (nat_lit 0))), (.int .i64 (.ofNat (nat_lit 0))), (.int .i64 (.ofNat (nat_lit 0))), (.int .i64 (.ofNat (nat_lit 0))), (.int .i64 (.ofNat (nat_lit 0))), (.int .i64 (.ofNat (nat_lit 0))), (.int .i64 (.ofNat (nat_lit 0))), (.int .i64 (.ofNat (nat_lit 0))), (.int .i64 (.ofNat (nat_lit 0))), (.int .i64 (.ofNat (nat_lit 0))), (.int .i64 (.ofNat (nat_lit 0))), (.int .i64 (.ofNat (nat_lit 0)))] [(0, 8), (8, 8)] [x28, x37]) h fun x38 h =>
  (f209_2 x0 x5 x8 x9 x38 h))
noncomputable def f209_4 (x0 : V) (x3 : V) (x5 : V) (x6 : V) (x8 : V) (x17 : V) (h : HT) : Option J := bndE (dSt h 51 [x8, x17]) h fun _ h =>
  bndV (kMov [x3]) fun x18 =>
  tstv x18 (bndV (kFa 0 [x6]) fun x19 =>
  bndV (qLd h none [x19]) fun x20 =>
  bndV (kBin .eql [x20, (.int .i64 (.ofNat (nat_lit 1)))]) fun x21 =>
  tstv x21 (bndV (kMov [x0]) fun x22 =>
  bndV (kFa 1 [x5]) fun x23 =>
  bndV (qLd h none [x23]) fun x24 =>
  bndV (qLd h (some 51) [x8]) fun x25 =>
  bndC (f206 [x22, x24, x25] h) fun x26 h =>
  ret1 (.tuple []) h)
  (ret1 (.tuple []) h))
  ((f209_3 x0 x5 x8 h))
noncomputable def f209 (vs : List V) (h : HT) : Option J := unc vs fun x0 vs =>
  unc vs fun x1 vs =>
  unc vs fun x2 vs =>
  unc vs fun x3 vs =>
  bndN (kBox [x1]) h fun x5 h =>
  bndN (kBox [x2]) h fun x6 h =>
  bndV (kFa 3 [x5]) fun x11 =>
  bndV (qLd h (some 2) [x11]) fun x12 =>
  bndV (kFa 5 [x5]) fun x13 =>
  bndV (qLd h (some 2) [x13]) fun x14 =>
  bndV (kFa 12 [x6]) fun x15 =>
  bndV (qLd h (some 8) [x15]) fun x16 =>
  bndV (kBld [(.int .i64 (.ofNat (nat_lit 0))), (.int .i64 (.ofNat (nat_lit 0))), (.int .i64 (.ofNat (nat_lit 0))), (.int .i64 (.ofNat (nat_lit 0))), (.int .i64 (.ofNat (nat_lit 0))), (.int .i64 (.ofNat (nat_lit 0))), (.int .i64 (.ofNat (nat_lit 0))), (.int .i64 (.ofNat (nat_lit 0))), (.int .i64 (.ofNat (nat_lit 0))), (.int .i64 (.ofNat (nat_lit 0))), (.str (sb [])), (.str (sb [])), (.str (sb [])), (.str (sb [])), (.int .i64 (.ofNat (nat_lit 0))), (.int .i64 (.ofNat (nat_lit 0))), (.int .i64 (.ofNat (nat_lit 0))), (.int .i64 (.ofNat (nat_lit 0))), (.int .i64 (.ofNat (nat_lit 0))), (.int .i64 (.ofNat (nat_lit 0))), (.int .i64 (.ofNat (nat_lit 0))), (.int .i64 (.ofNat (nat_lit 0))), (.int .i64 (.ofNat (nat_lit 0))), (.int .i64 (.ofNat (nat_lit 0))), (.int .i64 (.ofNat (nat_lit 0))), (.int .i64 (.ofNat (nat_lit 0))), (.int .i64 (.ofNat (nat_lit 0))), (.int .i64 (.ofNat (nat_lit 0))), (.int .i64 (.ofNat (nat_lit 0))), (.int .i64 (.ofNat (nat_lit 0))), (.str (sb [])), (.str (sb [])), (.str (sb [])), (.str (sb [])), (.int .i64 (.ofNat (nat_lit 0))), (.int .i64 (.ofNat (nat_lit 0))), (.int .i64 (.ofNat (nat_lit 0))), (.int .i64 (.ofNat (nat_lit 0))), (.int .i64 (.ofNat (nat_lit 0))), (.int .i64 (.ofNat (nat_lit 0))), (.int .i64 (.ofNat (nat_lit 0))), (.int .i64 (.ofNat (nat_lit 0))), (.bool false), (.int .i64 (.ofNat (nat_lit 0))), (.int .i64 (.ofNat (nat_lit 0))), (.int .i64 (.ofNat (nat_lit 0))), (.int .i64 (.ofNat (nat_lit 0))), (.int .i64 (.ofNat (nat_lit 0))), (.int .i64 (.ofNat (nat_lit 0))), (.int .i64 (.ofNat (nat_lit 0))), (.str (sb []))] [(0, 1), (3, 2), (5, 2), (14, 8)] [(.int .i64 (.ofNat (nat_lit 2))), x12, x14, x16]) fun x17 =>
  bndN (kAlloc [(.int .i64 (.ofNat (nat_lit 0))), (.int .i64 (.ofNat (nat_lit 0))), (.int .i64 (.ofNat (nat_lit 0))), (.int .i64 (.ofNat (nat_lit 0))), (.int .i64 (.ofNat (nat_lit 0))), (.int .i64 (.ofNat (nat_lit 0))), (.int .i64 (.ofNat (nat_lit 0))), (.int .i64 (.ofNat (nat_lit 0))), (.int .i64 (.ofNat (nat_lit 0))), (.int .i64 (.ofNat (nat_lit 0))), (.str (sb [])), (.str (sb [])), (.str (sb [])), (.str (sb [])), (.int .i64 (.ofNat (nat_lit 0))), (.int .i64 (.ofNat (nat_lit 0))), (.int .i64 (.ofNat (nat_lit 0))), (.int .i64 (.ofNat (nat_lit 0))), (.int .i64 (.ofNat (nat_lit 0))), (.int .i64 (.ofNat (nat_lit 0))), (.int .i64 (.ofNat (nat_lit 0))), (.int .i64 (.ofNat (nat_lit 0))), (.int .i64 (.ofNat (nat_lit 0))), (.int .i64 (.ofNat (nat_lit 0))), (.int .i64 (.ofNat (nat_lit 0))), (.int .i64 (.ofNat (nat_lit 0))), (.int .i64 (.ofNat (nat_lit 0))), (.int .i64 (.ofNat (nat_lit 0))), (.int .i64 (.ofNat (nat_lit 0))), (.int .i64 (.ofNat (nat_lit 0))), (.str (sb [])), (.str (sb [])), (.str (sb [])), (.str (sb [])), (.int .i64 (.ofNat (nat_lit 0))), (.int .i64 (.ofNat (nat_lit 0))), (.int .i64 (.ofNat (nat_lit 0))), (.int .i64 (.ofNat (nat_lit 0))), (.int .i64 (.ofNat (nat_lit 0))), (.int .i64 (.ofNat (nat_lit 0))), (.int .i64 (.ofNat (nat_lit 0))), (.int .i64 (.ofNat (nat_lit 0))), (.bool false), (.int .i64 (.ofNat (nat_lit 0))), (.int .i64 (.ofNat (nat_lit 0))), (.int .i64 (.ofNat (nat_lit 0))), (.int .i64 (.ofNat (nat_lit 0))), (.int .i64 (.ofNat (nat_lit 0))), (.int .i64 (.ofNat (nat_lit 0))), (.int .i64 (.ofNat (nat_lit 0))), (.str (sb []))] []) h fun x8 h =>
  (f209_4 x0 x3 x5 x6 x8 x17 h)
def a209 : List Ann := [.no, .no, .no]
theorem e209 : f209 = evFun Tryz.prog 209 4 a209 t209 := by kernel_rfl
theorem o209 : FnOk Tryz.prog 209 f209 := .of hmO (show enters Tryz.prog 209 = true by kernel_rfl) e209 (.cons o99 (.cons o121 (.cons o122 (.cons o206 (.cons o270 (.nil))))))

/- (*concord/core.Core).asked -/
noncomputable def l135 : List (Nat × (List V → HT → Option J)) := [(200, f200), (204, f204), (207, f207), (209, f209)]
noncomputable def t135 : Fns := tab l135
noncomputable def f135_0 (x0 : V) (x3 : V) (x94 : V) (x95 : V) (x97 : V) (x99 : V) (x101 : V) (x103 : V) (x105 : V) (h : HT) : Option J := bndC (gsel x94 false (retV (kBld [(.int .i64 (.ofNat (nat_lit 0))), (.int .i64 (.ofNat (nat_lit 0))), (.int .i64 (.ofNat (nat_lit 0))), (.int .i64 (.ofNat (nat_lit 0))), (.int .i64 (.ofNat (nat_lit 0))), (.int .i64 (.ofNat (nat_lit 0))), (.int .i64 (.ofNat (nat_lit 0))), (.int .i64 (.ofNat (nat_lit 0))), (.str (sb [])), (.str (sb [])), (.str (sb [])), (.str (sb [])), (.int .i64 (.ofNat (nat_lit 0))), (.int .i64 (.ofNat (nat_lit 0))), (.int .i64 (.ofNat (nat_lit 0))), (.int .i64 (.ofNat (nat_lit 0))), (.int .i64 (.ofNat (nat_lit 0))), (.int .i64 (.ofNat (nat_lit 0))), (.int .i64 (.ofNat (nat_lit 0))), (.int .i64 (.ofNat (nat_lit 0))), (.bool false)] [(0, 1), (1, 2), (3, 2), (5, 7), (12, 8)] [(.int .i64 (.ofNat (nat_lit 2))), x99, x101, x103, x105]) h) h) fun x106 h =>
  bndC (gsel x94 false (noF [x95, x97, x106] h) h) fun x107 h =>
  bndV (kPick [x94, (.bool true), x107]) fun x108 =>
  tstv x108 (bndV (kMov [x0]) fun x109 =>
  bndV (kFa 1 [x3]) fun x110 =>
  bndV (qLd h none [x110]) fun x111 =>
  bndV (kFa 3 [x3]) fun x112 =>
  bndV (qLd h (some 2) [x112]) fun x113 =>
  bndV (kFa 5 [x3]) fun x114 =>
  bndV (qLd h (some 2) [x114]) fun x115 =>
  bndV (kBld [(.int .i64 (.ofNat (nat_lit 0))), (.int .i64 (.ofNat (nat_lit 0))), (.int .i64 (.ofNat (nat_lit 0))), (.int .i64 (.ofNat (nat_lit 0))), (.int .i64 (.ofNat (nat_lit 0))), (.int .i64 (.ofNat (nat_lit 0))), (.int .i64 (.ofNat (nat_lit 0))), (.int .i64 (.ofNat (nat_lit 0))), (.int .i64 (.ofNat (nat_lit 0))), (.int .i64 (.ofNat (nat_lit 0))), (.str (sb [])), (.str (sb [])), (.str (sb [])), (.str (sb [])), (.int .i64 (.ofNat (nat_lit 0))), (.int .i64 (.ofNat (nat_lit 0))), (.int .i64 (.ofNat (nat_lit 0))), (.int .i64 (.ofNat (nat_lit 0))), (.int .i64 (.ofNat (nat_lit 0))), (.int .i64 (.ofNat (nat_lit 0))), (.int .i64 (.ofNat (nat_lit 0))), (.int .i64 (.ofNat (nat_lit 0))), (.int .i64 (.ofNat (nat_lit 0))), (.int .i64 (.ofNat (nat_lit 0))), (.int .i64 (.ofNat (nat_lit 0))), (.int .i64 (.ofNat (nat_lit 0))), (.int .i64 (.ofNat (nat_lit 0))), (.int .i64 (.ofNat (nat_lit 0))), (.int .i64 (.ofNat (nat_lit 0))), (.int .i64 (.ofNat (nat_lit 0))), (.str (sb [])), (.str (sb [])), (.str (sb [])), (.str (sb [])), (.int .i64 (.ofNat (nat_lit 0))), (.int .i64 (.ofNat (nat_lit 0))), (.int .i64 (.ofNat (nat_lit 0))), (.int .i64 (.ofNat (nat_lit 0))), (.int .i64 (.ofNat (nat_lit 0))), (.int .i64 (.ofNat (nat_lit 0))), (.int .i64 (.ofNat (nat_lit 0))), (.int .i64 (.ofNat (nat_lit 0))), (.bool false), (.int .i64 (.ofNat (nat_lit 0))), (.int .i64 (.ofNat (nat_lit 0))), (.int .i64 (.ofNat (nat_lit 0))), (.int .i64 (.ofNat (nat_lit 0))), (.int .i64 (.ofNat (nat_lit 0))), (.int .i64 (.ofNat (nat_lit 0))), (.int .i64 (.ofNat (nat_lit 0))), (.str (sb []))] [(0, 1), (3, 2), (5, 2)] [(.int .i64 (.ofNat (nat_lit 4))), x113, x115]) fun x116 =>
  bndC (noF [x109, x111, x116] h) fun x117 h =>
  ret1 (.tuple []) h)
  (ret1 (.tuple []) h)
noncomputable def f135_1 (x0 : V) (x3 : V) (x92 : V) (h : HT) : Option J := bndV (kMov [x92]) fun x8 =>
  bndV (kMov [x8]) fun x93 =>
  bndV (kMov [x93]) fun x94 =>
  bndC (gsel x94 false (retV (kMov [x0]) h) h) fun x95 h =>
  bndC (gsel x94 false (retV (kFa 3 [x3]) h) h) fun x96 h =>
  bndC (gsel x94 false (retV (qLd h (some 2) [x96]) h) h) fun x97 h =>
  bndC (gsel x94 false (retV (kFa 5 [x3]) h) h) fun x98 h =>
  bndC (gsel x94 false (retV (qLd h (some 2) [x98]) h) h) fun x99 h =>
  bndC (gsel x94 false (retV (kFa 5 [x3]) h) h) fun x100 h =>
  bndC (gsel x94 false (retV (qLd h (some 2) [x100]) h) h) fun x101 h =>
  bndC (gsel x94 false (retV (kFa 7 [x3]) h) h) fun x102 h =>
  bndC (gsel x94 false (retV (qLd h (some 7) [x102]) h) h) fun x103 h =>
  bndC (gsel x94 false (retV (kFa 14 [x3]) h) h) fun x104 h =>
  bndC (gsel x94 false (retV (qLd h (some 8) [x104]) h) h) fun x105 h =>
  (f135_0 x0 x3 x94 x95 x97 x99 x101 x103 x105 h)
noncomputable def f135_2 (x0 : V) (x3 : V) (x4 : V) (x124 : V) (h : HT) : Option J := tstv x124 (bndV (kFa 5 [x3]) fun x125 =>
  bndV (qLd h (some 2) [x125]) fun x126 =>
  bndV (kFa 1 [x4]) fun x127 =>
  bndE (dSt h 2 [x127, x126]) h fun _ h =>
  bndV (kMov [x0]) fun x128 =>
  bndV (kFa 3 [x3]) fun x129 =>
  bndV (qLd h (some 2) [x129]) fun x130 =>
  bndV (qLd h (some 21) [x4]) fun x131 =>
  bndC (noF [x128, x130, x131] h) fun x132 h =>
  bndV (kUn .not [x132]) fun x133 =>
  tstv x133 (some ⟨0, [], h⟩)
  (some ⟨1, [x0, x3, x4], h⟩))
  (some ⟨1, [x0, x3, x4], h⟩)
noncomputable def f135_3 (j : Nat) (vs : List V) (h : HT) : Option J := nsw j (ret1 (.tuple []) h)
  fun j => unc vs fun x0 vs =>
  unc vs fun x3 vs =>
  unc vs fun x4 vs =>
  bndV (kMov [x0]) fun x134 =>
  bndV (kFa 1 [x3]) fun x135 =>
  bndV (qLd h none [x135]) fun x136 =>
  bndV (kFa 3 [x3]) fun x137 =>
  bndV (qLd h (some 2) [x137]) fun x138 =>
  bndV (kFa 5 [x3]) fun x139 =>
  bndV (qLd h (some 2) [x139]) fun x140 =>
  bndV (qLd h (some 21) [x4]) fun x141 =>
  bndV (kBld [(.int .i64 (.ofNat (nat_lit 0))), (.int .i64 (.ofNat (nat_lit 0))), (.int .i64 (.ofNat (nat_lit 0))), (.int .i64 (.ofNat (nat_lit 0))), (.int .i64 (.ofNat (nat_lit 0))), (.int .i64 (.ofNat (nat_lit 0))), (.int .i64 (.ofNat (nat_lit 0))), (.int .i64 (.ofNat (nat_lit 0))), (.int .i64 (.ofNat (nat_lit 0))), (.int .i64 (.ofNat (nat_lit 0))), (.str (sb [])), (.str (sb [])), (.str (sb [])), (.str (sb [])), (.int .i64 (.ofNat (nat_lit 0))), (.int .i64 (.ofNat (nat_lit 0))), (.int .i64 (.ofNat (nat_lit 0))), (.int .i64 (.ofNat (nat_lit 0))), (.int .i64 (.ofNat (nat_lit 0))), (.int .i64 (.ofNat (nat_lit 0))), (.int .i64 (.ofNat (nat_lit 0))), (.int .i64 (.ofNat (nat_lit 0))), (.int .i64 (.ofNat (nat_lit 0))), (.int .i64 (.ofNat (nat_lit 0))), (.int .i64 (.ofNat (nat_lit 0))), (.int .i64 (.ofNat (nat_lit 0))), (.int .i64 (.ofNat (nat_lit 0))), (.int .i64 (.ofNat (nat_lit 0))), (.int .i64 (.ofNat (nat_lit 0))), (.int .i64 (.ofNat (nat_lit 0))), (.str (sb [])), (.str (sb [])), (.str (sb [])), (.str (sb [])), (.int .i64 (.ofNat (nat_lit 0))), (.int .i64 (.ofNat (nat_lit 0))), (.int .i64 (.ofNat (nat_lit 0))), (.int .i64 (.ofNat (nat_lit 0))), (.int .i64 (.ofNat (nat_lit 0))), (.int .i64 (.ofNat (nat_lit 0))), (.int .i64 (.ofNat (nat_lit 0))), (.int .i64 (.ofNat (nat_lit 0))), (.bool false), (.int .i64 (.ofNat (nat_lit 0))), (.int .i64 (.ofNat (nat_lit 0))), (.int .i64 (.ofNat (nat_lit 0))), (.int .i64 (.ofNat (nat_lit 0))), (.int .i64 (.ofNat (nat_lit 0))), (.int .i64 (.ofNat (nat_lit 0))), (.int .i64 (.ofNat (nat_lit 0))), (.str (sb []))] [(0, 1), (3, 2), (5, 2), (22, 21)] [(.int .i64 (.ofNat (nat_lit 7))), x138, x140, x141]) fun x142 =>
  bndC (noF [x134, x136, x142] h) fun x143 h =>
  ret1 (.tuple []) h
noncomputable def f135_4 (x0 : V) (x3 : V) (x4 : V) (x7 : V) (x77 : V) (x85 : V) (h : HT) : Option J := tstv x85 (bndV (kMov [x7]) fun x87 =>
  bndV (kMov [x87]) fun x88 =>
  bndC (gsel x88 true (retV (kFa 0 [x4]) h) h) fun x89 h =>
  bndC (gsel x88 true (retV (qLd h none [x89]) h) h) fun x90 h =>
  bndC (gsel x88 true (retV (kBin .eql [x90, (.int .i64 (.ofNat (nat_lit 2)))]) h) h) fun x91 h =>
  bndV (kPick [x88, x91, (.bool false)]) fun x92 =>
  (f135_1 x0 x3 x92 h))
  (bndV (kBin .eql [x77, (.int .i64 (.ofNat (nat_lit 6)))]) fun x119 =>
  bndV (kMov [x119]) fun x118 =>
  tstv x118 (bndV (kFa 1 [x4]) fun x120 =>
  bndV (qLd h (some 2) [x120]) fun x121 =>
  bndV (kFa 5 [x3]) fun x122 =>
  bndV (qLd h (some 2) [x122]) fun x123 =>
  bndV (kEqF true [.i, .i] [x121, x123]) fun x124 =>
  bndJ ((f135_2 x0 x3 x4 x124 h))
  fun j vs h => (f135_3 j vs h))
  (ret1 (.tuple []) h))
noncomputable def f135_5 (x0 : V) (x3 : V) (x4 : V) (x75 : V) (h : HT) : Option J := bndV (kMov [x75]) fun x7 =>
  bndV (kFa 0 [x3]) fun x76 =>
  bndV (qLd h none [x76]) fun x77 =>
  bndV (kBin .eql [x77, (.int .i64 (.ofNat (nat_lit 1)))]) fun x79 =>
  bndV (kMov [x79]) fun x78 =>
  tstv x78 (bndV (kMov [x0]) fun x80 =>
  bndV (qLd h (some 51) [x3]) fun x81 =>
  bndV (qLd h (some 21) [x4]) fun x82 =>
  bndV (kMov [x7]) fun x83 =>
  bndC (f209 [x80, x81, x82, x83] h) fun x84 h =>
  ret1 (.tuple []) h)
  (bndV (kBin .eql [x77, (.int .i64 (.ofNat (nat_lit 3)))]) fun x86 =>
  bndV (kMov [x86]) fun x85 =>
  (f135_4 x0 x3 x4 x7 x77 x85 h))
noncomputable def f135_6 (x0 : V) (x3 : V) (x4 : V) (x61 : V) (h : HT) : Option J := bndJ (tstv x61 (bndV (kMov [x0]) fun x62 =>
  bndV (kFa 3 [x3]) fun x63 =>
  bndV (qLd h (some 2) [x63]) fun x64 =>
  bndC (noF [x62, x64] h) fun x65 h =>
  some ⟨0, [x0, x3, x4], h⟩)
  (some ⟨0, [x0, x3, x4], h⟩))
  fun j vs h => unc vs fun x0 vs =>
  unc vs fun x3 vs =>
  unc vs fun x4 vs =>
  bndV (kFa 0 [x4]) fun x66 =>
  bndV (qLd h none [x66]) fun x67 =>
  bndV (kBin .neq [x67, (.int .i64 (.ofNat (nat_lit 0)))]) fun x68 =>
  bndV (kMov [x68]) fun x69 =>
  bndC (gsel x69 true (retV (kFa 3 [x4]) h) h) fun x70 h =>
  bndC (gsel x69 true (retV (qLd h (some 2) [x70]) h) h) fun x71 h =>
  bndC (gsel x69 true (retV (kFa 5 [x3]) h) h) fun x72 h =>
  bndC (gsel x69 true (retV (qLd h (some 2) [x72]) h) h) fun x73 h =>
  bndC (gsel x69 true (retV (kEqF false [.i, .i] [x71, x73]) h) h) fun x74 h =>
  bndV (kPick [x69, x74, (.bool false)]) fun x75 =>
  (f135_5 x0 x3 x4 x75 h)
noncomputable def f135_7 (x0 : V) (x3 : V) (x4 : V) (x47 : V) (x48 : V) (h : HT) : Option J := bndV (qLd h (some 2) [x48]) fun x49 =>
  bndC (f207 [x47, x49] h) fun x50 h =>
  bndV (kMov [x50]) fun x6 =>
  bndV (kMov [x6]) fun x51 =>
  bndV (kEqN true [x51, (.ptr none)]) fun x52 =>
  bndV (kMov [x52]) fun x53 =>
  bndC (gsel x53 true (retV (kMov [x6]) h) h) fun x54 h =>
  bndC (gsel x53 true (retV (kNilc [x54]) h) h) fun x55 h =>
  bndC (gsel x53 true (retV (kFa 3 [x55]) h) h) fun x56 h =>
  bndC (gsel x53 true (retV (qLd h (some 2) [x56]) h) h) fun x57 h =>
  bndC (gsel x53 true (retV (kFa 5 [x3]) h) h) fun x58 h =>
  bndC (gsel x53 true (retV (qLd h (some 2) [x58]) h) h) fun x59 h =>
  bndC (gsel x53 true (f204 [x57, x59] h) h) fun x60 h =>
  bndV (kPick [x53, x60, (.bool false)]) fun x61 =>
  (f135_6 x0 x3 x4 x61 h)
noncomputable def f135_8 (x0 : V) (x3 : V) (x4 : V) (x34 : V) (x36 : V) (h : HT) : Option J := bndC (f204 [x34, x36] h) fun x37 h =>
  tstv x37 (bndV (kMov [x0]) fun x38 =>
  bndV (kFa 1 [x3]) fun x39 =>
  bndV (qLd h none [x39]) fun x40 =>
  bndV (kFa 3 [x3]) fun x41 =>
  bndV (qLd h (some 2) [x41]) fun x42 =>
  bndV (kFa 1 [x4]) fun x43 =>
  bndV (qLd h (some 2) [x43]) fun x44 =>
  bndV (kBld [(.int .i64 (.ofNat (nat_lit 0))), (.int .i64 (.ofNat (nat_lit 0))), (.int .i64 (.ofNat (nat_lit 0))), (.int .i64 (.ofNat (nat_lit 0))), (.int .i64 (.ofNat (nat_lit 0))), (.int .i64 (.ofNat (nat_lit 0))), (.int .i64 (.ofNat (nat_lit 0))), (.int .i64 (.ofNat (nat_lit 0))), (.int .i64 (.ofNat (nat_lit 0))), (.int .i64 (.ofNat (nat_lit 0))), (.str (sb [])), (.str (sb [])), (.str (sb [])), (.str (sb [])), (.int .i64 (.ofNat (nat_lit 0))), (.int .i64 (.ofNat (nat_lit 0))), (.int .i64 (.ofNat (nat_lit 0))), (.int .i64 (.ofNat (nat_lit 0))), (.int .i64 (.ofNat (nat_lit 0))), (.int .i64 (.ofNat (nat_lit 0))), (.int .i64 (.ofNat (nat_lit 0))), (.int .i64 (.ofNat (nat_lit 0))), (.int .i64 (.ofNat (nat_lit 0))), (.int .i64 (.ofNat (nat_lit 0))), (.int .i64 (.ofNat (nat_lit 0))), (.int .i64 (.ofNat (nat_lit 0))), (.int .i64 (.ofNat (nat_lit 0))), (.int .i64 (.ofNat (nat_lit 0))), (.int .i64 (.ofNat (nat_lit 0))), (.int .i64 (.ofNat (nat_lit 0))), (.str (sb [])), (.str (sb [])), (.str (sb [])), (.str (sb [])), (.int .i64 (.ofNat (nat_lit 0))), (.int .i64 (.ofNat (nat_lit 0))), (.int .i64 (.ofNat (nat_lit 0))), (.int .i64 (.ofNat (nat_lit 0))), (.int .i64 (.ofNat (nat_lit 0))), (.int .i64 (.ofNat (nat_lit 0))), (.int .i64 (.ofNat (nat_lit 0))), (.int .i64 (.ofNat (nat_lit 0))), (.bool false), (.int .i64 (.ofNat (nat_lit 0))), (.int .i64 (.ofNat (nat_lit 0))), (.int .i64 (.ofNat (nat_lit 0))), (.int .i64 (.ofNat (nat_lit 0))), (.int .i64 (.ofNat (nat_lit 0))), (.int .i64 (.ofNat (nat_lit 0))), (.int .i64 (.ofNat (nat_lit 0))), (.str (sb []))] [(0, 1), (3, 2), (5, 2)] [(.int .i64 (.ofNat (nat_lit 8))), x42, x44]) fun x45 =>
  bndC (noF [x38, x40, x45] h) fun x46 h =>
  ret1 (.tuple []) h)
  (bndV (kMov [x0]) fun x47 =>
  bndV (kFa 3 [x3]) fun x48 =>
  (f135_7 x0 x3 x4 x47 x48 h))
noncomputable def f135_9 (x0 : V) (x3 : V) (x4 : V) (x21 : V) (h : HT) : Option J := tstv x21 (bndV (kMov [x0]) fun x22 =>
  bndV (kFa 1 [x3]) fun x23 =>
  bndV (qLd h none [x23]) fun x24 =>
  bndV (kFa 3 [x3]) fun x25 =>
  bndV (qLd h (some 2) [x25]) fun x26 =>
  bndV (kFa 5 [x4]) fun x27 =>
  bndV (qLd h (some 7) [x27]) fun x28 =>
  bndV (kFa 12 [x4]) fun x29 =>
  bndV (qLd h (some 8) [x29]) fun x30 =>
  bndV (kBld [(.int .i64 (.ofNat (nat_lit 0))), (.int .i64 (.ofNat (nat_lit 0))), (.int .i64 (.ofNat (nat_lit 0))), (.int .i64 (.ofNat (nat_lit 0))), (.int .i64 (.ofNat (nat_lit 0))), (.int .i64 (.ofNat (nat_lit 0))), (.int .i64 (.ofNat (nat_lit 0))), (.int .i64 (.ofNat (nat_lit 0))), (.int .i64 (.ofNat (nat_lit 0))), (.int .i64 (.ofNat (nat_lit 0))), (.str (sb [])), (.str (sb [])), (.str (sb [])), (.str (sb [])), (.int .i64 (.ofNat (nat_lit 0))), (.int .i64 (.ofNat (nat_lit 0))), (.int .i64 (.ofNat (nat_lit 0))), (.int .i64 (.ofNat (nat_lit 0))), (.int .i64 (.ofNat (nat_lit 0))), (.int .i64 (.ofNat (nat_lit 0))), (.int .i64 (.ofNat (nat_lit 0))), (.int .i64 (.ofNat (nat_lit 0))), (.int .i64 (.ofNat (nat_lit 0))), (.int .i64 (.ofNat (nat_lit 0))), (.int .i64 (.ofNat (nat_lit 0))), (.int .i64 (.ofNat (nat_lit 0))), (.int .i64 (.ofNat (nat_lit 0))), (.int .i64 (.ofNat (nat_lit 0))), (.int .i64 (.ofNat (nat_lit 0))), (.int .i64 (.ofNat (nat_lit 0))), (.str (sb [])), (.str (sb [])), (.str (sb [])), (.str (sb [])), (.int .i64 (.ofNat (nat_lit 0))), (.int .i64 (.ofNat (nat_lit 0))), (.int .i64 (.ofNat (nat_lit 0))), (.int .i64 (.ofNat (nat_lit 0))), (.int .i64 (.ofNat (nat_lit 0))), (.int .i64 (.ofNat (nat_lit 0))), (.int .i64 (.ofNat (nat_lit 0))), (.int .i64 (.ofNat (nat_lit 0))), (.bool false), (.int .i64 (.ofNat (nat_lit 0))), (.int .i64 (.ofNat (nat_lit 0))), (.int .i64 (.ofNat (nat_lit 0))), (.int .i64 (.ofNat (nat_lit 0))), (.int .i64 (.ofNat (nat_lit 0))), (.int .i64 (.ofNat (nat_lit 0))), (.int .i64 (.ofNat (nat_lit 0))), (.str (sb []))] [(0, 1), (3, 2), (7, 7), (14, 8)] [(.int .i64 (.ofNat (nat_lit 5))), x26, x28, x30]) fun x31 =>
  bndC (noF [x22, x24, x31] h) fun x32 h =>
  ret1 (.tuple []) h)
  (bndV (kFa 5 [x3]) fun x33 =>
  bndV (qLd h (some 2) [x33]) fun x34 =>
  bndV (kFa 1 [x4]) fun x35 =>
  bndV (qLd h (some 2) [x35]) fun x36 =>
  (f135_8 x0 x3 x4 x34 x36 h))
noncomputable def f135_10 (x0 : V) (x3 : V) (x11 : V) (h : HT) : Option J := bndV (kFa 2 [x11]) fun x12 =>
  bndV (qLd h none [x12]) fun x13 =>
  bndV (kFa 3 [x3]) fun x14 =>
  bndV (qLd h (some 2) [x14]) fun x15 =>
  bndN (kAlloc [(.int .i64 (.ofNat (nat_lit 0))), (.int .i64 (.ofNat (nat_lit 0))), (.int .i64 (.ofNat (nat_lit 0))), (.int .i64 (.ofNat (nat_lit 0))), (.int .i64 (.ofNat (nat_lit 0))), (.int .i64 (.ofNat (nat_lit 0))), (.int .i64 (.ofNat (nat_lit 0))), (.int .i64 (.ofNat (nat_lit 0))), (.str (sb [])), (.str (sb [])), (.str (sb [])), (.str (sb [])), (.int .i64 (.ofNat (nat_lit 0))), (.int .i64 (.ofNat (nat_lit 0))), (.int .i64 (.ofNat (nat_lit 0))), (.int .i64 (.ofNat (nat_lit 0))), (.int .i64 (.ofNat (nat_lit 0))), (.int .i64 (.ofNat (nat_lit 0))), (.int .i64 (.ofNat (nat_lit 0))), (.int .i64 (.ofNat (nat_lit 0))), (.bool false)] []) h fun x4 h =>
  bndC (f200 [x13, x15] h) fun x16 h =>
  bndV (kMov [x16]) fun x9 =>
  bndV (kExt 0 [x9]) fun x17 =>
  bndV (kExt 1 [x9]) fun x18 =>
  bndE (dSt h 21 [x4, x17]) h fun _ h =>
  bndV (kMov [x18]) fun x5 =>
  bndV (kFa 0 [x4]) fun x19 =>
  bndV (qLd h none [x19]) fun x20 =>
  bndV (kBin .eql [x20, (.int .i64 (.ofNat (nat_lit 3)))]) fun x21 =>
  (f135_9 x0 x3 x4 x21 h)
noncomputable def f135 (vs : List V) (h : HT) : Option J := unc vs fun x0 vs =>
  unc vs fun x1 vs =>
  bndN (kBox [x1]) h fun x3 h =>
  bndV (kMov [x0]) fun x10 =>
  bndV (kNilc [x10]) fun x11 =>
  (f135_10 x0 x3 x11 h)
def a135 : List Ann := [.no, .no, .join [(.normal, [0, 3, 4])], .no, .no, .no, .no, .no, .join [(.ret, []), (.normal, [0, 3, 4])], .no]
theorem e135 : f135 = evFun Tryz.prog 135 2 a135 t135 := by kernel_rfl
theorem o135 : FnOk Tryz.prog 135 f135 := .of hmO (show enters Tryz.prog 135 = true by kernel_rfl) e135 (.cons o200 (.cons o204 (.cons o207 (.cons o209 (.nil)))))

/- (*concord/core.Core).told -/
noncomputable def l136 : List (Nat × (List V → HT → Option J)) := [(122, f122), (200, f200), (208, f208)]
noncomputable def t136 : Fns := tab l136
noncomputable def f136_0 (x0 : V) (x3 : V) (x4 : V) (x19 : V) (x21 : V) (h : HT) : Option J := bndC (f208 [x19, x21] h) fun x22 h =>
  bndV (kMov [x0]) fun x23 =>
  bndV (kFa 3 [x3]) fun x24 =>
  bndV (qLd h (some 2) [x24]) fun x25 =>
  bndV (kFa 1 [x4]) fun x26 =>
  bndV (qLd h (some 2) [x26]) fun x27 =>
  bndV (kFa 3 [x4]) fun x28 =>
  bndV (qLd h (some 2) [x28]) fun x29 =>
  bndV (kFa 7 [x3]) fun x30 =>
  bndV (qLd h (some 7) [x30]) fun x31 =>
  bndV (kFa 14 [x3]) fun x32 =>
  bndV (qLd h (some 8) [x32]) fun x33 =>
  bndV (kBld [(.int .i64 (.ofNat (nat_lit 0))), (.int .i64 (.ofNat (nat_lit 0))), (.int .i64 (.ofNat (nat_lit 0))), (.int .i64 (.ofNat (nat_lit 0))), (.int .i64 (.ofNat (nat_lit 0))), (.int .i64 (.ofNat (nat_lit 0))), (.int .i64 (.ofNat (nat_lit 0))), (.int .i64 (.ofNat (nat_lit 0))), (.str (sb [])), (.str (sb [])), (.str (sb [])), (.str (sb [])), (.int .i64 (.ofNat (nat_lit 0))), (.int .i64 (.ofNat (nat_lit 0))), (.int .i64 (.ofNat (nat_lit 0))), (.int .i64 (.ofNat (nat_lit 0))), (.int .i64 (.ofNat (nat_lit 0))), (.int .i64 (.ofNat (nat_lit 0))), (.int .i64 (.ofNat (nat_lit 0))), (.int .i64 (.ofNat (nat_lit 0))), (.bool false)] [(0, 1), (1, 2), (3, 2), (5, 7), (12, 8)] [(.int .i64 (.ofNat (nat_lit 3))), x27, x29, x31, x33]) fun x34 =>
  bndC (f122 [x23, x25, x34] h) fun x35 h =>
  ret1 (.tuple []) h
noncomputable def f136_1 (x0 : V) (x3 : V) (x4 : V) (x10 : V) (x12 : V) (h : HT) : Option J := bndC (f200 [x10, x12] h) fun x13 h =>
  bndV (kMov [x13]) fun x6 =>
  bndV (kExt 0 [x6]) fun x14 =>
  bndV (kExt 1 [x6]) fun x15 =>
  bndE (dSt h 21 [x4, x14]) h fun _ h =>
  bndV (kMov [x15]) fun x5 =>
  bndV (kFa 0 [x4]) fun x16 =>
  bndV (qLd h none [x16]) fun x17 =>
  bndV (kBin .eql [x17, (.int .i64 (.ofNat (nat_lit 3)))]) fun x18 =>
  tstv x18 (ret1 (.tuple []) h)
  (bndV (kMov [x0]) fun x19 =>
  bndV (kFa 3 [x3]) fun x20 =>
  bndV (qLd h (some 2) [x20]) fun x21 =>
  (f136_0 x0 x3 x4 x19 x21 h))
noncomputable def f136 (vs : List V) (h : HT) : Option J := unc vs fun x0 vs =>
  unc vs fun x1 vs =>
  bndN (kBox [x1]) h fun x3 h =>
  bndV (kMov [x0]) fun x7 =>
  bndV (kNilc [x7]) fun x8 =>
  bndV (kFa 2 [x8]) fun x9 =>
  bndV (qLd h none [x9]) fun x10 =>
  bndV (kFa 3 [x3]) fun x11 =>
  bndV (qLd h (some 2) [x11]) fun x12 =>
  bndN (kAlloc [(.int .i64 (.ofNat (nat_lit 0))), (.int .i64 (.ofNat (nat_lit 0))), (.int .i64 (.ofNat (nat_lit 0))), (.int .i64 (.ofNat (nat_lit 0))), (.int .i64 (.ofNat (nat_lit 0))), (.int .i64 (.ofNat (nat_lit 0))), (.int .i64 (.ofNat (nat_lit 0))), (.int .i64 (.ofNat (nat_lit 0))), (.str (sb [])), (.str (sb [])), (.str (sb [])), (.str (sb [])), (.int .i64 (.ofNat (nat_lit 0))), (.int .i64 (.ofNat (nat_lit 0))), (.int .i64 (.ofNat (nat_lit 0))), (.int .i64 (.ofNat (nat_lit 0))), (.int .i64 (.ofNat (nat_lit 0))), (.int .i64 (.ofNat (nat_lit 0))), (.int .i64 (.ofNat (nat_lit 0))), (.int .i64 (.ofNat (nat_lit 0))), (.bool false)] []) h fun x4 h =>
  (f136_1 x0 x3 x4 x10 x12 h)
def a136 : List Ann := [.no]
theorem e136 : f136 = evFun Tryz.prog 136 2 a136 t136 := by kernel_rfl
theorem o136 : FnOk Tryz.prog 136 f136 := .of hmO (show enters Tryz.prog 136 = true by kernel_rfl) e136 (.cons o122 (.cons o200 (.cons o208 (.nil))))

/- (*concord/core.Core).commit -/
noncomputable def l213 : List (Nat × (List V → HT → Option J)) := [(122, f122), (200, f200), (202, f202), (208, f208)]
noncomputable def t213 : Fns := tab l213
noncomputable def f213_0 (x0 : V) (x5 : V) (x6 : V) (x7 : V) (x22 : V) (x23 : V) (x25 : V) (x26 : V) (h : HT) : Option J := bndV (qLd h (some 2) [x26]) fun x27 =>
  bndV (qLd h (some 7) [x6]) fun x28 =>
  bndV (qLd h (some 8) [x7]) fun x29 =>
  bndV (kBld [(.int .i64 (.ofNat (nat_lit 0))), (.int .i64 (.ofNat (nat_lit 0))), (.int .i64 (.ofNat (nat_lit 0))), (.int .i64 (.ofNat (nat_lit 0))), (.int .i64 (.ofNat (nat_lit 0))), (.int .i64 (.ofNat (nat_lit 0))), (.int .i64 (.ofNat (nat_lit 0))), (.int .i64 (.ofNat (nat_lit 0))), (.str (sb [])), (.str (sb [])), (.str (sb [])), (.str (sb [])), (.int .i64 (.ofNat (nat_lit 0))), (.int .i64 (.ofNat (nat_lit 0))), (.int .i64 (.ofNat (nat_lit 0))), (.int .i64 (.ofNat (nat_lit 0))), (.int .i64 (.ofNat (nat_lit 0))), (.int .i64 (.ofNat (nat_lit 0))), (.int .i64 (.ofNat (nat_lit 0))), (.int .i64 (.ofNat (nat_lit 0))), (.bool false)] [(0, 1), (1, 2), (3, 2), (5, 7), (12, 8)] [(.int .i64 (.ofNat (nat_lit 3))), x25, x27, x28, x29]) fun x30 =>
  bndC (f122 [x22, x23, x30] h) fun x31 h =>
  tstv x31 (bndV (kMov [x0]) fun x32 =>
  bndV (qLd h (some 2) [x5]) fun x33 =>
  bndV (qLd h (some 7) [x6]) fun x34 =>
  bndV (qLd h (some 8) [x7]) fun x35 =>
  bndV (kBld [(.int .i64 (.ofNat (nat_lit 0))), (.int .i64 (.ofNat (nat_lit 0))), (.int .i64 (.ofNat (nat_lit 0))), (.int .i64 (.ofNat (nat_lit 0))), (.int .i64 (.ofNat (nat_lit 0))), (.int .i64 (.ofNat (nat_lit 0))), (.int .i64 (.ofNat (nat_lit 0))), (.int .i64 (.ofNat (nat_lit 0))), (.int .i64 (.ofNat (nat_lit 0))), (.int .i64 (.ofNat (nat_lit 0))), (.str (sb [])), (.str (sb [])), (.str (sb [])), (.str (sb [])), (.int .i64 (.ofNat (nat_lit 0))), (.int .i64 (.ofNat (nat_lit 0))), (.int .i64 (.ofNat (nat_lit 0))), (.int .i64 (.ofNat (nat_lit 0))), (.int .i64 (.ofNat (nat_lit 0))), (.int .i64 (.ofNat (nat_lit 0))), (.int .i64 (.ofNat (nat_lit 0))), (.int .i64 (.ofNat (nat_lit 0))), (.int .i64 (.ofNat (nat_lit 0))), (.int .i64 (.ofNat (nat_lit 0))), (.int .i64 (.ofNat (nat_lit 0))), (.int .i64 (.ofNat (nat_lit 0))), (.int .i64 (.ofNat (nat_lit 0))), (.int .i64 (.ofNat (nat_lit 0))), (.int .i64 (.ofNat (nat_lit 0))), (.int .i64 (.ofNat (nat_lit 0))), (.str (sb [])), (.str (sb [])), (.str (sb [])), (.str (sb [])), (.int .i64 (.ofNat (nat_lit 0))), (.int .i64 (.ofNat (nat_lit 0))), (.int .i64 (.ofNat (nat_lit 0))), (.int .i64 (.ofNat (nat_lit 0))), (.int .i64 (.ofNat (nat_lit 0))), (.int .i64 (.ofNat (nat_lit 0))), (.int .i64 (.ofNat (nat_lit 0))), (.int .i64 (.ofNat (nat_lit 0))), (.bool false), (.int .i64 (.ofNat (nat_lit 0))), (.int .i64 (.ofNat (nat_lit 0))), (.int .i64 (.ofNat (nat_lit 0))), (.int .i64 (.ofNat (nat_lit 0))), (.int .i64 (.ofNat (nat_lit 0))), (.int .i64 (.ofNat (nat_lit 0))), (.int .i64 (.ofNat (nat_lit 0))), (.str (sb []))] [(0, 1), (3, 2), (7, 7), (14, 8)] [(.int .i64 (.ofNat (nat_lit 5))), x33, x34, x35]) fun x36 =>
  bndV (kBld [(.int .i64 (.ofNat (nat_lit 0))), (.int .i64 (.ofNat (nat_lit 0))), (.int .i64 (.ofNat (nat_lit 0))), (.int .i64 (.ofNat (nat_lit 0))), (.int .i64 (.ofNat (nat_lit 0))), (.int .i64 (.ofNat (nat_lit 0))), (.int .i64 (.ofNat (nat_lit 0)))] [] []) fun x37 =>
  bndC (f202 [x32, x36, x37] h) fun x38 h =>
  ret1 (.tuple []) h)
  (ret1 (.tuple []) h)
noncomputable def f213_1 (x0 : V) (x5 : V) (x6 : V) (x7 : V) (x16 : V) (h : HT) : Option J := bndV (qLd h none [x16]) fun x17 =>
  bndV (qLd h (some 2) [x5]) fun x18 =>
  bndN (kAlloc [(.int .i64 (.ofNat (nat_lit 0))), (.int .i64 (.ofNat (nat_lit 0))), (.int .i64 (.ofNat (nat_lit 0))), (.int .i64 (.ofNat (nat_lit 0))), (.int .i64 (.ofNat (nat_lit 0))), (.int .i64 (.ofNat (nat_lit 0))), (.int .i64 (.ofNat (nat_lit 0))), (.int .i64 (.ofNat (nat_lit 0))), (.str (sb [])), (.str (sb [])), (.str (sb [])), (.str (sb [])), (.int .i64 (.ofNat (nat_lit 0))), (.int .i64 (.ofNat (nat_lit 0))), (.int .i64 (.ofNat (nat_lit 0))), (.int .i64 (.ofNat (nat_lit 0))), (.int .i64 (.ofNat (nat_lit 0))), (.int .i64 (.ofNat (nat_lit 0))), (.int .i64 (.ofNat (nat_lit 0))), (.int .i64 (.ofNat (nat_lit 0))), (.bool false)] []) h fun x8 h =>
  bndC (f200 [x17, x18] h) fun x19 h =>
  bndV (kMov [x19]) fun x13 =>
  bndV (kExt 0 [x13]) fun x20 =>
  bndV (kExt 1 [x13]) fun x21 =>
  bndE (dSt h 21 [x8, x20]) h fun _ h =>
  bndV (kMov [x21]) fun x9 =>
  bndV (kMov [x0]) fun x22 =>
  bndV (qLd h (some 2) [x5]) fun x23 =>
  bndV (kFa 1 [x8]) fun x24 =>
  bndV (qLd h (some 2) [x24]) fun x25 =>
  bndV (kFa 3 [x8]) fun x26 =>
  (f213_0 x0 x5 x6 x7 x22 x23 x25 x26 h)
noncomputable def f213 (vs : List V) (h : HT) : Option J := unc vs fun x0 vs =>
  unc vs fun x1 vs =>
  unc vs fun x2 vs =>
  unc vs fun x3 vs =>
  bndN (kBox [x1]) h fun x5 h =>
  bndN (kBox [x2]) h fun x6 h =>
  bndN (kBox [x3]) h fun x7 h =>
  bndV (kMov [x0]) fun x10 =>
  bndV (qLd h (some 2) [x5]) fun x11 =>
  bndC (f208 [x10, x11] h) fun x12 h =>
  bndV (kMov [x0]) fun x14 =>
  bndV (kNilc [x14]) fun x15 =>
  bndV (kFa 2 [x15]) fun x16 =>
  (f213_1 x0 x5 x6 x7 x16 h)
def a213 : List Ann := [.no]
theorem e213 : f213 = evFun Tryz.prog 213 4 a213 t213 := by kernel_rfl
theorem o213 : FnOk Tryz.prog 213 f213 := .of hmO (show enters Tryz.prog 213 = true by kernel_rfl) e213 (.cons o122 (.cons o200 (.cons o202 (.cons o208 (.nil)))))

/- concord/quorum.Fast -/
noncomputable def l320 : List (Nat × (List V → HT → Option J)) := []
noncomputable def t320 : Fns := tab l320

noncomputable def f320 (vs : List V) (h : HT) : Option J := unc vs fun x0 vs =>
  bndV (kMov [(.int .i64 (.ofNat (nat_lit 0)))]) fun x2 =>
  bndV (kMov [x0]) fun x3 =>
  bndV (kBin .sub [x3, (.int .i64 (.ofNat (nat_lit 1)))]) fun x4 =>
  bndV (kMov [x4]) fun x2 =>
  ret1 x2 h
def a320 : List Ann := []
theorem e320 : f320 = evFun Tryz.prog 320 1 a320 t320 := by kernel_rfl
theorem o320 : FnOk Tryz.prog 320 f320 := .of hmO (show enters Tryz.prog 320 = true by kernel_rfl) e320 (.nil)

/- concord/quorum.Pre -/
noncomputable def l271 : List (Nat × (List V → HT → Option J)) := [(320, f320)]
noncomputable def t271 : Fns := tab l271
noncomputable def f271_0 (rc : List V → HT → Option J) (x0 : V) (x1 : V) (x3 : V) (x4 : V) (x7 : V) (x11 : V) (x12 : V) (x15 : V) (x16 : V) (x17 : V) (x23 : V) (h : HT) : Option J := bndJ (tstv x23 (bndV (kMov [x12]) fun x24 =>
  bndV (kBin .add [x24, (.int .i64 (.ofNat (nat_lit 1)))]) fun x25 =>
  bndV (kMov [x25]) fun x12 =>
  some ⟨0, [x0, x1, x3, x4, x7, x11, x12, x15, x16, x17], h⟩)
  (some ⟨0, [x0, x1, x3, x4, x7, x11, x12, x15, x16, x17], h⟩))
  fun j vs h => unc vs fun x0 vs =>
  unc vs fun x1 vs =>
  unc vs fun x3 vs =>
  unc vs fun x4 vs =>
  unc vs fun x7 vs =>
  unc vs fun x11 vs =>
  unc vs fun x12 vs =>
  unc vs fun x15 vs =>
  unc vs fun x16 vs =>
  unc vs fun x17 vs =>
  bndV (kBin .add [x17, (.int .i64 (.ofNat (nat_lit 1)))]) fun x26 =>
  bndV (kMov [x26]) fun x17 =>
  rc [x0, x1, x3, x4, x7, x11, x12, x15, x16, x17] h
noncomputable def f271_1 (rc : List V → HT → Option J) (x0 : V) (x1 : V) (x3 : V) (x4 : V) (x7 : V) (x11 : V) (vs : List V) (h : HT) : Option J := unc vs fun x12 vs =>
  unc vs fun x15 vs =>
  unc vs fun x16 vs =>
  unc vs fun x17 vs =>
  bndV (kBin .lss [x17, x16]) fun x18 =>
  tstv x18 (bndV (kIaS 8 [x15, x17]) fun x19 =>
  bndV (qLd h (some 8) [x19]) fun x20 =>
  bndN (kAlloc [(.int .i64 (.ofNat (nat_lit 0))), (.int .i64 (.ofNat (nat_lit 0))), (.int .i64 (.ofNat (nat_lit 0))), (.int .i64 (.ofNat (nat_lit 0))), (.int .i64 (.ofNat (nat_lit 0))), (.int .i64 (.ofNat (nat_lit 0))), (.int .i64 (.ofNat (nat_lit 0))), (.int .i64 (.ofNat (nat_lit 0)))] []) h fun x14 h =>
  bndE (dSt h 8 [x14, x20]) h fun _ h =>
  bndV (qLd h (some 8) [x14]) fun x21 =>
  bndV (qLd h (some 8) [x7]) fun x22 =>
  bndV (kEqF false [.i, .i, .i, .i, .i, .i, .i, .i] [x21, x22]) fun x23 =>
  (f271_0 rc x0 x1 x3 x4 x7 x11 x12 x15 x16 x17 x23 h))
  (some ⟨0, [x0, x1, x3, x4, x7, x11, x12], h⟩)
noncomputable def f271_2 (x3 : V) (x7 : V) (x11 : V) (x55 : V) (h : HT) : Option J := tstv x55 (bndV (kBld [(.int .i64 (.ofNat (nat_lit 0))), (.int .i64 (.ofNat (nat_lit 0))), (.int .i64 (.ofNat (nat_lit 0))), (.int .i64 (.ofNat (nat_lit 0))), (.int .i64 (.ofNat (nat_lit 0))), (.int .i64 (.ofNat (nat_lit 0))), (.int .i64 (.ofNat (nat_lit 0))), (.int .i64 (.ofNat (nat_lit 0)))] [] []) fun x56 =>
  bndV (kMov [(.int .i64 (.ofNat (nat_lit 0)))]) fun x10 =>
  bndE (dSt h 8 [x11, x56]) h fun _ h =>
  bndV (qLd h (some 8) [x11]) fun x900000 =>
  ret1 (.tuple [x10, x900000]) h)
  (bndV (qLd h (some 8) [x7]) fun x57 =>
  bndN (kBsl 8 1 [(.int .i64 (.ofNat (nat_lit 0))), (.int .i64 (.ofNat (nat_lit 0))), (.int .i64 (.ofNat (nat_lit 0))), (.int .i64 (.ofNat (nat_lit 0))), (.int .i64 (.ofNat (nat_lit 0))), (.int .i64 (.ofNat (nat_lit 0))), (.int .i64 (.ofNat (nat_lit 0))), (.int .i64 (.ofNat (nat_lit 0)))] [(0, 8)] [x57]) h fun x58 h =>
  bndV (kMov [x3]) fun x59 =>
  bndE (dApp h 8 64 [x58, x59]) h fun x60 h =>
  bndC (noF [x60] h) fun x61 h =>
  bndV (kMov [(.int .i64 (.ofNat (nat_lit 2)))]) fun x10 =>
  bndE (dSt h 8 [x11, x61]) h fun _ h =>
  bndV (qLd h (some 8) [x11]) fun x900000 =>
  ret1 (.tuple [x10, x900000]) h)
noncomputable def f271_3 (x1 : V) (x3 : V) (x4 : V) (x7 : V) (x11 : V) (x12 : V) (x41 : V) (h : HT) : Option J := bndV (kMov [x41]) fun x42 =>
  bndC (gsel x42 false (retV (kMov [x1]) h) h) fun x43 h =>
  bndC (gsel x42 false (retV (kMov [x43]) h) h) fun x44 h =>
  bndC (gsel x44 true (retV (kMov [x4]) h) h) fun x45 h =>
  bndC (gsel x44 true (retV (kUn .not [x45]) h) h) fun x46 h =>
  bndC (gsel x42 false (retV (kPick [x44, x46, (.bool false)]) h) h) fun x47 h =>
  bndC (gsel x42 false (retV (kMov [x47]) h) h) fun x48 h =>
  bndC (gsel x48 true (retV (kMov [x3]) h) h) fun x49 h =>
  bndC (gsel x48 true (retV (kLenS [x49]) h) h) fun x50 h =>
  bndC (gsel x48 true (retV (kMov [x12]) h) h) fun x51 h =>
  bndC (gsel x48 true (retV (kBin .sub [x50, x51]) h) h) fun x52 h =>
  bndC (gsel x48 true (retV (kBin .lss [x52, (.int .i64 (.ofNat (nat_lit 2)))]) h) h) fun x53 h =>
  bndC (gsel x42 false (retV (kPick [x48, x53, (.bool false)]) h) h) fun x54 h =>
  bndV (kPick [x42, (.bool true), x54]) fun x55 =>
  (f271_2 x3 x7 x11 x55 h)
noncomputable def f271_4 (x0 : V) (x1 : V) (x3 : V) (x4 : V) (x7 : V) (x11 : V) (x12 : V) (x28 : V) (x29 : V) (x32 : V) (h : HT) : Option J := bndC (gsel x28 true (retV (kBin .geq [x29, x32]) h) h) fun x33 h =>
  bndV (kPick [x28, x33, (.bool false)]) fun x34 =>
  tstv x34 (bndV (qLd h (some 8) [x7]) fun x35 =>
  bndV (kMov [(.int .i64 (.ofNat (nat_lit 1)))]) fun x10 =>
  bndE (dSt h 8 [x11, x35]) h fun _ h =>
  bndV (qLd h (some 8) [x11]) fun x900000 =>
  ret1 (.tuple [x10, x900000]) h)
  (bndV (kMov [x3]) fun x36 =>
  bndV (kLenS [x36]) fun x37 =>
  bndV (kMov [x0]) fun x38 =>
  bndC (noF [x38] h) fun x39 h =>
  bndV (kBin .sub [x39, (.int .i64 (.ofNat (nat_lit 1)))]) fun x40 =>
  bndV (kBin .lss [x37, x40]) fun x41 =>
  (f271_3 x1 x3 x4 x7 x11 x12 x41 h))
noncomputable def f271_5 (x0 : V) (x1 : V) (x3 : V) (x4 : V) (x7 : V) (x11 : V) (x12 : V) (x15 : V) (x16 : V) (x17 : V) (h : HT) : Option J := bndJ (loopF (fun rc vs h => unc vs fun x0 vs =>
  unc vs fun x1 vs =>
  unc vs fun x3 vs =>
  unc vs fun x4 vs =>
  unc vs fun x7 vs =>
  unc vs fun x11 vs =>
  (f271_1 rc x0 x1 x3 x4 x7 x11 vs h)) 1000000 [x0, x1, x3, x4, x7, x11, x12, x15, x16, x17] h)
  fun j vs h => unc vs fun x0 vs =>
  unc vs fun x1 vs =>
  unc vs fun x3 vs =>
  unc vs fun x4 vs =>
  unc vs fun x7 vs =>
  unc vs fun x11 vs =>
  unc vs fun x12 vs =>
  bndV (kMov [x1]) fun x27 =>
  bndV (kMov [x27]) fun x28 =>
  bndC (gsel x28 true (retV (kMov [x12]) h) h) fun x29 h =>
  bndC (gsel x28 true (retV (kMov [x0]) h) h) fun x30 h =>
  bndC (gsel x28 true (f320 [x30] h) h) fun x31 h =>
  bndC (gsel x28 true (retV (kBin .sub [x31, (.int .i64 (.ofNat (nat_lit 1)))]) h) h) fun x32 h =>
  (f271_4 x0 x1 x3 x4 x7 x11 x12 x28 x29 x32 h)
noncomputable def f271 (vs : List V) (h : HT) : Option J := unc vs fun x0 vs =>
  unc vs fun x1 vs =>
  unc vs fun x2 vs =>
  unc vs fun x3 vs =>
  unc vs fun x4 vs =>
  bndN (kBox [x2]) h fun x7 h =>
  bndV (kMov [(.int .i64 (.ofNat (nat_lit 0)))]) fun x10 =>
  bndN (kAlloc [(.int .i64 (.ofNat (nat_lit 0))), (.int .i64 (.ofNat (nat_lit 0))), (.int .i64 (.ofNat (nat_lit 0))), (.int .i64 (.ofNat (nat_lit 0))), (.int .i64 (.ofNat (nat_lit 0))), (.int .i64 (.ofNat (nat_lit 0))), (.int .i64 (.ofNat (nat_lit 0))), (.int .i64 (.ofNat (nat_lit 0)))] []) h fun x11 h =>
  bndV (kMov [(.int .i64 (.ofNat (nat_lit 0)))]) fun x12 =>
  bndV (kMov [x3]) fun x15 =>
  bndV (kLenS [x15]) fun x16 =>
  bndV (kMov [(.int .i64 (.ofNat (nat_lit 0)))]) fun x17 =>
  (f271_5 x0 x1 x3 x4 x7 x11 x12 x15 x16 x17 h)
def a271 : List Ann := [.no, .loop [0, 1, 3, 4, 7, 11, 12, 15, 16, 17] [((.exit 0), [0, 1, 3, 4, 7, 11, 12])], .no, .no, .join [(.normal, [0, 1, 3, 4, 7, 11, 12, 15, 16, 17])], .no, .no]
theorem e271 : f271 = evFun Tryz.prog 271 5 a271 t271 := by kernel_rfl
theorem o271 : FnOk Tryz.prog 271 f271 := .of hmO (show enters Tryz.prog 271 = true by kernel_rfl) e271 (.cons o320 (.nil))
end Go.Cn
