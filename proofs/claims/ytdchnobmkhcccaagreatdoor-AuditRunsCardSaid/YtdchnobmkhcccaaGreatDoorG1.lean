/- Functions of the program, told as plain functions of what they are called with, each with the proof that it is what the code does (printed by a program of the prover). -/
import Derived.Test.YtdchnobmkhcccaaGreatDoorG0
namespace Go.Cn
open Go.Proofs
set_option maxRecDepth 100000
set_option linter.unusedVariables false
/- concord/kv.find -/
noncomputable def l322 : List (Nat × (List V → HT → Option J)) := []
noncomputable def t322 : Fns := tab l322
noncomputable def f322_0 (rc : List V → HT → Option J) (x0 : V) (x1 : V) (x8 : V) (x9 : V) (x10 : V) (x11 : V) (h : HT) : Option J := tstv x11 (bndV (kIaS 3 [x8, x10]) fun x13 =>
  bndV (qLd h (some 3) [x13]) fun x14 =>
  bndN (kAlloc [(.str (sb [])), (.str (sb [])), (.int .i64 (.ofNat (nat_lit 0)))] []) h fun x7 h =>
  bndE (dSt h 3 [x7, x14]) h fun _ h =>
  bndV (kFa 0 [x7]) fun x15 =>
  bndV (qLd h none [x15]) fun x16 =>
  bndV (kBin .geq [x16, x1]) fun x18 =>
  tstv x18 (bndV (kFa 0 [x7]) fun x20 =>
  bndV (qLd h none [x20]) fun x21 =>
  bndV (kBin .eql [x21, x1]) fun x23 =>
  some ⟨1, [x10, x23], h⟩)
  (bndV (kBin .add [x10, (.int .i64 (.ofNat (nat_lit 1)))]) fun x24 =>
  rc [x0, x1, x8, x9, x24] h))
  (some ⟨0, [x0], h⟩)
noncomputable def f322_1 (x0 : V) (x1 : V) (x9 : V) (h : HT) : Option J := bndJ (loopF (fun rc vs h => unc vs fun x0 vs =>
  unc vs fun x1 vs =>
  unc vs fun x8 vs =>
  unc vs fun x9 vs =>
  unc vs fun x10 vs =>
  bndV (kBin .lss [x10, x9]) fun x11 =>
  (f322_0 rc x0 x1 x8 x9 x10 x11 h)) 1000000 [x0, x1, x0, x9, (.int .i64 (.ofNat (nat_lit 0)))] h)
  fun j vs h => nsw j (unc vs fun x0 vs =>
  bndV (kLenS [x0]) fun x26 =>
  ret1 (.tuple [x26, (.bool false)]) h)
  fun j => unc vs fun x4 vs =>
  unc vs fun x5 vs =>
  ret1 (.tuple [x4, x5]) h
noncomputable def f322 (vs : List V) (h : HT) : Option J := unc vs fun x0 vs =>
  unc vs fun x1 vs =>
  bndV (kLenS [x0]) fun x9 =>
  (f322_1 x0 x1 x9 h)
def a322 : List Ann := [.no, .loop [0, 1, 8, 9, 10] [((.exit 0), [0]), (.ret, [4, 5])], .no, .no, .no]
theorem e322 : f322 = evFun Tryz.prog 322 2 a322 t322 := by kernel_rfl
theorem o322 : FnOk Tryz.prog 322 f322 := .of hmO (show enters Tryz.prog 322 = true by kernel_rfl) e322 (.nil)

/- concord/kv.Get -/
noncomputable def l278 : List (Nat × (List V → HT → Option J)) := [(322, f322)]
noncomputable def t278 : Fns := tab l278
noncomputable def f278_0 (x0 : V) (x1 : V) (h : HT) : Option J := bndN (kAlloc [(.str (sb [])), (.str (sb [])), (.int .i64 (.ofNat (nat_lit 0)))] []) h fun x4 h =>
  bndC (f322 [x0, x1] h) fun x11 h =>
  bndV (kExt 0 [x11]) fun x12 =>
  bndV (kExt 1 [x11]) fun x13 =>
  bndV (kUn .not [x13]) fun x15 =>
  tstv x15 (bndV (kBld [(.str (sb [])), (.str (sb [])), (.int .i64 (.ofNat (nat_lit 0)))] [] []) fun x16 =>
  bndE (dSt h 3 [x4, x16]) h fun _ h =>
  bndV (qLd h (some 3) [x4]) fun x900000 =>
  ret1 (.tuple [x900000, (.bool false)]) h)
  (bndV (kIaS 3 [x0, x12]) fun x19 =>
  bndV (qLd h (some 3) [x19]) fun x20 =>
  bndE (dSt h 3 [x4, x20]) h fun _ h =>
  bndV (qLd h (some 3) [x4]) fun x900000 =>
  ret1 (.tuple [x900000, (.bool true)]) h)
noncomputable def f278 (vs : List V) (h : HT) : Option J := unc vs fun x0 vs =>
  unc vs fun x1 vs =>
  (f278_0 x0 x1 h)
def a278 : List Ann := [.no]
theorem e278 : f278 = evFun Tryz.prog 278 2 a278 t278 := by kernel_rfl
theorem o278 : FnOk Tryz.prog 278 f278 := .of hmO (show enters Tryz.prog 278 = true by kernel_rfl) e278 (.cons o322 (.nil))

/- slices.Insert[[]concord/api.Pair,concord/api.Pair] -/
noncomputable def l323 : List (Nat × (List V → HT → Option J)) := []
noncomputable def t323 : Fns := tab l323
noncomputable def f323_0 (x0 : V) (x1 : V) (x2 : V) (x14 : V) (x19 : V) (x22 : V) (h : HT) : Option J := tstv x22 (bndE (dApp h 3 40 [x0, x2]) h fun x25 h =>
  ret1 x25 h)
  (bndV (kBin .add [x19, x14]) fun x28 =>
  bndV (kCapS [x0]) fun x30 =>
  bndV (kBin .gtr [x28, x30]) fun x31 =>
  tstv x31 (bndV (kSlS 3 false true [x0, x1]) fun x34 =>
  bndV (kBin .add [x19, x14]) fun x37 =>
  bndV (kBin .sub [x37, x1]) fun x39 =>
  none)
  (bndV (kBin .add [x19, x14]) fun x59 =>
  bndV (kSlS 3 false true [x0, x59]) fun x60 =>
  bndV (kBin .add [x1, x14]) fun x65 =>
  bndV (kSlS 3 true false [x60, x65]) fun x66 =>
  none))
noncomputable def f323 (vs : List V) (h : HT) : Option J := unc vs fun x0 vs =>
  unc vs fun x1 vs =>
  unc vs fun x2 vs =>
  bndV (kSlS 3 true false [x0, x1]) fun x12 =>
  bndV (kLenS [x2]) fun x14 =>
  bndV (kBin .eql [x14, (.int .i64 (.ofNat (nat_lit 0)))]) fun x16 =>
  tstv x16 (ret1 x0 h)
  (bndV (kLenS [x0]) fun x19 =>
  bndV (kBin .eql [x1, x19]) fun x22 =>
  (f323_0 x0 x1 x2 x14 x19 x22 h))
def a323 : List Ann := [.no, .no, .no, .no]
theorem e323 : f323 = evFun Tryz.prog 323 3 a323 t323 := by kernel_rfl
theorem o323 : FnOk Tryz.prog 323 f323 := .of hmO (show enters Tryz.prog 323 = true by kernel_rfl) e323 (.nil)

/- concord/kv.Put -/
noncomputable def l279 : List (Nat × (List V → HT → Option J)) := [(63, f63), (322, f322), (323, f323)]
noncomputable def t279 : Fns := tab l279
noncomputable def f279_0 (x1 : V) (x2 : V) (x15 : V) (x25 : V) (x27 : V) (h : HT) : Option J := bndJ (tstv x27 (bndV (kBld [(.str (sb [])), (.str (sb [])), (.int .i64 (.ofNat (nat_lit 0)))] [(0, 1)] [x1]) fun x31 =>
  bndN (kBsl 3 1 [(.str (sb [])), (.str (sb [])), (.int .i64 (.ofNat (nat_lit 0)))] [(0, 3)] [x31]) h fun x32 h =>
  bndC (f323 [x25, x15, x32] h) fun x33 h =>
  some ⟨0, [x2, x15, x33], h⟩)
  (some ⟨0, [x2, x15, x25], h⟩))
  fun j vs h => unc vs fun x2 vs =>
  unc vs fun x8 vs =>
  unc vs fun x10 vs =>
  bndV (kIaS 3 [x10, x8]) fun x37 =>
  bndV (kFa 1 [x37]) fun x38 =>
  bndE (dSt h 1 [x38, x2]) h fun _ h =>
  bndV (kIaS 3 [x10, x8]) fun x41 =>
  bndV (kFa 2 [x41]) fun x42 =>
  bndV (qLd h none [x42]) fun x43 =>
  bndV (kBin .add [x43, (.int .i64 (.ofNat (nat_lit 1)))]) fun x44 =>
  bndV (kIaS 3 [x10, x8]) fun x45 =>
  bndV (kFa 2 [x45]) fun x46 =>
  bndE (dSt h 1 [x46, x44]) h fun _ h =>
  ret1 (.tuple [x10, (.int .i64 (.ofNat (nat_lit 0)))]) h
noncomputable def f279_1 (x0 : V) (vs : List V) (h : HT) : Option J := unc vs fun x1 vs =>
  unc vs fun x2 vs =>
  bndC (f322 [x0, x1] h) fun x14 h =>
  bndV (kExt 0 [x14]) fun x15 =>
  bndV (kExt 1 [x14]) fun x16 =>
  bndV (kUn .not [x16]) fun x18 =>
  bndC (gsel x18 true (retV (kMov [x0]) h) h) fun x20 h =>
  bndC (gsel x18 true (retV (kLenS [x20]) h) h) fun x21 h =>
  bndC (gsel x18 true (retV (kBin .geq [x21, (.int .i64 (.ofNat (nat_lit 32)))]) h) h) fun x22 h =>
  bndV (kPick [x18, x22, (.bool false)]) fun x23 =>
  tstv x23 (ret1 (.tuple [(.slice none 0 true 0), (.int .i64 (.ofNat (nat_lit 7)))]) h)
  (bndC (f63 [x0] h) fun x25 h =>
  bndV (kUn .not [x16]) fun x27 =>
  (f279_0 x1 x2 x15 x25 x27 h))
noncomputable def f279 (vs : List V) (h : HT) : Option J := unc vs fun x0 vs =>
  (f279_1 x0 vs h)
def a279 : List Ann := [.no, .join [(.normal, [2, 8, 10])]]
theorem e279 : f279 = evFun Tryz.prog 279 3 a279 t279 := by kernel_rfl
theorem o279 : FnOk Tryz.prog 279 f279 := .of hmO (show enters Tryz.prog 279 = true by kernel_rfl) e279 (.cons o63 (.cons o322 (.cons o323 (.nil))))

/- concord/state.done -/
noncomputable def l217 : List (Nat × (List V → HT → Option J)) := [(278, f278), (279, f279)]
noncomputable def t217 : Fns := tab l217
noncomputable def f217_0 (x0 : V) (x5 : V) (x6 : V) (x22 : V) (x42 : V) (h : HT) : Option J := bndV (kExt 0 [x42]) fun x43 =>
  bndV (kExt 1 [x42]) fun x44 =>
  bndV (kBin .neq [x44, (.int .i64 (.ofNat (nat_lit 0)))]) fun x46 =>
  tstv x46 (bndV (kBld [(.int .i64 (.ofNat (nat_lit 0))), (.bool false), (.str (sb [])), (.int .i64 (.ofNat (nat_lit 0))), (.slice none 0 true 0)] [(0, 1)] [x44]) fun x49 =>
  bndE (dSt h 5 [x5, x49]) h fun _ h =>
  bndV (qLd h (some 5) [x5]) fun x900000 =>
  ret1 (.tuple [x0, x900000]) h)
  (bndV (kFa 2 [x6]) fun x52 =>
  bndV (qLd h none [x52]) fun x53 =>
  bndV (kBin .add [x53, (.int .i64 (.ofNat (nat_lit 1)))]) fun x54 =>
  bndV (kBld [(.int .i64 (.ofNat (nat_lit 0))), (.bool false), (.str (sb [])), (.int .i64 (.ofNat (nat_lit 0))), (.slice none 0 true 0)] [(1, 1), (3, 1)] [x22, x54]) fun x55 =>
  bndE (dSt h 5 [x5, x55]) h fun _ h =>
  bndV (qLd h (some 5) [x5]) fun x900000 =>
  ret1 (.tuple [x43, x900000]) h)
noncomputable def f217_1 (x0 : V) (x3 : V) (x5 : V) (x6 : V) (x89 : V) (h : HT) : Option J := bndV (qLd h none [x89]) fun x90 =>
  bndV (kFa 6 [x3]) fun x91 =>
  bndV (qLd h none [x91]) fun x92 =>
  bndC (f279 [x0, x90, x92] h) fun x93 h =>
  bndV (kExt 0 [x93]) fun x94 =>
  bndV (kExt 1 [x93]) fun x95 =>
  bndV (kFa 1 [x6]) fun x97 =>
  bndV (qLd h none [x97]) fun x98 =>
  bndV (kFa 2 [x6]) fun x99 =>
  bndV (qLd h none [x99]) fun x100 =>
  bndV (kBin .add [x100, (.int .i64 (.ofNat (nat_lit 1)))]) fun x101 =>
  bndV (kBld [(.int .i64 (.ofNat (nat_lit 0))), (.bool false), (.str (sb [])), (.int .i64 (.ofNat (nat_lit 0))), (.slice none 0 true 0)] [(1, 1), (2, 1), (3, 1)] [(.bool true), x98, x101]) fun x102 =>
  bndE (dSt h 5 [x5, x102]) h fun _ h =>
  bndV (qLd h (some 5) [x5]) fun x900000 =>
  ret1 (.tuple [x94, x900000]) h
noncomputable def f217_2 (x0 : V) (x3 : V) (x5 : V) (x6 : V) (x73 : V) (x76 : V) (h : HT) : Option J := bndC (gsel x73 false (retV (kFa 5 [x3]) h) h) fun x77 h =>
  bndC (gsel x73 false (retV (qLd h none [x77]) h) h) fun x78 h =>
  bndC (gsel x73 false (retV (kBin .neq [x76, x78]) h) h) fun x79 h =>
  bndV (kPick [x73, (.bool true), x79]) fun x80 =>
  tstv x80 (bndV (kFa 1 [x6]) fun x82 =>
  bndV (qLd h none [x82]) fun x83 =>
  bndV (kFa 2 [x6]) fun x84 =>
  bndV (qLd h none [x84]) fun x85 =>
  bndV (kBld [(.int .i64 (.ofNat (nat_lit 0))), (.bool false), (.str (sb [])), (.int .i64 (.ofNat (nat_lit 0))), (.slice none 0 true 0)] [(2, 1), (3, 1)] [x83, x85]) fun x86 =>
  bndE (dSt h 5 [x5, x86]) h fun _ h =>
  bndV (qLd h (some 5) [x5]) fun x900000 =>
  ret1 (.tuple [x0, x900000]) h)
  (bndV (kFa 3 [x3]) fun x89 =>
  (f217_1 x0 x3 x5 x6 x89 h))
noncomputable def f217_3 (x0 : V) (x3 : V) (x5 : V) (x6 : V) (x22 : V) (x71 : V) (h : HT) : Option J := tstv x71 (bndV (kUn .not [x22]) fun x73 =>
  bndC (gsel x73 false (retV (kFa 1 [x6]) h) h) fun x75 h =>
  bndC (gsel x73 false (retV (qLd h none [x75]) h) h) fun x76 h =>
  (f217_2 x0 x3 x5 x6 x73 x76 h))
  (bndV (kFa 3 [x3]) fun x105 =>
  bndV (qLd h none [x105]) fun x106 =>
  bndV (kFa 4 [x3]) fun x107 =>
  bndV (qLd h none [x107]) fun x108 =>
  bndV (kBld [(.str (sb [])), (.str (sb []))] [(0, 1), (1, 1)] [x106, x108]) fun x109 =>
  bndC (noF [x0, x109] h) fun x110 h =>
  bndV (kExt 0 [x110]) fun x111 =>
  bndV (kExt 1 [x110]) fun x112 =>
  bndV (kBld [(.int .i64 (.ofNat (nat_lit 0))), (.bool false), (.str (sb [])), (.int .i64 (.ofNat (nat_lit 0))), (.slice none 0 true 0)] [(1, 1), (4, 1)] [x112, x111]) fun x116 =>
  bndE (dSt h 5 [x5, x116]) h fun _ h =>
  bndV (qLd h (some 5) [x5]) fun x900000 =>
  ret1 (.tuple [x0, x900000]) h)
noncomputable def f217_4 (x0 : V) (x3 : V) (x5 : V) (x6 : V) (x22 : V) (x24 : V) (h : HT) : Option J := bndV (kBin .eql [x24, (.int .i64 (.ofNat (nat_lit 3)))]) fun x57 =>
  tstv x57 (bndV (kFa 3 [x3]) fun x60 =>
  bndV (qLd h none [x60]) fun x61 =>
  bndC (noF [x0, x61] h) fun x62 h =>
  bndV (kExt 0 [x62]) fun x63 =>
  bndV (kExt 1 [x62]) fun x64 =>
  bndV (kFa 2 [x6]) fun x67 =>
  bndV (qLd h none [x67]) fun x68 =>
  bndV (kBld [(.int .i64 (.ofNat (nat_lit 0))), (.bool false), (.str (sb [])), (.int .i64 (.ofNat (nat_lit 0))), (.slice none 0 true 0)] [(1, 1), (3, 1)] [x22, x68]) fun x69 =>
  bndE (dSt h 5 [x5, x69]) h fun _ h =>
  bndV (qLd h (some 5) [x5]) fun x900000 =>
  ret1 (.tuple [x63, x900000]) h)
  (bndV (kBin .eql [x24, (.int .i64 (.ofNat (nat_lit 4)))]) fun x71 =>
  (f217_3 x0 x3 x5 x6 x22 x71 h))
noncomputable def f217_5 (x0 : V) (x3 : V) (x5 : V) (x6 : V) (x22 : V) (x24 : V) (x26 : V) (h : HT) : Option J := tstv x26 (bndV (kFa 1 [x6]) fun x29 =>
  bndV (qLd h none [x29]) fun x30 =>
  bndV (kFa 2 [x6]) fun x31 =>
  bndV (qLd h none [x31]) fun x32 =>
  bndV (kBld [(.int .i64 (.ofNat (nat_lit 0))), (.bool false), (.str (sb [])), (.int .i64 (.ofNat (nat_lit 0))), (.slice none 0 true 0)] [(1, 1), (2, 1), (3, 1)] [x22, x30, x32]) fun x33 =>
  bndE (dSt h 5 [x5, x33]) h fun _ h =>
  bndV (qLd h (some 5) [x5]) fun x900000 =>
  ret1 (.tuple [x0, x900000]) h)
  (bndV (kBin .eql [x24, (.int .i64 (.ofNat (nat_lit 2)))]) fun x35 =>
  tstv x35 (bndV (kFa 3 [x3]) fun x38 =>
  bndV (qLd h none [x38]) fun x39 =>
  bndV (kFa 6 [x3]) fun x40 =>
  bndV (qLd h none [x40]) fun x41 =>
  bndC (f279 [x0, x39, x41] h) fun x42 h =>
  (f217_0 x0 x5 x6 x22 x42 h))
  ((f217_4 x0 x3 x5 x6 x22 x24 h)))
noncomputable def f217 (vs : List V) (h : HT) : Option J := unc vs fun x0 vs =>
  unc vs fun x1 vs =>
  bndN (kBox [x1]) h fun x3 h =>
  bndN (kAlloc [(.int .i64 (.ofNat (nat_lit 0))), (.bool false), (.str (sb [])), (.int .i64 (.ofNat (nat_lit 0))), (.slice none 0 true 0)] []) h fun x5 h =>
  bndV (kFa 3 [x3]) fun x18 =>
  bndV (qLd h none [x18]) fun x19 =>
  bndC (f278 [x0, x19] h) fun x20 h =>
  bndV (kExt 0 [x20]) fun x21 =>
  bndV (kExt 1 [x20]) fun x22 =>
  bndN (kAlloc [(.str (sb [])), (.str (sb [])), (.int .i64 (.ofNat (nat_lit 0)))] []) h fun x6 h =>
  bndE (dSt h 3 [x6, x21]) h fun _ h =>
  bndV (kFa 0 [x3]) fun x23 =>
  bndV (qLd h none [x23]) fun x24 =>
  bndV (kBin .eql [x24, (.int .i64 (.ofNat (nat_lit 1)))]) fun x26 =>
  (f217_5 x0 x3 x5 x6 x22 x24 x26 h)
def a217 : List Ann := [.no, .no, .no, .no, .no, .no, .no]
theorem e217 : f217 = evFun Tryz.prog 217 2 a217 t217 := by kernel_rfl
theorem o217 : FnOk Tryz.prog 217 f217 := .of hmO (show enters Tryz.prog 217 = true by kernel_rfl) e217 (.cons o278 (.cons o279 (.nil)))

/- concord/state.Apply -/
noncomputable def l140 : List (Nat × (List V → HT → Option J)) := [(40, f40), (139, f139), (215, f215), (216, f216), (217, f217)]
noncomputable def t140 : Fns := tab l140
noncomputable def f140_0 (x3 : V) (x4 : V) (x5 : V) (x9 : V) (x46 : V) (x50 : V) (h : HT) : Option J := bndV (kFa 1 [x3]) fun x51 =>
  bndV (qLd h none [x51]) fun x52 =>
  bndV (kFa 2 [x3]) fun x53 =>
  bndV (qLd h none [x53]) fun x54 =>
  bndV (qLd h (some 5) [x9]) fun x55 =>
  bndV (qLd h (some 5) [x9]) fun x58 =>
  bndC (f215 [x50, x52, x54, x55] h) fun x56 h =>
  chk1 (sameE (qLd h (some 5) [x9]) x58) (bndV (kBld [(.slice none 0 true 0), (.int .i64 (.ofNat (nat_lit 0))), (.int .i64 (.ofNat (nat_lit 0))), (.bool false), (.str (sb [])), (.int .i64 (.ofNat (nat_lit 0))), (.slice none 0 true 0), (.int .i64 (.ofNat (nat_lit 0))), (.int .i64 (.ofNat (nat_lit 0))), (.bool false), (.str (sb [])), (.int .i64 (.ofNat (nat_lit 0))), (.slice none 0 true 0), (.int .i64 (.ofNat (nat_lit 0))), (.int .i64 (.ofNat (nat_lit 0))), (.bool false), (.str (sb [])), (.int .i64 (.ofNat (nat_lit 0))), (.slice none 0 true 0), (.int .i64 (.ofNat (nat_lit 0))), (.int .i64 (.ofNat (nat_lit 0))), (.bool false), (.str (sb [])), (.int .i64 (.ofNat (nat_lit 0))), (.slice none 0 true 0), (.int .i64 (.ofNat (nat_lit 0))), (.int .i64 (.ofNat (nat_lit 0))), (.bool false), (.str (sb [])), (.int .i64 (.ofNat (nat_lit 0))), (.slice none 0 true 0), (.int .i64 (.ofNat (nat_lit 0))), (.int .i64 (.ofNat (nat_lit 0))), (.bool false), (.str (sb [])), (.int .i64 (.ofNat (nat_lit 0))), (.slice none 0 true 0), (.int .i64 (.ofNat (nat_lit 0))), (.int .i64 (.ofNat (nat_lit 0))), (.bool false), (.str (sb [])), (.int .i64 (.ofNat (nat_lit 0))), (.slice none 0 true 0), (.int .i64 (.ofNat (nat_lit 0))), (.int .i64 (.ofNat (nat_lit 0))), (.bool false), (.str (sb [])), (.int .i64 (.ofNat (nat_lit 0))), (.slice none 0 true 0)] [(0, 1), (1, 48)] [x46, x56]) fun x57 =>
  bndE (dSt h 49 [x4, x57]) h fun _ h =>
  chk1 (sameE (qLd h (some 5) [x9]) x58) (bndE (dSt h 5 [x5, x58]) h fun _ h =>
  bndV (qLd h (some 49) [x4]) fun x900000 =>
  bndV (qLd h (some 5) [x5]) fun x900001 =>
  ret1 (.tuple [x900000, x900001]) h))
noncomputable def f140_1 (x2 : V) (x3 : V) (x4 : V) (x5 : V) (x38 : V) (h : HT) : Option J := tstv x38 (bndV (qLd h (some 49) [x2]) fun x39 =>
  bndV (kBld [(.int .i64 (.ofNat (nat_lit 0))), (.bool false), (.str (sb [])), (.int .i64 (.ofNat (nat_lit 0))), (.slice none 0 true 0)] [(0, 1)] [(.int .i64 (.ofNat (nat_lit 9)))]) fun x40 =>
  bndE (dSt h 49 [x4, x39]) h fun _ h =>
  bndE (dSt h 5 [x5, x40]) h fun _ h =>
  bndV (qLd h (some 49) [x4]) fun x900000 =>
  bndV (qLd h (some 5) [x5]) fun x900001 =>
  ret1 (.tuple [x900000, x900001]) h)
  (bndV (kFa 0 [x2]) fun x42 =>
  bndV (qLd h none [x42]) fun x43 =>
  bndV (qLd h (some 7) [x3]) fun x44 =>
  bndC (f217 [x43, x44] h) fun x45 h =>
  bndV (kExt 0 [x45]) fun x46 =>
  bndV (kExt 1 [x45]) fun x47 =>
  bndN (kAlloc [(.int .i64 (.ofNat (nat_lit 0))), (.bool false), (.str (sb [])), (.int .i64 (.ofNat (nat_lit 0))), (.slice none 0 true 0)] []) h fun x9 h =>
  bndE (dSt h 5 [x9, x47]) h fun _ h =>
  bndV (kFa 1 [x2]) fun x49 =>
  bndV (qLd h (some 48) [x49]) fun x50 =>
  (f140_0 x3 x4 x5 x9 x46 x50 h))
noncomputable def f140_2 (x2 : V) (x3 : V) (x4 : V) (x5 : V) (x29 : V) (x30 : V) (h : HT) : Option J := bndV (kExt 1 [x29]) fun x31 =>
  bndN (kAlloc [(.int .i64 (.ofNat (nat_lit 0))), (.bool false), (.str (sb [])), (.int .i64 (.ofNat (nat_lit 0))), (.slice none 0 true 0)] []) h fun x7 h =>
  bndE (dSt h 5 [x7, x31]) h fun _ h =>
  bndV (kBin .eql [x30, (.int .i64 (.ofNat (nat_lit 2)))]) fun x34 =>
  tstv x34 (bndV (qLd h (some 49) [x2]) fun x35 =>
  bndV (qLd h (some 5) [x7]) fun x36 =>
  bndE (dSt h 49 [x4, x35]) h fun _ h =>
  chk1 (sameE (qLd h (some 5) [x7]) x36) (bndE (dSt h 5 [x5, x36]) h fun _ h =>
  bndV (qLd h (some 49) [x4]) fun x900000 =>
  bndV (qLd h (some 5) [x5]) fun x900001 =>
  ret1 (.tuple [x900000, x900001]) h))
  (bndV (kBin .eql [x30, (.int .i64 (.ofNat (nat_lit 3)))]) fun x38 =>
  (f140_1 x2 x3 x4 x5 x38 h))
noncomputable def f140_3 (x2 : V) (x3 : V) (x4 : V) (x5 : V) (x19 : V) (h : HT) : Option J := tstv x19 (bndV (qLd h (some 49) [x2]) fun x20 =>
  bndV (kBld [(.int .i64 (.ofNat (nat_lit 0))), (.bool false), (.str (sb [])), (.int .i64 (.ofNat (nat_lit 0))), (.slice none 0 true 0)] [(0, 1)] [(.int .i64 (.ofNat (nat_lit 1)))]) fun x21 =>
  bndE (dSt h 49 [x4, x20]) h fun _ h =>
  bndE (dSt h 5 [x5, x21]) h fun _ h =>
  bndV (qLd h (some 49) [x4]) fun x900000 =>
  bndV (qLd h (some 5) [x5]) fun x900001 =>
  ret1 (.tuple [x900000, x900001]) h)
  (bndV (kFa 1 [x2]) fun x23 =>
  bndV (qLd h (some 48) [x23]) fun x24 =>
  bndV (kFa 1 [x3]) fun x25 =>
  bndV (qLd h none [x25]) fun x26 =>
  bndV (kFa 2 [x3]) fun x27 =>
  bndV (qLd h none [x27]) fun x28 =>
  bndC (f216 [x24, x26, x28] h) fun x29 h =>
  bndV (kExt 0 [x29]) fun x30 =>
  (f140_2 x2 x3 x4 x5 x29 x30 h))
noncomputable def f140_4 (x2 : V) (x3 : V) (x4 : V) (x5 : V) (h : HT) : Option J := bndV (qLd h (some 7) [x3]) fun x12 =>
  bndV (kBld [(.int .i64 (.ofNat (nat_lit 0))), (.int .i64 (.ofNat (nat_lit 0))), (.int .i64 (.ofNat (nat_lit 0))), (.str (sb [])), (.str (sb [])), (.str (sb [])), (.str (sb []))] [] []) fun x13 =>
  bndV (kEqF false [.i, .i, .i, .s, .s, .s, .s] [x12, x13]) fun x14 =>
  tstv x14 (bndV (qLd h (some 49) [x2]) fun x15 =>
  bndV (kBld [(.int .i64 (.ofNat (nat_lit 0))), (.bool false), (.str (sb [])), (.int .i64 (.ofNat (nat_lit 0))), (.slice none 0 true 0)] [] []) fun x16 =>
  bndE (dSt h 49 [x4, x15]) h fun _ h =>
  bndE (dSt h 5 [x5, x16]) h fun _ h =>
  bndV (qLd h (some 49) [x4]) fun x900000 =>
  bndV (qLd h (some 5) [x5]) fun x900001 =>
  ret1 (.tuple [x900000, x900001]) h)
  (bndV (qLd h (some 7) [x3]) fun x17 =>
  bndC (f40 [x17] h) fun x18 h =>
  bndV (kUn .not [x18]) fun x19 =>
  (f140_3 x2 x3 x4 x5 x19 h))
noncomputable def f140 (vs : List V) (h : HT) : Option J := unc vs fun x0 vs =>
  unc vs fun x1 vs =>
  bndN (kBox [x0]) h fun x2 h =>
  bndN (kBox [x1]) h fun x3 h =>
  bndN (kAlloc [(.slice none 0 true 0), (.int .i64 (.ofNat (nat_lit 0))), (.int .i64 (.ofNat (nat_lit 0))), (.bool false), (.str (sb [])), (.int .i64 (.ofNat (nat_lit 0))), (.slice none 0 true 0), (.int .i64 (.ofNat (nat_lit 0))), (.int .i64 (.ofNat (nat_lit 0))), (.bool false), (.str (sb [])), (.int .i64 (.ofNat (nat_lit 0))), (.slice none 0 true 0), (.int .i64 (.ofNat (nat_lit 0))), (.int .i64 (.ofNat (nat_lit 0))), (.bool false), (.str (sb [])), (.int .i64 (.ofNat (nat_lit 0))), (.slice none 0 true 0), (.int .i64 (.ofNat (nat_lit 0))), (.int .i64 (.ofNat (nat_lit 0))), (.bool false), (.str (sb [])), (.int .i64 (.ofNat (nat_lit 0))), (.slice none 0 true 0), (.int .i64 (.ofNat (nat_lit 0))), (.int .i64 (.ofNat (nat_lit 0))), (.bool false), (.str (sb [])), (.int .i64 (.ofNat (nat_lit 0))), (.slice none 0 true 0), (.int .i64 (.ofNat (nat_lit 0))), (.int .i64 (.ofNat (nat_lit 0))), (.bool false), (.str (sb [])), (.int .i64 (.ofNat (nat_lit 0))), (.slice none 0 true 0), (.int .i64 (.ofNat (nat_lit 0))), (.int .i64 (.ofNat (nat_lit 0))), (.bool false), (.str (sb [])), (.int .i64 (.ofNat (nat_lit 0))), (.slice none 0 true 0), (.int .i64 (.ofNat (nat_lit 0))), (.int .i64 (.ofNat (nat_lit 0))), (.bool false), (.str (sb [])), (.int .i64 (.ofNat (nat_lit 0))), (.slice none 0 true 0)] []) h fun x4 h =>
  bndN (kAlloc [(.int .i64 (.ofNat (nat_lit 0))), (.bool false), (.str (sb [])), (.int .i64 (.ofNat (nat_lit 0))), (.slice none 0 true 0)] []) h fun x5 h =>
  bndV (qLd h (some 49) [x2]) fun x10 =>
  bndC (f139 [x10] h) fun x11 h =>
  bndE (dSt h 49 [x2, x11]) h fun _ h =>
  (f140_4 x2 x3 x4 x5 h)
def a140 : List Ann := [.no, .no, .no, .no, .no]
theorem e140 : f140 = evFun Tryz.prog 140 2 a140 t140 := by kernel_rfl
theorem o140 : FnOk Tryz.prog 140 f140 := .of hmO (show enters Tryz.prog 140 = true by kernel_rfl) e140 (.cons o40 (.cons o139 (.cons o215 (.cons o216 (.cons o217 (.nil))))))

/- concord/inst.New -/
noncomputable def l302 : List (Nat × (List V → HT → Option J)) := []
noncomputable def t302 : Fns := tab l302
noncomputable def f302_0 (rc : List V → HT → Option J) (x3 : V) (x9 : V) (x10 : V) (x11 : V) (h : HT) : Option J := bndV (kBin .lss [x11, x10]) fun x12 =>
  tstv x12 (bndV (kIaS 2 [x9, x11]) fun x13 =>
  bndV (qLd h (some 2) [x13]) fun x14 =>
  bndN (kAlloc [(.int .i64 (.ofNat (nat_lit 0))), (.int .i64 (.ofNat (nat_lit 0)))] []) h fun x5 h =>
  bndE (dSt h 2 [x5, x14]) h fun _ h =>
  bndV (kNilc [x3]) fun x16 =>
  bndV (kFa 0 [x16]) fun x17 =>
  bndV (qLd h none [x17]) fun x18 =>
  bndV (qLd h (some 2) [x5]) fun x19 =>
  bndV (kBld [] [] []) fun x20 =>
  bndE (dMset h true [.i, .i] [x18, x19, x20]) h fun _ h =>
  bndV (kBin .add [x11, (.int .i64 (.ofNat (nat_lit 1)))]) fun x21 =>
  rc [x3, x9, x10, x21] h)
  (some ⟨0, [x3], h⟩)
noncomputable def f302 (vs : List V) (h : HT) : Option J := unc vs fun x0 vs =>
  bndN (kMkM []) h fun x6 h =>
  bndV (kBld [(.map none)] [(0, 1)] [x6]) fun x7 =>
  bndN (kBox [x7]) h fun x8 h =>
  bndV (kLenS [x0]) fun x10 =>
  bndJ (loopF (fun rc vs h => unc vs fun x3 vs =>
  unc vs fun x9 vs =>
  unc vs fun x10 vs =>
  unc vs fun x11 vs =>
  (f302_0 rc x3 x9 x10 x11 h)) 1000000 [x8, x0, x10, (.int .i64 (.ofNat (nat_lit 0)))] h)
  fun j vs h => unc vs fun x3 vs =>
  ret1 x3 h
def a302 : List Ann := [.no, .loop [3, 9, 10, 11] [((.exit 0), [3])], .no, .no]
theorem e302 : f302 = evFun Tryz.prog 302 1 a302 t302 := by kernel_rfl
theorem o302 : FnOk Tryz.prog 302 f302 := .of hmO (show enters Tryz.prog 302 = true by kernel_rfl) e302 (.nil)

/- (*concord/exec.plan).beyond -/
noncomputable def l303 : List (Nat × (List V → HT → Option J)) := []
noncomputable def t303 : Fns := tab l303
noncomputable def f303_0 (rc : List V → HT → Option J) (x3 : V) (x5 : V) (x10 : V) (x14 : V) (h : HT) : Option J := bndE (dSt h 2 [x5, x14]) h fun _ h =>
  bndV (kFa 0 [x5]) fun x15 =>
  bndV (qLd h none [x15]) fun x16 =>
  bndV (kFa 0 [x3]) fun x17 =>
  bndV (qLd h none [x17]) fun x18 =>
  bndV (kBin .eql [x16, x18]) fun x19 =>
  bndC (gsel x19 true (retV (kFa 1 [x5]) h) h) fun x21 h =>
  bndC (gsel x19 true (retV (qLd h none [x21]) h) h) fun x22 h =>
  bndC (gsel x19 true (retV (kFa 1 [x3]) h) h) fun x23 h =>
  bndC (gsel x19 true (retV (qLd h none [x23]) h) h) fun x24 h =>
  bndC (gsel x19 true (retV (kBin .gtr [x22, x24]) h) h) fun x25 h =>
  bndV (kPick [x19, x25, (.bool false)]) fun x26 =>
  tstv x26 (some ⟨1, [(.bool true)], h⟩)
  (rc [x3, x10] h)
noncomputable def f303_1 (x3 : V) (x10 : V) (h : HT) : Option J := bndJ (loopF (fun rc vs h => unc vs fun x3 vs =>
  unc vs fun x10 vs =>
  bndE (dNx h [x10]) h fun x11 h =>
  bndV (kExt 0 [x11]) fun x12 =>
  tstv x12 (bndV (kEnt h.heap [x10]) fun x13 =>
  bndV (kExt 0 [x13]) fun x14 =>
  bndN (kAlloc [(.int .i64 (.ofNat (nat_lit 0))), (.int .i64 (.ofNat (nat_lit 0)))] []) h fun x5 h =>
  (f303_0 rc x3 x5 x10 x14 h))
  (some ⟨0, [], h⟩)) 1000000 [x3, x10] h)
  fun j vs h => nsw j (ret1 (.bool false) h)
  fun j => unc vs fun x4 vs =>
  ret1 x4 h
noncomputable def f303 (vs : List V) (h : HT) : Option J := unc vs fun x0 vs =>
  unc vs fun x1 vs =>
  bndN (kBox [x1]) h fun x3 h =>
  bndV (kNilc [x0]) fun x7 =>
  bndV (kFa 7 [x7]) fun x8 =>
  bndV (qLd h none [x8]) fun x9 =>
  bndN (kRng h.heap [x9]) h fun x10 h =>
  (f303_1 x3 x10 h)
def a303 : List Ann := [.no, .loop [3, 10] [((.exit 0), []), (.ret, [4])], .no, .no, .no]
theorem e303 : f303 = evFun Tryz.prog 303 2 a303 t303 := by kernel_rfl
theorem o303 : FnOk Tryz.prog 303 f303 := .of hmO (show enters Tryz.prog 303 = true by kernel_rfl) e303 (.nil)

/- concord/exec.upto -/
noncomputable def l343 : List (Nat × (List V → HT → Option J)) := []
noncomputable def t343 : Fns := tab l343
noncomputable def f343_0 (x2 : V) (x3 : V) (x4 : V) (x10 : V) (h : HT) : Option J := tstv x10 (bndV (kFa 12 [x4]) fun x12 =>
  bndV (kFa 1 [x12]) fun x13 =>
  bndV (kIaA 7 1 [x13, x2]) fun x14 =>
  bndV (qLd h none [x14]) fun x15 =>
  bndV (kFa 1 [x3]) fun x16 =>
  bndV (qLd h none [x16]) fun x17 =>
  bndV (kBin .sub [x17, (.int .i64 (.ofNat (nat_lit 1)))]) fun x18 =>
  bndV (kMaxI [x15, x18]) fun x19 =>
  ret1 x19 h)
  (bndV (kFa 12 [x4]) fun x21 =>
  bndV (kFa 1 [x21]) fun x22 =>
  bndV (kIaA 7 1 [x22, x2]) fun x23 =>
  bndV (qLd h none [x23]) fun x24 =>
  ret1 x24 h)
noncomputable def f343 (vs : List V) (h : HT) : Option J := unc vs fun x0 vs =>
  unc vs fun x1 vs =>
  unc vs fun x2 vs =>
  bndN (kBox [x0]) h fun x3 h =>
  bndN (kBox [x1]) h fun x4 h =>
  bndV (kFa 0 [x3]) fun x8 =>
  bndV (qLd h none [x8]) fun x9 =>
  bndV (kBin .eql [x2, x9]) fun x10 =>
  (f343_0 x2 x3 x4 x10 h)
def a343 : List Ann := [.no]
theorem e343 : f343 = evFun Tryz.prog 343 3 a343 t343 := by kernel_rfl
theorem o343 : FnOk Tryz.prog 343 f343 := .of hmO (show enters Tryz.prog 343 = true by kernel_rfl) e343 (.nil)

/- (*concord/exec.plan).hangs -/
noncomputable def l305 : List (Nat × (List V → HT → Option J)) := [(302, f302), (343, f343)]
noncomputable def t305 : Fns := tab l305
noncomputable def f305_0 (rc : List V → HT → Option J) (x0 : V) (x5 : V) (x6 : V) (x7 : V) (x8 : V) (x9 : V) (x10 : V) (x11 : V) (x12 : V) (x13 : V) (x14 : V) (x41 : V) (x77 : V) (h : HT) : Option J := bndJ (tstv x77 (bndV (qLd h (some 2) [x14]) fun x79 =>
  bndN (kBsl 2 1 [(.int .i64 (.ofNat (nat_lit 0))), (.int .i64 (.ofNat (nat_lit 0)))] [(0, 2)] [x79]) h fun x80 h =>
  bndE (dApp h 2 16 [x7, x80]) h fun x81 h =>
  some ⟨0, [x0, x5, x6, x81, x8, x9, x10, x11, x12, x13, x41], h⟩)
  (some ⟨0, [x0, x5, x6, x7, x8, x9, x10, x11, x12, x13, x41], h⟩))
  fun j vs h => unc vs fun x0 vs =>
  unc vs fun x5 vs =>
  unc vs fun x6 vs =>
  unc vs fun x7 vs =>
  unc vs fun x8 vs =>
  unc vs fun x9 vs =>
  unc vs fun x10 vs =>
  unc vs fun x11 vs =>
  unc vs fun x12 vs =>
  unc vs fun x13 vs =>
  unc vs fun x41 vs =>
  bndV (kBin .add [x13, (.int .i64 (.ofNat (nat_lit 1)))]) fun x59 =>
  rc [x0, x5, x6, x7, x8, x9, x10, x11, x12, x59, x41] h
noncomputable def f305_1 (rc : List V → HT → Option J) (x0 : V) (x5 : V) (x6 : V) (x7 : V) (x8 : V) (x9 : V) (x10 : V) (x11 : V) (x12 : V) (x13 : V) (x14 : V) (x41 : V) (x66 : V) (h : HT) : Option J := bndV (qLd h none [x66]) fun x67 =>
  bndV (qLd h (some 2) [x14]) fun x68 =>
  bndV (kLkp h.heap true [.i, .i] (.agg [(.int .i64 (.ofNat (nat_lit 0))), (.int .i64 (.ofNat (nat_lit 0))), (.int .i64 (.ofNat (nat_lit 0))), (.int .i64 (.ofNat (nat_lit 0))), (.int .i64 (.ofNat (nat_lit 0))), (.int .i64 (.ofNat (nat_lit 0))), (.int .i64 (.ofNat (nat_lit 0))), (.int .i64 (.ofNat (nat_lit 0))), (.str (sb [])), (.str (sb [])), (.str (sb [])), (.str (sb [])), (.int .i64 (.ofNat (nat_lit 0))), (.int .i64 (.ofNat (nat_lit 0))), (.int .i64 (.ofNat (nat_lit 0))), (.int .i64 (.ofNat (nat_lit 0))), (.int .i64 (.ofNat (nat_lit 0))), (.int .i64 (.ofNat (nat_lit 0))), (.int .i64 (.ofNat (nat_lit 0))), (.int .i64 (.ofNat (nat_lit 0))), (.bool false)]) true [x67, x68]) fun x69 =>
  bndV (kExt 0 [x69]) fun x70 =>
  bndV (kExt 1 [x69]) fun x71 =>
  bndN (kAlloc [(.int .i64 (.ofNat (nat_lit 0))), (.int .i64 (.ofNat (nat_lit 0))), (.int .i64 (.ofNat (nat_lit 0))), (.int .i64 (.ofNat (nat_lit 0))), (.int .i64 (.ofNat (nat_lit 0))), (.int .i64 (.ofNat (nat_lit 0))), (.int .i64 (.ofNat (nat_lit 0))), (.int .i64 (.ofNat (nat_lit 0))), (.str (sb [])), (.str (sb [])), (.str (sb [])), (.str (sb [])), (.int .i64 (.ofNat (nat_lit 0))), (.int .i64 (.ofNat (nat_lit 0))), (.int .i64 (.ofNat (nat_lit 0))), (.int .i64 (.ofNat (nat_lit 0))), (.int .i64 (.ofNat (nat_lit 0))), (.int .i64 (.ofNat (nat_lit 0))), (.int .i64 (.ofNat (nat_lit 0))), (.int .i64 (.ofNat (nat_lit 0))), (.bool false)] []) h fun x15 h =>
  bndE (dSt h 21 [x15, x70]) h fun _ h =>
  bndV (kUn .not [x71]) fun x73 =>
  tstv x73 (bndV (qLd h (some 2) [x14]) fun x74 =>
  bndE (dSt h 2 [x5, x74]) h fun _ h =>
  some ⟨1, [(.slice none 0 true 0), x5], h⟩)
  (bndV (qLd h (some 2) [x14]) fun x76 =>
  bndC (noF [x6, x76] h) fun x77 h =>
  (f305_0 rc x0 x5 x6 x7 x8 x9 x10 x11 x12 x13 x14 x41 x77 h))
noncomputable def f305_2 (rc : List V → HT → Option J) (x0 : V) (x5 : V) (x6 : V) (x7 : V) (x8 : V) (vs : List V) (h : HT) : Option J := unc vs fun x9 vs =>
  unc vs fun x10 vs =>
  unc vs fun x11 vs =>
  unc vs fun x12 vs =>
  unc vs fun x13 vs =>
  unc vs fun x41 vs =>
  bndV (kBin .leq [x13, x12]) fun x57 =>
  tstv x57 (bndV (kBld [(.int .i64 (.ofNat (nat_lit 0))), (.int .i64 (.ofNat (nat_lit 0)))] [(0, 1), (1, 1)] [x11, x13]) fun x62 =>
  bndN (kAlloc [(.int .i64 (.ofNat (nat_lit 0))), (.int .i64 (.ofNat (nat_lit 0)))] []) h fun x14 h =>
  bndE (dSt h 2 [x14, x62]) h fun _ h =>
  bndV (kNilc [x0]) fun x65 =>
  bndV (kFa 7 [x65]) fun x66 =>
  (f305_1 rc x0 x5 x6 x7 x8 x9 x10 x11 x12 x13 x14 x41 x66 h))
  (some ⟨0, [x0, x5, x6, x7, x8, x9, x10, x41], h⟩)
noncomputable def f305_3 (rc : List V → HT → Option J) (x0 : V) (x5 : V) (x6 : V) (x7 : V) (x8 : V) (x9 : V) (x10 : V) (x41 : V) (x47 : V) (x54 : V) (h : HT) : Option J := bndJ (loopF (fun rc vs h => unc vs fun x0 vs =>
  unc vs fun x5 vs =>
  unc vs fun x6 vs =>
  unc vs fun x7 vs =>
  unc vs fun x8 vs =>
  (f305_2 rc x0 x5 x6 x7 x8 vs h)) 1000000 [x0, x5, x6, x7, x8, x9, x10, x41, x47, x54, x41] h)
  fun j vs h => nsw j (unc vs fun x0 vs =>
  unc vs fun x5 vs =>
  unc vs fun x6 vs =>
  unc vs fun x7 vs =>
  unc vs fun x8 vs =>
  unc vs fun x9 vs =>
  unc vs fun x10 vs =>
  unc vs fun x41 vs =>
  bndV (kBin .add [x41, (.int .i64 (.ofNat (nat_lit 1)))]) fun x82 =>
  rc [x0, x5, x6, x7, x8, x9, x10, x82] h)
  fun j => unc vs fun x4 vs =>
  unc vs fun x5 vs =>
  some ⟨1, [x4, x5], h⟩
noncomputable def f305_4 (rc : List V → HT → Option J) (x0 : V) (x5 : V) (x6 : V) (x7 : V) (x8 : V) (vs : List V) (h : HT) : Option J := unc vs fun x9 vs =>
  unc vs fun x10 vs =>
  unc vs fun x41 vs =>
  bndV (kBin .lss [x41, (.int .i64 (.ofNat (nat_lit 7)))]) fun x42 =>
  tstv x42 (bndV (qLd h (some 2) [x9]) fun x44 =>
  bndV (qLd h (some 21) [x10]) fun x45 =>
  bndC (f343 [x44, x45, x41] h) fun x47 h =>
  bndV (kNilc [x0]) fun x50 =>
  bndV (kFa 0 [x50]) fun x51 =>
  bndV (kIaA 7 1 [x51, x41]) fun x52 =>
  bndV (qLd h none [x52]) fun x53 =>
  bndV (kBin .add [x53, (.int .i64 (.ofNat (nat_lit 1)))]) fun x54 =>
  (f305_3 rc x0 x5 x6 x7 x8 x9 x10 x41 x47 x54 h))
  (some ⟨0, [x0, x5, x6, x7, x8], h⟩)
noncomputable def f305_5 (rc : List V → HT → Option J) (x0 : V) (x5 : V) (x6 : V) (x7 : V) (x8 : V) (x9 : V) (x10 : V) (h : HT) : Option J := bndJ (loopF (fun rc vs h => unc vs fun x0 vs =>
  unc vs fun x5 vs =>
  unc vs fun x6 vs =>
  unc vs fun x7 vs =>
  unc vs fun x8 vs =>
  (f305_4 rc x0 x5 x6 x7 x8 vs h)) 1000000 [x0, x5, x6, x7, x8, x9, x10, (.int .i64 (.ofNat (nat_lit 0)))] h)
  fun j vs h => nsw j (unc vs fun x0 vs =>
  unc vs fun x5 vs =>
  unc vs fun x6 vs =>
  unc vs fun x7 vs =>
  unc vs fun x8 vs =>
  bndV (kBin .add [x8, (.int .i64 (.ofNat (nat_lit 1)))]) fun x27 =>
  rc [x0, x5, x6, x7, x27] h)
  fun j => unc vs fun x4 vs =>
  unc vs fun x5 vs =>
  some ⟨1, [x4, x5], h⟩
noncomputable def f305_6 (rc : List V → HT → Option J) (x0 : V) (x5 : V) (x6 : V) (x7 : V) (x8 : V) (x29 : V) (h : HT) : Option J := tstv x29 (bndV (kBld [(.int .i64 (.ofNat (nat_lit 0))), (.int .i64 (.ofNat (nat_lit 0)))] [] []) fun x30 =>
  bndE (dSt h 2 [x5, x30]) h fun _ h =>
  some ⟨1, [(.slice none 0 true 0), x5], h⟩)
  (bndV (kIaS 2 [x7, x8]) fun x33 =>
  bndV (qLd h (some 2) [x33]) fun x34 =>
  bndN (kAlloc [(.int .i64 (.ofNat (nat_lit 0))), (.int .i64 (.ofNat (nat_lit 0)))] []) h fun x9 h =>
  bndE (dSt h 2 [x9, x34]) h fun _ h =>
  bndV (kNilc [x0]) fun x36 =>
  bndV (kFa 7 [x36]) fun x37 =>
  bndV (qLd h none [x37]) fun x38 =>
  bndV (qLd h (some 2) [x9]) fun x39 =>
  bndV (kLkp h.heap true [.i, .i] (.agg [(.int .i64 (.ofNat (nat_lit 0))), (.int .i64 (.ofNat (nat_lit 0))), (.int .i64 (.ofNat (nat_lit 0))), (.int .i64 (.ofNat (nat_lit 0))), (.int .i64 (.ofNat (nat_lit 0))), (.int .i64 (.ofNat (nat_lit 0))), (.int .i64 (.ofNat (nat_lit 0))), (.int .i64 (.ofNat (nat_lit 0))), (.str (sb [])), (.str (sb [])), (.str (sb [])), (.str (sb [])), (.int .i64 (.ofNat (nat_lit 0))), (.int .i64 (.ofNat (nat_lit 0))), (.int .i64 (.ofNat (nat_lit 0))), (.int .i64 (.ofNat (nat_lit 0))), (.int .i64 (.ofNat (nat_lit 0))), (.int .i64 (.ofNat (nat_lit 0))), (.int .i64 (.ofNat (nat_lit 0))), (.int .i64 (.ofNat (nat_lit 0))), (.bool false)]) false [x38, x39]) fun x40 =>
  bndN (kAlloc [(.int .i64 (.ofNat (nat_lit 0))), (.int .i64 (.ofNat (nat_lit 0))), (.int .i64 (.ofNat (nat_lit 0))), (.int .i64 (.ofNat (nat_lit 0))), (.int .i64 (.ofNat (nat_lit 0))), (.int .i64 (.ofNat (nat_lit 0))), (.int .i64 (.ofNat (nat_lit 0))), (.int .i64 (.ofNat (nat_lit 0))), (.str (sb [])), (.str (sb [])), (.str (sb [])), (.str (sb [])), (.int .i64 (.ofNat (nat_lit 0))), (.int .i64 (.ofNat (nat_lit 0))), (.int .i64 (.ofNat (nat_lit 0))), (.int .i64 (.ofNat (nat_lit 0))), (.int .i64 (.ofNat (nat_lit 0))), (.int .i64 (.ofNat (nat_lit 0))), (.int .i64 (.ofNat (nat_lit 0))), (.int .i64 (.ofNat (nat_lit 0))), (.bool false)] []) h fun x10 h =>
  bndE (dSt h 21 [x10, x40]) h fun _ h =>
  (f305_5 rc x0 x5 x6 x7 x8 x9 x10 h))
noncomputable def f305_7 (x0 : V) (x5 : V) (x19 : V) (x21 : V) (h : HT) : Option J := bndJ (loopF (fun rc vs h => unc vs fun x0 vs =>
  unc vs fun x5 vs =>
  unc vs fun x6 vs =>
  unc vs fun x7 vs =>
  unc vs fun x8 vs =>
  bndV (kLenS [x7]) fun x24 =>
  bndV (kBin .lss [x8, x24]) fun x25 =>
  tstv x25 (bndV (kBin .eql [x8, (.int .i64 (.ofNat (nat_lit 512)))]) fun x29 =>
  (f305_6 rc x0 x5 x6 x7 x8 x29 h))
  (some ⟨0, [x5, x7], h⟩)) 1000000 [x0, x5, x19, x21, (.int .i64 (.ofNat (nat_lit 0)))] h)
  fun j vs h => nsw j (unc vs fun x5 vs =>
  unc vs fun x7 vs =>
  bndV (kBld [(.int .i64 (.ofNat (nat_lit 0))), (.int .i64 (.ofNat (nat_lit 0)))] [] []) fun x84 =>
  bndE (dSt h 2 [x5, x84]) h fun _ h =>
  bndV (qLd h (some 2) [x5]) fun x900000 =>
  ret1 (.tuple [x7, x900000]) h)
  fun j => unc vs fun x4 vs =>
  unc vs fun x5 vs =>
  bndV (qLd h (some 2) [x5]) fun x900000 =>
  ret1 (.tuple [x4, x900000]) h
noncomputable def f305 (vs : List V) (h : HT) : Option J := unc vs fun x0 vs =>
  unc vs fun x1 vs =>
  bndN (kBox [x1]) h fun x3 h =>
  bndN (kAlloc [(.int .i64 (.ofNat (nat_lit 0))), (.int .i64 (.ofNat (nat_lit 0)))] []) h fun x5 h =>
  bndV (qLd h (some 2) [x3]) fun x17 =>
  bndN (kBsl 2 1 [(.int .i64 (.ofNat (nat_lit 0))), (.int .i64 (.ofNat (nat_lit 0)))] [(0, 2)] [x17]) h fun x18 h =>
  bndC (f302 [x18] h) fun x19 h =>
  bndV (qLd h (some 2) [x3]) fun x20 =>
  bndN (kBsl 2 1 [(.int .i64 (.ofNat (nat_lit 0))), (.int .i64 (.ofNat (nat_lit 0)))] [(0, 2)] [x20]) h fun x21 h =>
  (f305_7 x0 x5 x19 x21 h)
def a305 : List Ann := [.no, .loop [0, 5, 6, 7, 8] [((.exit 0), [5, 7]), (.ret, [4, 5])], .no, .no, .no, .no, .loop [0, 5, 6, 7, 8, 9, 10, 41] [((.exit 2), [0, 5, 6, 7, 8]), (.ret, [4, 5])], .no, .no, .no, .loop [0, 5, 6, 7, 8, 9, 10, 11, 12, 13, 41] [((.exit 4), [0, 5, 6, 7, 8, 9, 10, 41]), (.ret, [4, 5])], .no, .no, .no, .join [(.normal, [0, 5, 6, 7, 8, 9, 10, 11, 12, 13, 41])]]
theorem e305 : f305 = evFun Tryz.prog 305 2 a305 t305 := by kernel_rfl
theorem o305 : FnOk Tryz.prog 305 f305 := .of hmO (show enters Tryz.prog 305 = true by kernel_rfl) e305 (.cons o302 (.cons o343 (.nil)))

/- slices.insertionSortCmpFunc[concord/api.Inst] -/
noncomputable def l350 : List (Nat × (List V → HT → Option J)) := []
noncomputable def t350 : Fns := tab l350
noncomputable def f350_0 (rc : List V → HT → Option J) (x0 : V) (x1 : V) (x2 : V) (x3 : V) (x8 : V) (x9 : V) (x20 : V) (x33 : V) (h : HT) : Option J := bndV (kPick [x20, x33, (.bool false)]) fun x34 =>
  tstv x34 (bndV (kBin .sub [x9, (.int .i64 (.ofNat (nat_lit 1)))]) fun x41 =>
  bndV (kBin .sub [x9, (.int .i64 (.ofNat (nat_lit 1)))]) fun x44 =>
  bndV (kIaS 2 [x0, x44]) fun x45 =>
  bndV (qLd h (some 2) [x45]) fun x46 =>
  bndV (kIaS 2 [x0, x9]) fun x49 =>
  bndV (qLd h (some 2) [x49]) fun x50 =>
  bndV (kIaS 2 [x0, x9]) fun x51 =>
  bndE (dSt h 2 [x51, x46]) h fun _ h =>
  bndV (kIaS 2 [x0, x41]) fun x52 =>
  bndE (dSt h 2 [x52, x50]) h fun _ h =>
  bndV (kBin .sub [x9, (.int .i64 (.ofNat (nat_lit 1)))]) fun x36 =>
  rc [x0, x1, x2, x3, x8, x36] h)
  (some ⟨0, [x0, x1, x2, x3, x8], h⟩)
noncomputable def f350_1 (rc : List V → HT → Option J) (x0 : V) (x1 : V) (x2 : V) (x3 : V) (x8 : V) (vs : List V) (h : HT) : Option J := unc vs fun x9 vs =>
  bndV (kBin .gtr [x9, x1]) fun x20 =>
  bndC (gsel x20 true (retV (kMov [x3]) h) h) fun x22 h =>
  bndC (gsel x20 true (retV (kMov [x0]) h) h) fun x23 h =>
  bndC (gsel x20 true (retV (kMov [x9]) h) h) fun x24 h =>
  bndC (gsel x20 true (retV (kIaS 2 [x23, x24]) h) h) fun x25 h =>
  bndC (gsel x20 true (retV (qLd h (some 2) [x25]) h) h) fun x26 h =>
  bndC (gsel x20 true (retV (kMov [x0]) h) h) fun x27 h =>
  bndC (gsel x20 true (retV (kMov [x9]) h) h) fun x28 h =>
  bndC (gsel x20 true (retV (kBin .sub [x28, (.int .i64 (.ofNat (nat_lit 1)))]) h) h) fun x29 h =>
  bndC (gsel x20 true (retV (kIaS 2 [x27, x29]) h) h) fun x30 h =>
  bndC (gsel x20 true (retV (qLd h (some 2) [x30]) h) h) fun x31 h =>
  bndC (gsel x20 true (callvT t350 [x22, x26, x31] h) h) fun x32 h =>
  bndC (gsel x20 true (retV (kBin .lss [x32, (.int .i64 (.ofNat (nat_lit 0)))]) h) h) fun x33 h =>
  (f350_0 rc x0 x1 x2 x3 x8 x9 x20 x33 h)
noncomputable def f350_2 (rc : List V → HT → Option J) (x0 : V) (x1 : V) (x2 : V) (x3 : V) (x8 : V) (h : HT) : Option J := bndJ (loopF (fun rc vs h => unc vs fun x0 vs =>
  unc vs fun x1 vs =>
  unc vs fun x2 vs =>
  unc vs fun x3 vs =>
  unc vs fun x8 vs =>
  (f350_1 rc x0 x1 x2 x3 x8 vs h)) 1000000 [x0, x1, x2, x3, x8, x8] h)
  fun j vs h => unc vs fun x0 vs =>
  unc vs fun x1 vs =>
  unc vs fun x2 vs =>
  unc vs fun x3 vs =>
  unc vs fun x8 vs =>
  bndV (kBin .add [x8, (.int .i64 (.ofNat (nat_lit 1)))]) fun x16 =>
  rc [x0, x1, x2, x3, x16] h
noncomputable def f350_3 (x0 : V) (x1 : V) (vs : List V) (h : HT) : Option J := unc vs fun x2 vs =>
  unc vs fun x3 vs =>
  bndV (kBin .add [x1, (.int .i64 (.ofNat (nat_lit 1)))]) fun x11 =>
  bndJ (loopF (fun rc vs h => unc vs fun x0 vs =>
  unc vs fun x1 vs =>
  unc vs fun x2 vs =>
  unc vs fun x3 vs =>
  unc vs fun x8 vs =>
  bndV (kBin .lss [x8, x2]) fun x14 =>
  tstv x14 ((f350_2 rc x0 x1 x2 x3 x8 h))
  (some ⟨0, [], h⟩)) 1000000 [x0, x1, x2, x3, x11] h)
  fun j vs h => ret1 (.tuple []) h
noncomputable def f350 (vs : List V) (h : HT) : Option J := unc vs fun x0 vs =>
  unc vs fun x1 vs =>
  (f350_3 x0 x1 vs h)
def a350 : List Ann := [.no, .loop [0, 1, 2, 3, 8] [((.exit 0), [])], .no, .no, .no, .loop [0, 1, 2, 3, 8, 9] [((.exit 2), [0, 1, 2, 3, 8])], .no, .no]
theorem e350 : f350 = evFun Tryz.prog 350 4 a350 t350 := by kernel_rfl
theorem o350 : FnOk Tryz.prog 350 f350 := .of hmO (show enters Tryz.prog 350 = true by kernel_rfl) e350 (.nil)

/- slices.pdqsortCmpFunc[concord/api.Inst] -/
noncomputable def l314 : List (Nat × (List V → HT → Option J)) := [(350, f350)]
noncomputable def t314 : Fns := tab l314
noncomputable def f314_0 (rc : List V → HT → Option J) (x0 : V) (x1 : V) (x2 : V) (x3 : V) (x4 : V) (x12 : V) (x111 : V) (h : HT) : Option J := bndV (kExt 0 [x111]) fun x112 =>
  bndV (kExt 1 [x111]) fun x113 =>
  bndV (kBin .sub [x112, x1]) fun x117 =>
  bndV (kBin .sub [x2, x112]) fun x120 =>
  bndV (kBin .quo [x12, (.int .i64 (.ofNat (nat_lit 8)))]) fun x122 =>
  bndV (kBin .lss [x117, x120]) fun x125 =>
  tstv x125 (bndV (kBin .geq [x117, x122]) fun x128 =>
  bndC (noF [x0, x1, x112, x3, x4] h) fun x134 h =>
  bndV (kBin .add [x112, (.int .i64 (.ofNat (nat_lit 1)))]) fun x136 =>
  rc [x0, x136, x2, x3, x4, x128, x113] h)
  (bndV (kBin .geq [x120, x122]) fun x139 =>
  bndV (kBin .add [x112, (.int .i64 (.ofNat (nat_lit 1)))]) fun x142 =>
  bndC (noF [x0, x142, x2, x3, x4] h) fun x146 h =>
  rc [x0, x1, x112, x3, x4, x139, x113] h)
noncomputable def f314_1 (rc : List V → HT → Option J) (x0 : V) (x1 : V) (x2 : V) (x3 : V) (x4 : V) (x10 : V) (x11 : V) (x12 : V) (x13 : V) (x82 : V) (x84 : V) (x85 : V) (x87 : V) (h : HT) : Option J := bndC (gsel x82 true (retV (kIaS 2 [x85, x87]) h) h) fun x88 h =>
  bndC (gsel x82 true (retV (qLd h (some 2) [x88]) h) h) fun x89 h =>
  bndC (gsel x82 true (retV (kMov [x0]) h) h) fun x90 h =>
  bndC (gsel x82 true (retV (kMov [x13]) h) h) fun x91 h =>
  bndC (gsel x82 true (retV (kIaS 2 [x90, x91]) h) h) fun x92 h =>
  bndC (gsel x82 true (retV (qLd h (some 2) [x92]) h) h) fun x93 h =>
  bndC (gsel x82 true (callvT t314 [x84, x89, x93] h) h) fun x94 h =>
  bndC (gsel x82 true (retV (kBin .lss [x94, (.int .i64 (.ofNat (nat_lit 0)))]) h) h) fun x95 h =>
  bndC (gsel x82 true (retV (kUn .not [x95]) h) h) fun x96 h =>
  bndV (kPick [x82, x96, (.bool false)]) fun x97 =>
  tstv x97 (bndC (noF [x0, x1, x2, x13, x4] h) fun x103 h =>
  rc [x0, x103, x2, x3, x4, x10, x11] h)
  (bndC (noF [x0, x1, x2, x13, x4] h) fun x111 h =>
  (f314_0 rc x0 x1 x2 x3 x4 x12 x111 h))
noncomputable def f314_2 (rc : List V → HT → Option J) (vs : List V) (h : HT) : Option J := unc vs fun x0 vs =>
  unc vs fun x1 vs =>
  unc vs fun x2 vs =>
  unc vs fun x3 vs =>
  unc vs fun x4 vs =>
  unc vs fun x10 vs =>
  unc vs fun x11 vs =>
  unc vs fun x12 vs =>
  unc vs fun x13 vs =>
  bndV (kBin .gtr [x1, (.int .i64 (.ofNat (nat_lit 0)))]) fun x82 =>
  bndC (gsel x82 true (retV (kMov [x4]) h) h) fun x84 h =>
  bndC (gsel x82 true (retV (kMov [x0]) h) h) fun x85 h =>
  bndC (gsel x82 true (retV (kMov [x1]) h) h) fun x86 h =>
  bndC (gsel x82 true (retV (kBin .sub [x86, (.int .i64 (.ofNat (nat_lit 1)))]) h) h) fun x87 h =>
  (f314_1 rc x0 x1 x2 x3 x4 x10 x11 x12 x13 x82 x84 x85 x87 h)
noncomputable def f314_3 (rc : List V → HT → Option J) (x0 : V) (x1 : V) (x2 : V) (x3 : V) (x4 : V) (x10 : V) (x11 : V) (x12 : V) (x13 : V) (x14 : V) (h : HT) : Option J := bndC (gsel x10 true (retV (kMov [x11]) h) h) fun x70 h =>
  bndV (kPick [x10, x70, (.bool false)]) fun x71 =>
  bndC (gsel x71 true (retV (kMov [x14]) h) h) fun x73 h =>
  bndC (gsel x71 true (retV (kBin .eql [x73, (.int .i64 (.ofNat (nat_lit 1)))]) h) h) fun x74 h =>
  bndV (kPick [x71, x74, (.bool false)]) fun x75 =>
  bndJ (tstv x75 (bndC (noF [x0, x1, x2, x4] h) fun x80 h =>
  tstv x80 (some ⟨0, [], h⟩)
  (some ⟨1, [x0, x1, x2, x3, x4, x10, x11, x12, x13], h⟩))
  (some ⟨1, [x0, x1, x2, x3, x4, x10, x11, x12, x13], h⟩))
  fun j vs h => nsw j (some ⟨0, [], h⟩)
  fun j => (f314_2 rc vs h)
noncomputable def f314_4 (rc : List V → HT → Option J) (x0 : V) (x1 : V) (x2 : V) (x3 : V) (x4 : V) (x10 : V) (x11 : V) (x12 : V) (x53 : V) (x54 : V) (x56 : V) (h : HT) : Option J := bndJ (tstv x56 (bndC (noF [x0, x1, x2, x4] h) fun x61 h =>
  bndV (kBin .sub [x2, (.int .i64 (.ofNat (nat_lit 1)))]) fun x63 =>
  bndV (kBin .sub [x53, x1]) fun x66 =>
  bndV (kBin .sub [x63, x66]) fun x67 =>
  some ⟨0, [x0, x1, x2, x3, x4, x10, x11, x12, x67, (.int .i64 (.ofNat (nat_lit 1)))], h⟩)
  (some ⟨0, [x0, x1, x2, x3, x4, x10, x11, x12, x53, x54], h⟩))
  fun j vs h => unc vs fun x0 vs =>
  unc vs fun x1 vs =>
  unc vs fun x2 vs =>
  unc vs fun x3 vs =>
  unc vs fun x4 vs =>
  unc vs fun x10 vs =>
  unc vs fun x11 vs =>
  unc vs fun x12 vs =>
  unc vs fun x13 vs =>
  unc vs fun x14 vs =>
  (f314_3 rc x0 x1 x2 x3 x4 x10 x11 x12 x13 x14 h)
noncomputable def f314_5 (rc : List V → HT → Option J) (x0 : V) (x1 : V) (x2 : V) (x3 : V) (x4 : V) (x10 : V) (x11 : V) (x23 : V) (x39 : V) (h : HT) : Option J := bndJ (tstv x39 (bndC (noF [x0, x1, x2, x4] h) fun x44 h =>
  bndV (kBin .sub [x3, (.int .i64 (.ofNat (nat_lit 1)))]) fun x46 =>
  some ⟨0, [x0, x1, x2, x46, x4, x10, x11, x23], h⟩)
  (some ⟨0, [x0, x1, x2, x3, x4, x10, x11, x23], h⟩))
  fun j vs h => unc vs fun x0 vs =>
  unc vs fun x1 vs =>
  unc vs fun x2 vs =>
  unc vs fun x3 vs =>
  unc vs fun x4 vs =>
  unc vs fun x10 vs =>
  unc vs fun x11 vs =>
  unc vs fun x12 vs =>
  bndC (noF [x0, x1, x2, x4] h) fun x52 h =>
  bndV (kExt 0 [x52]) fun x53 =>
  bndV (kExt 1 [x52]) fun x54 =>
  bndV (kBin .eql [x54, (.int .i64 (.ofNat (nat_lit 2)))]) fun x56 =>
  (f314_4 rc x0 x1 x2 x3 x4 x10 x11 x12 x53 x54 x56 h)
noncomputable def f314_6 (rc : List V → HT → Option J) (x0 : V) (x1 : V) (x2 : V) (vs : List V) (h : HT) : Option J := unc vs fun x3 vs =>
  unc vs fun x4 vs =>
  unc vs fun x10 vs =>
  unc vs fun x11 vs =>
  bndV (kBin .sub [x2, x1]) fun x23 =>
  bndV (kBin .leq [x23, (.int .i64 (.ofNat (nat_lit 12)))]) fun x25 =>
  tstv x25 (bndC (f350 [x0, x1, x2, x4] h) fun x30 h =>
  some ⟨0, [], h⟩)
  (bndV (kBin .eql [x3, (.int .i64 (.ofNat (nat_lit 0)))]) fun x32 =>
  tstv x32 (bndC (noF [x0, x1, x2, x4] h) fun x37 h =>
  some ⟨0, [], h⟩)
  (bndV (kUn .not [x10]) fun x39 =>
  (f314_5 rc x0 x1 x2 x3 x4 x10 x11 x23 x39 h)))
noncomputable def f314 (vs : List V) (h : HT) : Option J := unc vs fun x0 vs =>
  unc vs fun x1 vs =>
  unc vs fun x2 vs =>
  unc vs fun x3 vs =>
  unc vs fun x4 vs =>
  bndJ (loopF (fun rc vs h => unc vs fun x0 vs =>
  unc vs fun x1 vs =>
  unc vs fun x2 vs =>
  (f314_6 rc x0 x1 x2 vs h)) 1000000 [x0, x1, x2, x3, x4, (.bool true), (.bool true)] h)
  fun j vs h => ret1 (.tuple []) h
def a314 : List Ann := [.no, .loop [0, 1, 2, 3, 4, 10, 11] [(.ret, [])], .no, .no, .no, .join [(.normal, [0, 1, 2, 3, 4, 10, 11, 12])], .join [(.normal, [0, 1, 2, 3, 4, 10, 11, 12, 13, 14])], .join [(.ret, []), (.normal, [0, 1, 2, 3, 4, 10, 11, 12, 13])], .no, .no, .no]
theorem e314 : f314 = evFun Tryz.prog 314 5 a314 t314 := by kernel_rfl
theorem o314 : FnOk Tryz.prog 314 f314 := .of hmO (show enters Tryz.prog 314 = true by kernel_rfl) e314 (.cons o350 (.nil))

/- math/bits.Len64 -/
noncomputable def l327 : List (Nat × (List V → HT → Option J)) := []
noncomputable def t327 : Fns := tab l327
noncomputable def f327_0 (x0 : V) (vs : List V) (h : HT) : Option J := unc vs fun x2 vs =>
  bndV (kBin .geq [x0, (.int .u64 (.ofNat (nat_lit 256)))]) fun x14 =>
  bndJ (tstv x14 (bndV (kBin .shr [x0, (.int .u64 (.ofNat (nat_lit 8)))]) fun x16 =>
  bndV (kBin .add [x2, (.int .i64 (.ofNat (nat_lit 8)))]) fun x18 =>
  some ⟨0, [x16, x18], h⟩)
  (some ⟨0, [x0, x2], h⟩))
  fun j vs h => unc vs fun x0 vs =>
  unc vs fun x2 vs =>
  bndV (kCvI .u8 [x0]) fun x21 =>
  bndV (kIxStr [(.str (sb [0, 1, 2, 2, 3, 3, 3, 3, 4, 4, 4, 4, 4, 4, 4, 4, 5, 5, 5, 5, 5, 5, 5, 5, 5, 5, 5, 5, 5, 5, 5, 5, 6, 6, 6, 6, 6, 6, 6, 6, 6, 6, 6, 6, 6, 6, 6, 6, 6, 6, 6, 6, 6, 6, 6, 6, 6, 6, 6, 6, 6, 6, 6, 6, 7, 7, 7, 7, 7, 7, 7, 7, 7, 7, 7, 7, 7, 7, 7, 7, 7, 7, 7, 7, 7, 7, 7, 7, 7, 7, 7, 7, 7, 7, 7, 7, 7, 7, 7, 7, 7, 7, 7, 7, 7, 7, 7, 7, 7, 7, 7, 7, 7, 7, 7, 7, 7, 7, 7, 7, 7, 7, 7, 7, 7, 7, 7, 7, 8, 8, 8, 8, 8, 8, 8, 8, 8, 8, 8, 8, 8, 8, 8, 8, 8, 8, 8, 8, 8, 8, 8, 8, 8, 8, 8, 8, 8, 8, 8, 8, 8, 8, 8, 8, 8, 8, 8, 8, 8, 8, 8, 8, 8, 8, 8, 8, 8, 8, 8, 8, 8, 8, 8, 8, 8, 8, 8, 8, 8, 8, 8, 8, 8, 8, 8, 8, 8, 8, 8, 8, 8, 8, 8, 8, 8, 8, 8, 8, 8, 8, 8, 8, 8, 8, 8, 8, 8, 8, 8, 8, 8, 8, 8, 8, 8, 8, 8, 8, 8, 8, 8, 8, 8, 8, 8, 8, 8, 8, 8, 8, 8, 8, 8, 8, 8, 8, 8, 8, 8, 8, 8, 8, 8, 8, 8, 8])), x21]) fun x22 =>
  bndV (kCvI .i64 [x22]) fun x23 =>
  bndV (kBin .add [x2, x23]) fun x24 =>
  ret1 x24 h
noncomputable def f327_1 (x0 : V) (x4 : V) (h : HT) : Option J := bndJ (tstv x4 (bndV (kBin .shr [x0, (.int .u64 (.ofNat (nat_lit 32)))]) fun x6 =>
  some ⟨0, [x6, (.int .i64 (.ofNat (nat_lit 32)))], h⟩)
  (some ⟨0, [x0, (.int .i64 (.ofNat (nat_lit 0)))], h⟩))
  fun j vs h => unc vs fun x0 vs =>
  unc vs fun x2 vs =>
  bndV (kBin .geq [x0, (.int .u64 (.ofNat (nat_lit 65536)))]) fun x8 =>
  bndJ (tstv x8 (bndV (kBin .shr [x0, (.int .u64 (.ofNat (nat_lit 16)))]) fun x10 =>
  bndV (kBin .add [x2, (.int .i64 (.ofNat (nat_lit 16)))]) fun x12 =>
  some ⟨0, [x10, x12], h⟩)
  (some ⟨0, [x0, x2], h⟩))
  fun j vs h => unc vs fun x0 vs =>
  (f327_0 x0 vs h)
noncomputable def f327 (vs : List V) (h : HT) : Option J := unc vs fun x0 vs =>
  bndV (kBin .geq [x0, (.int .u64 (.ofNat (nat_lit 4294967296)))]) fun x4 =>
  (f327_1 x0 x4 h)
def a327 : List Ann := [.join [(.normal, [0, 2])], .join [(.normal, [0, 2])], .join [(.normal, [0, 2])]]
theorem e327 : f327 = evFun Tryz.prog 327 1 a327 t327 := by kernel_rfl
theorem o327 : FnOk Tryz.prog 327 f327 := .of hmO (show enters Tryz.prog 327 = true by kernel_rfl) e327 (.nil)

/- math/bits.Len -/
noncomputable def l315 : List (Nat × (List V → HT → Option J)) := [(327, f327)]
noncomputable def t315 : Fns := tab l315

noncomputable def f315 (vs : List V) (h : HT) : Option J := unc vs fun x0 vs =>
  tstv (.bool false) (bndV (kCvI .u32 [x0]) fun x4 =>
  bndC (noF [x4] h) fun x5 h =>
  ret1 x5 h)
  (bndC (f327 [x0] h) fun x7 h =>
  ret1 x7 h)
def a315 : List Ann := [.no]
theorem e315 : f315 = evFun Tryz.prog 315 1 a315 t315 := by kernel_rfl
theorem o315 : FnOk Tryz.prog 315 f315 := .of hmO (show enters Tryz.prog 315 = true by kernel_rfl) e315 (.cons o327 (.nil))

/- slices.SortFunc[[]concord/api.Inst,concord/api.Inst] -/
noncomputable def l264 : List (Nat × (List V → HT → Option J)) := [(314, f314), (315, f315)]
noncomputable def t264 : Fns := tab l264

noncomputable def f264 (vs : List V) (h : HT) : Option J := unc vs fun x0 vs =>
  unc vs fun x1 vs =>
  bndV (kLenS [x0]) fun x6 =>
  bndV (kCvI .u64 [x6]) fun x10 =>
  bndC (f315 [x10] h) fun x11 h =>
  bndC (f314 [x0, (.int .i64 (.ofNat (nat_lit 0))), x6, x11, x1] h) fun x13 h =>
  ret1 (.tuple []) h
def a264 : List Ann := []
theorem e264 : f264 = evFun Tryz.prog 264 2 a264 t264 := by kernel_rfl
theorem o264 : FnOk Tryz.prog 264 f264 := .of hmO (show enters Tryz.prog 264 = true by kernel_rfl) e264 (.cons o314 (.cons o315 (.nil)))

/- (*concord/graph.walk).come -/
noncomputable def l384 : List (Nat × (List V → HT → Option J)) := []
noncomputable def t384 : Fns := tab l384
noncomputable def f384_0 (x0 : V) (x1 : V) (x4 : V) (x25 : V) (x34 : V) (x36 : V) (h : HT) : Option J := bndE (dSt h 1 [x36, x34]) h fun _ h =>
  bndV (kIaS 1 [x25, x1]) fun x37 =>
  bndE (dSt h 1 [x37, (.bool true)]) h fun _ h =>
  bndV (kNilc [x0]) fun x40 =>
  bndV (kFa 4 [x40]) fun x41 =>
  bndV (qLd h none [x41]) fun x42 =>
  bndN (kBsl 1 1 [(.int .i64 (.ofNat (nat_lit 0)))] [(0, 1)] [x1]) h fun x44 h =>
  bndE (dApp h 1 8 [x42, x44]) h fun x45 h =>
  bndV (kNilc [x0]) fun x46 =>
  bndV (kFa 4 [x46]) fun x47 =>
  bndE (dSt h 1 [x47, x45]) h fun _ h =>
  bndV (kBld [(.int .i64 (.ofNat (nat_lit 0))), (.int .i64 (.ofNat (nat_lit 0)))] [(0, 1), (1, 1)] [x1, (.int .i64 (.ofNat (nat_lit 0)))]) fun x49 =>
  bndE (dSt h 2 [x4, x49]) h fun _ h =>
  bndV (qLd h (some 2) [x4]) fun x900000 =>
  ret1 x900000 h
noncomputable def f384_1 (x0 : V) (x1 : V) (x4 : V) (x15 : V) (x18 : V) (h : HT) : Option J := bndV (kFa 2 [x18]) fun x19 =>
  bndV (qLd h none [x19]) fun x20 =>
  bndV (kNilc [x0]) fun x23 =>
  bndV (kFa 3 [x23]) fun x24 =>
  bndV (qLd h none [x24]) fun x25 =>
  bndV (kNilc [x0]) fun x28 =>
  bndV (kFa 7 [x28]) fun x29 =>
  bndV (qLd h none [x29]) fun x30 =>
  bndV (kNilc [x0]) fun x32 =>
  bndV (kFa 7 [x32]) fun x33 =>
  bndV (qLd h none [x33]) fun x34 =>
  bndV (kIaS 1 [x15, x1]) fun x35 =>
  bndE (dSt h 1 [x35, x30]) h fun _ h =>
  bndV (kIaS 1 [x20, x1]) fun x36 =>
  (f384_0 x0 x1 x4 x25 x34 x36 h)
noncomputable def f384 (vs : List V) (h : HT) : Option J := unc vs fun x0 vs =>
  unc vs fun x1 vs =>
  bndN (kAlloc [(.int .i64 (.ofNat (nat_lit 0))), (.int .i64 (.ofNat (nat_lit 0)))] []) h fun x4 h =>
  bndV (kNilc [x0]) fun x6 =>
  bndV (kFa 7 [x6]) fun x7 =>
  bndV (qLd h none [x7]) fun x8 =>
  bndV (kBin .add [x8, (.int .i64 (.ofNat (nat_lit 1)))]) fun x9 =>
  bndV (kNilc [x0]) fun x10 =>
  bndV (kFa 7 [x10]) fun x11 =>
  bndE (dSt h 1 [x11, x9]) h fun _ h =>
  bndV (kNilc [x0]) fun x13 =>
  bndV (kFa 1 [x13]) fun x14 =>
  bndV (qLd h none [x14]) fun x15 =>
  bndV (kNilc [x0]) fun x18 =>
  (f384_1 x0 x1 x4 x15 x18 h)
def a384 : List Ann := []
theorem e384 : f384 = evFun Tryz.prog 384 2 a384 t384 := by kernel_rfl
theorem o384 : FnOk Tryz.prog 384 f384 := .of hmO (show enters Tryz.prog 384 = true by kernel_rfl) e384 (.nil)

/- (*concord/graph.walk).leave -/
noncomputable def l385 : List (Nat × (List V → HT → Option J)) := []
noncomputable def t385 : Fns := tab l385
noncomputable def f385_0 (rc : List V → HT → Option J) (x0 : V) (x1 : V) (x31 : V) (x48 : V) (h : HT) : Option J := bndV (qLd h none [x48]) fun x49 =>
  bndV (kNilc [x0]) fun x52 =>
  bndV (kFa 5 [x52]) fun x53 =>
  bndV (qLd h none [x53]) fun x54 =>
  bndV (kNilc [x0]) fun x57 =>
  bndV (kFa 6 [x57]) fun x58 =>
  bndV (qLd h none [x58]) fun x59 =>
  bndV (kIaS 1 [x49, x31]) fun x60 =>
  bndE (dSt h 1 [x60, (.bool false)]) h fun _ h =>
  bndV (kIaS 1 [x54, x31]) fun x61 =>
  bndE (dSt h 1 [x61, x59]) h fun _ h =>
  bndV (kBin .eql [x31, x1]) fun x64 =>
  tstv x64 (some ⟨0, [x0], h⟩)
  (rc [x0, x1] h)
noncomputable def f385_1 (rc : List V → HT → Option J) (x0 : V) (x1 : V) (x31 : V) (h : HT) : Option J := bndV (kNilc [x0]) fun x34 =>
  bndV (kFa 4 [x34]) fun x35 =>
  bndV (qLd h none [x35]) fun x36 =>
  bndV (kNilc [x0]) fun x38 =>
  bndV (kFa 4 [x38]) fun x39 =>
  bndV (qLd h none [x39]) fun x40 =>
  bndV (kLenS [x40]) fun x41 =>
  bndV (kBin .sub [x41, (.int .i64 (.ofNat (nat_lit 1)))]) fun x42 =>
  bndV (kSlS 1 false true [x36, x42]) fun x43 =>
  bndV (kNilc [x0]) fun x44 =>
  bndV (kFa 4 [x44]) fun x45 =>
  bndE (dSt h 1 [x45, x43]) h fun _ h =>
  bndV (kNilc [x0]) fun x47 =>
  bndV (kFa 3 [x47]) fun x48 =>
  (f385_0 rc x0 x1 x31 x48 h)
noncomputable def f385_2 (x0 : V) (x1 : V) (h : HT) : Option J := bndJ (loopF (fun rc vs h => unc vs fun x0 vs =>
  unc vs fun x1 vs =>
  bndV (kNilc [x0]) fun x21 =>
  bndV (kFa 4 [x21]) fun x22 =>
  bndV (qLd h none [x22]) fun x23 =>
  bndV (kNilc [x0]) fun x25 =>
  bndV (kFa 4 [x25]) fun x26 =>
  bndV (qLd h none [x26]) fun x27 =>
  bndV (kLenS [x27]) fun x28 =>
  bndV (kBin .sub [x28, (.int .i64 (.ofNat (nat_lit 1)))]) fun x29 =>
  bndV (kIaS 1 [x23, x29]) fun x30 =>
  bndV (qLd h none [x30]) fun x31 =>
  (f385_1 rc x0 x1 x31 h)) 1000000 [x0, x1] h)
  fun j vs h => unc vs fun x0 vs =>
  bndV (kNilc [x0]) fun x66 =>
  bndV (kFa 6 [x66]) fun x67 =>
  bndV (qLd h none [x67]) fun x68 =>
  bndV (kBin .add [x68, (.int .i64 (.ofNat (nat_lit 1)))]) fun x69 =>
  bndV (kNilc [x0]) fun x70 =>
  bndV (kFa 6 [x70]) fun x71 =>
  bndE (dSt h 1 [x71, x69]) h fun _ h =>
  ret1 (.tuple []) h
noncomputable def f385_3 (x0 : V) (vs : List V) (h : HT) : Option J := unc vs fun x1 vs =>
  bndV (kNilc [x0]) fun x6 =>
  bndV (kFa 2 [x6]) fun x7 =>
  bndV (qLd h none [x7]) fun x8 =>
  bndV (kIaS 1 [x8, x1]) fun x10 =>
  bndV (qLd h none [x10]) fun x11 =>
  bndV (kNilc [x0]) fun x13 =>
  bndV (kFa 1 [x13]) fun x14 =>
  bndV (qLd h none [x14]) fun x15 =>
  bndV (kIaS 1 [x15, x1]) fun x17 =>
  bndV (qLd h none [x17]) fun x18 =>
  bndV (kBin .neq [x11, x18]) fun x19 =>
  tstv x19 (ret1 (.tuple []) h)
  ((f385_2 x0 x1 h))
noncomputable def f385 (vs : List V) (h : HT) : Option J := unc vs fun x0 vs =>
  (f385_3 x0 vs h)
def a385 : List Ann := [.no, .no, .loop [0, 1] [((.exit 0), [0])], .no, .no]
theorem e385 : f385 = evFun Tryz.prog 385 2 a385 t385 := by kernel_rfl
theorem o385 : FnOk Tryz.prog 385 f385 := .of hmO (show enters Tryz.prog 385 = true by kernel_rfl) e385 (.nil)

/- (*concord/graph.walk).from -/
noncomputable def l370 : List (Nat × (List V → HT → Option J)) := [(384, f384), (385, f385)]
noncomputable def t370 : Fns := tab l370
noncomputable def f370_0 (rc : List V → HT → Option J) (x0 : V) (x40 : V) (x48 : V) (x58 : V) (x61 : V) (h : HT) : Option J := bndV (qLd h none [x61]) fun x62 =>
  bndV (kNilc [x0]) fun x65 =>
  bndV (kFa 2 [x65]) fun x66 =>
  bndV (qLd h none [x66]) fun x67 =>
  bndV (kIaS 1 [x67, x58]) fun x69 =>
  bndV (qLd h none [x69]) fun x70 =>
  bndV (kNilc [x0]) fun x72 =>
  bndV (kFa 2 [x72]) fun x73 =>
  bndV (qLd h none [x73]) fun x74 =>
  bndV (kIaS 1 [x74, x40]) fun x76 =>
  bndV (qLd h none [x76]) fun x77 =>
  bndV (kMinI [x70, x77]) fun x78 =>
  bndV (kIaS 1 [x62, x58]) fun x79 =>
  bndE (dSt h 1 [x79, x78]) h fun _ h =>
  rc [x0, x48] h
noncomputable def f370_1 (rc : List V → HT → Option J) (x0 : V) (x4 : V) (x40 : V) (h : HT) : Option J := bndV (kLenS [x4]) fun x46 =>
  bndV (kBin .sub [x46, (.int .i64 (.ofNat (nat_lit 1)))]) fun x47 =>
  bndV (kSlS 2 false true [x4, x47]) fun x48 =>
  bndV (kLenS [x48]) fun x50 =>
  bndV (kBin .gtr [x50, (.int .i64 (.ofNat (nat_lit 0)))]) fun x51 =>
  tstv x51 (bndV (kLenS [x48]) fun x54 =>
  bndV (kBin .sub [x54, (.int .i64 (.ofNat (nat_lit 1)))]) fun x55 =>
  bndV (kIaS 2 [x48, x55]) fun x56 =>
  bndV (kFa 0 [x56]) fun x57 =>
  bndV (qLd h none [x57]) fun x58 =>
  bndV (kNilc [x0]) fun x60 =>
  bndV (kFa 2 [x60]) fun x61 =>
  (f370_0 rc x0 x40 x48 x58 x61 h))
  (rc [x0, x48] h)
noncomputable def f370_2 (rc : List V → HT → Option J) (x0 : V) (x4 : V) (x20 : V) (x95 : V) (x141 : V) (x145 : V) (x148 : V) (h : HT) : Option J := bndV (qLd h none [x148]) fun x149 =>
  bndV (kNilc [x20]) fun x151 =>
  bndV (kFa 0 [x151]) fun x152 =>
  bndV (qLd h none [x152]) fun x153 =>
  bndV (kIaS 1 [x149, x153]) fun x154 =>
  bndV (qLd h none [x154]) fun x155 =>
  bndV (kNilc [x0]) fun x157 =>
  bndV (kFa 1 [x157]) fun x158 =>
  bndV (qLd h none [x158]) fun x159 =>
  bndV (kIaS 1 [x159, x95]) fun x161 =>
  bndV (qLd h none [x161]) fun x162 =>
  bndV (kMinI [x155, x162]) fun x163 =>
  bndV (kIaS 1 [x141, x145]) fun x164 =>
  bndE (dSt h 1 [x164, x163]) h fun _ h =>
  rc [x0, x4] h
noncomputable def f370_3 (rc : List V → HT → Option J) (x0 : V) (x4 : V) (x20 : V) (x95 : V) (x132 : V) (h : HT) : Option J := bndV (kFa 3 [x132]) fun x133 =>
  bndV (qLd h none [x133]) fun x134 =>
  bndV (kIaS 1 [x134, x95]) fun x136 =>
  bndV (qLd h none [x136]) fun x137 =>
  tstv x137 (bndV (kNilc [x0]) fun x139 =>
  bndV (kFa 2 [x139]) fun x140 =>
  bndV (qLd h none [x140]) fun x141 =>
  bndV (kNilc [x20]) fun x143 =>
  bndV (kFa 0 [x143]) fun x144 =>
  bndV (qLd h none [x144]) fun x145 =>
  bndV (kNilc [x0]) fun x147 =>
  bndV (kFa 2 [x147]) fun x148 =>
  (f370_2 rc x0 x4 x20 x95 x141 x145 x148 h))
  (rc [x0, x4] h)
noncomputable def f370_4 (rc : List V → HT → Option J) (x0 : V) (x4 : V) (x20 : V) (x95 : V) (x114 : V) (h : HT) : Option J := tstv x114 (rc [x0, x4] h)
  (bndV (kNilc [x0]) fun x117 =>
  bndV (kFa 1 [x117]) fun x118 =>
  bndV (qLd h none [x118]) fun x119 =>
  bndV (kIaS 1 [x119, x95]) fun x121 =>
  bndV (qLd h none [x121]) fun x122 =>
  bndV (kBin .eql [x122, (.int .i64 (.ofNat (nat_lit 0)))]) fun x123 =>
  tstv x123 (bndC (f384 [x0, x95] h) fun x127 h =>
  bndN (kBsl 2 1 [(.int .i64 (.ofNat (nat_lit 0))), (.int .i64 (.ofNat (nat_lit 0)))] [(0, 2)] [x127]) h fun x128 h =>
  bndE (dApp h 2 16 [x4, x128]) h fun x129 h =>
  rc [x0, x129] h)
  (bndV (kNilc [x0]) fun x132 =>
  (f370_3 rc x0 x4 x20 x95 x132 h)))
noncomputable def f370_5 (rc : List V → HT → Option J) (x0 : V) (x4 : V) (x20 : V) (x95 : V) (x98 : V) (h : HT) : Option J := bndV (qLd h none [x98]) fun x99 =>
  bndV (kBin .add [x99, (.int .i64 (.ofNat (nat_lit 1)))]) fun x100 =>
  bndV (kNilc [x20]) fun x101 =>
  bndV (kFa 1 [x101]) fun x102 =>
  bndE (dSt h 1 [x102, x100]) h fun _ h =>
  bndV (kBin .lss [x95, (.int .i64 (.ofNat (nat_lit 0)))]) fun x105 =>
  bndC (gsel x105 false (retV (kMov [x95]) h) h) fun x107 h =>
  bndC (gsel x105 false (retV (kMov [x0]) h) h) fun x108 h =>
  bndC (gsel x105 false (retV (kNilc [x108]) h) h) fun x109 h =>
  bndC (gsel x105 false (retV (kFa 0 [x109]) h) h) fun x110 h =>
  bndC (gsel x105 false (retV (qLd h none [x110]) h) h) fun x111 h =>
  bndC (gsel x105 false (retV (kLenS [x111]) h) h) fun x112 h =>
  bndC (gsel x105 false (retV (kBin .geq [x107, x112]) h) h) fun x113 h =>
  bndV (kPick [x105, (.bool true), x113]) fun x114 =>
  (f370_4 rc x0 x4 x20 x95 x114 h)
noncomputable def f370_6 (rc : List V → HT → Option J) (x0 : V) (x4 : V) (x20 : V) (x81 : V) (h : HT) : Option J := bndV (kFa 0 [x81]) fun x82 =>
  bndV (qLd h none [x82]) fun x83 =>
  bndV (kNilc [x20]) fun x85 =>
  bndV (kFa 0 [x85]) fun x86 =>
  bndV (qLd h none [x86]) fun x87 =>
  bndV (kIaS 1 [x83, x87]) fun x88 =>
  bndV (qLd h none [x88]) fun x89 =>
  bndV (kNilc [x20]) fun x91 =>
  bndV (kFa 1 [x91]) fun x92 =>
  bndV (qLd h none [x92]) fun x93 =>
  bndV (kIaS 1 [x89, x93]) fun x94 =>
  bndV (qLd h none [x94]) fun x95 =>
  bndV (kNilc [x20]) fun x97 =>
  bndV (kFa 1 [x97]) fun x98 =>
  (f370_5 rc x0 x4 x20 x95 x98 h)
noncomputable def f370_7 (rc : List V → HT → Option J) (x0 : V) (x4 : V) (x20 : V) (x24 : V) (x28 : V) (h : HT) : Option J := bndV (kNilc [x20]) fun x30 =>
  bndV (kFa 0 [x30]) fun x31 =>
  bndV (qLd h none [x31]) fun x32 =>
  bndV (kIaS 1 [x28, x32]) fun x33 =>
  bndV (qLd h none [x33]) fun x34 =>
  bndV (kLenS [x34]) fun x35 =>
  bndV (kBin .eql [x24, x35]) fun x36 =>
  tstv x36 (bndV (kNilc [x20]) fun x38 =>
  bndV (kFa 0 [x38]) fun x39 =>
  bndV (qLd h none [x39]) fun x40 =>
  bndC (f385 [x0, x40] h) fun x43 h =>
  (f370_1 rc x0 x4 x40 h))
  (bndV (kNilc [x0]) fun x81 =>
  (f370_6 rc x0 x4 x20 x81 h))
noncomputable def f370_8 (rc : List V → HT → Option J) (x0 : V) (vs : List V) (h : HT) : Option J := unc vs fun x4 vs =>
  bndV (kLenS [x4]) fun x14 =>
  bndV (kBin .gtr [x14, (.int .i64 (.ofNat (nat_lit 0)))]) fun x15 =>
  tstv x15 (bndV (kLenS [x4]) fun x18 =>
  bndV (kBin .sub [x18, (.int .i64 (.ofNat (nat_lit 1)))]) fun x19 =>
  bndV (kIaS 2 [x4, x19]) fun x20 =>
  bndV (kNilc [x20]) fun x22 =>
  bndV (kFa 1 [x22]) fun x23 =>
  bndV (qLd h none [x23]) fun x24 =>
  bndV (kNilc [x0]) fun x26 =>
  bndV (kFa 0 [x26]) fun x27 =>
  bndV (qLd h none [x27]) fun x28 =>
  (f370_7 rc x0 x4 x20 x24 x28 h))
  (some ⟨0, [], h⟩)
noncomputable def f370 (vs : List V) (h : HT) : Option J := unc vs fun x0 vs =>
  unc vs fun x1 vs =>
  bndC (f384 [x0, x1] h) fun x11 h =>
  bndN (kBsl 2 1 [(.int .i64 (.ofNat (nat_lit 0))), (.int .i64 (.ofNat (nat_lit 0)))] [(0, 2)] [x11]) h fun x12 h =>
  bndJ (loopF (fun rc vs h => unc vs fun x0 vs =>
  (f370_8 rc x0 vs h)) 1000000 [x0, x12] h)
  fun j vs h => ret1 (.tuple []) h
def a370 : List Ann := [.no, .loop [0, 4] [((.exit 0), [])], .no, .no, .no, .no, .no, .no, .no, .no]
theorem e370 : f370 = evFun Tryz.prog 370 2 a370 t370 := by kernel_rfl
theorem o370 : FnOk Tryz.prog 370 f370 := .of hmO (show enters Tryz.prog 370 = true by kernel_rfl) e370 (.cons o384 (.cons o385 (.nil)))

/- concord/graph.order -/
noncomputable def l371 : List (Nat × (List V → HT → Option J)) := []
noncomputable def t371 : Fns := tab l371
noncomputable def f371_0 (x0 : V) (x1 : V) (x2 : V) (x7 : V) (x8 : V) (x9 : V) (x25 : V) (x26 : V) (x27 : V) (x32 : V) (x33 : V) (x34 : V) (x37 : V) (x64 : V) (x65 : V) (h : HT) : Option J := bndE (dSt h 1 [x65, x64]) h fun _ h =>
  bndV (kIaS 1 [x1, x37]) fun x69 =>
  bndV (qLd h none [x69]) fun x70 =>
  bndV (kIaS 1 [x1, x37]) fun x74 =>
  bndV (qLd h none [x74]) fun x75 =>
  bndV (kIaS 1 [x8, x75]) fun x76 =>
  bndV (qLd h none [x76]) fun x77 =>
  bndV (kIaS 1 [x1, x9]) fun x80 =>
  bndV (qLd h none [x80]) fun x81 =>
  bndN (kBsl 1 1 [(.int .i64 (.ofNat (nat_lit 0)))] [(0, 1)] [x81]) h fun x82 h =>
  bndE (dApp h 1 8 [x77, x82]) h fun x83 h =>
  chk1 (sameE (qLd h none [x69]) x70) (bndV (kIaS 1 [x8, x70]) fun x84 =>
  bndE (dSt h 1 [x84, x83]) h fun _ h =>
  some ⟨0, [x0, x1, x2, x7, x8, x9, x25, x26, x27, x32, x33, x34], h⟩)
noncomputable def f371_1 (rc : List V → HT → Option J) (x0 : V) (x1 : V) (x2 : V) (x7 : V) (x8 : V) (x9 : V) (x25 : V) (x26 : V) (x27 : V) (x32 : V) (x33 : V) (x34 : V) (x37 : V) (x56 : V) (h : HT) : Option J := bndJ (tstv x56 (bndV (kIaS 1 [x1, x9]) fun x60 =>
  bndV (qLd h none [x60]) fun x61 =>
  bndV (kIaS 1 [x7, x61]) fun x62 =>
  bndV (qLd h none [x62]) fun x63 =>
  bndV (kBin .add [x63, (.int .i64 (.ofNat (nat_lit 1)))]) fun x64 =>
  bndV (kIaS 1 [x7, x61]) fun x65 =>
  (f371_0 x0 x1 x2 x7 x8 x9 x25 x26 x27 x32 x33 x34 x37 x64 x65 h))
  (some ⟨0, [x0, x1, x2, x7, x8, x9, x25, x26, x27, x32, x33, x34], h⟩))
  fun j vs h => unc vs fun x0 vs =>
  unc vs fun x1 vs =>
  unc vs fun x2 vs =>
  unc vs fun x7 vs =>
  unc vs fun x8 vs =>
  unc vs fun x9 vs =>
  unc vs fun x25 vs =>
  unc vs fun x26 vs =>
  unc vs fun x27 vs =>
  unc vs fun x32 vs =>
  unc vs fun x33 vs =>
  unc vs fun x34 vs =>
  bndV (kBin .add [x34, (.int .i64 (.ofNat (nat_lit 1)))]) fun x85 =>
  rc [x0, x1, x2, x7, x8, x9, x25, x26, x27, x32, x33, x85] h
noncomputable def f371_2 (rc : List V → HT → Option J) (x0 : V) (x1 : V) (x2 : V) (x7 : V) (x8 : V) (x9 : V) (x25 : V) (x26 : V) (x27 : V) (x32 : V) (x33 : V) (x34 : V) (x37 : V) (x39 : V) (x41 : V) (h : HT) : Option J := bndC (gsel x39 true (retV (kMov [x0]) h) h) fun x42 h =>
  bndC (gsel x39 true (retV (kLenS [x42]) h) h) fun x43 h =>
  bndC (gsel x39 true (retV (kBin .lss [x41, x43]) h) h) fun x44 h =>
  bndV (kPick [x39, x44, (.bool false)]) fun x45 =>
  bndC (gsel x45 true (retV (kMov [x1]) h) h) fun x47 h =>
  bndC (gsel x45 true (retV (kMov [x37]) h) h) fun x48 h =>
  bndC (gsel x45 true (retV (kIaS 1 [x47, x48]) h) h) fun x49 h =>
  bndC (gsel x45 true (retV (qLd h none [x49]) h) h) fun x50 h =>
  bndC (gsel x45 true (retV (kMov [x1]) h) h) fun x51 h =>
  bndC (gsel x45 true (retV (kMov [x9]) h) h) fun x52 h =>
  bndC (gsel x45 true (retV (kIaS 1 [x51, x52]) h) h) fun x53 h =>
  bndC (gsel x45 true (retV (qLd h none [x53]) h) h) fun x54 h =>
  bndC (gsel x45 true (retV (kBin .neq [x50, x54]) h) h) fun x55 h =>
  bndV (kPick [x45, x55, (.bool false)]) fun x56 =>
  (f371_1 rc x0 x1 x2 x7 x8 x9 x25 x26 x27 x32 x33 x34 x37 x56 h)
noncomputable def f371_3 (rc : List V → HT → Option J) (x0 : V) (x1 : V) (x2 : V) (x7 : V) (x8 : V) (vs : List V) (h : HT) : Option J := unc vs fun x9 vs =>
  unc vs fun x25 vs =>
  unc vs fun x26 vs =>
  unc vs fun x27 vs =>
  unc vs fun x32 vs =>
  unc vs fun x33 vs =>
  unc vs fun x34 vs =>
  bndV (kBin .lss [x34, x33]) fun x35 =>
  tstv x35 (bndV (kIaS 1 [x32, x34]) fun x36 =>
  bndV (qLd h none [x36]) fun x37 =>
  bndV (kBin .geq [x37, (.int .i64 (.ofNat (nat_lit 0)))]) fun x39 =>
  bndC (gsel x39 true (retV (kMov [x37]) h) h) fun x41 h =>
  (f371_2 rc x0 x1 x2 x7 x8 x9 x25 x26 x27 x32 x33 x34 x37 x39 x41 h))
  (some ⟨0, [x0, x1, x2, x7, x8, x25, x26, x27], h⟩)
noncomputable def f371_4 (rc : List V → HT → Option J) (x0 : V) (x1 : V) (x2 : V) (x7 : V) (x8 : V) (x25 : V) (x26 : V) (x27 : V) (x31 : V) (x33 : V) (h : HT) : Option J := bndJ (loopF (fun rc vs h => unc vs fun x0 vs =>
  unc vs fun x1 vs =>
  unc vs fun x2 vs =>
  unc vs fun x7 vs =>
  unc vs fun x8 vs =>
  (f371_3 rc x0 x1 x2 x7 x8 vs h)) 1000000 [x0, x1, x2, x7, x8, x27, x25, x26, x27, x31, x33, (.int .i64 (.ofNat (nat_lit 0)))] h)
  fun j vs h => unc vs fun x0 vs =>
  unc vs fun x1 vs =>
  unc vs fun x2 vs =>
  unc vs fun x7 vs =>
  unc vs fun x8 vs =>
  unc vs fun x25 vs =>
  unc vs fun x26 vs =>
  unc vs fun x27 vs =>
  bndV (kBin .add [x27, (.int .i64 (.ofNat (nat_lit 1)))]) fun x86 =>
  rc [x0, x1, x2, x7, x8, x25, x26, x86] h
noncomputable def f371_5 (rc : List V → HT → Option J) (vs : List V) (h : HT) : Option J := unc vs fun x0 vs =>
  unc vs fun x1 vs =>
  unc vs fun x2 vs =>
  unc vs fun x7 vs =>
  unc vs fun x8 vs =>
  unc vs fun x25 vs =>
  unc vs fun x26 vs =>
  unc vs fun x27 vs =>
  bndV (kBin .lss [x27, x26]) fun x28 =>
  tstv x28 (bndV (kIaS 1 [x25, x27]) fun x30 =>
  bndV (qLd h none [x30]) fun x31 =>
  bndV (kLenS [x31]) fun x33 =>
  (f371_4 rc x0 x1 x2 x7 x8 x25 x26 x27 x31 x33 h))
  (some ⟨0, [x2, x7, x8], h⟩)
noncomputable def f371_6 (rc : List V → HT → Option J) (x2 : V) (x7 : V) (x8 : V) (x13 : V) (x14 : V) (x15 : V) (x96 : V) (x97 : V) (x111 : V) (x129 : V) (h : HT) : Option J := bndV (kPick [x111, x129, (.bool false)]) fun x130 =>
  bndJ (tstv x130 (some ⟨0, [x2, x7, x8, x13, x14, x97, x96, x97], h⟩)
  (some ⟨0, [x2, x7, x8, x13, x14, x15, x96, x97], h⟩))
  fun j vs h => unc vs fun x2 vs =>
  unc vs fun x7 vs =>
  unc vs fun x8 vs =>
  unc vs fun x13 vs =>
  unc vs fun x14 vs =>
  unc vs fun x15 vs =>
  unc vs fun x96 vs =>
  unc vs fun x97 vs =>
  bndV (kBin .add [x97, (.int .i64 (.ofNat (nat_lit 1)))]) fun x132 =>
  rc [x2, x7, x8, x13, x14, x15, x96, x132] h
noncomputable def f371_7 (rc : List V → HT → Option J) (x2 : V) (x7 : V) (x8 : V) (x13 : V) (x14 : V) (x15 : V) (x96 : V) (x97 : V) (x111 : V) (x115 : V) (h : HT) : Option J := bndC (gsel x115 false (retV (kMov [x2]) h) h) fun x116 h =>
  bndC (gsel x115 false (retV (kMov [x97]) h) h) fun x117 h =>
  bndC (gsel x115 false (retV (kIaS 1 [x116, x117]) h) h) fun x118 h =>
  bndC (gsel x115 false (retV (qLd h none [x118]) h) h) fun x119 h =>
  bndC (gsel x115 false (retV (kIaS 1 [x119, (.int .i64 (.ofNat (nat_lit 0)))]) h) h) fun x120 h =>
  bndC (gsel x115 false (retV (qLd h none [x120]) h) h) fun x121 h =>
  bndC (gsel x115 false (retV (kMov [x2]) h) h) fun x122 h =>
  bndC (gsel x115 false (retV (kMov [x15]) h) h) fun x123 h =>
  bndC (gsel x115 false (retV (kIaS 1 [x122, x123]) h) h) fun x124 h =>
  bndC (gsel x115 false (retV (qLd h none [x124]) h) h) fun x125 h =>
  bndC (gsel x115 false (retV (kIaS 1 [x125, (.int .i64 (.ofNat (nat_lit 0)))]) h) h) fun x126 h =>
  bndC (gsel x115 false (retV (qLd h none [x126]) h) h) fun x127 h =>
  bndC (gsel x115 false (retV (kBin .lss [x121, x127]) h) h) fun x128 h =>
  bndC (gsel x111 true (retV (kPick [x115, (.bool true), x128]) h) h) fun x129 h =>
  (f371_6 rc x2 x7 x8 x13 x14 x15 x96 x97 x111 x129 h)
noncomputable def f371_8 (rc : List V → HT → Option J) (x2 : V) (x7 : V) (x8 : V) (x13 : V) (x14 : V) (x15 : V) (x96 : V) (x97 : V) (x98 : V) (h : HT) : Option J := tstv x98 (bndV (kIaS 1 [x13, x97]) fun x102 =>
  bndV (qLd h none [x102]) fun x103 =>
  bndV (kBin .eql [x103, (.int .i64 (.ofNat (nat_lit 0)))]) fun x104 =>
  bndC (gsel x104 true (retV (kMov [x7]) h) h) fun x106 h =>
  bndC (gsel x104 true (retV (kMov [x97]) h) h) fun x107 h =>
  bndC (gsel x104 true (retV (kIaS 1 [x106, x107]) h) h) fun x108 h =>
  bndC (gsel x104 true (retV (qLd h none [x108]) h) h) fun x109 h =>
  bndC (gsel x104 true (retV (kBin .eql [x109, (.int .i64 (.ofNat (nat_lit 0)))]) h) h) fun x110 h =>
  bndV (kPick [x104, x110, (.bool false)]) fun x111 =>
  bndC (gsel x111 true (retV (kMov [x15]) h) h) fun x113 h =>
  bndC (gsel x111 true (retV (kBin .lss [x113, (.int .i64 (.ofNat (nat_lit 0)))]) h) h) fun x114 h =>
  bndC (gsel x111 true (retV (kMov [x114]) h) h) fun x115 h =>
  (f371_7 rc x2 x7 x8 x13 x14 x15 x96 x97 x111 x115 h))
  (some ⟨0, [x2, x7, x8, x13, x14, x15], h⟩)
noncomputable def f371_9 (rc : List V → HT → Option J) (x2 : V) (x7 : V) (x8 : V) (x13 : V) (x14 : V) (vs : List V) (h : HT) : Option J := unc vs fun x146 vs =>
  unc vs fun x147 vs =>
  unc vs fun x148 vs =>
  bndV (kBin .lss [x148, x147]) fun x149 =>
  tstv x149 (bndV (kIaS 1 [x146, x148]) fun x150 =>
  bndV (qLd h none [x150]) fun x151 =>
  bndV (kIaS 1 [x7, x151]) fun x154 =>
  bndV (qLd h none [x154]) fun x155 =>
  bndV (kBin .sub [x155, (.int .i64 (.ofNat (nat_lit 1)))]) fun x156 =>
  bndV (kIaS 1 [x7, x151]) fun x157 =>
  bndE (dSt h 1 [x157, x156]) h fun _ h =>
  bndV (kBin .add [x148, (.int .i64 (.ofNat (nat_lit 1)))]) fun x158 =>
  rc [x2, x7, x8, x13, x14, x146, x147, x158] h)
  (some ⟨0, [x2, x7, x8, x13, x14], h⟩)
noncomputable def f371_10 (rc : List V → HT → Option J) (x2 : V) (x7 : V) (x8 : V) (x13 : V) (x142 : V) (x146 : V) (h : HT) : Option J := bndV (kLenS [x146]) fun x147 =>
  bndJ (loopF (fun rc vs h => unc vs fun x2 vs =>
  unc vs fun x7 vs =>
  unc vs fun x8 vs =>
  unc vs fun x13 vs =>
  unc vs fun x14 vs =>
  (f371_9 rc x2 x7 x8 x13 x14 vs h)) 1000000 [x2, x7, x8, x13, x142, x146, x147, (.int .i64 (.ofNat (nat_lit 0)))] h)
  fun j vs h => unc vs fun x2 vs =>
  unc vs fun x7 vs =>
  unc vs fun x8 vs =>
  unc vs fun x13 vs =>
  unc vs fun x14 vs =>
  rc [x2, x7, x8, x13, x14] h
noncomputable def f371_11 (rc : List V → HT → Option J) (vs : List V) (h : HT) : Option J := unc vs fun x2 vs =>
  unc vs fun x7 vs =>
  unc vs fun x8 vs =>
  unc vs fun x13 vs =>
  unc vs fun x14 vs =>
  unc vs fun x15 vs =>
  bndV (kIaS 1 [x13, x15]) fun x135 =>
  bndE (dSt h 1 [x135, (.int .i64 (.ofNat (nat_lit 1)))]) h fun _ h =>
  bndV (kIaS 1 [x2, x15]) fun x139 =>
  bndV (qLd h none [x139]) fun x140 =>
  bndN (kBsl 1 1 [(.slice none 0 true 0)] [(0, 1)] [x140]) h fun x141 h =>
  bndE (dApp h 1 24 [x14, x141]) h fun x142 h =>
  bndV (kIaS 1 [x8, x15]) fun x145 =>
  bndV (qLd h none [x145]) fun x146 =>
  (f371_10 rc x2 x7 x8 x13 x142 x146 h)
noncomputable def f371_12 (rc : List V → HT → Option J) (x2 : V) (x7 : V) (x8 : V) (x13 : V) (x14 : V) (x94 : V) (h : HT) : Option J := tstv x94 (bndV (kLenS [x2]) fun x96 =>
  bndJ (loopF (fun rc vs h => unc vs fun x2 vs =>
  unc vs fun x7 vs =>
  unc vs fun x8 vs =>
  unc vs fun x13 vs =>
  unc vs fun x14 vs =>
  unc vs fun x15 vs =>
  unc vs fun x96 vs =>
  unc vs fun x97 vs =>
  bndV (kBin .lss [x97, x96]) fun x98 =>
  (f371_8 rc x2 x7 x8 x13 x14 x15 x96 x97 x98 h)) 1000000 [x2, x7, x8, x13, x14, (.int .i64 (.negSucc (nat_lit 0))), x96, (.int .i64 (.ofNat (nat_lit 0)))] h)
  fun j vs h => (f371_11 rc vs h))
  (some ⟨0, [x14], h⟩)
noncomputable def f371_13 (x2 : V) (x7 : V) (x8 : V) (h : HT) : Option J := bndV (kLenS [x2]) fun x88 =>
  bndN (kMkS 1 8 [(.int .i64 (.ofNat (nat_lit 0)))] [x88, x88]) h fun x89 h =>
  bndJ (loopF (fun rc vs h => unc vs fun x2 vs =>
  unc vs fun x7 vs =>
  unc vs fun x8 vs =>
  unc vs fun x13 vs =>
  unc vs fun x14 vs =>
  bndV (kLenS [x14]) fun x91 =>
  bndV (kLenS [x2]) fun x93 =>
  bndV (kBin .lss [x91, x93]) fun x94 =>
  (f371_12 rc x2 x7 x8 x13 x14 x94 h)) 1000000 [x2, x7, x8, x89, (.slice none 0 true 0)] h)
  fun j vs h => unc vs fun x14 vs =>
  ret1 x14 h
noncomputable def f371 (vs : List V) (h : HT) : Option J := unc vs fun x0 vs =>
  unc vs fun x1 vs =>
  unc vs fun x2 vs =>
  bndV (kLenS [x2]) fun x20 =>
  bndN (kMkS 1 8 [(.int .i64 (.ofNat (nat_lit 0)))] [x20, x20]) h fun x21 h =>
  bndV (kLenS [x2]) fun x23 =>
  bndN (kMkS 1 24 [(.slice none 0 true 0)] [x23, x23]) h fun x24 h =>
  bndV (kLenS [x0]) fun x26 =>
  bndJ (loopF (fun rc vs h => (f371_5 rc vs h)) 1000000 [x0, x1, x2, x21, x24, x0, x26, (.int .i64 (.ofNat (nat_lit 0)))] h)
  fun j vs h => unc vs fun x2 vs =>
  unc vs fun x7 vs =>
  unc vs fun x8 vs =>
  (f371_13 x2 x7 x8 h)
def a371 : List Ann := [.no, .loop [0, 1, 2, 7, 8, 25, 26, 27] [((.exit 0), [2, 7, 8])], .no, .no, .no, .loop [0, 1, 2, 7, 8, 9, 25, 26, 27, 32, 33, 34] [((.exit 2), [0, 1, 2, 7, 8, 25, 26, 27])], .no, .no, .join [(.normal, [0, 1, 2, 7, 8, 9, 25, 26, 27, 32, 33, 34])], .no, .loop [2, 7, 8, 13, 14] [((.exit 4), [14])], .no, .no, .no, .loop [2, 7, 8, 13, 14, 15, 96, 97] [((.exit 6), [2, 7, 8, 13, 14, 15])], .no, .no, .join [(.normal, [2, 7, 8, 13, 14, 15, 96, 97])], .no, .loop [2, 7, 8, 13, 14, 146, 147, 148] [((.exit 8), [2, 7, 8, 13, 14])], .no, .no]
theorem e371 : f371 = evFun Tryz.prog 371 3 a371 t371 := by kernel_rfl
theorem o371 : FnOk Tryz.prog 371 f371 := .of hmO (show enters Tryz.prog 371 = true by kernel_rfl) e371 (.nil)

/- concord/graph.Parts -/
noncomputable def l345 : List (Nat × (List V → HT → Option J)) := [(370, f370), (371, f371)]
noncomputable def t345 : Fns := tab l345
noncomputable def f345_0 (rc : List V → HT → Option J) (x0 : V) (x5 : V) (x25 : V) (x26 : V) (x31 : V) (h : HT) : Option J := bndV (qLd h none [x31]) fun x32 =>
  bndV (kIaS 1 [x32, x26]) fun x34 =>
  bndV (qLd h none [x34]) fun x35 =>
  bndV (kBin .eql [x35, (.int .i64 (.ofNat (nat_lit 0)))]) fun x36 =>
  bndJ (tstv x36 (bndC (f370 [x5, x26] h) fun x39 h =>
  some ⟨0, [x0, x5, x25, x26], h⟩)
  (some ⟨0, [x0, x5, x25, x26], h⟩))
  fun j vs h => unc vs fun x0 vs =>
  unc vs fun x5 vs =>
  unc vs fun x25 vs =>
  unc vs fun x26 vs =>
  bndV (kBin .add [x26, (.int .i64 (.ofNat (nat_lit 1)))]) fun x40 =>
  rc [x0, x5, x25, x40] h
noncomputable def f345_1 (rc : List V → HT → Option J) (x0 : V) (x5 : V) (x7 : V) (x49 : V) (vs : List V) (h : HT) : Option J := unc vs fun x50 vs =>
  unc vs fun x51 vs =>
  bndV (kBin .lss [x51, x50]) fun x52 =>
  tstv x52 (bndV (kIaS 1 [x49, x51]) fun x54 =>
  bndV (qLd h none [x54]) fun x55 =>
  bndV (kIaS 1 [x7, x55]) fun x60 =>
  bndV (qLd h none [x60]) fun x61 =>
  bndN (kBsl 1 1 [(.int .i64 (.ofNat (nat_lit 0)))] [(0, 1)] [x51]) h fun x63 h =>
  bndE (dApp h 1 8 [x61, x63]) h fun x64 h =>
  bndV (kIaS 1 [x7, x55]) fun x65 =>
  bndE (dSt h 1 [x65, x64]) h fun _ h =>
  bndV (kBin .add [x51, (.int .i64 (.ofNat (nat_lit 1)))]) fun x66 =>
  rc [x0, x5, x7, x49, x50, x66] h)
  (some ⟨0, [x0, x5, x7], h⟩)
noncomputable def f345_2 (x0 : V) (x5 : V) (x45 : V) (x49 : V) (x50 : V) (h : HT) : Option J := bndJ (loopF (fun rc vs h => unc vs fun x0 vs =>
  unc vs fun x5 vs =>
  unc vs fun x7 vs =>
  unc vs fun x49 vs =>
  (f345_1 rc x0 x5 x7 x49 vs h)) 1000000 [x0, x5, x45, x49, x50, (.int .i64 (.ofNat (nat_lit 0)))] h)
  fun j vs h => unc vs fun x0 vs =>
  unc vs fun x5 vs =>
  unc vs fun x7 vs =>
  bndV (kNilc [x5]) fun x69 =>
  bndV (kFa 5 [x69]) fun x70 =>
  bndV (qLd h none [x70]) fun x71 =>
  bndC (f371 [x0, x71, x7] h) fun x73 h =>
  ret1 (.tuple [x73, (.int .i64 (.ofNat (nat_lit 0)))]) h
noncomputable def f345_3 (x0 : V) (x11 : V) (x24 : V) (h : HT) : Option J := bndJ (loopF (fun rc vs h => unc vs fun x0 vs =>
  unc vs fun x5 vs =>
  unc vs fun x25 vs =>
  unc vs fun x26 vs =>
  bndV (kBin .lss [x26, x25]) fun x27 =>
  tstv x27 (bndV (kNilc [x5]) fun x30 =>
  bndV (kFa 1 [x30]) fun x31 =>
  (f345_0 rc x0 x5 x25 x26 x31 h))
  (some ⟨0, [x0, x5], h⟩)) 1000000 [x0, x24, x11, (.int .i64 (.ofNat (nat_lit 0)))] h)
  fun j vs h => unc vs fun x0 vs =>
  unc vs fun x5 vs =>
  bndV (kNilc [x5]) fun x42 =>
  bndV (kFa 6 [x42]) fun x43 =>
  bndV (qLd h none [x43]) fun x44 =>
  bndN (kMkS 1 24 [(.slice none 0 true 0)] [x44, x44]) h fun x45 h =>
  bndV (kNilc [x5]) fun x47 =>
  bndV (kFa 5 [x47]) fun x48 =>
  bndV (qLd h none [x48]) fun x49 =>
  bndV (kLenS [x49]) fun x50 =>
  (f345_2 x0 x5 x45 x49 x50 h)
noncomputable def f345 (vs : List V) (h : HT) : Option J := unc vs fun x0 vs =>
  bndV (kLenS [x0]) fun x11 =>
  bndV (kBin .gtr [x11, (.int .i64 (.ofNat (nat_lit 512)))]) fun x13 =>
  tstv x13 (ret1 (.tuple [(.slice none 0 true 0), (.int .i64 (.ofNat (nat_lit 2)))]) h)
  (bndN (kMkS 1 8 [(.int .i64 (.ofNat (nat_lit 0)))] [x11, x11]) h fun x16 h =>
  bndN (kMkS 1 8 [(.int .i64 (.ofNat (nat_lit 0)))] [x11, x11]) h fun x18 h =>
  bndN (kMkS 1 1 [(.bool false)] [x11, x11]) h fun x20 h =>
  bndN (kMkS 1 8 [(.int .i64 (.ofNat (nat_lit 0)))] [x11, x11]) h fun x22 h =>
  bndV (kBld [(.slice none 0 true 0), (.slice none 0 true 0), (.slice none 0 true 0), (.slice none 0 true 0), (.slice none 0 true 0), (.slice none 0 true 0), (.int .i64 (.ofNat (nat_lit 0))), (.int .i64 (.ofNat (nat_lit 0)))] [(0, 1), (1, 1), (2, 1), (3, 1), (5, 1)] [x0, x16, x18, x20, x22]) fun x23 =>
  bndN (kBox [x23]) h fun x24 h =>
  (f345_3 x0 x11 x24 h))
def a345 : List Ann := [.no, .no, .loop [0, 5, 25, 26] [((.exit 0), [0, 5])], .no, .no, .join [(.normal, [0, 5, 25, 26])], .no, .loop [0, 5, 7, 49, 50, 51] [((.exit 2), [0, 5, 7])], .no, .no]
theorem e345 : f345 = evFun Tryz.prog 345 1 a345 t345 := by kernel_rfl
theorem o345 : FnOk Tryz.prog 345 f345 := .of hmO (show enters Tryz.prog 345 = true by kernel_rfl) e345 (.cons o370 (.cons o371 (.nil)))

/- (*concord/exec.plan).edges -/
noncomputable def l346 : List (Nat × (List V → HT → Option J)) := []
noncomputable def t346 : Fns := tab l346
noncomputable def f346_0 (rc : List V → HT → Option J) (x0 : V) (x1 : V) (x5 : V) (x6 : V) (x7 : V) (x8 : V) (x14 : V) (x15 : V) (x16 : V) (x29 : V) (x30 : V) (x31 : V) (x57 : V) (h : HT) : Option J := bndJ (tstv x57 (bndV (kIaS 1 [x5, x6]) fun x62 =>
  bndV (qLd h none [x62]) fun x63 =>
  bndN (kBsl 1 1 [(.int .i64 (.ofNat (nat_lit 0)))] [(0, 1)] [x31]) h fun x65 h =>
  bndE (dApp h 1 8 [x63, x65]) h fun x66 h =>
  bndV (kIaS 1 [x5, x6]) fun x67 =>
  bndE (dSt h 1 [x67, x66]) h fun _ h =>
  some ⟨0, [x0, x1, x5, x6, x7, x8, x14, x15, x16, x29, x30, x31], h⟩)
  (some ⟨0, [x0, x1, x5, x6, x7, x8, x14, x15, x16, x29, x30, x31], h⟩))
  fun j vs h => unc vs fun x0 vs =>
  unc vs fun x1 vs =>
  unc vs fun x5 vs =>
  unc vs fun x6 vs =>
  unc vs fun x7 vs =>
  unc vs fun x8 vs =>
  unc vs fun x14 vs =>
  unc vs fun x15 vs =>
  unc vs fun x16 vs =>
  unc vs fun x29 vs =>
  unc vs fun x30 vs =>
  unc vs fun x31 vs =>
  bndV (kBin .add [x31, (.int .i64 (.ofNat (nat_lit 1)))]) fun x68 =>
  rc [x0, x1, x5, x6, x7, x8, x14, x15, x16, x29, x30, x68] h
noncomputable def f346_1 (rc : List V → HT → Option J) (x0 : V) (x1 : V) (x5 : V) (x6 : V) (x7 : V) (x8 : V) (x10 : V) (x14 : V) (x15 : V) (x16 : V) (x29 : V) (x30 : V) (x31 : V) (x38 : V) (x43 : V) (h : HT) : Option J := bndC (gsel x43 false (retV (kFa 0 [x10]) h) h) fun x44 h =>
  bndC (gsel x43 false (retV (qLd h none [x44]) h) h) fun x45 h =>
  bndC (gsel x43 false (retV (kFa 0 [x7]) h) h) fun x46 h =>
  bndC (gsel x43 false (retV (qLd h none [x46]) h) h) fun x47 h =>
  bndC (gsel x43 false (retV (kBin .eql [x45, x47]) h) h) fun x48 h =>
  bndC (gsel x43 false (retV (kMov [x48]) h) h) fun x49 h =>
  bndC (gsel x49 true (retV (kFa 1 [x10]) h) h) fun x50 h =>
  bndC (gsel x49 true (retV (qLd h none [x50]) h) h) fun x51 h =>
  bndC (gsel x49 true (retV (kFa 1 [x7]) h) h) fun x52 h =>
  bndC (gsel x49 true (retV (qLd h none [x52]) h) h) fun x53 h =>
  bndC (gsel x49 true (retV (kBin .lss [x51, x53]) h) h) fun x54 h =>
  bndC (gsel x43 false (retV (kPick [x49, x54, (.bool false)]) h) h) fun x55 h =>
  bndC (gsel x38 true (retV (kPick [x43, (.bool true), x55]) h) h) fun x56 h =>
  bndV (kPick [x38, x56, (.bool false)]) fun x57 =>
  (f346_0 rc x0 x1 x5 x6 x7 x8 x14 x15 x16 x29 x30 x31 x57 h)
noncomputable def f346_2 (rc : List V → HT → Option J) (x0 : V) (x1 : V) (x5 : V) (x6 : V) (x7 : V) (x8 : V) (x14 : V) (x15 : V) (x16 : V) (x29 : V) (vs : List V) (h : HT) : Option J := unc vs fun x30 vs =>
  unc vs fun x31 vs =>
  bndV (kBin .lss [x31, x30]) fun x32 =>
  tstv x32 (bndV (kIaS 2 [x29, x31]) fun x34 =>
  bndV (qLd h (some 2) [x34]) fun x35 =>
  bndN (kAlloc [(.int .i64 (.ofNat (nat_lit 0))), (.int .i64 (.ofNat (nat_lit 0)))] []) h fun x10 h =>
  bndE (dSt h 2 [x10, x35]) h fun _ h =>
  bndV (kBin .neq [x6, x31]) fun x38 =>
  bndC (gsel x38 true (retV (qLd h (some 7) [x8]) h) h) fun x40 h =>
  bndC (gsel x38 true (retV (qLd h (some 2) [x10]) h) h) fun x41 h =>
  bndC (gsel x38 true (noF [x40, x41] h) h) fun x42 h =>
  bndC (gsel x38 true (retV (kMov [x42]) h) h) fun x43 h =>
  (f346_1 rc x0 x1 x5 x6 x7 x8 x10 x14 x15 x16 x29 x30 x31 x38 x43 h))
  (some ⟨0, [x0, x1, x5, x14, x15, x16], h⟩)
noncomputable def f346_3 (rc : List V → HT → Option J) (x0 : V) (x1 : V) (x5 : V) (x7 : V) (x8 : V) (x14 : V) (x15 : V) (x16 : V) (x30 : V) (h : HT) : Option J := bndJ (loopF (fun rc vs h => unc vs fun x0 vs =>
  unc vs fun x1 vs =>
  unc vs fun x5 vs =>
  unc vs fun x6 vs =>
  unc vs fun x7 vs =>
  unc vs fun x8 vs =>
  unc vs fun x14 vs =>
  unc vs fun x15 vs =>
  unc vs fun x16 vs =>
  unc vs fun x29 vs =>
  (f346_2 rc x0 x1 x5 x6 x7 x8 x14 x15 x16 x29 vs h)) 1000000 [x0, x1, x5, x16, x7, x8, x14, x15, x16, x1, x30, (.int .i64 (.ofNat (nat_lit 0)))] h)
  fun j vs h => unc vs fun x0 vs =>
  unc vs fun x1 vs =>
  unc vs fun x5 vs =>
  unc vs fun x14 vs =>
  unc vs fun x15 vs =>
  unc vs fun x16 vs =>
  bndV (kBin .add [x16, (.int .i64 (.ofNat (nat_lit 1)))]) fun x69 =>
  rc [x0, x1, x5, x14, x15, x69] h
noncomputable def f346_4 (rc : List V → HT → Option J) (x0 : V) (x1 : V) (x5 : V) (x14 : V) (x15 : V) (x16 : V) (h : HT) : Option J := bndV (kIaS 2 [x14, x16]) fun x19 =>
  bndV (qLd h (some 2) [x19]) fun x20 =>
  bndN (kAlloc [(.int .i64 (.ofNat (nat_lit 0))), (.int .i64 (.ofNat (nat_lit 0)))] []) h fun x7 h =>
  bndE (dSt h 2 [x7, x20]) h fun _ h =>
  bndV (kNilc [x0]) fun x22 =>
  bndV (kFa 7 [x22]) fun x23 =>
  bndV (qLd h none [x23]) fun x24 =>
  bndV (qLd h (some 2) [x7]) fun x25 =>
  bndV (kLkp h.heap true [.i, .i] (.agg [(.int .i64 (.ofNat (nat_lit 0))), (.int .i64 (.ofNat (nat_lit 0))), (.int .i64 (.ofNat (nat_lit 0))), (.int .i64 (.ofNat (nat_lit 0))), (.int .i64 (.ofNat (nat_lit 0))), (.int .i64 (.ofNat (nat_lit 0))), (.int .i64 (.ofNat (nat_lit 0))), (.int .i64 (.ofNat (nat_lit 0))), (.str (sb [])), (.str (sb [])), (.str (sb [])), (.str (sb [])), (.int .i64 (.ofNat (nat_lit 0))), (.int .i64 (.ofNat (nat_lit 0))), (.int .i64 (.ofNat (nat_lit 0))), (.int .i64 (.ofNat (nat_lit 0))), (.int .i64 (.ofNat (nat_lit 0))), (.int .i64 (.ofNat (nat_lit 0))), (.int .i64 (.ofNat (nat_lit 0))), (.int .i64 (.ofNat (nat_lit 0))), (.bool false)]) false [x24, x25]) fun x26 =>
  bndV (kFld 12 8 true [x26]) fun x27 =>
  bndV (kFld 1 7 true [x27]) fun x28 =>
  bndN (kAlloc [(.int .i64 (.ofNat (nat_lit 0))), (.int .i64 (.ofNat (nat_lit 0))), (.int .i64 (.ofNat (nat_lit 0))), (.int .i64 (.ofNat (nat_lit 0))), (.int .i64 (.ofNat (nat_lit 0))), (.int .i64 (.ofNat (nat_lit 0))), (.int .i64 (.ofNat (nat_lit 0)))] []) h fun x8 h =>
  bndE (dSt h 7 [x8, x28]) h fun _ h =>
  bndV (kLenS [x1]) fun x30 =>
  (f346_3 rc x0 x1 x5 x7 x8 x14 x15 x16 x30 h)
noncomputable def f346_5 (x0 : V) (x1 : V) (x13 : V) (h : HT) : Option J := bndV (kLenS [x1]) fun x15 =>
  bndJ (loopF (fun rc vs h => unc vs fun x0 vs =>
  unc vs fun x1 vs =>
  unc vs fun x5 vs =>
  unc vs fun x14 vs =>
  unc vs fun x15 vs =>
  unc vs fun x16 vs =>
  bndV (kBin .lss [x16, x15]) fun x17 =>
  tstv x17 ((f346_4 rc x0 x1 x5 x14 x15 x16 h))
  (some ⟨0, [x5], h⟩)) 1000000 [x0, x1, x13, x1, x15, (.int .i64 (.ofNat (nat_lit 0)))] h)
  fun j vs h => unc vs fun x5 vs =>
  ret1 x5 h
noncomputable def f346 (vs : List V) (h : HT) : Option J := unc vs fun x0 vs =>
  unc vs fun x1 vs =>
  bndV (kLenS [x1]) fun x12 =>
  bndN (kMkS 1 24 [(.slice none 0 true 0)] [x12, x12]) h fun x13 h =>
  (f346_5 x0 x1 x13 h)
def a346 : List Ann := [.no, .loop [0, 1, 5, 14, 15, 16] [((.exit 0), [5])], .no, .no, .no, .loop [0, 1, 5, 6, 7, 8, 14, 15, 16, 29, 30, 31] [((.exit 2), [0, 1, 5, 14, 15, 16])], .no, .no, .join [(.normal, [0, 1, 5, 6, 7, 8, 14, 15, 16, 29, 30, 31])]]
theorem e346 : f346 = evFun Tryz.prog 346 2 a346 t346 := by kernel_rfl
theorem o346 : FnOk Tryz.prog 346 f346 := .of hmO (show enters Tryz.prog 346 = true by kernel_rfl) e346 (.nil)

/- slices.insertionSortCmpFunc[int] -/
noncomputable def l386 : List (Nat × (List V → HT → Option J)) := []
noncomputable def t386 : Fns := tab l386
noncomputable def f386_0 (rc : List V → HT → Option J) (x0 : V) (x1 : V) (x2 : V) (x3 : V) (x8 : V) (x9 : V) (x20 : V) (x33 : V) (h : HT) : Option J := bndV (kPick [x20, x33, (.bool false)]) fun x34 =>
  tstv x34 (bndV (kBin .sub [x9, (.int .i64 (.ofNat (nat_lit 1)))]) fun x41 =>
  bndV (kBin .sub [x9, (.int .i64 (.ofNat (nat_lit 1)))]) fun x44 =>
  bndV (kIaS 1 [x0, x44]) fun x45 =>
  bndV (qLd h none [x45]) fun x46 =>
  bndV (kIaS 1 [x0, x9]) fun x49 =>
  bndV (qLd h none [x49]) fun x50 =>
  bndV (kIaS 1 [x0, x9]) fun x51 =>
  bndE (dSt h 1 [x51, x46]) h fun _ h =>
  bndV (kIaS 1 [x0, x41]) fun x52 =>
  bndE (dSt h 1 [x52, x50]) h fun _ h =>
  bndV (kBin .sub [x9, (.int .i64 (.ofNat (nat_lit 1)))]) fun x36 =>
  rc [x0, x1, x2, x3, x8, x36] h)
  (some ⟨0, [x0, x1, x2, x3, x8], h⟩)
noncomputable def f386_1 (rc : List V → HT → Option J) (x0 : V) (x1 : V) (x2 : V) (x3 : V) (x8 : V) (vs : List V) (h : HT) : Option J := unc vs fun x9 vs =>
  bndV (kBin .gtr [x9, x1]) fun x20 =>
  bndC (gsel x20 true (retV (kMov [x3]) h) h) fun x22 h =>
  bndC (gsel x20 true (retV (kMov [x0]) h) h) fun x23 h =>
  bndC (gsel x20 true (retV (kMov [x9]) h) h) fun x24 h =>
  bndC (gsel x20 true (retV (kIaS 1 [x23, x24]) h) h) fun x25 h =>
  bndC (gsel x20 true (retV (qLd h none [x25]) h) h) fun x26 h =>
  bndC (gsel x20 true (retV (kMov [x0]) h) h) fun x27 h =>
  bndC (gsel x20 true (retV (kMov [x9]) h) h) fun x28 h =>
  bndC (gsel x20 true (retV (kBin .sub [x28, (.int .i64 (.ofNat (nat_lit 1)))]) h) h) fun x29 h =>
  bndC (gsel x20 true (retV (kIaS 1 [x27, x29]) h) h) fun x30 h =>
  bndC (gsel x20 true (retV (qLd h none [x30]) h) h) fun x31 h =>
  bndC (gsel x20 true (callvT t386 [x22, x26, x31] h) h) fun x32 h =>
  bndC (gsel x20 true (retV (kBin .lss [x32, (.int .i64 (.ofNat (nat_lit 0)))]) h) h) fun x33 h =>
  (f386_0 rc x0 x1 x2 x3 x8 x9 x20 x33 h)
noncomputable def f386_2 (rc : List V → HT → Option J) (x0 : V) (x1 : V) (x2 : V) (x3 : V) (x8 : V) (h : HT) : Option J := bndJ (loopF (fun rc vs h => unc vs fun x0 vs =>
  unc vs fun x1 vs =>
  unc vs fun x2 vs =>
  unc vs fun x3 vs =>
  unc vs fun x8 vs =>
  (f386_1 rc x0 x1 x2 x3 x8 vs h)) 1000000 [x0, x1, x2, x3, x8, x8] h)
  fun j vs h => unc vs fun x0 vs =>
  unc vs fun x1 vs =>
  unc vs fun x2 vs =>
  unc vs fun x3 vs =>
  unc vs fun x8 vs =>
  bndV (kBin .add [x8, (.int .i64 (.ofNat (nat_lit 1)))]) fun x16 =>
  rc [x0, x1, x2, x3, x16] h
noncomputable def f386_3 (x0 : V) (x1 : V) (vs : List V) (h : HT) : Option J := unc vs fun x2 vs =>
  unc vs fun x3 vs =>
  bndV (kBin .add [x1, (.int .i64 (.ofNat (nat_lit 1)))]) fun x11 =>
  bndJ (loopF (fun rc vs h => unc vs fun x0 vs =>
  unc vs fun x1 vs =>
  unc vs fun x2 vs =>
  unc vs fun x3 vs =>
  unc vs fun x8 vs =>
  bndV (kBin .lss [x8, x2]) fun x14 =>
  tstv x14 ((f386_2 rc x0 x1 x2 x3 x8 h))
  (some ⟨0, [], h⟩)) 1000000 [x0, x1, x2, x3, x11] h)
  fun j vs h => ret1 (.tuple []) h
noncomputable def f386 (vs : List V) (h : HT) : Option J := unc vs fun x0 vs =>
  unc vs fun x1 vs =>
  (f386_3 x0 x1 vs h)
def a386 : List Ann := [.no, .loop [0, 1, 2, 3, 8] [((.exit 0), [])], .no, .no, .no, .loop [0, 1, 2, 3, 8, 9] [((.exit 2), [0, 1, 2, 3, 8])], .no, .no]
theorem e386 : f386 = evFun Tryz.prog 386 4 a386 t386 := by kernel_rfl
theorem o386 : FnOk Tryz.prog 386 f386 := .of hmO (show enters Tryz.prog 386 = true by kernel_rfl) e386 (.nil)

/- slices.stableCmpFunc[int] -/
noncomputable def l372 : List (Nat × (List V → HT → Option J)) := [(386, f386)]
noncomputable def t372 : Fns := tab l372
noncomputable def f372_0 (x0 : V) (x1 : V) (x2 : V) (x6 : V) (x32 : V) (h : HT) : Option J := loopF (fun rc vs h => unc vs fun x0 vs =>
  unc vs fun x1 vs =>
  unc vs fun x2 vs =>
  unc vs fun x6 vs =>
  unc vs fun x7 vs =>
  unc vs fun x8 vs =>
  bndV (kBin .leq [x8, x1]) fun x35 =>
  tstv x35 (bndV (kBin .add [x7, x6]) fun x40 =>
  bndC (noF [x0, x7, x40, x8, x2] h) fun x43 h =>
  bndV (kBin .mul [(.int .i64 (.ofNat (nat_lit 2))), x6]) fun x47 =>
  bndV (kBin .add [x8, x47]) fun x48 =>
  rc [x0, x1, x2, x6, x8, x48] h)
  (some ⟨0, [x0, x1, x2, x6, x7], h⟩)) 1000000 [x0, x1, x2, x6, (.int .i64 (.ofNat (nat_lit 0))), x32] h
noncomputable def f372_1 (rc : List V → HT → Option J) (x0 : V) (x1 : V) (x2 : V) (vs : List V) (h : HT) : Option J := unc vs fun x6 vs =>
  unc vs fun x7 vs =>
  bndV (kBin .add [x7, x6]) fun x51 =>
  bndV (kBin .lss [x51, x1]) fun x54 =>
  bndJ (tstv x54 (bndC (noF [x0, x7, x51, x1, x2] h) fun x60 h =>
  some ⟨0, [x0, x1, x2, x6], h⟩)
  (some ⟨0, [x0, x1, x2, x6], h⟩))
  fun j vs h => unc vs fun x0 vs =>
  unc vs fun x1 vs =>
  unc vs fun x2 vs =>
  unc vs fun x6 vs =>
  bndV (kBin .mul [x6, (.int .i64 (.ofNat (nat_lit 2)))]) fun x62 =>
  rc [x0, x1, x2, x62] h
noncomputable def f372_2 (x0 : V) (x1 : V) (x2 : V) (x6 : V) (h : HT) : Option J := loopF (fun rc vs h => unc vs fun x0 vs =>
  unc vs fun x1 vs =>
  unc vs fun x2 vs =>
  unc vs fun x6 vs =>
  bndV (kBin .lss [x6, x1]) fun x30 =>
  tstv x30 (bndV (kBin .mul [(.int .i64 (.ofNat (nat_lit 2))), x6]) fun x32 =>
  bndJ ((f372_0 x0 x1 x2 x6 x32 h))
  fun j vs h => unc vs fun x0 vs =>
  unc vs fun x1 vs =>
  unc vs fun x2 vs =>
  (f372_1 rc x0 x1 x2 vs h))
  (some ⟨0, [], h⟩)) 1000000 [x0, x1, x2, x6] h
noncomputable def f372_3 (x0 : V) (x1 : V) (x2 : V) (h : HT) : Option J := bndJ (loopF (fun rc vs h => unc vs fun x0 vs =>
  unc vs fun x1 vs =>
  unc vs fun x2 vs =>
  unc vs fun x6 vs =>
  unc vs fun x7 vs =>
  unc vs fun x8 vs =>
  bndV (kBin .leq [x8, x1]) fun x13 =>
  tstv x13 (bndC (f386 [x0, x7, x8, x2] h) fun x18 h =>
  bndV (kBin .add [x8, x6]) fun x22 =>
  rc [x0, x1, x2, x6, x8, x22] h)
  (some ⟨0, [x0, x1, x2, x6, x7], h⟩)) 1000000 [x0, x1, x2, (.int .i64 (.ofNat (nat_lit 20))), (.int .i64 (.ofNat (nat_lit 0))), (.int .i64 (.ofNat (nat_lit 20)))] h)
  fun j vs h => unc vs fun x0 vs =>
  unc vs fun x1 vs =>
  unc vs fun x2 vs =>
  unc vs fun x6 vs =>
  unc vs fun x7 vs =>
  bndC (f386 [x0, x7, x1, x2] h) fun x27 h =>
  bndJ ((f372_2 x0 x1 x2 x6 h))
  fun j vs h => ret1 (.tuple []) h
noncomputable def f372 (vs : List V) (h : HT) : Option J := unc vs fun x0 vs =>
  unc vs fun x1 vs =>
  unc vs fun x2 vs =>
  (f372_3 x0 x1 x2 h)
def a372 : List Ann := [.no, .loop [0, 1, 2, 6, 7, 8] [((.exit 0), [0, 1, 2, 6, 7])], .no, .no, .no, .loop [0, 1, 2, 6] [((.exit 2), [])], .no, .no, .no, .loop [0, 1, 2, 6, 7, 8] [((.exit 4), [0, 1, 2, 6, 7])], .no, .no, .join [(.normal, [0, 1, 2, 6])]]
theorem e372 : f372 = evFun Tryz.prog 372 3 a372 t372 := by kernel_rfl
theorem o372 : FnOk Tryz.prog 372 f372 := .of hmO (show enters Tryz.prog 372 = true by kernel_rfl) e372 (.cons o386 (.nil))

/- slices.SortStableFunc[[]int,int] -/
noncomputable def l347 : List (Nat × (List V → HT → Option J)) := [(372, f372)]
noncomputable def t347 : Fns := tab l347

noncomputable def f347 (vs : List V) (h : HT) : Option J := unc vs fun x0 vs =>
  unc vs fun x1 vs =>
  bndV (kLenS [x0]) fun x6 =>
  bndC (f372 [x0, x6, x1] h) fun x8 h =>
  ret1 (.tuple []) h
def a347 : List Ann := []
theorem e347 : f347 = evFun Tryz.prog 347 2 a347 t347 := by kernel_rfl
theorem o347 : FnOk Tryz.prog 347 f347 := .of hmO (show enters Tryz.prog 347 = true by kernel_rfl) e347 (.cons o372 (.nil))

/- (*concord/exec.plan).do -/
noncomputable def l306 : List (Nat × (List V → HT → Option J)) := [(264, f264), (345, f345), (346, f346), (347, f347)]
noncomputable def t306 : Fns := tab l306
noncomputable def f306_0 (rc : List V → HT → Option J) (x2 : V) (x3 : V) (x10 : V) (x20 : V) (x21 : V) (x22 : V) (x29 : V) (x30 : V) (x31 : V) (x56 : V) (x58 : V) (x59 : V) (h : HT) : Option J := bndV (kFa 0 [x10]) fun x60 =>
  bndV (qLd h none [x60]) fun x61 =>
  bndV (kNilc [x59]) fun x62 =>
  bndV (kFa 0 [x62]) fun x63 =>
  bndV (kIaA 7 1 [x63, x61]) fun x64 =>
  bndV (qLd h none [x64]) fun x65 =>
  bndV (kFa 1 [x10]) fun x66 =>
  bndV (qLd h none [x66]) fun x67 =>
  bndV (kMaxI [x65, x67]) fun x68 =>
  bndV (kNilc [x56]) fun x69 =>
  bndV (kFa 0 [x69]) fun x70 =>
  bndV (kIaA 7 1 [x70, x58]) fun x71 =>
  bndE (dSt h 1 [x71, x68]) h fun _ h =>
  bndV (kBin .add [x31, (.int .i64 (.ofNat (nat_lit 1)))]) fun x72 =>
  rc [x2, x3, x20, x21, x22, x29, x30, x72] h
noncomputable def f306_1 (rc : List V → HT → Option J) (x2 : V) (x3 : V) (x10 : V) (x20 : V) (x21 : V) (x22 : V) (x29 : V) (x30 : V) (x31 : V) (x39 : V) (x43 : V) (x44 : V) (x47 : V) (h : HT) : Option J := bndV (qLd h none [x47]) fun x48 =>
  bndV (qLd h (some 2) [x10]) fun x49 =>
  bndV (kLkp h.heap true [.i, .i] (.agg [(.int .i64 (.ofNat (nat_lit 0))), (.int .i64 (.ofNat (nat_lit 0))), (.int .i64 (.ofNat (nat_lit 0))), (.int .i64 (.ofNat (nat_lit 0))), (.int .i64 (.ofNat (nat_lit 0))), (.int .i64 (.ofNat (nat_lit 0))), (.int .i64 (.ofNat (nat_lit 0))), (.int .i64 (.ofNat (nat_lit 0))), (.str (sb [])), (.str (sb [])), (.str (sb [])), (.str (sb [])), (.int .i64 (.ofNat (nat_lit 0))), (.int .i64 (.ofNat (nat_lit 0))), (.int .i64 (.ofNat (nat_lit 0))), (.int .i64 (.ofNat (nat_lit 0))), (.int .i64 (.ofNat (nat_lit 0))), (.int .i64 (.ofNat (nat_lit 0))), (.int .i64 (.ofNat (nat_lit 0))), (.int .i64 (.ofNat (nat_lit 0))), (.bool false)]) false [x48, x49]) fun x50 =>
  bndV (kBld [(.int .i64 (.ofNat (nat_lit 0))), (.int .i64 (.ofNat (nat_lit 0))), (.int .i64 (.ofNat (nat_lit 0))), (.int .i64 (.ofNat (nat_lit 0))), (.int .i64 (.ofNat (nat_lit 0))), (.int .i64 (.ofNat (nat_lit 0))), (.int .i64 (.ofNat (nat_lit 0))), (.int .i64 (.ofNat (nat_lit 0))), (.int .i64 (.ofNat (nat_lit 0))), (.int .i64 (.ofNat (nat_lit 0))), (.str (sb [])), (.str (sb [])), (.str (sb [])), (.str (sb [])), (.int .i64 (.ofNat (nat_lit 0))), (.int .i64 (.ofNat (nat_lit 0))), (.int .i64 (.ofNat (nat_lit 0))), (.int .i64 (.ofNat (nat_lit 0))), (.int .i64 (.ofNat (nat_lit 0))), (.int .i64 (.ofNat (nat_lit 0))), (.int .i64 (.ofNat (nat_lit 0))), (.int .i64 (.ofNat (nat_lit 0))), (.bool false)] [(0, 2), (2, 21)] [x44, x50]) fun x51 =>
  bndN (kBsl 23 1 [(.int .i64 (.ofNat (nat_lit 0))), (.int .i64 (.ofNat (nat_lit 0))), (.int .i64 (.ofNat (nat_lit 0))), (.int .i64 (.ofNat (nat_lit 0))), (.int .i64 (.ofNat (nat_lit 0))), (.int .i64 (.ofNat (nat_lit 0))), (.int .i64 (.ofNat (nat_lit 0))), (.int .i64 (.ofNat (nat_lit 0))), (.int .i64 (.ofNat (nat_lit 0))), (.int .i64 (.ofNat (nat_lit 0))), (.str (sb [])), (.str (sb [])), (.str (sb [])), (.str (sb [])), (.int .i64 (.ofNat (nat_lit 0))), (.int .i64 (.ofNat (nat_lit 0))), (.int .i64 (.ofNat (nat_lit 0))), (.int .i64 (.ofNat (nat_lit 0))), (.int .i64 (.ofNat (nat_lit 0))), (.int .i64 (.ofNat (nat_lit 0))), (.int .i64 (.ofNat (nat_lit 0))), (.int .i64 (.ofNat (nat_lit 0))), (.bool false)] [(0, 23)] [x51]) h fun x52 h =>
  bndE (dApp h 23 216 [x43, x52]) h fun x53 h =>
  chk1 (sameE (qLd h none [x2]) x39) (bndV (kNilc [x39]) fun x54 =>
  bndV (kFa 8 [x54]) fun x55 =>
  bndE (dSt h 1 [x55, x53]) h fun _ h =>
  bndV (qLd h none [x2]) fun x56 =>
  bndV (kFa 0 [x10]) fun x57 =>
  bndV (qLd h none [x57]) fun x58 =>
  bndV (qLd h none [x2]) fun x59 =>
  (f306_0 rc x2 x3 x10 x20 x21 x22 x29 x30 x31 x56 x58 x59 h))
noncomputable def f306_2 (rc : List V → HT → Option J) (x2 : V) (x3 : V) (x20 : V) (x21 : V) (x22 : V) (x29 : V) (x30 : V) (x31 : V) (x34 : V) (h : HT) : Option J := bndV (qLd h none [x3]) fun x35 =>
  bndV (kIaS 2 [x35, x34]) fun x37 =>
  bndV (qLd h (some 2) [x37]) fun x38 =>
  bndN (kAlloc [(.int .i64 (.ofNat (nat_lit 0))), (.int .i64 (.ofNat (nat_lit 0)))] []) h fun x10 h =>
  bndE (dSt h 2 [x10, x38]) h fun _ h =>
  bndV (qLd h none [x2]) fun x39 =>
  bndV (qLd h none [x2]) fun x40 =>
  bndV (kNilc [x40]) fun x41 =>
  bndV (kFa 8 [x41]) fun x42 =>
  bndV (qLd h none [x42]) fun x43 =>
  bndV (qLd h (some 2) [x10]) fun x44 =>
  bndV (qLd h none [x2]) fun x45 =>
  bndV (kNilc [x45]) fun x46 =>
  bndV (kFa 7 [x46]) fun x47 =>
  (f306_1 rc x2 x3 x10 x20 x21 x22 x29 x30 x31 x39 x43 x44 x47 h)
noncomputable def f306_3 (x2 : V) (x3 : V) (x20 : V) (x21 : V) (x22 : V) (x25 : V) (x30 : V) (h : HT) : Option J := loopF (fun rc vs h => unc vs fun x2 vs =>
  unc vs fun x3 vs =>
  unc vs fun x20 vs =>
  unc vs fun x21 vs =>
  unc vs fun x22 vs =>
  unc vs fun x29 vs =>
  unc vs fun x30 vs =>
  unc vs fun x31 vs =>
  bndV (kBin .lss [x31, x30]) fun x32 =>
  tstv x32 (bndV (kIaS 1 [x29, x31]) fun x33 =>
  bndV (qLd h none [x33]) fun x34 =>
  (f306_2 rc x2 x3 x20 x21 x22 x29 x30 x31 x34 h))
  (some ⟨0, [x2, x3, x20, x21, x22], h⟩)) 1000000 [x2, x3, x20, x21, x22, x25, x30, (.int .i64 (.ofNat (nat_lit 0)))] h
noncomputable def f306_4 (rc : List V → HT → Option J) (x2 : V) (x3 : V) (x20 : V) (x21 : V) (x22 : V) (x23 : V) (h : HT) : Option J := tstv x23 (bndV (kIaS 1 [x20, x22]) fun x24 =>
  bndV (qLd h none [x24]) fun x25 =>
  bndV (kMkF 348 [x2, x3]) fun x27 =>
  bndC (f347 [x25, x27] h) fun x28 h =>
  bndV (kLenS [x25]) fun x30 =>
  bndJ ((f306_3 x2 x3 x20 x21 x22 x25 x30 h))
  fun j vs h => unc vs fun x2 vs =>
  unc vs fun x3 vs =>
  unc vs fun x20 vs =>
  unc vs fun x21 vs =>
  unc vs fun x22 vs =>
  bndV (kBin .add [x22, (.int .i64 (.ofNat (nat_lit 1)))]) fun x73 =>
  rc [x2, x3, x20, x21, x73] h)
  (some ⟨0, [], h⟩)
noncomputable def f306_5 (x2 : V) (x3 : V) (x14 : V) (x15 : V) (h : HT) : Option J := bndC (f346 [x14, x15] h) fun x16 h =>
  bndC (f345 [x16] h) fun x17 h =>
  bndV (kExt 0 [x17]) fun x18 =>
  bndV (kExt 1 [x17]) fun x19 =>
  bndV (kLenS [x18]) fun x21 =>
  bndJ (loopF (fun rc vs h => unc vs fun x2 vs =>
  unc vs fun x3 vs =>
  unc vs fun x20 vs =>
  unc vs fun x21 vs =>
  unc vs fun x22 vs =>
  bndV (kBin .lss [x22, x21]) fun x23 =>
  (f306_4 rc x2 x3 x20 x21 x22 x23 h)) 1000000 [x2, x3, x18, x21, (.int .i64 (.ofNat (nat_lit 0)))] h)
  fun j vs h => ret1 (.tuple []) h
noncomputable def f306 (vs : List V) (h : HT) : Option J := unc vs fun x0 vs =>
  unc vs fun x1 vs =>
  bndN (kBox [x0]) h fun x2 h =>
  bndN (kBox [x1]) h fun x3 h =>
  bndV (qLd h none [x3]) fun x11 =>
  bndC (f264 [x11, (.func 344 [])] h) fun x12 h =>
  bndV (qLd h none [x2]) fun x14 =>
  bndV (qLd h none [x3]) fun x15 =>
  (f306_5 x2 x3 x14 x15 h)
def a306 : List Ann := [.no, .loop [2, 3, 20, 21, 22] [((.exit 0), [])], .no, .no, .no, .loop [2, 3, 20, 21, 22, 29, 30, 31] [((.exit 2), [2, 3, 20, 21, 22])], .no, .no]
theorem e306 : f306 = evFun Tryz.prog 306 2 a306 t306 := by kernel_rfl
theorem o306 : FnOk Tryz.prog 306 f306 := .of hmO (show enters Tryz.prog 306 = true by kernel_rfl) e306 (.cons o264 (.cons o345 (.cons o346 (.cons o347 (.nil)))))

/- (*concord/exec.plan).round -/
noncomputable def l252 : List (Nat × (List V → HT → Option J)) := [(302, f302), (303, f303), (305, f305), (306, f306)]
noncomputable def t252 : Fns := tab l252
noncomputable def f252_0 (x0 : V) (x4 : V) (x5 : V) (x11 : V) (x13 : V) (x46 : V) (x51 : V) (h : HT) : Option J := tstv x51 (bndC (f306 [x0, x46] h) fun x54 h =>
  some ⟨0, [x0, (.bool true), x5, x13], h⟩)
  (bndV (qLd h (some 2) [x11]) fun x56 =>
  bndV (kBld [(.int .i64 (.ofNat (nat_lit 0))), (.int .i64 (.ofNat (nat_lit 0)))] [] []) fun x57 =>
  bndV (kEqF true [.i, .i] [x56, x57]) fun x58 =>
  bndJ (tstv x58 (bndV (qLd h (some 2) [x11]) fun x60 =>
  bndC (noF [x5, x60] h) fun x61 h =>
  some ⟨0, [x0, x4, x5, x13], h⟩)
  (some ⟨0, [x0, x4, x5, x13], h⟩))
  fun j vs h => unc vs fun x0 vs =>
  unc vs fun x4 vs =>
  unc vs fun x5 vs =>
  unc vs fun x13 vs =>
  some ⟨0, [x0, x4, x5, x13], h⟩)
noncomputable def f252_1 (x0 : V) (x4 : V) (x5 : V) (x7 : V) (x13 : V) (h : HT) : Option J := bndV (qLd h (some 2) [x7]) fun x44 =>
  bndC (f305 [x0, x44] h) fun x45 h =>
  bndV (kExt 0 [x45]) fun x46 =>
  bndV (kExt 1 [x45]) fun x47 =>
  bndN (kAlloc [(.int .i64 (.ofNat (nat_lit 0))), (.int .i64 (.ofNat (nat_lit 0)))] []) h fun x11 h =>
  bndE (dSt h 2 [x11, x47]) h fun _ h =>
  bndV (kLenS [x46]) fun x50 =>
  bndV (kBin .gtr [x50, (.int .i64 (.ofNat (nat_lit 0)))]) fun x51 =>
  bndJ ((f252_0 x0 x4 x5 x11 x13 x46 x51 h))
  fun j vs h => unc vs fun x0 vs =>
  unc vs fun x4 vs =>
  unc vs fun x5 vs =>
  unc vs fun x13 vs =>
  some ⟨0, [x0, x4, x5, x13], h⟩
noncomputable def f252_2 (x0 : V) (x4 : V) (x5 : V) (x7 : V) (x13 : V) (x35 : V) (h : HT) : Option J := tstv x35 (bndV (qLd h (some 2) [x7]) fun x37 =>
  bndC (f303 [x0, x37] h) fun x38 h =>
  bndJ (tstv x38 (bndV (qLd h (some 2) [x7]) fun x40 =>
  bndC (noF [x5, x40] h) fun x41 h =>
  some ⟨0, [x0, x4, x5, x13], h⟩)
  (some ⟨0, [x0, x4, x5, x13], h⟩))
  fun j vs h => unc vs fun x0 vs =>
  unc vs fun x4 vs =>
  unc vs fun x5 vs =>
  unc vs fun x13 vs =>
  some ⟨0, [x0, x4, x5, x13], h⟩)
  ((f252_1 x0 x4 x5 x7 x13 h))
noncomputable def f252_3 (x0 : V) (x4 : V) (x5 : V) (x13 : V) (x22 : V) (h : HT) : Option J := bndV (kBin .add [x22, (.int .i64 (.ofNat (nat_lit 1)))]) fun x23 =>
  bndV (kBld [(.int .i64 (.ofNat (nat_lit 0))), (.int .i64 (.ofNat (nat_lit 0)))] [(0, 1), (1, 1)] [x13, x23]) fun x24 =>
  bndN (kAlloc [(.int .i64 (.ofNat (nat_lit 0))), (.int .i64 (.ofNat (nat_lit 0)))] []) h fun x7 h =>
  bndE (dSt h 2 [x7, x24]) h fun _ h =>
  bndV (kNilc [x0]) fun x27 =>
  bndV (kFa 7 [x27]) fun x28 =>
  bndV (qLd h none [x28]) fun x29 =>
  bndV (qLd h (some 2) [x7]) fun x30 =>
  bndV (kLkp h.heap true [.i, .i] (.agg [(.int .i64 (.ofNat (nat_lit 0))), (.int .i64 (.ofNat (nat_lit 0))), (.int .i64 (.ofNat (nat_lit 0))), (.int .i64 (.ofNat (nat_lit 0))), (.int .i64 (.ofNat (nat_lit 0))), (.int .i64 (.ofNat (nat_lit 0))), (.int .i64 (.ofNat (nat_lit 0))), (.int .i64 (.ofNat (nat_lit 0))), (.str (sb [])), (.str (sb [])), (.str (sb [])), (.str (sb [])), (.int .i64 (.ofNat (nat_lit 0))), (.int .i64 (.ofNat (nat_lit 0))), (.int .i64 (.ofNat (nat_lit 0))), (.int .i64 (.ofNat (nat_lit 0))), (.int .i64 (.ofNat (nat_lit 0))), (.int .i64 (.ofNat (nat_lit 0))), (.int .i64 (.ofNat (nat_lit 0))), (.int .i64 (.ofNat (nat_lit 0))), (.bool false)]) true [x29, x30]) fun x31 =>
  bndV (kExt 0 [x31]) fun x32 =>
  bndV (kExt 1 [x31]) fun x33 =>
  bndN (kAlloc [(.int .i64 (.ofNat (nat_lit 0))), (.int .i64 (.ofNat (nat_lit 0))), (.int .i64 (.ofNat (nat_lit 0))), (.int .i64 (.ofNat (nat_lit 0))), (.int .i64 (.ofNat (nat_lit 0))), (.int .i64 (.ofNat (nat_lit 0))), (.int .i64 (.ofNat (nat_lit 0))), (.int .i64 (.ofNat (nat_lit 0))), (.str (sb [])), (.str (sb [])), (.str (sb [])), (.str (sb [])), (.int .i64 (.ofNat (nat_lit 0))), (.int .i64 (.ofNat (nat_lit 0))), (.int .i64 (.ofNat (nat_lit 0))), (.int .i64 (.ofNat (nat_lit 0))), (.int .i64 (.ofNat (nat_lit 0))), (.int .i64 (.ofNat (nat_lit 0))), (.int .i64 (.ofNat (nat_lit 0))), (.int .i64 (.ofNat (nat_lit 0))), (.bool false)] []) h fun x8 h =>
  bndE (dSt h 21 [x8, x32]) h fun _ h =>
  bndV (kUn .not [x33]) fun x35 =>
  (f252_2 x0 x4 x5 x7 x13 x35 h)
noncomputable def f252_4 (rc : List V → HT → Option J) (x0 : V) (x4 : V) (x5 : V) (x13 : V) (h : HT) : Option J := bndV (kBin .lss [x13, (.int .i64 (.ofNat (nat_lit 7)))]) fun x14 =>
  tstv x14 (bndJ (bndV (kNilc [x0]) fun x19 =>
  bndV (kFa 0 [x19]) fun x20 =>
  bndV (kIaA 7 1 [x20, x13]) fun x21 =>
  bndV (qLd h none [x21]) fun x22 =>
  (f252_3 x0 x4 x5 x13 x22 h))
  fun j vs h => unc vs fun x0 vs =>
  unc vs fun x4 vs =>
  unc vs fun x5 vs =>
  unc vs fun x13 vs =>
  bndV (kBin .add [x13, (.int .i64 (.ofNat (nat_lit 1)))]) fun x62 =>
  rc [x0, x4, x5, x62] h)
  (some ⟨0, [x4, x5], h⟩)
noncomputable def f252 (vs : List V) (h : HT) : Option J := unc vs fun x0 vs =>
  bndC (f302 [(.slice none 0 true 0)] h) fun x12 h =>
  bndJ (loopF (fun rc vs h => unc vs fun x0 vs =>
  unc vs fun x4 vs =>
  unc vs fun x5 vs =>
  unc vs fun x13 vs =>
  (f252_4 rc x0 x4 x5 x13 h)) 1000000 [x0, (.bool false), x12, (.int .i64 (.ofNat (nat_lit 0)))] h)
  fun j vs h => unc vs fun x4 vs =>
  unc vs fun x5 vs =>
  ret1 (.tuple [x4, x5]) h
def a252 : List Ann := [.no, .loop [0, 4, 5, 13] [((.exit 0), [4, 5])], .no, .join [(.normal, [0, 4, 5, 13])], .no, .join [(.normal, [0, 4, 5, 13])], .no, .join [(.normal, [0, 4, 5, 13])], .join [(.normal, [0, 4, 5, 13])]]
theorem e252 : f252 = evFun Tryz.prog 252 1 a252 t252 := by kernel_rfl
theorem o252 : FnOk Tryz.prog 252 f252 := .of hmO (show enters Tryz.prog 252 = true by kernel_rfl) e252 (.cons o302 (.cons o303 (.cons o305 (.cons o306 (.nil)))))

/- (*concord/inst.Set).List -/
noncomputable def l253 : List (Nat × (List V → HT → Option J)) := [(264, f264)]
noncomputable def t253 : Fns := tab l253
noncomputable def f253_0 (x9 : V) (h : HT) : Option J := loopF (fun rc vs h => unc vs fun x3 vs =>
  unc vs fun x9 vs =>
  bndE (dNx h [x9]) h fun x10 h =>
  bndV (kExt 0 [x10]) fun x11 =>
  tstv x11 (bndV (kEnt h.heap [x9]) fun x12 =>
  bndV (kExt 0 [x12]) fun x13 =>
  bndN (kAlloc [(.int .i64 (.ofNat (nat_lit 0))), (.int .i64 (.ofNat (nat_lit 0)))] []) h fun x4 h =>
  bndE (dSt h 2 [x4, x13]) h fun _ h =>
  bndV (qLd h (some 2) [x4]) fun x15 =>
  bndN (kBsl 2 1 [(.int .i64 (.ofNat (nat_lit 0))), (.int .i64 (.ofNat (nat_lit 0)))] [(0, 2)] [x15]) h fun x16 h =>
  bndE (dApp h 2 16 [x3, x16]) h fun x17 h =>
  rc [x17, x9] h)
  (some ⟨0, [x3], h⟩)) 1000000 [(.slice none 0 true 0), x9] h
noncomputable def f253 (vs : List V) (h : HT) : Option J := unc vs fun x0 vs =>
  bndV (kNilc [x0]) fun x6 =>
  bndV (kFa 0 [x6]) fun x7 =>
  bndV (qLd h none [x7]) fun x8 =>
  bndN (kRng h.heap [x8]) h fun x9 h =>
  bndJ ((f253_0 x9 h))
  fun j vs h => unc vs fun x3 vs =>
  bndC (f264 [x3, (.func 307 [])] h) fun x19 h =>
  ret1 x3 h
def a253 : List Ann := [.no, .loop [3, 9] [((.exit 0), [3])], .no, .no]
theorem e253 : f253 = evFun Tryz.prog 253 1 a253 t253 := by kernel_rfl
theorem o253 : FnOk Tryz.prog 253 f253 := .of hmO (show enters Tryz.prog 253 = true by kernel_rfl) e253 (.cons o264 (.nil))

/- concord/exec.Plan -/
noncomputable def l190 : List (Nat × (List V → HT → Option J)) := [(252, f252), (253, f253)]
noncomputable def t190 : Fns := tab l190
noncomputable def f190_0 (x6 : V) (x8 : V) (x17 : V) (x18 : V) (x19 : V) (x32 : V) (x35 : V) (h : HT) : Option J := bndC (gsel x32 false (retV (kFa 0 [x35]) h) h) fun x36 h =>
  bndC (gsel x32 false (retV (qLd h none [x36]) h) h) fun x37 h =>
  bndC (gsel x32 false (retV (kBin .neq [x37, (.int .i64 (.ofNat (nat_lit 3)))]) h) h) fun x38 h =>
  bndV (kPick [x32, (.bool true), x38]) fun x39 =>
  tstv x39 (some ⟨0, [x6, x17, x18, x19], h⟩)
  (bndV (kNilc [x6]) fun x41 =>
  bndV (kFa 7 [x41]) fun x42 =>
  bndV (qLd h none [x42]) fun x43 =>
  bndV (kFa 0 [x8]) fun x44 =>
  bndV (qLd h (some 2) [x44]) fun x45 =>
  bndV (kFa 2 [x8]) fun x46 =>
  bndV (qLd h (some 21) [x46]) fun x47 =>
  bndE (dMset h true [.i, .i] [x43, x45, x47]) h fun _ h =>
  some ⟨0, [x6, x17, x18, x19], h⟩)
noncomputable def f190_1 (x6 : V) (x17 : V) (x18 : V) (x19 : V) (x21 : V) (h : HT) : Option J := bndV (qLd h (some 23) [x21]) fun x22 =>
  bndN (kAlloc [(.int .i64 (.ofNat (nat_lit 0))), (.int .i64 (.ofNat (nat_lit 0))), (.int .i64 (.ofNat (nat_lit 0))), (.int .i64 (.ofNat (nat_lit 0))), (.int .i64 (.ofNat (nat_lit 0))), (.int .i64 (.ofNat (nat_lit 0))), (.int .i64 (.ofNat (nat_lit 0))), (.int .i64 (.ofNat (nat_lit 0))), (.int .i64 (.ofNat (nat_lit 0))), (.int .i64 (.ofNat (nat_lit 0))), (.str (sb [])), (.str (sb [])), (.str (sb [])), (.str (sb [])), (.int .i64 (.ofNat (nat_lit 0))), (.int .i64 (.ofNat (nat_lit 0))), (.int .i64 (.ofNat (nat_lit 0))), (.int .i64 (.ofNat (nat_lit 0))), (.int .i64 (.ofNat (nat_lit 0))), (.int .i64 (.ofNat (nat_lit 0))), (.int .i64 (.ofNat (nat_lit 0))), (.int .i64 (.ofNat (nat_lit 0))), (.bool false)] []) h fun x8 h =>
  bndE (dSt h 23 [x8, x22]) h fun _ h =>
  bndV (kNilc [x6]) fun x25 =>
  bndV (kFa 7 [x25]) fun x26 =>
  bndV (qLd h none [x26]) fun x27 =>
  bndV (kFa 0 [x8]) fun x28 =>
  bndV (qLd h (some 2) [x28]) fun x29 =>
  bndV (kLkp h.heap true [.i, .i] (.agg [(.int .i64 (.ofNat (nat_lit 0))), (.int .i64 (.ofNat (nat_lit 0))), (.int .i64 (.ofNat (nat_lit 0))), (.int .i64 (.ofNat (nat_lit 0))), (.int .i64 (.ofNat (nat_lit 0))), (.int .i64 (.ofNat (nat_lit 0))), (.int .i64 (.ofNat (nat_lit 0))), (.int .i64 (.ofNat (nat_lit 0))), (.str (sb [])), (.str (sb [])), (.str (sb [])), (.str (sb [])), (.int .i64 (.ofNat (nat_lit 0))), (.int .i64 (.ofNat (nat_lit 0))), (.int .i64 (.ofNat (nat_lit 0))), (.int .i64 (.ofNat (nat_lit 0))), (.int .i64 (.ofNat (nat_lit 0))), (.int .i64 (.ofNat (nat_lit 0))), (.int .i64 (.ofNat (nat_lit 0))), (.int .i64 (.ofNat (nat_lit 0))), (.bool false)]) true [x27, x29]) fun x30 =>
  bndV (kExt 0 [x30]) fun x31 =>
  bndV (kExt 1 [x30]) fun x32 =>
  bndN (kAlloc [(.int .i64 (.ofNat (nat_lit 0))), (.int .i64 (.ofNat (nat_lit 0))), (.int .i64 (.ofNat (nat_lit 0))), (.int .i64 (.ofNat (nat_lit 0))), (.int .i64 (.ofNat (nat_lit 0))), (.int .i64 (.ofNat (nat_lit 0))), (.int .i64 (.ofNat (nat_lit 0))), (.int .i64 (.ofNat (nat_lit 0))), (.str (sb [])), (.str (sb [])), (.str (sb [])), (.str (sb [])), (.int .i64 (.ofNat (nat_lit 0))), (.int .i64 (.ofNat (nat_lit 0))), (.int .i64 (.ofNat (nat_lit 0))), (.int .i64 (.ofNat (nat_lit 0))), (.int .i64 (.ofNat (nat_lit 0))), (.int .i64 (.ofNat (nat_lit 0))), (.int .i64 (.ofNat (nat_lit 0))), (.int .i64 (.ofNat (nat_lit 0))), (.bool false)] []) h fun x9 h =>
  bndE (dSt h 21 [x9, x31]) h fun _ h =>
  bndC (gsel x32 false (retV (kFa 2 [x8]) h) h) fun x35 h =>
  (f190_0 x6 x8 x17 x18 x19 x32 x35 h)
noncomputable def f190_2 (rc : List V → HT → Option J) (x6 : V) (vs : List V) (h : HT) : Option J := unc vs fun x17 vs =>
  unc vs fun x18 vs =>
  unc vs fun x19 vs =>
  bndV (kBin .lss [x19, x18]) fun x20 =>
  tstv x20 (bndJ (bndV (kIaS 23 [x17, x19]) fun x21 =>
  (f190_1 x6 x17 x18 x19 x21 h))
  fun j vs h => unc vs fun x6 vs =>
  unc vs fun x17 vs =>
  unc vs fun x18 vs =>
  unc vs fun x19 vs =>
  bndV (kBin .add [x19, (.int .i64 (.ofNat (nat_lit 1)))]) fun x48 =>
  rc [x6, x17, x18, x48] h)
  (some ⟨0, [x6], h⟩)
noncomputable def f190_3 (x6 : V) (h : HT) : Option J := bndJ (loopF (fun rc vs h => unc vs fun x6 vs =>
  bndC (f252 [x6] h) fun x51 h =>
  bndV (kExt 0 [x51]) fun x52 =>
  bndV (kExt 1 [x51]) fun x53 =>
  bndV (kUn .not [x52]) fun x55 =>
  tstv x55 (bndV (kNilc [x6]) fun x57 =>
  bndV (kFa 8 [x57]) fun x58 =>
  bndV (qLd h none [x58]) fun x59 =>
  bndC (f253 [x53] h) fun x61 h =>
  chk1 (sameE (qLd h none [x58]) x59) (some ⟨0, [x59, x61], h⟩))
  (rc [x6] h)) 1000000 [x6] h)
  fun j vs h => unc vs fun x4 vs =>
  unc vs fun x5 vs =>
  ret1 (.tuple [x4, x5]) h
noncomputable def f190 (vs : List V) (h : HT) : Option J := unc vs fun x0 vs =>
  unc vs fun x1 vs =>
  bndN (kBox [x0]) h fun x2 h =>
  bndV (qLd h (some 7) [x2]) fun x13 =>
  bndN (kMkM []) h fun x14 h =>
  bndV (kBld [(.int .i64 (.ofNat (nat_lit 0))), (.int .i64 (.ofNat (nat_lit 0))), (.int .i64 (.ofNat (nat_lit 0))), (.int .i64 (.ofNat (nat_lit 0))), (.int .i64 (.ofNat (nat_lit 0))), (.int .i64 (.ofNat (nat_lit 0))), (.int .i64 (.ofNat (nat_lit 0))), (.map none), (.slice none 0 true 0)] [(0, 7), (7, 1)] [x13, x14]) fun x15 =>
  bndN (kBox [x15]) h fun x16 h =>
  bndV (kLenS [x1]) fun x18 =>
  bndJ (loopF (fun rc vs h => unc vs fun x6 vs =>
  (f190_2 rc x6 vs h)) 1000000 [x16, x1, x18, (.int .i64 (.ofNat (nat_lit 0)))] h)
  fun j vs h => unc vs fun x6 vs =>
  (f190_3 x6 h)
def a190 : List Ann := [.no, .loop [6, 17, 18, 19] [((.exit 0), [6])], .no, .join [(.normal, [6, 17, 18, 19])], .no, .no, .loop [6] [(.ret, [4, 5])], .no, .no]
theorem e190 : f190 = evFun Tryz.prog 190 2 a190 t190 := by kernel_rfl
theorem o190 : FnOk Tryz.prog 190 f190 := .of hmO (show enters Tryz.prog 190 = true by kernel_rfl) e190 (.cons o252 (.cons o253 (.nil)))

/- (*concord/log.Log).List -/
noncomputable def l199 : List (Nat × (List V → HT → Option J)) := [(264, f264)]
noncomputable def t199 : Fns := tab l199
noncomputable def f199_0 (x9 : V) (h : HT) : Option J := loopF (fun rc vs h => unc vs fun x3 vs =>
  unc vs fun x9 vs =>
  bndE (dNx h [x9]) h fun x10 h =>
  bndV (kExt 0 [x10]) fun x11 =>
  tstv x11 (bndV (kEnt h.heap [x9]) fun x12 =>
  bndV (kExt 0 [x12]) fun x13 =>
  bndN (kAlloc [(.int .i64 (.ofNat (nat_lit 0))), (.int .i64 (.ofNat (nat_lit 0)))] []) h fun x4 h =>
  bndE (dSt h 2 [x4, x13]) h fun _ h =>
  bndV (qLd h (some 2) [x4]) fun x15 =>
  bndN (kBsl 2 1 [(.int .i64 (.ofNat (nat_lit 0))), (.int .i64 (.ofNat (nat_lit 0)))] [(0, 2)] [x15]) h fun x16 h =>
  bndE (dApp h 2 16 [x3, x16]) h fun x17 h =>
  rc [x17, x9] h)
  (some ⟨0, [x3], h⟩)) 1000000 [(.slice none 0 true 0), x9] h
noncomputable def f199 (vs : List V) (h : HT) : Option J := unc vs fun x0 vs =>
  bndV (kNilc [x0]) fun x6 =>
  bndV (kFa 0 [x6]) fun x7 =>
  bndV (qLd h none [x7]) fun x8 =>
  bndN (kRng h.heap [x8]) h fun x9 h =>
  bndJ ((f199_0 x9 h))
  fun j vs h => unc vs fun x3 vs =>
  bndC (f264 [x3, (.func 265 [])] h) fun x19 h =>
  ret1 x3 h
def a199 : List Ann := [.no, .loop [3, 9] [((.exit 0), [3])], .no, .no]
theorem e199 : f199 = evFun Tryz.prog 199 1 a199 t199 := by kernel_rfl
theorem o199 : FnOk Tryz.prog 199 f199 := .of hmO (show enters Tryz.prog 199 = true by kernel_rfl) e199 (.cons o264 (.nil))

/- (*concord/core.Core).Cells -/
noncomputable def l118 : List (Nat × (List V → HT → Option J)) := [(199, f199)]
noncomputable def t118 : Fns := tab l118

noncomputable def f118 (vs : List V) (h : HT) : Option J := unc vs fun x0 vs =>
  bndV (kNilc [x0]) fun x4 =>
  bndV (kFa 2 [x4]) fun x5 =>
  bndV (qLd h none [x5]) fun x6 =>
  bndC (f199 [x6] h) fun x7 h =>
  ret1 x7 h
def a118 : List Ann := []
theorem e118 : f118 = evFun Tryz.prog 118 1 a118 t118 := by kernel_rfl
theorem o118 : FnOk Tryz.prog 118 f118 := .of hmO (show enters Tryz.prog 118 = true by kernel_rfl) e118 (.cons o199 (.nil))

/- (*concord/log.Log).Cell -/
noncomputable def l200 : List (Nat × (List V → HT → Option J)) := []
noncomputable def t200 : Fns := tab l200
noncomputable def f200_0 (x4 : V) (x12 : V) (x13 : V) (h : HT) : Option J := bndV (kLkp h.heap true [.i, .i] (.agg [(.int .i64 (.ofNat (nat_lit 0))), (.int .i64 (.ofNat (nat_lit 0))), (.int .i64 (.ofNat (nat_lit 0))), (.int .i64 (.ofNat (nat_lit 0))), (.int .i64 (.ofNat (nat_lit 0))), (.int .i64 (.ofNat (nat_lit 0))), (.int .i64 (.ofNat (nat_lit 0))), (.int .i64 (.ofNat (nat_lit 0))), (.str (sb [])), (.str (sb [])), (.str (sb [])), (.str (sb [])), (.int .i64 (.ofNat (nat_lit 0))), (.int .i64 (.ofNat (nat_lit 0))), (.int .i64 (.ofNat (nat_lit 0))), (.int .i64 (.ofNat (nat_lit 0))), (.int .i64 (.ofNat (nat_lit 0))), (.int .i64 (.ofNat (nat_lit 0))), (.int .i64 (.ofNat (nat_lit 0))), (.int .i64 (.ofNat (nat_lit 0))), (.bool false)]) true [x12, x13]) fun x14 =>
  bndV (kExt 0 [x14]) fun x15 =>
  bndV (kExt 1 [x14]) fun x16 =>
  bndN (kAlloc [(.int .i64 (.ofNat (nat_lit 0))), (.int .i64 (.ofNat (nat_lit 0))), (.int .i64 (.ofNat (nat_lit 0))), (.int .i64 (.ofNat (nat_lit 0))), (.int .i64 (.ofNat (nat_lit 0))), (.int .i64 (.ofNat (nat_lit 0))), (.int .i64 (.ofNat (nat_lit 0))), (.int .i64 (.ofNat (nat_lit 0))), (.str (sb [])), (.str (sb [])), (.str (sb [])), (.str (sb [])), (.int .i64 (.ofNat (nat_lit 0))), (.int .i64 (.ofNat (nat_lit 0))), (.int .i64 (.ofNat (nat_lit 0))), (.int .i64 (.ofNat (nat_lit 0))), (.int .i64 (.ofNat (nat_lit 0))), (.int .i64 (.ofNat (nat_lit 0))), (.int .i64 (.ofNat (nat_lit 0))), (.int .i64 (.ofNat (nat_lit 0))), (.bool false)] []) h fun x6 h =>
  bndE (dSt h 21 [x6, x15]) h fun _ h =>
  bndV (kUn .not [x16]) fun x18 =>
  tstv x18 (bndV (kBld [(.int .i64 (.ofNat (nat_lit 0))), (.int .i64 (.ofNat (nat_lit 0))), (.int .i64 (.ofNat (nat_lit 0))), (.int .i64 (.ofNat (nat_lit 0))), (.int .i64 (.ofNat (nat_lit 0))), (.int .i64 (.ofNat (nat_lit 0))), (.int .i64 (.ofNat (nat_lit 0))), (.int .i64 (.ofNat (nat_lit 0))), (.str (sb [])), (.str (sb [])), (.str (sb [])), (.str (sb [])), (.int .i64 (.ofNat (nat_lit 0))), (.int .i64 (.ofNat (nat_lit 0))), (.int .i64 (.ofNat (nat_lit 0))), (.int .i64 (.ofNat (nat_lit 0))), (.int .i64 (.ofNat (nat_lit 0))), (.int .i64 (.ofNat (nat_lit 0))), (.int .i64 (.ofNat (nat_lit 0))), (.int .i64 (.ofNat (nat_lit 0))), (.bool false)] [] []) fun x19 =>
  bndE (dSt h 21 [x4, x19]) h fun _ h =>
  bndV (qLd h (some 21) [x4]) fun x900000 =>
  ret1 (.tuple [x900000, (.bool false)]) h)
  (bndV (qLd h (some 21) [x6]) fun x20 =>
  bndE (dSt h 21 [x4, x20]) h fun _ h =>
  bndV (qLd h (some 21) [x4]) fun x900000 =>
  ret1 (.tuple [x900000, (.bool true)]) h)
noncomputable def f200 (vs : List V) (h : HT) : Option J := unc vs fun x0 vs =>
  unc vs fun x1 vs =>
  bndN (kBox [x1]) h fun x3 h =>
  bndN (kAlloc [(.int .i64 (.ofNat (nat_lit 0))), (.int .i64 (.ofNat (nat_lit 0))), (.int .i64 (.ofNat (nat_lit 0))), (.int .i64 (.ofNat (nat_lit 0))), (.int .i64 (.ofNat (nat_lit 0))), (.int .i64 (.ofNat (nat_lit 0))), (.int .i64 (.ofNat (nat_lit 0))), (.int .i64 (.ofNat (nat_lit 0))), (.str (sb [])), (.str (sb [])), (.str (sb [])), (.str (sb [])), (.int .i64 (.ofNat (nat_lit 0))), (.int .i64 (.ofNat (nat_lit 0))), (.int .i64 (.ofNat (nat_lit 0))), (.int .i64 (.ofNat (nat_lit 0))), (.int .i64 (.ofNat (nat_lit 0))), (.int .i64 (.ofNat (nat_lit 0))), (.int .i64 (.ofNat (nat_lit 0))), (.int .i64 (.ofNat (nat_lit 0))), (.bool false)] []) h fun x4 h =>
  bndV (kNilc [x0]) fun x10 =>
  bndV (kFa 0 [x10]) fun x11 =>
  bndV (qLd h none [x11]) fun x12 =>
  bndV (qLd h (some 2) [x3]) fun x13 =>
  (f200_0 x4 x12 x13 h)
def a200 : List Ann := [.no]
theorem e200 : f200 = evFun Tryz.prog 200 2 a200 t200 := by kernel_rfl
theorem o200 : FnOk Tryz.prog 200 f200 := .of hmO (show enters Tryz.prog 200 = true by kernel_rfl) e200 (.nil)

/- (*concord/core.Core).Cell -/
noncomputable def l119 : List (Nat × (List V → HT → Option J)) := [(200, f200)]
noncomputable def t119 : Fns := tab l119

noncomputable def f119 (vs : List V) (h : HT) : Option J := unc vs fun x0 vs =>
  unc vs fun x1 vs =>
  bndN (kBox [x1]) h fun x3 h =>
  bndN (kAlloc [(.int .i64 (.ofNat (nat_lit 0))), (.int .i64 (.ofNat (nat_lit 0))), (.int .i64 (.ofNat (nat_lit 0))), (.int .i64 (.ofNat (nat_lit 0))), (.int .i64 (.ofNat (nat_lit 0))), (.int .i64 (.ofNat (nat_lit 0))), (.int .i64 (.ofNat (nat_lit 0))), (.int .i64 (.ofNat (nat_lit 0))), (.str (sb [])), (.str (sb [])), (.str (sb [])), (.str (sb [])), (.int .i64 (.ofNat (nat_lit 0))), (.int .i64 (.ofNat (nat_lit 0))), (.int .i64 (.ofNat (nat_lit 0))), (.int .i64 (.ofNat (nat_lit 0))), (.int .i64 (.ofNat (nat_lit 0))), (.int .i64 (.ofNat (nat_lit 0))), (.int .i64 (.ofNat (nat_lit 0))), (.int .i64 (.ofNat (nat_lit 0))), (.bool false)] []) h fun x4 h =>
  bndV (kNilc [x0]) fun x7 =>
  bndV (kFa 2 [x7]) fun x8 =>
  bndV (qLd h none [x8]) fun x9 =>
  bndV (qLd h (some 2) [x3]) fun x10 =>
  bndC (f200 [x9, x10] h) fun x11 h =>
  bndV (kExt 0 [x11]) fun x12 =>
  bndV (kExt 1 [x11]) fun x13 =>
  bndE (dSt h 21 [x4, x12]) h fun _ h =>
  bndV (qLd h (some 21) [x4]) fun x900000 =>
  ret1 (.tuple [x900000, x13]) h
def a119 : List Ann := []
theorem e119 : f119 = evFun Tryz.prog 119 2 a119 t119 := by kernel_rfl
theorem o119 : FnOk Tryz.prog 119 f119 := .of hmO (show enters Tryz.prog 119 = true by kernel_rfl) e119 (.cons o200 (.nil))

/- (*concord/node.Node).committed -/
noncomputable def l191 : List (Nat × (List V → HT → Option J)) := [(118, f118), (119, f119)]
noncomputable def t191 : Fns := tab l191
noncomputable def f191_0 (rc : List V → HT → Option J) (x0 : V) (x3 : V) (x5 : V) (x6 : V) (x12 : V) (x13 : V) (x14 : V) (x41 : V) (h : HT) : Option J := bndJ (tstv x41 (bndV (qLd h (some 2) [x5]) fun x43 =>
  bndV (qLd h (some 21) [x6]) fun x44 =>
  bndV (kBld [(.int .i64 (.ofNat (nat_lit 0))), (.int .i64 (.ofNat (nat_lit 0))), (.int .i64 (.ofNat (nat_lit 0))), (.int .i64 (.ofNat (nat_lit 0))), (.int .i64 (.ofNat (nat_lit 0))), (.int .i64 (.ofNat (nat_lit 0))), (.int .i64 (.ofNat (nat_lit 0))), (.int .i64 (.ofNat (nat_lit 0))), (.int .i64 (.ofNat (nat_lit 0))), (.int .i64 (.ofNat (nat_lit 0))), (.str (sb [])), (.str (sb [])), (.str (sb [])), (.str (sb [])), (.int .i64 (.ofNat (nat_lit 0))), (.int .i64 (.ofNat (nat_lit 0))), (.int .i64 (.ofNat (nat_lit 0))), (.int .i64 (.ofNat (nat_lit 0))), (.int .i64 (.ofNat (nat_lit 0))), (.int .i64 (.ofNat (nat_lit 0))), (.int .i64 (.ofNat (nat_lit 0))), (.int .i64 (.ofNat (nat_lit 0))), (.bool false)] [(0, 2), (2, 21)] [x43, x44]) fun x45 =>
  bndN (kBsl 23 1 [(.int .i64 (.ofNat (nat_lit 0))), (.int .i64 (.ofNat (nat_lit 0))), (.int .i64 (.ofNat (nat_lit 0))), (.int .i64 (.ofNat (nat_lit 0))), (.int .i64 (.ofNat (nat_lit 0))), (.int .i64 (.ofNat (nat_lit 0))), (.int .i64 (.ofNat (nat_lit 0))), (.int .i64 (.ofNat (nat_lit 0))), (.int .i64 (.ofNat (nat_lit 0))), (.int .i64 (.ofNat (nat_lit 0))), (.str (sb [])), (.str (sb [])), (.str (sb [])), (.str (sb [])), (.int .i64 (.ofNat (nat_lit 0))), (.int .i64 (.ofNat (nat_lit 0))), (.int .i64 (.ofNat (nat_lit 0))), (.int .i64 (.ofNat (nat_lit 0))), (.int .i64 (.ofNat (nat_lit 0))), (.int .i64 (.ofNat (nat_lit 0))), (.int .i64 (.ofNat (nat_lit 0))), (.int .i64 (.ofNat (nat_lit 0))), (.bool false)] [(0, 23)] [x45]) h fun x46 h =>
  bndE (dApp h 23 216 [x3, x46]) h fun x47 h =>
  some ⟨0, [x0, x47, x12, x13, x14], h⟩)
  (some ⟨0, [x0, x3, x12, x13, x14], h⟩))
  fun j vs h => unc vs fun x0 vs =>
  unc vs fun x3 vs =>
  unc vs fun x12 vs =>
  unc vs fun x13 vs =>
  unc vs fun x14 vs =>
  bndV (kBin .add [x14, (.int .i64 (.ofNat (nat_lit 1)))]) fun x48 =>
  rc [x0, x3, x12, x13, x48] h
noncomputable def f191_1 (rc : List V → HT → Option J) (x0 : V) (x3 : V) (x5 : V) (x6 : V) (x12 : V) (x13 : V) (x14 : V) (x25 : V) (h : HT) : Option J := bndE (dSt h 21 [x6, x25]) h fun _ h =>
  bndV (kFa 1 [x5]) fun x27 =>
  bndV (qLd h none [x27]) fun x28 =>
  bndV (kFa 0 [x5]) fun x30 =>
  bndV (qLd h none [x30]) fun x31 =>
  bndV (kNilc [x0]) fun x32 =>
  bndV (kFa 55 [x32]) fun x33 =>
  bndV (kIaA 7 1 [x33, x31]) fun x34 =>
  bndV (qLd h none [x34]) fun x35 =>
  bndV (kBin .gtr [x28, x35]) fun x36 =>
  bndC (gsel x36 true (retV (kFa 0 [x6]) h) h) fun x38 h =>
  bndC (gsel x36 true (retV (qLd h none [x38]) h) h) fun x39 h =>
  bndC (gsel x36 true (retV (kBin .eql [x39, (.int .i64 (.ofNat (nat_lit 3)))]) h) h) fun x40 h =>
  bndV (kPick [x36, x40, (.bool false)]) fun x41 =>
  (f191_0 rc x0 x3 x5 x6 x12 x13 x14 x41 h)
noncomputable def f191_2 (rc : List V → HT → Option J) (x0 : V) (x3 : V) (x12 : V) (x13 : V) (x14 : V) (x15 : V) (h : HT) : Option J := tstv x15 (bndV (kIaS 2 [x12, x14]) fun x16 =>
  bndV (qLd h (some 2) [x16]) fun x17 =>
  bndN (kAlloc [(.int .i64 (.ofNat (nat_lit 0))), (.int .i64 (.ofNat (nat_lit 0)))] []) h fun x5 h =>
  bndE (dSt h 2 [x5, x17]) h fun _ h =>
  bndV (kNilc [x0]) fun x20 =>
  bndV (kFa 4 [x20]) fun x21 =>
  bndV (qLd h none [x21]) fun x22 =>
  bndV (qLd h (some 2) [x5]) fun x23 =>
  bndN (kAlloc [(.int .i64 (.ofNat (nat_lit 0))), (.int .i64 (.ofNat (nat_lit 0))), (.int .i64 (.ofNat (nat_lit 0))), (.int .i64 (.ofNat (nat_lit 0))), (.int .i64 (.ofNat (nat_lit 0))), (.int .i64 (.ofNat (nat_lit 0))), (.int .i64 (.ofNat (nat_lit 0))), (.int .i64 (.ofNat (nat_lit 0))), (.str (sb [])), (.str (sb [])), (.str (sb [])), (.str (sb [])), (.int .i64 (.ofNat (nat_lit 0))), (.int .i64 (.ofNat (nat_lit 0))), (.int .i64 (.ofNat (nat_lit 0))), (.int .i64 (.ofNat (nat_lit 0))), (.int .i64 (.ofNat (nat_lit 0))), (.int .i64 (.ofNat (nat_lit 0))), (.int .i64 (.ofNat (nat_lit 0))), (.int .i64 (.ofNat (nat_lit 0))), (.bool false)] []) h fun x6 h =>
  bndC (f119 [x22, x23] h) fun x24 h =>
  bndV (kExt 0 [x24]) fun x25 =>
  bndV (kExt 1 [x24]) fun x26 =>
  (f191_1 rc x0 x3 x5 x6 x12 x13 x14 x25 h))
  (some ⟨0, [x3], h⟩)
noncomputable def f191_3 (x0 : V) (x9 : V) (h : HT) : Option J := bndV (kFa 4 [x9]) fun x10 =>
  bndV (qLd h none [x10]) fun x11 =>
  bndC (f118 [x11] h) fun x12 h =>
  bndV (kLenS [x12]) fun x13 =>
  bndJ (loopF (fun rc vs h => unc vs fun x0 vs =>
  unc vs fun x3 vs =>
  unc vs fun x12 vs =>
  unc vs fun x13 vs =>
  unc vs fun x14 vs =>
  bndV (kBin .lss [x14, x13]) fun x15 =>
  (f191_2 rc x0 x3 x12 x13 x14 x15 h)) 1000000 [x0, (.slice none 0 true 0), x12, x13, (.int .i64 (.ofNat (nat_lit 0)))] h)
  fun j vs h => unc vs fun x3 vs =>
  ret1 x3 h
noncomputable def f191 (vs : List V) (h : HT) : Option J := unc vs fun x0 vs =>
  bndV (kNilc [x0]) fun x9 =>
  (f191_3 x0 x9 h)
def a191 : List Ann := [.no, .loop [0, 3, 12, 13, 14] [((.exit 0), [3])], .no, .no, .join [(.normal, [0, 3, 12, 13, 14])]]
theorem e191 : f191 = evFun Tryz.prog 191 1 a191 t191 := by kernel_rfl
theorem o191 : FnOk Tryz.prog 191 f191 := .of hmO (show enters Tryz.prog 191 = true by kernel_rfl) e191 (.cons o118 (.cons o119 (.nil)))

/- (*concord/node.Node).run -/
noncomputable def l111 : List (Nat × (List V → HT → Option J)) := [(140, f140), (190, f190), (191, f191)]
noncomputable def t111 : Fns := tab l111
noncomputable def f111_0 (rc : List V → HT → Option J) (x0 : V) (x3 : V) (x18 : V) (x19 : V) (x20 : V) (x41 : V) (x49 : V) (x51 : V) (h : HT) : Option J := bndV (qLd h none [x51]) fun x52 =>
  bndV (kMaxI [x49, x52]) fun x53 =>
  bndV (kNilc [x0]) fun x54 =>
  bndV (kFa 55 [x54]) fun x55 =>
  bndV (kIaA 7 1 [x55, x41]) fun x56 =>
  bndE (dSt h 1 [x56, x53]) h fun _ h =>
  bndV (kNilc [x0]) fun x58 =>
  bndV (kFa 69 [x58]) fun x59 =>
  bndV (qLd h none [x59]) fun x60 =>
  bndV (kBin .add [x60, (.int .i64 (.ofNat (nat_lit 1)))]) fun x61 =>
  bndV (kNilc [x0]) fun x62 =>
  bndV (kFa 69 [x62]) fun x63 =>
  bndE (dSt h 1 [x63, x61]) h fun _ h =>
  bndV (kBin .add [x20, (.int .i64 (.ofNat (nat_lit 1)))]) fun x64 =>
  rc [x0, x3, x18, x19, x64] h
noncomputable def f111_1 (rc : List V → HT → Option J) (x0 : V) (x3 : V) (x5 : V) (x18 : V) (x19 : V) (x20 : V) (x34 : V) (x36 : V) (h : HT) : Option J := bndV (kFa 6 [x36]) fun x37 =>
  bndE (dSt h 49 [x37, x34]) h fun _ h =>
  bndV (kFa 0 [x5]) fun x39 =>
  bndV (kFa 0 [x39]) fun x40 =>
  bndV (qLd h none [x40]) fun x41 =>
  bndV (kFa 0 [x5]) fun x43 =>
  bndV (kFa 0 [x43]) fun x44 =>
  bndV (qLd h none [x44]) fun x45 =>
  bndV (kNilc [x0]) fun x46 =>
  bndV (kFa 55 [x46]) fun x47 =>
  bndV (kIaA 7 1 [x47, x45]) fun x48 =>
  bndV (qLd h none [x48]) fun x49 =>
  bndV (kFa 0 [x5]) fun x50 =>
  bndV (kFa 1 [x50]) fun x51 =>
  (f111_0 rc x0 x3 x18 x19 x20 x41 x49 x51 h)
noncomputable def f111_2 (rc : List V → HT → Option J) (x0 : V) (x3 : V) (x18 : V) (x19 : V) (x20 : V) (h : HT) : Option J := bndV (kIaS 23 [x18, x20]) fun x22 =>
  bndV (qLd h (some 23) [x22]) fun x23 =>
  bndN (kAlloc [(.int .i64 (.ofNat (nat_lit 0))), (.int .i64 (.ofNat (nat_lit 0))), (.int .i64 (.ofNat (nat_lit 0))), (.int .i64 (.ofNat (nat_lit 0))), (.int .i64 (.ofNat (nat_lit 0))), (.int .i64 (.ofNat (nat_lit 0))), (.int .i64 (.ofNat (nat_lit 0))), (.int .i64 (.ofNat (nat_lit 0))), (.int .i64 (.ofNat (nat_lit 0))), (.int .i64 (.ofNat (nat_lit 0))), (.str (sb [])), (.str (sb [])), (.str (sb [])), (.str (sb [])), (.int .i64 (.ofNat (nat_lit 0))), (.int .i64 (.ofNat (nat_lit 0))), (.int .i64 (.ofNat (nat_lit 0))), (.int .i64 (.ofNat (nat_lit 0))), (.int .i64 (.ofNat (nat_lit 0))), (.int .i64 (.ofNat (nat_lit 0))), (.int .i64 (.ofNat (nat_lit 0))), (.int .i64 (.ofNat (nat_lit 0))), (.bool false)] []) h fun x5 h =>
  bndE (dSt h 23 [x5, x23]) h fun _ h =>
  bndV (kNilc [x0]) fun x27 =>
  bndV (kFa 6 [x27]) fun x28 =>
  bndV (qLd h (some 49) [x28]) fun x29 =>
  bndV (kFa 2 [x5]) fun x30 =>
  bndV (kFa 5 [x30]) fun x31 =>
  bndV (qLd h (some 7) [x31]) fun x32 =>
  bndC (f140 [x29, x32] h) fun x33 h =>
  bndV (kExt 0 [x33]) fun x34 =>
  bndV (kExt 1 [x33]) fun x35 =>
  bndV (kNilc [x0]) fun x36 =>
  (f111_1 rc x0 x3 x5 x18 x19 x20 x34 x36 h)
noncomputable def f111_3 (rc : List V → HT → Option J) (x0 : V) (x65 : V) (x66 : V) (vs : List V) (h : HT) : Option J := unc vs fun x67 vs =>
  bndV (kBin .lss [x67, x66]) fun x68 =>
  tstv x68 (bndV (kIaS 2 [x65, x67]) fun x69 =>
  bndV (qLd h (some 2) [x69]) fun x70 =>
  bndN (kAlloc [(.int .i64 (.ofNat (nat_lit 0))), (.int .i64 (.ofNat (nat_lit 0)))] []) h fun x7 h =>
  bndE (dSt h 2 [x7, x70]) h fun _ h =>
  bndV (kFa 0 [x7]) fun x72 =>
  bndV (qLd h none [x72]) fun x73 =>
  bndV (kFa 1 [x7]) fun x74 =>
  bndV (qLd h none [x74]) fun x75 =>
  bndC (noF [x0, x73, x75] h) fun x76 h =>
  bndV (kBin .add [x67, (.int .i64 (.ofNat (nat_lit 1)))]) fun x77 =>
  rc [x0, x65, x66, x77] h)
  (some ⟨0, [], h⟩)
noncomputable def f111_4 (x0 : V) (x16 : V) (x17 : V) (x19 : V) (h : HT) : Option J := bndJ (loopF (fun rc vs h => unc vs fun x0 vs =>
  unc vs fun x3 vs =>
  unc vs fun x18 vs =>
  unc vs fun x19 vs =>
  unc vs fun x20 vs =>
  bndV (kBin .lss [x20, x19]) fun x21 =>
  tstv x21 ((f111_2 rc x0 x3 x18 x19 x20 h))
  (some ⟨0, [x0, x3], h⟩)) 1000000 [x0, x17, x16, x19, (.int .i64 (.ofNat (nat_lit 0)))] h)
  fun j vs h => unc vs fun x0 vs =>
  unc vs fun x3 vs =>
  bndV (kLenS [x3]) fun x66 =>
  bndJ (loopF (fun rc vs h => unc vs fun x0 vs =>
  unc vs fun x65 vs =>
  unc vs fun x66 vs =>
  (f111_3 rc x0 x65 x66 vs h)) 1000000 [x0, x3, x66, (.int .i64 (.ofNat (nat_lit 0)))] h)
  fun j vs h => ret1 (.tuple []) h
noncomputable def f111 (vs : List V) (h : HT) : Option J := unc vs fun x0 vs =>
  bndV (kNilc [x0]) fun x10 =>
  bndV (kFa 55 [x10]) fun x11 =>
  bndV (qLd h (some 7) [x11]) fun x12 =>
  bndC (f191 [x0] h) fun x14 h =>
  chk1 (sameE (qLd h (some 7) [x11]) x12) (bndC (f190 [x12, x14] h) fun x15 h =>
  bndV (kExt 0 [x15]) fun x16 =>
  bndV (kExt 1 [x15]) fun x17 =>
  bndV (kLenS [x16]) fun x19 =>
  (f111_4 x0 x16 x17 x19 h))
def a111 : List Ann := [.no, .loop [0, 3, 18, 19, 20] [((.exit 0), [0, 3])], .no, .no, .no, .loop [0, 65, 66, 67] [((.exit 2), [])], .no, .no]
theorem e111 : f111 = evFun Tryz.prog 111 1 a111 t111 := by kernel_rfl
theorem o111 : FnOk Tryz.prog 111 f111 := .of hmO (show enters Tryz.prog 111 = true by kernel_rfl) e111 (.cons o140 (.cons o190 (.cons o191 (.nil))))

/- (*concord/node.Node).answer -/
noncomputable def l112 : List (Nat × (List V → HT → Option J)) := [(63, f63)]
noncomputable def t112 : Fns := tab l112
noncomputable def f112_0 (x0 : V) (x2 : V) (x4 : V) (x6 : V) (x10 : V) (x11 : V) (x12 : V) (h : HT) : Option J := bndV (kNilc [x0]) fun x39 =>
  bndV (kFa 73 [x39]) fun x40 =>
  bndV (qLd h none [x40]) fun x41 =>
  bndV (kFa 0 [x4]) fun x42 =>
  bndV (qLd h none [x42]) fun x43 =>
  bndV (kFa 1 [x4]) fun x44 =>
  bndV (qLd h none [x44]) fun x45 =>
  bndV (qLd h (some 5) [x6]) fun x46 =>
  bndV (kBld [(.int .i64 (.ofNat (nat_lit 0))), (.int .i64 (.ofNat (nat_lit 0))), (.int .i64 (.ofNat (nat_lit 0))), (.bool false), (.str (sb [])), (.int .i64 (.ofNat (nat_lit 0))), (.slice none 0 true 0)] [(0, 1), (1, 1), (2, 5)] [x43, x45, x46]) fun x47 =>
  bndN (kBsl 7 1 [(.int .i64 (.ofNat (nat_lit 0))), (.int .i64 (.ofNat (nat_lit 0))), (.int .i64 (.ofNat (nat_lit 0))), (.bool false), (.str (sb [])), (.int .i64 (.ofNat (nat_lit 0))), (.slice none 0 true 0)] [(0, 7)] [x47]) h fun x48 h =>
  bndE (dApp h 7 80 [x41, x48]) h fun x49 h =>
  bndV (kNilc [x0]) fun x50 =>
  bndV (kFa 73 [x50]) fun x51 =>
  bndE (dSt h 1 [x51, x49]) h fun _ h =>
  some ⟨0, [x0, x2, x10, x11, x12], h⟩
noncomputable def f112_1 (x0 : V) (x2 : V) (x4 : V) (x10 : V) (x11 : V) (x12 : V) (x54 : V) (x55 : V) (h : HT) : Option J := bndV (qLd h none [x55]) fun x56 =>
  bndV (kBin .lss [x54, x56]) fun x57 =>
  bndJ (tstv x57 (bndV (qLd h (some 2) [x4]) fun x59 =>
  bndN (kBsl 2 1 [(.int .i64 (.ofNat (nat_lit 0))), (.int .i64 (.ofNat (nat_lit 0)))] [(0, 2)] [x59]) h fun x60 h =>
  bndE (dApp h 2 16 [x2, x60]) h fun x61 h =>
  some ⟨0, [x0, x61, x10, x11, x12], h⟩)
  (some ⟨0, [x0, x2, x10, x11, x12], h⟩))
  fun j vs h => unc vs fun x0 vs =>
  unc vs fun x2 vs =>
  unc vs fun x10 vs =>
  unc vs fun x11 vs =>
  unc vs fun x12 vs =>
  some ⟨0, [x0, x2, x10, x11, x12], h⟩
noncomputable def f112_2 (x0 : V) (x2 : V) (x4 : V) (x5 : V) (x10 : V) (x11 : V) (x12 : V) (x30 : V) (h : HT) : Option J := tstv x30 (bndV (kFa 1 [x5]) fun x31 =>
  bndV (qLd h (some 5) [x31]) fun x32 =>
  bndN (kAlloc [(.int .i64 (.ofNat (nat_lit 0))), (.bool false), (.str (sb [])), (.int .i64 (.ofNat (nat_lit 0))), (.slice none 0 true 0)] []) h fun x6 h =>
  bndE (dSt h 5 [x6, x32]) h fun _ h =>
  bndV (kFa 4 [x6]) fun x33 =>
  bndV (qLd h none [x33]) fun x34 =>
  bndC (f63 [x34] h) fun x35 h =>
  bndV (kFa 4 [x6]) fun x36 =>
  bndE (dSt h 1 [x36, x35]) h fun _ h =>
  (f112_0 x0 x2 x4 x6 x10 x11 x12 h))
  (bndV (kFa 0 [x5]) fun x53 =>
  bndV (qLd h none [x53]) fun x54 =>
  bndV (kFa 1 [x4]) fun x55 =>
  (f112_1 x0 x2 x4 x10 x11 x12 x54 x55 h))
noncomputable def f112_3 (rc : List V → HT → Option J) (x0 : V) (x2 : V) (x4 : V) (x5 : V) (x10 : V) (x11 : V) (x12 : V) (x24 : V) (h : HT) : Option J := bndE (dSt h 6 [x5, x24]) h fun _ h =>
  bndV (kFa 0 [x5]) fun x26 =>
  bndV (qLd h none [x26]) fun x27 =>
  bndV (kFa 1 [x4]) fun x28 =>
  bndV (qLd h none [x28]) fun x29 =>
  bndV (kBin .eql [x27, x29]) fun x30 =>
  bndJ ((f112_2 x0 x2 x4 x5 x10 x11 x12 x30 h))
  fun j vs h => unc vs fun x0 vs =>
  unc vs fun x2 vs =>
  unc vs fun x10 vs =>
  unc vs fun x11 vs =>
  unc vs fun x12 vs =>
  bndV (kBin .add [x12, (.int .i64 (.ofNat (nat_lit 1)))]) fun x62 =>
  rc [x0, x2, x10, x11, x62] h
noncomputable def f112_4 (rc : List V → HT → Option J) (x0 : V) (x2 : V) (x10 : V) (x11 : V) (x12 : V) (x13 : V) (h : HT) : Option J := tstv x13 (bndV (kIaS 2 [x10, x12]) fun x14 =>
  bndV (qLd h (some 2) [x14]) fun x15 =>
  bndN (kAlloc [(.int .i64 (.ofNat (nat_lit 0))), (.int .i64 (.ofNat (nat_lit 0)))] []) h fun x4 h =>
  bndE (dSt h 2 [x4, x15]) h fun _ h =>
  bndV (kFa 0 [x4]) fun x17 =>
  bndV (qLd h none [x17]) fun x18 =>
  bndV (kBin .sub [x18, (.int .i64 (.ofNat (nat_lit 1)))]) fun x19 =>
  bndV (kNilc [x0]) fun x20 =>
  bndV (kFa 6 [x20]) fun x21 =>
  bndV (kFa 1 [x21]) fun x22 =>
  bndV (kIaA 8 6 [x22, x19]) fun x23 =>
  bndV (qLd h (some 6) [x23]) fun x24 =>
  bndN (kAlloc [(.int .i64 (.ofNat (nat_lit 0))), (.int .i64 (.ofNat (nat_lit 0))), (.bool false), (.str (sb [])), (.int .i64 (.ofNat (nat_lit 0))), (.slice none 0 true 0)] []) h fun x5 h =>
  (f112_3 rc x0 x2 x4 x5 x10 x11 x12 x24 h))
  (some ⟨0, [x0, x2], h⟩)
noncomputable def f112_5 (x0 : V) (x10 : V) (x11 : V) (h : HT) : Option J := bndJ (loopF (fun rc vs h => unc vs fun x0 vs =>
  unc vs fun x2 vs =>
  unc vs fun x10 vs =>
  unc vs fun x11 vs =>
  unc vs fun x12 vs =>
  bndV (kBin .lss [x12, x11]) fun x13 =>
  (f112_4 rc x0 x2 x10 x11 x12 x13 h)) 1000000 [x0, (.slice none 0 true 0), x10, x11, (.int .i64 (.ofNat (nat_lit 0)))] h)
  fun j vs h => unc vs fun x0 vs =>
  unc vs fun x2 vs =>
  bndV (kNilc [x0]) fun x65 =>
  bndV (kFa 71 [x65]) fun x66 =>
  bndE (dSt h 1 [x66, x2]) h fun _ h =>
  ret1 (.tuple []) h
noncomputable def f112 (vs : List V) (h : HT) : Option J := unc vs fun x0 vs =>
  bndV (kNilc [x0]) fun x8 =>
  bndV (kFa 71 [x8]) fun x9 =>
  bndV (qLd h none [x9]) fun x10 =>
  bndV (kLenS [x10]) fun x11 =>
  (f112_5 x0 x10 x11 h)
def a112 : List Ann := [.no, .loop [0, 2, 10, 11, 12] [((.exit 0), [0, 2])], .no, .no, .no, .join [(.normal, [0, 2, 10, 11, 12])], .join [(.normal, [0, 2, 10, 11, 12])]]
theorem e112 : f112 = evFun Tryz.prog 112 1 a112 t112 := by kernel_rfl
theorem o112 : FnOk Tryz.prog 112 f112 := .of hmO (show enters Tryz.prog 112 = true by kernel_rfl) e112 (.cons o63 (.nil))

/- (*concord/front.Fronts).Stable -/
noncomputable def l195 : List (Nat × (List V → HT → Option J)) := []
noncomputable def t195 : Fns := tab l195
noncomputable def f195_0 (rc : List V → HT → Option J) (x0 : V) (x2 : V) (x3 : V) (vs : List V) (h : HT) : Option J := unc vs fun x19 vs =>
  unc vs fun x20 vs =>
  unc vs fun x28 vs =>
  unc vs fun x29 vs =>
  bndV (kBin .lss [x29, (.int .i64 (.ofNat (nat_lit 7)))]) fun x30 =>
  tstv x30 (bndV (kIxA 7 1 false [x28, x29]) fun x32 =>
  bndV (kIaA 7 1 [x3, x29]) fun x35 =>
  bndV (qLd h none [x35]) fun x36 =>
  bndV (kMinI [x36, x32]) fun x38 =>
  bndV (kIaA 7 1 [x3, x29]) fun x39 =>
  bndE (dSt h 1 [x39, x38]) h fun _ h =>
  bndV (kBin .add [x29, (.int .i64 (.ofNat (nat_lit 1)))]) fun x40 =>
  rc [x0, x2, x3, x19, x20, x28, x40] h)
  (some ⟨0, [x0, x2, x3, x19, x20], h⟩)
noncomputable def f195_1 (rc : List V → HT → Option J) (x0 : V) (x2 : V) (x3 : V) (x19 : V) (x20 : V) (x26 : V) (h : HT) : Option J := bndV (kIaA 7 7 [x26, x20]) fun x27 =>
  bndV (qLd h (some 7) [x27]) fun x28 =>
  bndJ (loopF (fun rc vs h => unc vs fun x0 vs =>
  unc vs fun x2 vs =>
  unc vs fun x3 vs =>
  (f195_0 rc x0 x2 x3 vs h)) 1000000 [x0, x2, x3, x19, x20, x28, (.int .i64 (.ofNat (nat_lit 0)))] h)
  fun j vs h => unc vs fun x0 vs =>
  unc vs fun x2 vs =>
  unc vs fun x3 vs =>
  unc vs fun x19 vs =>
  unc vs fun x20 vs =>
  bndV (kBin .add [x20, (.int .i64 (.ofNat (nat_lit 1)))]) fun x41 =>
  rc [x0, x2, x3, x19, x41] h
noncomputable def f195_2 (x0 : V) (x2 : V) (x3 : V) (x19 : V) (h : HT) : Option J := bndJ (loopF (fun rc vs h => unc vs fun x0 vs =>
  unc vs fun x2 vs =>
  unc vs fun x3 vs =>
  unc vs fun x19 vs =>
  unc vs fun x20 vs =>
  bndV (kBin .lss [x20, x19]) fun x21 =>
  tstv x21 (bndV (kNilc [x0]) fun x25 =>
  bndV (kFa 2 [x25]) fun x26 =>
  (f195_1 rc x0 x2 x3 x19 x20 x26 h))
  (some ⟨0, [x2, x3], h⟩)) 1000000 [x0, x2, x3, x19, (.int .i64 (.ofNat (nat_lit 0)))] h)
  fun j vs h => unc vs fun x2 vs =>
  unc vs fun x3 vs =>
  bndV (qLd h (some 7) [x3]) fun x42 =>
  bndE (dSt h 7 [x2, x42]) h fun _ h =>
  bndV (qLd h (some 7) [x2]) fun x900000 =>
  ret1 x900000 h
noncomputable def f195 (vs : List V) (h : HT) : Option J := unc vs fun x0 vs =>
  bndN (kAlloc [(.int .i64 (.ofNat (nat_lit 0))), (.int .i64 (.ofNat (nat_lit 0))), (.int .i64 (.ofNat (nat_lit 0))), (.int .i64 (.ofNat (nat_lit 0))), (.int .i64 (.ofNat (nat_lit 0))), (.int .i64 (.ofNat (nat_lit 0))), (.int .i64 (.ofNat (nat_lit 0)))] []) h fun x2 h =>
  bndV (kNilc [x0]) fun x9 =>
  bndV (kFa 1 [x9]) fun x10 =>
  bndV (qLd h none [x10]) fun x11 =>
  bndV (kNilc [x0]) fun x12 =>
  bndV (kFa 2 [x12]) fun x13 =>
  bndV (kIaA 7 7 [x13, x11]) fun x14 =>
  bndV (qLd h (some 7) [x14]) fun x15 =>
  bndN (kAlloc [(.int .i64 (.ofNat (nat_lit 0))), (.int .i64 (.ofNat (nat_lit 0))), (.int .i64 (.ofNat (nat_lit 0))), (.int .i64 (.ofNat (nat_lit 0))), (.int .i64 (.ofNat (nat_lit 0))), (.int .i64 (.ofNat (nat_lit 0))), (.int .i64 (.ofNat (nat_lit 0)))] []) h fun x3 h =>
  bndE (dSt h 7 [x3, x15]) h fun _ h =>
  bndV (kNilc [x0]) fun x17 =>
  bndV (kFa 0 [x17]) fun x18 =>
  bndV (qLd h none [x18]) fun x19 =>
  (f195_2 x0 x2 x3 x19 h)
def a195 : List Ann := [.no, .loop [0, 2, 3, 19, 20] [((.exit 0), [2, 3])], .no, .no, .no, .loop [0, 2, 3, 19, 20, 28, 29] [((.exit 2), [0, 2, 3, 19, 20])], .no, .no]
theorem e195 : f195 = evFun Tryz.prog 195 1 a195 t195 := by kernel_rfl
theorem o195 : FnOk Tryz.prog 195 f195 := .of hmO (show enters Tryz.prog 195 = true by kernel_rfl) e195 (.nil)

/- (*concord/log.Log).Cut -/
noncomputable def l259 : List (Nat × (List V → HT → Option J)) := []
noncomputable def t259 : Fns := tab l259

noncomputable def f259 (vs : List V) (h : HT) : Option J := unc vs fun x0 vs =>
  bndN (kAlloc [(.int .i64 (.ofNat (nat_lit 0))), (.int .i64 (.ofNat (nat_lit 0))), (.int .i64 (.ofNat (nat_lit 0))), (.int .i64 (.ofNat (nat_lit 0))), (.int .i64 (.ofNat (nat_lit 0))), (.int .i64 (.ofNat (nat_lit 0))), (.int .i64 (.ofNat (nat_lit 0)))] []) h fun x2 h =>
  bndV (kNilc [x0]) fun x4 =>
  bndV (kFa 1 [x4]) fun x5 =>
  bndV (qLd h (some 7) [x5]) fun x6 =>
  bndE (dSt h 7 [x2, x6]) h fun _ h =>
  bndV (qLd h (some 7) [x2]) fun x900000 =>
  ret1 x900000 h
def a259 : List Ann := []
theorem e259 : f259 = evFun Tryz.prog 259 1 a259 t259 := by kernel_rfl
theorem o259 : FnOk Tryz.prog 259 f259 := .of hmO (show enters Tryz.prog 259 = true by kernel_rfl) e259 (.nil)

/- (*concord/core.Core).Cut -/
noncomputable def l196 : List (Nat × (List V → HT → Option J)) := [(259, f259)]
noncomputable def t196 : Fns := tab l196

noncomputable def f196 (vs : List V) (h : HT) : Option J := unc vs fun x0 vs =>
  bndN (kAlloc [(.int .i64 (.ofNat (nat_lit 0))), (.int .i64 (.ofNat (nat_lit 0))), (.int .i64 (.ofNat (nat_lit 0))), (.int .i64 (.ofNat (nat_lit 0))), (.int .i64 (.ofNat (nat_lit 0))), (.int .i64 (.ofNat (nat_lit 0))), (.int .i64 (.ofNat (nat_lit 0)))] []) h fun x2 h =>
  bndV (kNilc [x0]) fun x4 =>
  bndV (kFa 2 [x4]) fun x5 =>
  bndV (qLd h none [x5]) fun x6 =>
  bndC (f259 [x6] h) fun x7 h =>
  bndE (dSt h 7 [x2, x7]) h fun _ h =>
  bndV (qLd h (some 7) [x2]) fun x900000 =>
  ret1 x900000 h
def a196 : List Ann := []
theorem e196 : f196 = evFun Tryz.prog 196 1 a196 t196 := by kernel_rfl
theorem o196 : FnOk Tryz.prog 196 f196 := .of hmO (show enters Tryz.prog 196 = true by kernel_rfl) e196 (.cons o259 (.nil))

/- (*concord/node.Node).trim -/
noncomputable def l115 : List (Nat × (List V → HT → Option J)) := [(195, f195), (196, f196)]
noncomputable def t115 : Fns := tab l115
noncomputable def f115_0 (rc : List V → HT → Option J) (x0 : V) (x2 : V) (vs : List V) (h : HT) : Option J := unc vs fun x3 vs =>
  unc vs fun x4 vs =>
  unc vs fun x21 vs =>
  bndV (kBin .lss [x21, (.int .i64 (.ofNat (nat_lit 7)))]) fun x22 =>
  tstv x22 (bndV (kIaA 7 1 [x2, x21]) fun x26 =>
  bndV (qLd h none [x26]) fun x27 =>
  bndV (kIaA 7 1 [x3, x21]) fun x29 =>
  bndV (qLd h none [x29]) fun x30 =>
  bndV (kBin .sub [x27, x30]) fun x31 =>
  bndV (kMaxI [x31, (.int .i64 (.ofNat (nat_lit 0)))]) fun x32 =>
  bndV (kBin .add [x4, x32]) fun x33 =>
  bndV (kBin .add [x21, (.int .i64 (.ofNat (nat_lit 1)))]) fun x34 =>
  rc [x0, x2, x3, x33, x34] h)
  (some ⟨0, [x0, x2, x4], h⟩)
noncomputable def f115_1 (rc : List V → HT → Option J) (x0 : V) (x6 : V) (x8 : V) (x9 : V) (x54 : V) (x55 : V) (x56 : V) (x68 : V) (h : HT) : Option J := bndJ (tstv x68 (bndV (qLd h (some 2) [x8]) fun x71 =>
  bndV (qLd h (some 21) [x9]) fun x72 =>
  bndC (noF [x71, x72] h) fun x73 h =>
  bndC (noF [x73] h) fun x74 h =>
  bndN (kBsl 1 1 [(.slice none 0 true 0)] [(0, 1)] [x74]) h fun x75 h =>
  bndE (dApp h 1 24 [x6, x75]) h fun x76 h =>
  some ⟨0, [x0, x76, x54, x55, x56], h⟩)
  (some ⟨0, [x0, x6, x54, x55, x56], h⟩))
  fun j vs h => unc vs fun x0 vs =>
  unc vs fun x6 vs =>
  unc vs fun x54 vs =>
  unc vs fun x55 vs =>
  unc vs fun x56 vs =>
  bndV (kBin .add [x56, (.int .i64 (.ofNat (nat_lit 1)))]) fun x77 =>
  rc [x0, x6, x54, x55, x77] h
noncomputable def f115_2 (rc : List V → HT → Option J) (x0 : V) (x6 : V) (x54 : V) (x55 : V) (x56 : V) (x57 : V) (h : HT) : Option J := tstv x57 (bndV (kIaS 2 [x54, x56]) fun x58 =>
  bndV (qLd h (some 2) [x58]) fun x59 =>
  bndN (kAlloc [(.int .i64 (.ofNat (nat_lit 0))), (.int .i64 (.ofNat (nat_lit 0)))] []) h fun x8 h =>
  bndE (dSt h 2 [x8, x59]) h fun _ h =>
  bndV (kNilc [x0]) fun x62 =>
  bndV (kFa 4 [x62]) fun x63 =>
  bndV (qLd h none [x63]) fun x64 =>
  bndV (qLd h (some 2) [x8]) fun x65 =>
  bndN (kAlloc [(.int .i64 (.ofNat (nat_lit 0))), (.int .i64 (.ofNat (nat_lit 0))), (.int .i64 (.ofNat (nat_lit 0))), (.int .i64 (.ofNat (nat_lit 0))), (.int .i64 (.ofNat (nat_lit 0))), (.int .i64 (.ofNat (nat_lit 0))), (.int .i64 (.ofNat (nat_lit 0))), (.int .i64 (.ofNat (nat_lit 0))), (.str (sb [])), (.str (sb [])), (.str (sb [])), (.str (sb [])), (.int .i64 (.ofNat (nat_lit 0))), (.int .i64 (.ofNat (nat_lit 0))), (.int .i64 (.ofNat (nat_lit 0))), (.int .i64 (.ofNat (nat_lit 0))), (.int .i64 (.ofNat (nat_lit 0))), (.int .i64 (.ofNat (nat_lit 0))), (.int .i64 (.ofNat (nat_lit 0))), (.int .i64 (.ofNat (nat_lit 0))), (.bool false)] []) h fun x9 h =>
  bndC (noF [x64, x65] h) fun x66 h =>
  bndV (kExt 0 [x66]) fun x67 =>
  bndV (kExt 1 [x66]) fun x68 =>
  bndE (dSt h 21 [x9, x67]) h fun _ h =>
  (f115_1 rc x0 x6 x8 x9 x54 x55 x56 x68 h))
  (some ⟨0, [x0, x6], h⟩)
noncomputable def f115_3 (x0 : V) (x49 : V) (x54 : V) (x55 : V) (h : HT) : Option J := bndJ (loopF (fun rc vs h => unc vs fun x0 vs =>
  unc vs fun x6 vs =>
  unc vs fun x54 vs =>
  unc vs fun x55 vs =>
  unc vs fun x56 vs =>
  bndV (kBin .lss [x56, x55]) fun x57 =>
  (f115_2 rc x0 x6 x54 x55 x56 x57 h)) 1000000 [x0, x49, x54, x55, (.int .i64 (.ofNat (nat_lit 0)))] h)
  fun j vs h => unc vs fun x0 vs =>
  unc vs fun x6 vs =>
  bndV (kNilc [x0]) fun x79 =>
  bndV (kFa 3 [x79]) fun x80 =>
  bndV (qLd h none [x80]) fun x81 =>
  bndC (noF [x81, x6] h) fun x83 h =>
  bndV (kBin .neq [x83, (.int .i64 (.ofNat (nat_lit 0)))]) fun x84 =>
  tstv x84 (bndC (noF [x0] h) fun x86 h =>
  ret1 (.tuple []) h)
  (ret1 (.tuple []) h)
noncomputable def f115_4 (x0 : V) (x2 : V) (x39 : V) (h : HT) : Option J := bndV (qLd h none [x39]) fun x40 =>
  bndV (qLd h (some 7) [x2]) fun x41 =>
  bndC (noF [x40, x41] h) fun x42 h =>
  bndV (kNilc [x0]) fun x44 =>
  bndV (kFa 4 [x44]) fun x45 =>
  bndV (qLd h none [x45]) fun x46 =>
  bndC (f196 [x46] h) fun x47 h =>
  bndC (noF [x47] h) fun x48 h =>
  bndN (kBsl 1 1 [(.slice none 0 true 0)] [(0, 1)] [x48]) h fun x49 h =>
  bndV (kNilc [x0]) fun x51 =>
  bndV (kFa 4 [x51]) fun x52 =>
  bndV (qLd h none [x52]) fun x53 =>
  bndC (noF [x53] h) fun x54 h =>
  bndV (kLenS [x54]) fun x55 =>
  (f115_3 x0 x49 x54 x55 h)
noncomputable def f115_5 (x0 : V) (x2 : V) (x3 : V) (x20 : V) (h : HT) : Option J := bndE (dSt h 7 [x3, x20]) h fun _ h =>
  bndJ (loopF (fun rc vs h => unc vs fun x0 vs =>
  unc vs fun x2 vs =>
  (f115_0 rc x0 x2 vs h)) 1000000 [x0, x2, x3, (.int .i64 (.ofNat (nat_lit 0))), (.int .i64 (.ofNat (nat_lit 0)))] h)
  fun j vs h => unc vs fun x0 vs =>
  unc vs fun x2 vs =>
  unc vs fun x4 vs =>
  bndV (kBin .lss [x4, (.int .i64 (.ofNat (nat_lit 8)))]) fun x36 =>
  tstv x36 (ret1 (.tuple []) h)
  (bndV (kNilc [x0]) fun x38 =>
  bndV (kFa 4 [x38]) fun x39 =>
  (f115_4 x0 x2 x39 h))
noncomputable def f115 (vs : List V) (h : HT) : Option J := unc vs fun x0 vs =>
  bndV (kNilc [x0]) fun x12 =>
  bndV (kFa 5 [x12]) fun x13 =>
  bndV (qLd h none [x13]) fun x14 =>
  bndV (kNilc [x0]) fun x17 =>
  bndV (kFa 4 [x17]) fun x18 =>
  bndV (qLd h none [x18]) fun x19 =>
  bndN (kAlloc [(.int .i64 (.ofNat (nat_lit 0))), (.int .i64 (.ofNat (nat_lit 0))), (.int .i64 (.ofNat (nat_lit 0))), (.int .i64 (.ofNat (nat_lit 0))), (.int .i64 (.ofNat (nat_lit 0))), (.int .i64 (.ofNat (nat_lit 0))), (.int .i64 (.ofNat (nat_lit 0)))] []) h fun x2 h =>
  bndN (kAlloc [(.int .i64 (.ofNat (nat_lit 0))), (.int .i64 (.ofNat (nat_lit 0))), (.int .i64 (.ofNat (nat_lit 0))), (.int .i64 (.ofNat (nat_lit 0))), (.int .i64 (.ofNat (nat_lit 0))), (.int .i64 (.ofNat (nat_lit 0))), (.int .i64 (.ofNat (nat_lit 0)))] []) h fun x3 h =>
  bndC (f195 [x14] h) fun x15 h =>
  chk1 (sameE (qLd h none [x18]) x19) (bndC (f196 [x19] h) fun x20 h =>
  bndE (dSt h 7 [x2, x15]) h fun _ h =>
  (f115_5 x0 x2 x3 x20 h))
def a115 : List Ann := [.no, .loop [0, 2, 3, 4, 21] [((.exit 0), [0, 2, 4])], .no, .no, .no, .no, .loop [0, 6, 54, 55, 56] [((.exit 2), [0, 6])], .no, .no, .join [(.normal, [0, 6, 54, 55, 56])], .no]
theorem e115 : f115 = evFun Tryz.prog 115 1 a115 t115 := by kernel_rfl
theorem o115 : FnOk Tryz.prog 115 f115 := .of hmO (show enters Tryz.prog 115 = true by kernel_rfl) e115 (.cons o195 (.cons o196 (.nil)))

/- (*concord/node.Node).settle -/
noncomputable def l39 : List (Nat × (List V → HT → Option J)) := [(110, f110), (111, f111), (112, f112), (115, f115)]
noncomputable def t39 : Fns := tab l39
noncomputable def f39_0 (x0 : V) (x19 : V) (x21 : V) (x22 : V) (h : HT) : Option J := bndC (gsel x19 true (retV (kNilc [x22]) h) h) fun x23 h =>
  bndC (gsel x19 true (retV (kFa 55 [x23]) h) h) fun x24 h =>
  bndC (gsel x19 true (retV (qLd h (some 7) [x24]) h) h) fun x25 h =>
  bndC (gsel x19 true (retV (kMov [x0]) h) h) fun x26 h =>
  bndC (gsel x19 true (retV (kNilc [x26]) h) h) fun x27 h =>
  bndC (gsel x19 true (retV (kFa 6 [x27]) h) h) fun x28 h =>
  bndC (gsel x19 true (retV (qLd h (some 49) [x28]) h) h) fun x29 h =>
  bndC (gsel x19 true (noF [x25, x29] h) h) fun x30 h =>
  bndC (gsel x19 true (noF [x21, x30] h) h) fun x31 h =>
  bndC (gsel x19 true (retV (kUn .not [x31]) h) h) fun x32 h =>
  bndV (kPick [x19, x32, (.bool false)]) fun x33 =>
  tstv x33 (ret1 (.tuple []) h)
  (bndC (f115 [x0] h) fun x35 h =>
  ret1 (.tuple []) h)
noncomputable def f39_1 (x0 : V) (x5 : V) (h : HT) : Option J := bndC (gsel x5 false (retV (kMov [x0]) h) h) fun x7 h =>
  bndC (gsel x5 false (f110 [x7] h) h) fun x8 h =>
  bndC (gsel x5 false (retV (kUn .not [x8]) h) h) fun x9 h =>
  bndV (kPick [x5, (.bool true), x9]) fun x10 =>
  tstv x10 (ret1 (.tuple []) h)
  (bndC (f111 [x0] h) fun x12 h =>
  bndC (f112 [x0] h) fun x14 h =>
  bndV (kNilc [x0]) fun x16 =>
  bndV (kFa 69 [x16]) fun x17 =>
  bndV (qLd h none [x17]) fun x18 =>
  bndV (kBin .geq [x18, (.int .i64 (.ofNat (nat_lit 8)))]) fun x19 =>
  bndC (gsel x19 true (retV (kMov [x0]) h) h) fun x21 h =>
  bndC (gsel x19 true (retV (kMov [x0]) h) h) fun x22 h =>
  (f39_0 x0 x19 x21 x22 h))
noncomputable def f39 (vs : List V) (h : HT) : Option J := unc vs fun x0 vs =>
  bndV (kNilc [x0]) fun x3 =>
  bndV (kFa 74 [x3]) fun x4 =>
  bndV (qLd h none [x4]) fun x5 =>
  (f39_1 x0 x5 h)
def a39 : List Ann := [.no, .no]
theorem e39 : f39 = evFun Tryz.prog 39 1 a39 t39 := by kernel_rfl
theorem o39 : FnOk Tryz.prog 39 f39 := .of hmO (show enters Tryz.prog 39 = true by kernel_rfl) e39 (.cons o110 (.cons o111 (.cons o112 (.cons o115 (.nil)))))

/- concord/node.New -/
noncomputable def l9 : List (Nat × (List V → HT → Option J)) := [(29, f29), (30, f30), (31, f31), (32, f32), (33, f33), (34, f34), (35, f35), (36, f36), (37, f37), (38, f38), (39, f39)]
noncomputable def t9 : Fns := tab l9
noncomputable def f9_0 (x0 : V) (x1 : V) (x8 : V) (x10 : V) (x13 : V) (x14 : V) (x70 : V) (x71 : V) (x72 : V) (x75 : V) (x91 : V) (h : HT) : Option J := bndJ (tstv x91 (bndV (kSlS 1 true false [x75, (.int .i64 (.ofNat (nat_lit 1)))]) fun x94 =>
  bndN (kBsl 1 1 [(.slice none 0 true 0)] [(0, 1)] [x94]) h fun x95 h =>
  bndE (dApp h 1 24 [x14, x95]) h fun x96 h =>
  some ⟨0, [x0, x1, x8, x10, x13, x96, x70, x71, x72], h⟩)
  (some ⟨0, [x0, x1, x8, x10, x13, x14, x70, x71, x72], h⟩))
  fun j vs h => unc vs fun x0 vs =>
  unc vs fun x1 vs =>
  unc vs fun x8 vs =>
  unc vs fun x10 vs =>
  unc vs fun x13 vs =>
  unc vs fun x14 vs =>
  unc vs fun x70 vs =>
  unc vs fun x71 vs =>
  unc vs fun x72 vs =>
  some ⟨0, [x0, x1, x8, x10, x13, x14, x70, x71, x72], h⟩
noncomputable def f9_1 (rc : List V → HT → Option J) (x0 : V) (x1 : V) (x8 : V) (x10 : V) (x13 : V) (x14 : V) (x17 : V) (x70 : V) (x71 : V) (x72 : V) (x75 : V) (x80 : V) (h : HT) : Option J := bndJ (tstv x80 (bndV (qLd h (some 7) [x17]) fun x82 =>
  bndE (dSt h 7 [x13, x82]) h fun _ h =>
  some ⟨0, [x0, x1, x8, x10, x13, x14, x70, x71, x72], h⟩)
  (bndV (kLenS [x75]) fun x84 =>
  bndV (kBin .gtr [x84, (.int .i64 (.ofNat (nat_lit 0)))]) fun x85 =>
  bndC (gsel x85 true (retV (kMov [x75]) h) h) fun x87 h =>
  bndC (gsel x85 true (retV (kIaS 1 [x87, (.int .i64 (.ofNat (nat_lit 0)))]) h) h) fun x88 h =>
  bndC (gsel x85 true (retV (qLd h none [x88]) h) h) fun x89 h =>
  bndC (gsel x85 true (retV (kBin .eql [x89, (.int .u8 (.ofNat (nat_lit 2)))]) h) h) fun x90 h =>
  bndV (kPick [x85, x90, (.bool false)]) fun x91 =>
  (f9_0 x0 x1 x8 x10 x13 x14 x70 x71 x72 x75 x91 h)))
  fun j vs h => unc vs fun x0 vs =>
  unc vs fun x1 vs =>
  unc vs fun x8 vs =>
  unc vs fun x10 vs =>
  unc vs fun x13 vs =>
  unc vs fun x14 vs =>
  unc vs fun x70 vs =>
  unc vs fun x71 vs =>
  unc vs fun x72 vs =>
  bndV (kBin .add [x72, (.int .i64 (.ofNat (nat_lit 1)))]) fun x97 =>
  rc [x0, x1, x8, x10, x13, x14, x70, x71, x97] h
noncomputable def f9_2 (rc : List V → HT → Option J) (x0 : V) (x1 : V) (x8 : V) (x10 : V) (x13 : V) (vs : List V) (h : HT) : Option J := unc vs fun x14 vs =>
  unc vs fun x70 vs =>
  unc vs fun x71 vs =>
  unc vs fun x72 vs =>
  bndV (kBin .lss [x72, x71]) fun x73 =>
  tstv x73 (bndV (kIaS 1 [x70, x72]) fun x74 =>
  bndV (qLd h none [x74]) fun x75 =>
  bndC (f33 [x75] h) fun x78 h =>
  bndV (kExt 0 [x78]) fun x79 =>
  bndV (kExt 1 [x78]) fun x80 =>
  bndN (kAlloc [(.int .i64 (.ofNat (nat_lit 0))), (.int .i64 (.ofNat (nat_lit 0))), (.int .i64 (.ofNat (nat_lit 0))), (.int .i64 (.ofNat (nat_lit 0))), (.int .i64 (.ofNat (nat_lit 0))), (.int .i64 (.ofNat (nat_lit 0))), (.int .i64 (.ofNat (nat_lit 0)))] []) h fun x17 h =>
  bndE (dSt h 7 [x17, x79]) h fun _ h =>
  (f9_1 rc x0 x1 x8 x10 x13 x14 x17 x70 x71 x72 x75 x80 h))
  (some ⟨0, [x0, x1, x8, x10, x13, x14], h⟩)
noncomputable def f9_3 (j : Nat) (vs : List V) (h : HT) : Option J := nsw j (unc vs fun x6 vs =>
  unc vs fun x7 vs =>
  ret1 (.tuple [x6, x7]) h)
  fun j => unc vs fun x1 vs =>
  unc vs fun x8 vs =>
  bndV (kNilc [x8]) fun x128 =>
  bndV (kFa 5 [x128]) fun x129 =>
  bndV (qLd h none [x129]) fun x130 =>
  bndV (kNilc [x8]) fun x133 =>
  bndV (kFa 62 [x133]) fun x134 =>
  bndV (qLd h (some 7) [x134]) fun x135 =>
  bndC (f38 [x130, x1, x135] h) fun x136 h =>
  bndC (f39 [x8] h) fun x138 h =>
  ret1 (.tuple [x8, (.int .i64 (.ofNat (nat_lit 0)))]) h
noncomputable def f9_4 (x1 : V) (x8 : V) (x10 : V) (x13 : V) (x114 : V) (h : HT) : Option J := bndV (kExt 0 [x114]) fun x115 =>
  bndV (kExt 1 [x114]) fun x116 =>
  bndV (kBin .eql [x115, (.int .i64 (.ofNat (nat_lit 0)))]) fun x118 =>
  bndJ (tstv x118 (bndV (qLd h (some 7) [x13]) fun x120 =>
  bndC (f37 [x120] h) fun x121 h =>
  bndN (kBsl 1 1 [(.slice none 0 true 0)] [(0, 1)] [x121]) h fun x122 h =>
  bndC (f36 [x10, x122] h) fun x123 h =>
  bndV (kBin .neq [x123, (.int .i64 (.ofNat (nat_lit 0)))]) fun x125 =>
  tstv x125 (some ⟨0, [(.ptr none), x123], h⟩)
  (some ⟨1, [x1, x8], h⟩))
  (some ⟨1, [x1, x8], h⟩))
  fun j vs h => (f9_3 j vs h)
noncomputable def f9_5 (x0 : V) (x1 : V) (x8 : V) (vs : List V) (h : HT) : Option J := unc vs fun x10 vs =>
  unc vs fun x13 vs =>
  unc vs fun x14 vs =>
  bndV (qLd h (some 7) [x13]) fun x102 =>
  bndC (f34 [x0, x1, x102, x14] h) fun x104 h =>
  bndV (kExt 0 [x104]) fun x105 =>
  bndV (kExt 1 [x104]) fun x106 =>
  bndV (kNilc [x8]) fun x107 =>
  bndV (kFa 4 [x107]) fun x108 =>
  bndE (dSt h 1 [x108, x105]) h fun _ h =>
  bndV (kBin .neq [x106, (.int .i64 (.ofNat (nat_lit 0)))]) fun x110 =>
  tstv x110 (ret1 (.tuple [(.ptr none), x106]) h)
  (bndC (f35 [x10] h) fun x114 h =>
  (f9_4 x1 x8 x10 x13 x114 h))
noncomputable def f9_6 (x0 : V) (x1 : V) (x42 : V) (x60 : V) (x61 : V) (x69 : V) (h : HT) : Option J := bndE (dSt h 1 [x69, x60]) h fun _ h =>
  bndN (kAlloc [(.int .i64 (.ofNat (nat_lit 0))), (.int .i64 (.ofNat (nat_lit 0))), (.int .i64 (.ofNat (nat_lit 0))), (.int .i64 (.ofNat (nat_lit 0))), (.int .i64 (.ofNat (nat_lit 0))), (.int .i64 (.ofNat (nat_lit 0))), (.int .i64 (.ofNat (nat_lit 0)))] []) h fun x13 h =>
  bndV (kLenS [x61]) fun x71 =>
  bndJ (loopF (fun rc vs h => unc vs fun x0 vs =>
  unc vs fun x1 vs =>
  unc vs fun x8 vs =>
  unc vs fun x10 vs =>
  unc vs fun x13 vs =>
  (f9_2 rc x0 x1 x8 x10 x13 vs h)) 1000000 [x0, x1, x42, x60, x13, (.slice none 0 true 0), x61, x71, (.int .i64 (.ofNat (nat_lit 0)))] h)
  fun j vs h => unc vs fun x0 vs =>
  unc vs fun x1 vs =>
  unc vs fun x8 vs =>
  (f9_5 x0 x1 x8 vs h)
noncomputable def f9_7 (x0 : V) (x1 : V) (x2 : V) (x42 : V) (x48 : V) (x51 : V) (h : HT) : Option J := bndE (dSt h 1 [x51, x48]) h fun _ h =>
  bndC (f31 [x42] h) fun x53 h =>
  bndV (kBin .neq [x53, (.int .i64 (.ofNat (nat_lit 0)))]) fun x55 =>
  tstv x55 (ret1 (.tuple [(.ptr none), x53]) h)
  (bndC (f32 [x2] h) fun x59 h =>
  bndV (kExt 0 [x59]) fun x60 =>
  bndV (kExt 1 [x59]) fun x61 =>
  bndV (kExt 2 [x59]) fun x62 =>
  bndV (kBin .neq [x62, (.int .i64 (.ofNat (nat_lit 0)))]) fun x64 =>
  tstv x64 (ret1 (.tuple [(.ptr none), x62]) h)
  (bndV (kNilc [x42]) fun x68 =>
  bndV (kFa 3 [x68]) fun x69 =>
  (f9_6 x0 x1 x42 x60 x61 x69 h)))
noncomputable def f9_8 (x0 : V) (x1 : V) (x2 : V) (x28 : V) (x30 : V) (x31 : V) (h : HT) : Option J := bndC (gsel x28 false (retV (kBin .geq [x30, x31]) h) h) fun x32 h =>
  bndV (kPick [x28, (.bool true), x32]) fun x33 =>
  bndC (gsel x33 false (retV (kMov [x2]) h) h) fun x35 h =>
  bndC (gsel x33 false (retV (kEqN false [x35, (.ptr none)]) h) h) fun x36 h =>
  bndV (kPick [x33, (.bool true), x36]) fun x37 =>
  tstv x37 (ret1 (.tuple [(.ptr none), (.int .i64 (.ofNat (nat_lit 1)))]) h)
  (bndV (kBld [(.int .i64 (.ofNat (nat_lit 0))), (.int .i64 (.ofNat (nat_lit 0))), (.ptr none), (.ptr none), (.ptr none), (.ptr none), (.slice none 0 true 0), (.int .i64 (.ofNat (nat_lit 0))), (.int .i64 (.ofNat (nat_lit 0))), (.bool false), (.str (sb [])), (.int .i64 (.ofNat (nat_lit 0))), (.slice none 0 true 0), (.int .i64 (.ofNat (nat_lit 0))), (.int .i64 (.ofNat (nat_lit 0))), (.bool false), (.str (sb [])), (.int .i64 (.ofNat (nat_lit 0))), (.slice none 0 true 0), (.int .i64 (.ofNat (nat_lit 0))), (.int .i64 (.ofNat (nat_lit 0))), (.bool false), (.str (sb [])), (.int .i64 (.ofNat (nat_lit 0))), (.slice none 0 true 0), (.int .i64 (.ofNat (nat_lit 0))), (.int .i64 (.ofNat (nat_lit 0))), (.bool false), (.str (sb [])), (.int .i64 (.ofNat (nat_lit 0))), (.slice none 0 true 0), (.int .i64 (.ofNat (nat_lit 0))), (.int .i64 (.ofNat (nat_lit 0))), (.bool false), (.str (sb [])), (.int .i64 (.ofNat (nat_lit 0))), (.slice none 0 true 0), (.int .i64 (.ofNat (nat_lit 0))), (.int .i64 (.ofNat (nat_lit 0))), (.bool false), (.str (sb [])), (.int .i64 (.ofNat (nat_lit 0))), (.slice none 0 true 0), (.int .i64 (.ofNat (nat_lit 0))), (.int .i64 (.ofNat (nat_lit 0))), (.bool false), (.str (sb [])), (.int .i64 (.ofNat (nat_lit 0))), (.slice none 0 true 0), (.int .i64 (.ofNat (nat_lit 0))), (.int .i64 (.ofNat (nat_lit 0))), (.bool false), (.str (sb [])), (.int .i64 (.ofNat (nat_lit 0))), (.slice none 0 true 0), (.int .i64 (.ofNat (nat_lit 0))), (.int .i64 (.ofNat (nat_lit 0))), (.int .i64 (.ofNat (nat_lit 0))), (.int .i64 (.ofNat (nat_lit 0))), (.int .i64 (.ofNat (nat_lit 0))), (.int .i64 (.ofNat (nat_lit 0))), (.int .i64 (.ofNat (nat_lit 0))), (.int .i64 (.ofNat (nat_lit 0))), (.int .i64 (.ofNat (nat_lit 0))), (.int .i64 (.ofNat (nat_lit 0))), (.int .i64 (.ofNat (nat_lit 0))), (.int .i64 (.ofNat (nat_lit 0))), (.int .i64 (.ofNat (nat_lit 0))), (.int .i64 (.ofNat (nat_lit 0))), (.int .i64 (.ofNat (nat_lit 0))), (.int .i64 (.ofNat (nat_lit 0))), (.slice none 0 true 0), (.slice none 0 true 0), (.slice none 0 true 0), (.bool false)] [(0, 1), (1, 1), (2, 1)] [x0, x1, x2]) fun x41 =>
  bndN (kBox [x41]) h fun x42 h =>
  bndC (f30 [x0, x1] h) fun x47 h =>
  bndV (kExt 0 [x47]) fun x48 =>
  bndV (kExt 1 [x47]) fun x49 =>
  bndV (kNilc [x42]) fun x50 =>
  bndV (kFa 5 [x50]) fun x51 =>
  (f9_7 x0 x1 x2 x42 x48 x51 h))
noncomputable def f9 (vs : List V) (h : HT) : Option J := unc vs fun x0 vs =>
  unc vs fun x1 vs =>
  unc vs fun x2 vs =>
  bndC (f29 [x0] h) fun x23 h =>
  bndV (kUn .not [x23]) fun x24 =>
  bndC (gsel x24 false (retV (kMov [x1]) h) h) fun x26 h =>
  bndC (gsel x24 false (retV (kBin .lss [x26, (.int .i64 (.ofNat (nat_lit 0)))]) h) h) fun x27 h =>
  bndV (kPick [x24, (.bool true), x27]) fun x28 =>
  bndC (gsel x28 false (retV (kMov [x1]) h) h) fun x30 h =>
  bndC (gsel x28 false (retV (kMov [x0]) h) h) fun x31 h =>
  (f9_8 x0 x1 x2 x28 x30 x31 h)
def a9 : List Ann := [.no, .no, .no, .no, .loop [0, 1, 8, 10, 13, 14, 70, 71, 72] [((.exit 0), [0, 1, 8, 10, 13, 14])], .no, .no, .join [(.normal, [0, 1, 8, 10, 13, 14, 70, 71, 72])], .join [(.normal, [0, 1, 8, 10, 13, 14, 70, 71, 72])], .no, .join [(.ret, [6, 7]), (.normal, [1, 8])], .no]
theorem e9 : f9 = evFun Tryz.prog 9 3 a9 t9 := by kernel_rfl
theorem o9 : FnOk Tryz.prog 9 f9 := .of hmO (show enters Tryz.prog 9 = true by kernel_rfl) e9 (.cons o29 (.cons o30 (.cons o31 (.cons o32 (.cons o33 (.cons o34 (.cons o35 (.cons o36 (.cons o37 (.cons o38 (.cons o39 (.nil))))))))))))

/- concord/client.New -/
noncomputable def l52 : List (Nat × (List V → HT → Option J)) := []
noncomputable def t52 : Fns := tab l52

noncomputable def f52 (vs : List V) (h : HT) : Option J := unc vs fun x0 vs =>
  bndV (kBin .lss [x0, (.int .i64 (.ofNat (nat_lit 1)))]) fun x5 =>
  bndC (gsel x5 false (retV (kMov [x0]) h) h) fun x7 h =>
  bndC (gsel x5 false (retV (kBin .gtr [x7, (.int .i64 (.ofNat (nat_lit 8)))]) h) h) fun x8 h =>
  bndV (kPick [x5, (.bool true), x8]) fun x9 =>
  tstv x9 (ret1 (.tuple [(.ptr none), (.int .i64 (.ofNat (nat_lit 1)))]) h)
  (bndV (kBld [(.int .i64 (.ofNat (nat_lit 0))), (.int .i64 (.ofNat (nat_lit 0))), (.int .i64 (.ofNat (nat_lit 0))), (.int .i64 (.ofNat (nat_lit 0))), (.int .i64 (.ofNat (nat_lit 0))), (.str (sb [])), (.str (sb [])), (.str (sb [])), (.str (sb [])), (.bool false), (.int .i64 (.ofNat (nat_lit 0))), (.int .i64 (.ofNat (nat_lit 0)))] [(0, 1)] [x0]) fun x11 =>
  bndN (kBox [x11]) h fun x12 h =>
  ret1 (.tuple [x12, (.int .i64 (.ofNat (nat_lit 0)))]) h)
def a52 : List Ann := [.no]
theorem e52 : f52 = evFun Tryz.prog 52 1 a52 t52 := by kernel_rfl
theorem o52 : FnOk Tryz.prog 52 f52 := .of hmO (show enters Tryz.prog 52 = true by kernel_rfl) e52 (.nil)

/- (*concord/node.Node).Out -/
noncomputable def l12 : List (Nat × (List V → HT → Option J)) := []
noncomputable def t12 : Fns := tab l12

noncomputable def f12 (vs : List V) (h : HT) : Option J := unc vs fun x0 vs =>
  bndV (kNilc [x0]) fun x7 =>
  bndV (kFa 72 [x7]) fun x8 =>
  bndV (qLd h none [x8]) fun x9 =>
  bndV (kNilc [x0]) fun x11 =>
  bndV (kFa 73 [x11]) fun x12 =>
  bndV (qLd h none [x12]) fun x13 =>
  bndV (kNilc [x0]) fun x16 =>
  bndV (kFa 72 [x16]) fun x17 =>
  bndE (dSt h 1 [x17, (.slice none 0 true 0)]) h fun _ h =>
  bndV (kNilc [x0]) fun x18 =>
  bndV (kFa 73 [x18]) fun x19 =>
  bndE (dSt h 1 [x19, (.slice none 0 true 0)]) h fun _ h =>
  ret1 (.tuple [x9, x13]) h
def a12 : List Ann := []
theorem e12 : f12 = evFun Tryz.prog 12 1 a12 t12 := by kernel_rfl
theorem o12 : FnOk Tryz.prog 12 f12 := .of hmO (show enters Tryz.prog 12 = true by kernel_rfl) e12 (.nil)

/- concord/cluster.known -/
noncomputable def l64 : List (Nat × (List V → HT → Option J)) := []
noncomputable def t64 : Fns := tab l64

noncomputable def f64 (vs : List V) (h : HT) : Option J := unc vs fun x0 vs =>
  bndV (kBin .geq [x0, (.int .i64 (.ofNat (nat_lit 1)))]) fun x4 =>
  bndC (gsel x4 true (retV (kMov [x0]) h) h) fun x6 h =>
  bndC (gsel x4 true (retV (kBin .leq [x6, (.int .i64 (.ofNat (nat_lit 8)))]) h) h) fun x7 h =>
  bndV (kPick [x4, x7, (.bool false)]) fun x8 =>
  ret1 x8 h
def a64 : List Ann := []
theorem e64 : f64 = evFun Tryz.prog 64 1 a64 t64 := by kernel_rfl
theorem o64 : FnOk Tryz.prog 64 f64 := .of hmO (show enters Tryz.prog 64 = true by kernel_rfl) e64 (.nil)

/- (*concord/client.Client).Tell -/
noncomputable def l141 : List (Nat × (List V → HT → Option J)) := []
noncomputable def t141 : Fns := tab l141
noncomputable def f141_0 (x0 : V) (x3 : V) (x9 : V) (x17 : V) (h : HT) : Option J := bndV (kPick [x9, (.bool true), x17]) fun x18 =>
  bndC (gsel x18 false (retV (kFa 1 [x3]) h) h) fun x20 h =>
  bndC (gsel x18 false (retV (qLd h none [x20]) h) h) fun x21 h =>
  bndC (gsel x18 false (retV (kMov [x0]) h) h) fun x22 h =>
  bndC (gsel x18 false (retV (kNilc [x22]) h) h) fun x23 h =>
  bndC (gsel x18 false (retV (kFa 1 [x23]) h) h) fun x24 h =>
  bndC (gsel x18 false (retV (qLd h none [x24]) h) h) fun x25 h =>
  bndC (gsel x18 false (retV (kBin .neq [x21, x25]) h) h) fun x26 h =>
  bndV (kPick [x18, (.bool true), x26]) fun x27 =>
  tstv x27 (ret1 (.bool false) h)
  (bndV (kNilc [x0]) fun x29 =>
  bndV (kFa 9 [x29]) fun x30 =>
  bndE (dSt h 1 [x30, (.bool false)]) h fun _ h =>
  ret1 (.bool true) h)
noncomputable def f141 (vs : List V) (h : HT) : Option J := unc vs fun x0 vs =>
  unc vs fun x1 vs =>
  bndN (kBox [x1]) h fun x3 h =>
  bndV (kNilc [x0]) fun x6 =>
  bndV (kFa 9 [x6]) fun x7 =>
  bndV (qLd h none [x7]) fun x8 =>
  bndV (kUn .not [x8]) fun x9 =>
  bndC (gsel x9 false (retV (kFa 0 [x3]) h) h) fun x11 h =>
  bndC (gsel x9 false (retV (qLd h none [x11]) h) h) fun x12 h =>
  bndC (gsel x9 false (retV (kMov [x0]) h) h) fun x13 h =>
  bndC (gsel x9 false (retV (kNilc [x13]) h) h) fun x14 h =>
  bndC (gsel x9 false (retV (kFa 0 [x14]) h) h) fun x15 h =>
  bndC (gsel x9 false (retV (qLd h none [x15]) h) h) fun x16 h =>
  bndC (gsel x9 false (retV (kBin .neq [x12, x16]) h) h) fun x17 h =>
  (f141_0 x0 x3 x9 x17 h)
def a141 : List Ann := [.no]
theorem e141 : f141 = evFun Tryz.prog 141 2 a141 t141 := by kernel_rfl
theorem o141 : FnOk Tryz.prog 141 f141 := .of hmO (show enters Tryz.prog 141 = true by kernel_rfl) e141 (.nil)

/- (*concord/cluster.Cluster).out -/
noncomputable def l53 : List (Nat × (List V → HT → Option J)) := [(12, f12), (63, f63), (64, f64), (141, f141)]
noncomputable def t53 : Fns := tab l53
noncomputable def f53_0 (rc : List V → HT → Option J) (x0 : V) (x5 : V) (x7 : V) (x21 : V) (x22 : V) (x23 : V) (x41 : V) (h : HT) : Option J := bndJ (tstv x41 (bndV (kNilc [x0]) fun x44 =>
  bndV (kFa 5 [x44]) fun x45 =>
  bndV (qLd h none [x45]) fun x46 =>
  bndV (qLd h (some 51) [x7]) fun x47 =>
  bndN (kBsl 51 1 [(.int .i64 (.ofNat (nat_lit 0))), (.int .i64 (.ofNat (nat_lit 0))), (.int .i64 (.ofNat (nat_lit 0))), (.int .i64 (.ofNat (nat_lit 0))), (.int .i64 (.ofNat (nat_lit 0))), (.int .i64 (.ofNat (nat_lit 0))), (.int .i64 (.ofNat (nat_lit 0))), (.int .i64 (.ofNat (nat_lit 0))), (.int .i64 (.ofNat (nat_lit 0))), (.int .i64 (.ofNat (nat_lit 0))), (.str (sb [])), (.str (sb [])), (.str (sb [])), (.str (sb [])), (.int .i64 (.ofNat (nat_lit 0))), (.int .i64 (.ofNat (nat_lit 0))), (.int .i64 (.ofNat (nat_lit 0))), (.int .i64 (.ofNat (nat_lit 0))), (.int .i64 (.ofNat (nat_lit 0))), (.int .i64 (.ofNat (nat_lit 0))), (.int .i64 (.ofNat (nat_lit 0))), (.int .i64 (.ofNat (nat_lit 0))), (.int .i64 (.ofNat (nat_lit 0))), (.int .i64 (.ofNat (nat_lit 0))), (.int .i64 (.ofNat (nat_lit 0))), (.int .i64 (.ofNat (nat_lit 0))), (.int .i64 (.ofNat (nat_lit 0))), (.int .i64 (.ofNat (nat_lit 0))), (.int .i64 (.ofNat (nat_lit 0))), (.int .i64 (.ofNat (nat_lit 0))), (.str (sb [])), (.str (sb [])), (.str (sb [])), (.str (sb [])), (.int .i64 (.ofNat (nat_lit 0))), (.int .i64 (.ofNat (nat_lit 0))), (.int .i64 (.ofNat (nat_lit 0))), (.int .i64 (.ofNat (nat_lit 0))), (.int .i64 (.ofNat (nat_lit 0))), (.int .i64 (.ofNat (nat_lit 0))), (.int .i64 (.ofNat (nat_lit 0))), (.int .i64 (.ofNat (nat_lit 0))), (.bool false), (.int .i64 (.ofNat (nat_lit 0))), (.int .i64 (.ofNat (nat_lit 0))), (.int .i64 (.ofNat (nat_lit 0))), (.int .i64 (.ofNat (nat_lit 0))), (.int .i64 (.ofNat (nat_lit 0))), (.int .i64 (.ofNat (nat_lit 0))), (.int .i64 (.ofNat (nat_lit 0))), (.str (sb []))] [(0, 51)] [x47]) h fun x48 h =>
  bndE (dApp h 51 480 [x46, x48]) h fun x49 h =>
  bndV (kNilc [x0]) fun x50 =>
  bndV (kFa 5 [x50]) fun x51 =>
  bndE (dSt h 1 [x51, x49]) h fun _ h =>
  some ⟨0, [x0, x5, x21, x22, x23], h⟩)
  (some ⟨0, [x0, x5, x21, x22, x23], h⟩))
  fun j vs h => unc vs fun x0 vs =>
  unc vs fun x5 vs =>
  unc vs fun x21 vs =>
  unc vs fun x22 vs =>
  unc vs fun x23 vs =>
  bndV (kBin .add [x23, (.int .i64 (.ofNat (nat_lit 1)))]) fun x52 =>
  rc [x0, x5, x21, x22, x52] h
noncomputable def f53_1 (rc : List V → HT → Option J) (x0 : V) (x5 : V) (x7 : V) (x21 : V) (x22 : V) (x23 : V) (x26 : V) (h : HT) : Option J := bndE (dSt h 51 [x7, x26]) h fun _ h =>
  bndV (kFa 2 [x7]) fun x27 =>
  bndV (qLd h none [x27]) fun x28 =>
  bndV (kNilc [x0]) fun x30 =>
  bndV (kFa 0 [x30]) fun x31 =>
  bndV (qLd h none [x31]) fun x32 =>
  bndV (kBin .lss [x28, x32]) fun x33 =>
  bndC (gsel x33 true (retV (kMov [x0]) h) h) fun x35 h =>
  bndC (gsel x33 true (retV (kNilc [x35]) h) h) fun x36 h =>
  bndC (gsel x33 true (retV (kFa 5 [x36]) h) h) fun x37 h =>
  bndC (gsel x33 true (retV (qLd h none [x37]) h) h) fun x38 h =>
  bndC (gsel x33 true (retV (kLenS [x38]) h) h) fun x39 h =>
  bndC (gsel x33 true (retV (kBin .lss [x39, (.int .i64 (.ofNat (nat_lit 4000)))]) h) h) fun x40 h =>
  bndV (kPick [x33, x40, (.bool false)]) fun x41 =>
  (f53_0 rc x0 x5 x7 x21 x22 x23 x41 h)
noncomputable def f53_2 (x0 : V) (x9 : V) (x53 : V) (x54 : V) (x55 : V) (x85 : V) (x87 : V) (x90 : V) (h : HT) : Option J := bndV (qLd h none [x90]) fun x91 =>
  bndV (kFa 0 [x9]) fun x92 =>
  bndV (qLd h none [x92]) fun x93 =>
  bndV (kBin .sub [x93, (.int .i64 (.ofNat (nat_lit 1)))]) fun x94 =>
  bndV (kIaS 7 [x91, x94]) fun x95 =>
  bndV (qLd h (some 7) [x95]) fun x96 =>
  bndV (kFa 2 [x9]) fun x97 =>
  bndV (qLd h (some 5) [x97]) fun x98 =>
  bndV (kBld [(.int .i64 (.ofNat (nat_lit 0))), (.int .i64 (.ofNat (nat_lit 0))), (.int .i64 (.ofNat (nat_lit 0))), (.int .i64 (.ofNat (nat_lit 0))), (.int .i64 (.ofNat (nat_lit 0))), (.str (sb [])), (.str (sb [])), (.str (sb [])), (.str (sb [])), (.int .i64 (.ofNat (nat_lit 0))), (.bool false), (.str (sb [])), (.int .i64 (.ofNat (nat_lit 0))), (.slice none 0 true 0)] [(0, 1), (1, 1), (2, 7), (9, 5)] [(.int .i64 (.ofNat (nat_lit 2))), x87, x96, x98]) fun x99 =>
  bndN (kBsl 14 1 [(.int .i64 (.ofNat (nat_lit 0))), (.int .i64 (.ofNat (nat_lit 0))), (.int .i64 (.ofNat (nat_lit 0))), (.int .i64 (.ofNat (nat_lit 0))), (.int .i64 (.ofNat (nat_lit 0))), (.str (sb [])), (.str (sb [])), (.str (sb [])), (.str (sb [])), (.int .i64 (.ofNat (nat_lit 0))), (.bool false), (.str (sb [])), (.int .i64 (.ofNat (nat_lit 0))), (.slice none 0 true 0)] [(0, 14)] [x99]) h fun x100 h =>
  bndE (dApp h 14 168 [x85, x100]) h fun x101 h =>
  bndV (kNilc [x0]) fun x102 =>
  bndV (kFa 6 [x102]) fun x103 =>
  bndE (dSt h 1 [x103, x101]) h fun _ h =>
  some ⟨0, [x0, x53, x54, x55], h⟩
noncomputable def f53_3 (x0 : V) (x9 : V) (x53 : V) (x54 : V) (x55 : V) (h : HT) : Option J := bndV (kFa 2 [x9]) fun x75 =>
  bndV (kFa 4 [x75]) fun x76 =>
  bndV (qLd h none [x76]) fun x77 =>
  bndC (f63 [x77] h) fun x78 h =>
  bndV (kFa 2 [x9]) fun x79 =>
  bndV (kFa 4 [x79]) fun x80 =>
  bndE (dSt h 1 [x80, x78]) h fun _ h =>
  bndV (kNilc [x0]) fun x83 =>
  bndV (kFa 6 [x83]) fun x84 =>
  bndV (qLd h none [x84]) fun x85 =>
  bndV (kFa 0 [x9]) fun x86 =>
  bndV (qLd h none [x86]) fun x87 =>
  bndV (kNilc [x0]) fun x89 =>
  bndV (kFa 4 [x89]) fun x90 =>
  (f53_2 x0 x9 x53 x54 x55 x85 x87 x90 h)
noncomputable def f53_4 (rc : List V → HT → Option J) (x0 : V) (x9 : V) (x53 : V) (x54 : V) (x55 : V) (x61 : V) (x66 : V) (x69 : V) (h : HT) : Option J := bndC (gsel x61 true (retV (kIaS 1 [x66, x69]) h) h) fun x70 h =>
  bndC (gsel x61 true (retV (qLd h none [x70]) h) h) fun x71 h =>
  bndC (gsel x61 true (retV (qLd h (some 7) [x9]) h) h) fun x72 h =>
  bndC (gsel x61 true (f141 [x71, x72] h) h) fun x73 h =>
  bndV (kPick [x61, x73, (.bool false)]) fun x74 =>
  bndJ (tstv x74 ((f53_3 x0 x9 x53 x54 x55 h))
  (some ⟨0, [x0, x53, x54, x55], h⟩))
  fun j vs h => unc vs fun x0 vs =>
  unc vs fun x53 vs =>
  unc vs fun x54 vs =>
  unc vs fun x55 vs =>
  bndV (kBin .add [x55, (.int .i64 (.ofNat (nat_lit 1)))]) fun x104 =>
  rc [x0, x53, x54, x104] h
noncomputable def f53_5 (rc : List V → HT → Option J) (x0 : V) (x53 : V) (x54 : V) (x55 : V) (h : HT) : Option J := bndV (kIaS 7 [x53, x55]) fun x57 =>
  bndV (qLd h (some 7) [x57]) fun x58 =>
  bndN (kAlloc [(.int .i64 (.ofNat (nat_lit 0))), (.int .i64 (.ofNat (nat_lit 0))), (.int .i64 (.ofNat (nat_lit 0))), (.bool false), (.str (sb [])), (.int .i64 (.ofNat (nat_lit 0))), (.slice none 0 true 0)] []) h fun x9 h =>
  bndE (dSt h 7 [x9, x58]) h fun _ h =>
  bndV (kFa 0 [x9]) fun x59 =>
  bndV (qLd h none [x59]) fun x60 =>
  bndC (f64 [x60] h) fun x61 h =>
  bndC (gsel x61 true (retV (kMov [x0]) h) h) fun x63 h =>
  bndC (gsel x61 true (retV (kNilc [x63]) h) h) fun x64 h =>
  bndC (gsel x61 true (retV (kFa 3 [x64]) h) h) fun x65 h =>
  bndC (gsel x61 true (retV (qLd h none [x65]) h) h) fun x66 h =>
  bndC (gsel x61 true (retV (kFa 0 [x9]) h) h) fun x67 h =>
  bndC (gsel x61 true (retV (qLd h none [x67]) h) h) fun x68 h =>
  bndC (gsel x61 true (retV (kBin .sub [x68, (.int .i64 (.ofNat (nat_lit 1)))]) h) h) fun x69 h =>
  (f53_4 rc x0 x9 x53 x54 x55 x61 x66 x69 h)
noncomputable def f53_6 (x0 : V) (x19 : V) (x20 : V) (x22 : V) (h : HT) : Option J := bndJ (loopF (fun rc vs h => unc vs fun x0 vs =>
  unc vs fun x5 vs =>
  unc vs fun x21 vs =>
  unc vs fun x22 vs =>
  unc vs fun x23 vs =>
  bndV (kBin .lss [x23, x22]) fun x24 =>
  tstv x24 (bndV (kIaS 51 [x21, x23]) fun x25 =>
  bndV (qLd h (some 51) [x25]) fun x26 =>
  bndN (kAlloc [(.int .i64 (.ofNat (nat_lit 0))), (.int .i64 (.ofNat (nat_lit 0))), (.int .i64 (.ofNat (nat_lit 0))), (.int .i64 (.ofNat (nat_lit 0))), (.int .i64 (.ofNat (nat_lit 0))), (.int .i64 (.ofNat (nat_lit 0))), (.int .i64 (.ofNat (nat_lit 0))), (.int .i64 (.ofNat (nat_lit 0))), (.int .i64 (.ofNat (nat_lit 0))), (.int .i64 (.ofNat (nat_lit 0))), (.str (sb [])), (.str (sb [])), (.str (sb [])), (.str (sb [])), (.int .i64 (.ofNat (nat_lit 0))), (.int .i64 (.ofNat (nat_lit 0))), (.int .i64 (.ofNat (nat_lit 0))), (.int .i64 (.ofNat (nat_lit 0))), (.int .i64 (.ofNat (nat_lit 0))), (.int .i64 (.ofNat (nat_lit 0))), (.int .i64 (.ofNat (nat_lit 0))), (.int .i64 (.ofNat (nat_lit 0))), (.int .i64 (.ofNat (nat_lit 0))), (.int .i64 (.ofNat (nat_lit 0))), (.int .i64 (.ofNat (nat_lit 0))), (.int .i64 (.ofNat (nat_lit 0))), (.int .i64 (.ofNat (nat_lit 0))), (.int .i64 (.ofNat (nat_lit 0))), (.int .i64 (.ofNat (nat_lit 0))), (.int .i64 (.ofNat (nat_lit 0))), (.str (sb [])), (.str (sb [])), (.str (sb [])), (.str (sb [])), (.int .i64 (.ofNat (nat_lit 0))), (.int .i64 (.ofNat (nat_lit 0))), (.int .i64 (.ofNat (nat_lit 0))), (.int .i64 (.ofNat (nat_lit 0))), (.int .i64 (.ofNat (nat_lit 0))), (.int .i64 (.ofNat (nat_lit 0))), (.int .i64 (.ofNat (nat_lit 0))), (.int .i64 (.ofNat (nat_lit 0))), (.bool false), (.int .i64 (.ofNat (nat_lit 0))), (.int .i64 (.ofNat (nat_lit 0))), (.int .i64 (.ofNat (nat_lit 0))), (.int .i64 (.ofNat (nat_lit 0))), (.int .i64 (.ofNat (nat_lit 0))), (.int .i64 (.ofNat (nat_lit 0))), (.int .i64 (.ofNat (nat_lit 0))), (.str (sb []))] []) h fun x7 h =>
  (f53_1 rc x0 x5 x7 x21 x22 x23 x26 h))
  (some ⟨0, [x0, x5], h⟩)) 1000000 [x0, x20, x19, x22, (.int .i64 (.ofNat (nat_lit 0)))] h)
  fun j vs h => unc vs fun x0 vs =>
  unc vs fun x5 vs =>
  bndV (kLenS [x5]) fun x54 =>
  bndJ (loopF (fun rc vs h => unc vs fun x0 vs =>
  unc vs fun x53 vs =>
  unc vs fun x54 vs =>
  unc vs fun x55 vs =>
  bndV (kBin .lss [x55, x54]) fun x56 =>
  tstv x56 ((f53_5 rc x0 x53 x54 x55 h))
  (some ⟨0, [], h⟩)) 1000000 [x0, x5, x54, (.int .i64 (.ofNat (nat_lit 0)))] h)
  fun j vs h => ret1 (.tuple []) h
noncomputable def f53 (vs : List V) (h : HT) : Option J := unc vs fun x0 vs =>
  unc vs fun x1 vs =>
  bndV (kNilc [x0]) fun x12 =>
  bndV (kFa 2 [x12]) fun x13 =>
  bndV (qLd h none [x13]) fun x14 =>
  bndV (kIaS 1 [x14, x1]) fun x16 =>
  bndV (qLd h none [x16]) fun x17 =>
  bndC (f12 [x17] h) fun x18 h =>
  bndV (kExt 0 [x18]) fun x19 =>
  bndV (kExt 1 [x18]) fun x20 =>
  bndV (kLenS [x19]) fun x22 =>
  (f53_6 x0 x19 x20 x22 h)
def a53 : List Ann := [.no, .loop [0, 5, 21, 22, 23] [((.exit 0), [0, 5])], .no, .no, .join [(.normal, [0, 5, 21, 22, 23])], .no, .loop [0, 53, 54, 55] [((.exit 2), [])], .no, .no, .join [(.normal, [0, 53, 54, 55])]]
theorem e53 : f53 = evFun Tryz.prog 53 2 a53 t53 := by kernel_rfl
theorem o53 : FnOk Tryz.prog 53 f53 := .of hmO (show enters Tryz.prog 53 = true by kernel_rfl) e53 (.cons o12 (.cons o63 (.cons o64 (.cons o141 (.nil)))))

/- concord/cluster.New -/
noncomputable def l17 : List (Nat × (List V → HT → Option J)) := [(8, f8), (9, f9), (52, f52), (53, f53)]
noncomputable def t17 : Fns := tab l17
noncomputable def f17_0 (rc : List V → HT → Option J) (x0 : V) (x4 : V) (x19 : V) (x20 : V) (x32 : V) (x42 : V) (x44 : V) (h : HT) : Option J := bndV (kNilc [x4]) fun x47 =>
  bndV (kFa 2 [x47]) fun x48 =>
  bndV (qLd h none [x48]) fun x49 =>
  bndN (kBsl 1 1 [(.ptr none)] [(0, 1)] [x32]) h fun x51 h =>
  bndE (dApp h 1 8 [x42, x44]) h fun x45 h =>
  chk1 (sameE (qLd h none [x48]) x49) (bndE (dApp h 1 8 [x49, x51]) h fun x52 h =>
  bndV (kNilc [x4]) fun x53 =>
  bndV (kFa 1 [x53]) fun x54 =>
  bndE (dSt h 1 [x54, x45]) h fun _ h =>
  bndV (kNilc [x4]) fun x55 =>
  bndV (kFa 2 [x55]) fun x56 =>
  bndE (dSt h 1 [x56, x52]) h fun _ h =>
  bndV (kBin .add [x20, (.int .i64 (.ofNat (nat_lit 1)))]) fun x57 =>
  rc [x0, x4, x19, x57] h)
noncomputable def f17_1 (rc : List V → HT → Option J) (x0 : V) (x4 : V) (x19 : V) (x20 : V) (x21 : V) (h : HT) : Option J := tstv x21 (bndC (f8 [(.int .i64 (.ofNat (nat_lit 524288)))] h) fun x24 h =>
  bndV (kExt 0 [x24]) fun x25 =>
  bndV (kExt 1 [x24]) fun x26 =>
  bndC (f9 [x0, x20, x25] h) fun x31 h =>
  bndV (kExt 0 [x31]) fun x32 =>
  bndV (kExt 1 [x31]) fun x33 =>
  bndV (kBin .neq [x33, (.int .i64 (.ofNat (nat_lit 0)))]) fun x35 =>
  tstv x35 (some ⟨1, [(.ptr none), x33], h⟩)
  (bndV (kNilc [x4]) fun x40 =>
  bndV (kFa 1 [x40]) fun x41 =>
  bndV (qLd h none [x41]) fun x42 =>
  bndN (kBsl 1 1 [(.ptr none)] [(0, 1)] [x25]) h fun x44 h =>
  (f17_0 rc x0 x4 x19 x20 x32 x42 x44 h)))
  (some ⟨0, [x0, x4], h⟩)
noncomputable def f17_2 (rc : List V → HT → Option J) (x0 : V) (x4 : V) (x10 : V) (x59 : V) (h : HT) : Option J := tstv x59 (bndC (f52 [x10] h) fun x64 h =>
  bndV (kExt 0 [x64]) fun x65 =>
  bndV (kExt 1 [x64]) fun x66 =>
  bndV (kNilc [x4]) fun x69 =>
  bndV (kFa 3 [x69]) fun x70 =>
  bndV (qLd h none [x70]) fun x71 =>
  bndN (kBsl 1 1 [(.ptr none)] [(0, 1)] [x65]) h fun x73 h =>
  bndE (dApp h 1 8 [x71, x73]) h fun x74 h =>
  bndV (kNilc [x4]) fun x75 =>
  bndV (kFa 3 [x75]) fun x76 =>
  bndE (dSt h 1 [x76, x74]) h fun _ h =>
  bndV (kBin .add [x10, (.int .i64 (.ofNat (nat_lit 1)))]) fun x61 =>
  rc [x0, x4, x61] h)
  (some ⟨0, [x0, x4], h⟩)
noncomputable def f17_3 (x0 : V) (x4 : V) (x78 : V) (x79 : V) (h : HT) : Option J := bndV (kFa 4 [x79]) fun x80 =>
  bndE (dSt h 1 [x80, x78]) h fun _ h =>
  bndJ (loopF (fun rc vs h => unc vs fun x4 vs =>
  unc vs fun x81 vs =>
  unc vs fun x82 vs =>
  bndV (kBin .lss [x82, x81]) fun x83 =>
  tstv x83 (bndC (f53 [x4, x82] h) fun x87 h =>
  bndV (kBin .add [x82, (.int .i64 (.ofNat (nat_lit 1)))]) fun x88 =>
  rc [x4, x81, x88] h)
  (some ⟨0, [x4], h⟩)) 1000000 [x4, x0, (.int .i64 (.ofNat (nat_lit 0)))] h)
  fun j vs h => unc vs fun x4 vs =>
  ret1 (.tuple [x4, (.int .i64 (.ofNat (nat_lit 0)))]) h
noncomputable def f17_4 (j : Nat) (vs : List V) (h : HT) : Option J := nsw j (unc vs fun x0 vs =>
  unc vs fun x4 vs =>
  bndJ (loopF (fun rc vs h => unc vs fun x0 vs =>
  unc vs fun x4 vs =>
  unc vs fun x10 vs =>
  bndV (kBin .leq [x10, (.int .i64 (.ofNat (nat_lit 8)))]) fun x59 =>
  (f17_2 rc x0 x4 x10 x59 h)) 1000000 [x0, x4, (.int .i64 (.ofNat (nat_lit 1)))] h)
  fun j vs h => unc vs fun x0 vs =>
  unc vs fun x4 vs =>
  bndN (kMkS 7 88 [(.int .i64 (.ofNat (nat_lit 0))), (.int .i64 (.ofNat (nat_lit 0))), (.int .i64 (.ofNat (nat_lit 0))), (.str (sb [])), (.str (sb [])), (.str (sb [])), (.str (sb []))] [(.int .i64 (.ofNat (nat_lit 8))), (.int .i64 (.ofNat (nat_lit 8)))]) h fun x78 h =>
  bndV (kNilc [x4]) fun x79 =>
  (f17_3 x0 x4 x78 x79 h))
  fun j => unc vs fun x2 vs =>
  unc vs fun x3 vs =>
  ret1 (.tuple [x2, x3]) h
noncomputable def f17 (vs : List V) (h : HT) : Option J := unc vs fun x0 vs =>
  bndV (kBld [(.int .i64 (.ofNat (nat_lit 0))), (.slice none 0 true 0), (.slice none 0 true 0), (.slice none 0 true 0), (.slice none 0 true 0), (.slice none 0 true 0), (.slice none 0 true 0)] [(0, 1)] [x0]) fun x15 =>
  bndN (kBox [x15]) h fun x16 h =>
  bndV (kMaxI [x0, (.int .i64 (.ofNat (nat_lit 1)))]) fun x18 =>
  bndV (kMinI [x18, (.int .i64 (.ofNat (nat_lit 8)))]) fun x19 =>
  bndJ (loopF (fun rc vs h => unc vs fun x0 vs =>
  unc vs fun x4 vs =>
  unc vs fun x19 vs =>
  unc vs fun x20 vs =>
  bndV (kBin .lss [x20, x19]) fun x21 =>
  (f17_1 rc x0 x4 x19 x20 x21 h)) 1000000 [x0, x16, x19, (.int .i64 (.ofNat (nat_lit 0)))] h)
  fun j vs h => (f17_4 j vs h)
def a17 : List Ann := [.no, .loop [0, 4, 19, 20] [((.exit 0), [0, 4]), (.ret, [2, 3])], .no, .no, .no, .no, .loop [0, 4, 10] [((.exit 2), [0, 4])], .no, .no, .no, .loop [4, 81, 82] [((.exit 4), [4])], .no, .no]
theorem e17 : f17 = evFun Tryz.prog 17 1 a17 t17 := by kernel_rfl
theorem o17 : FnOk Tryz.prog 17 f17 := .of hmO (show enters Tryz.prog 17 = true by kernel_rfl) e17 (.cons o8 (.cons o9 (.cons o52 (.cons o53 (.nil)))))

/- (*concord/client.Client).Begin -/
noncomputable def l142 : List (Nat × (List V → HT → Option J)) := [(40, f40)]
noncomputable def t142 : Fns := tab l142
noncomputable def f142_0 (x0 : V) (x2 : V) (x4 : V) (x6 : V) (x49 : V) (x53 : V) (h : HT) : Option J := bndV (kFa 2 [x53]) fun x54 =>
  bndE (dSt h 7 [x54, x49]) h fun _ h =>
  bndV (kNilc [x0]) fun x55 =>
  bndV (kFa 9 [x55]) fun x56 =>
  bndE (dSt h 1 [x56, (.bool true)]) h fun _ h =>
  bndV (kNilc [x0]) fun x57 =>
  bndV (kFa 10 [x57]) fun x58 =>
  bndE (dSt h 1 [x58, x2]) h fun _ h =>
  bndV (kNilc [x0]) fun x59 =>
  bndV (kFa 11 [x59]) fun x60 =>
  bndE (dSt h 1 [x60, (.int .i64 (.ofNat (nat_lit 0)))]) h fun _ h =>
  bndV (qLd h (some 7) [x4]) fun x61 =>
  bndE (dSt h 7 [x6, x61]) h fun _ h =>
  bndV (qLd h (some 7) [x6]) fun x900000 =>
  ret1 (.tuple [x900000, (.bool true)]) h
noncomputable def f142_1 (x0 : V) (x2 : V) (x4 : V) (x6 : V) (x36 : V) (x39 : V) (h : HT) : Option J := bndV (kPick [x36, (.bool true), x39]) fun x40 =>
  tstv x40 (bndV (kBld [(.int .i64 (.ofNat (nat_lit 0))), (.int .i64 (.ofNat (nat_lit 0))), (.int .i64 (.ofNat (nat_lit 0))), (.str (sb [])), (.str (sb [])), (.str (sb [])), (.str (sb []))] [] []) fun x41 =>
  bndE (dSt h 7 [x6, x41]) h fun _ h =>
  bndV (qLd h (some 7) [x6]) fun x900000 =>
  ret1 (.tuple [x900000, (.bool false)]) h)
  (bndV (kFa 2 [x4]) fun x47 =>
  bndV (qLd h none [x47]) fun x48 =>
  bndV (qLd h (some 7) [x4]) fun x49 =>
  bndV (kNilc [x0]) fun x51 =>
  bndV (kFa 1 [x51]) fun x52 =>
  bndE (dSt h 1 [x52, x48]) h fun _ h =>
  chk1 (sameE (qLd h (some 7) [x4]) x49) (bndV (kNilc [x0]) fun x53 =>
  (f142_0 x0 x2 x4 x6 x49 x53 h)))
noncomputable def f142_2 (x0 : V) (x2 : V) (x4 : V) (x6 : V) (x21 : V) (h : HT) : Option J := bndV (qLd h none [x21]) fun x22 =>
  bndC (gsel x22 false (retV (qLd h (some 7) [x4]) h) h) fun x24 h =>
  bndC (gsel x22 false (f40 [x24] h) h) fun x25 h =>
  bndC (gsel x22 false (retV (kUn .not [x25]) h) h) fun x26 h =>
  bndV (kPick [x22, (.bool true), x26]) fun x27 =>
  bndC (gsel x27 false (retV (kFa 0 [x4]) h) h) fun x29 h =>
  bndC (gsel x27 false (retV (qLd h none [x29]) h) h) fun x30 h =>
  bndC (gsel x27 false (retV (kBin .eql [x30, (.int .i64 (.ofNat (nat_lit 0)))]) h) h) fun x31 h =>
  bndV (kPick [x27, (.bool true), x31]) fun x32 =>
  bndC (gsel x32 false (retV (kMov [x2]) h) h) fun x34 h =>
  bndC (gsel x32 false (retV (kBin .lss [x34, (.int .i64 (.ofNat (nat_lit 0)))]) h) h) fun x35 h =>
  bndV (kPick [x32, (.bool true), x35]) fun x36 =>
  bndC (gsel x36 false (retV (kMov [x2]) h) h) fun x38 h =>
  bndC (gsel x36 false (retV (kBin .geq [x38, (.int .i64 (.ofNat (nat_lit 7)))]) h) h) fun x39 h =>
  (f142_1 x0 x2 x4 x6 x36 x39 h)
noncomputable def f142_3 (x0 : V) (x2 : V) (x4 : V) (x6 : V) (h : HT) : Option J := bndV (kNilc [x0]) fun x9 =>
  bndV (kFa 0 [x9]) fun x10 =>
  bndV (qLd h none [x10]) fun x11 =>
  bndV (kNilc [x0]) fun x13 =>
  bndV (kFa 1 [x13]) fun x14 =>
  bndV (qLd h none [x14]) fun x15 =>
  bndV (kBin .add [x15, (.int .i64 (.ofNat (nat_lit 1)))]) fun x16 =>
  bndV (kFa 1 [x4]) fun x17 =>
  bndE (dSt h 1 [x17, x11]) h fun _ h =>
  chk1 (sameE (qLd h none [x14]) x15) (bndV (kFa 2 [x4]) fun x18 =>
  bndE (dSt h 1 [x18, x16]) h fun _ h =>
  bndV (kNilc [x0]) fun x20 =>
  bndV (kFa 9 [x20]) fun x21 =>
  (f142_2 x0 x2 x4 x6 x21 h))
noncomputable def f142 (vs : List V) (h : HT) : Option J := unc vs fun x0 vs =>
  unc vs fun x1 vs =>
  unc vs fun x2 vs =>
  bndN (kBox [x1]) h fun x4 h =>
  bndN (kAlloc [(.int .i64 (.ofNat (nat_lit 0))), (.int .i64 (.ofNat (nat_lit 0))), (.int .i64 (.ofNat (nat_lit 0))), (.str (sb [])), (.str (sb [])), (.str (sb [])), (.str (sb []))] []) h fun x6 h =>
  (f142_3 x0 x2 x4 x6 h)
def a142 : List Ann := [.no]
theorem e142 : f142 = evFun Tryz.prog 142 3 a142 t142 := by kernel_rfl
theorem o142 : FnOk Tryz.prog 142 f142 := .of hmO (show enters Tryz.prog 142 = true by kernel_rfl) e142 (.cons o40 (.nil))

/- (*concord/node.Node).way -/
noncomputable def l41 : List (Nat × (List V → HT → Option J)) := [(118, f118)]
noncomputable def t41 : Fns := tab l41
noncomputable def f41_0 (rc : List V → HT → Option J) (x0 : V) (x3 : V) (x7 : V) (x13 : V) (x14 : V) (x15 : V) (x48 : V) (x52 : V) (h : HT) : Option J := bndC (gsel x48 true (retV (kFa 0 [x3]) h) h) fun x53 h =>
  bndC (gsel x48 true (retV (qLd h none [x53]) h) h) fun x54 h =>
  bndC (gsel x48 true (retV (kBin .eql [x52, x54]) h) h) fun x55 h =>
  bndV (kPick [x48, x55, (.bool false)]) fun x56 =>
  bndC (gsel x56 true (retV (kFa 5 [x7]) h) h) fun x58 h =>
  bndC (gsel x56 true (retV (kFa 2 [x58]) h) h) fun x59 h =>
  bndC (gsel x56 true (retV (qLd h none [x59]) h) h) fun x60 h =>
  bndC (gsel x56 true (retV (kFa 1 [x3]) h) h) fun x61 h =>
  bndC (gsel x56 true (retV (qLd h none [x61]) h) h) fun x62 h =>
  bndC (gsel x56 true (retV (kBin .eql [x60, x62]) h) h) fun x63 h =>
  bndV (kPick [x56, x63, (.bool false)]) fun x64 =>
  tstv x64 (some ⟨1, [(.bool true)], h⟩)
  (bndV (kBin .add [x15, (.int .i64 (.ofNat (nat_lit 1)))]) fun x65 =>
  rc [x0, x3, x13, x14, x65] h)
noncomputable def f41_1 (rc : List V → HT → Option J) (x0 : V) (x3 : V) (x7 : V) (x13 : V) (x14 : V) (x15 : V) (x34 : V) (x37 : V) (h : HT) : Option J := bndC (gsel x34 true (retV (kMov [x0]) h) h) fun x38 h =>
  bndC (gsel x34 true (retV (kMov [x0]) h) h) fun x39 h =>
  bndC (gsel x34 true (retV (kNilc [x39]) h) h) fun x40 h =>
  bndC (gsel x34 true (retV (kFa 1 [x40]) h) h) fun x41 h =>
  bndC (gsel x34 true (retV (qLd h none [x41]) h) h) fun x42 h =>
  bndC (gsel x34 true (retV (kNilc [x38]) h) h) fun x43 h =>
  bndC (gsel x34 true (retV (kFa 55 [x43]) h) h) fun x44 h =>
  bndC (gsel x34 true (retV (kIaA 7 1 [x44, x42]) h) h) fun x45 h =>
  bndC (gsel x34 true (retV (qLd h none [x45]) h) h) fun x46 h =>
  bndC (gsel x34 true (retV (kBin .gtr [x37, x46]) h) h) fun x47 h =>
  bndV (kPick [x34, x47, (.bool false)]) fun x48 =>
  bndC (gsel x48 true (retV (kFa 5 [x7]) h) h) fun x50 h =>
  bndC (gsel x48 true (retV (kFa 1 [x50]) h) h) fun x51 h =>
  bndC (gsel x48 true (retV (qLd h none [x51]) h) h) fun x52 h =>
  (f41_0 rc x0 x3 x7 x13 x14 x15 x48 x52 h)
noncomputable def f41_2 (rc : List V → HT → Option J) (x0 : V) (x3 : V) (x6 : V) (x13 : V) (x14 : V) (x15 : V) (x23 : V) (h : HT) : Option J := bndV (qLd h (some 2) [x6]) fun x24 =>
  bndN (kAlloc [(.int .i64 (.ofNat (nat_lit 0))), (.int .i64 (.ofNat (nat_lit 0))), (.int .i64 (.ofNat (nat_lit 0))), (.int .i64 (.ofNat (nat_lit 0))), (.int .i64 (.ofNat (nat_lit 0))), (.int .i64 (.ofNat (nat_lit 0))), (.int .i64 (.ofNat (nat_lit 0))), (.int .i64 (.ofNat (nat_lit 0))), (.str (sb [])), (.str (sb [])), (.str (sb [])), (.str (sb [])), (.int .i64 (.ofNat (nat_lit 0))), (.int .i64 (.ofNat (nat_lit 0))), (.int .i64 (.ofNat (nat_lit 0))), (.int .i64 (.ofNat (nat_lit 0))), (.int .i64 (.ofNat (nat_lit 0))), (.int .i64 (.ofNat (nat_lit 0))), (.int .i64 (.ofNat (nat_lit 0))), (.int .i64 (.ofNat (nat_lit 0))), (.bool false)] []) h fun x7 h =>
  bndC (noF [x23, x24] h) fun x25 h =>
  bndV (kExt 0 [x25]) fun x26 =>
  bndV (kExt 1 [x25]) fun x27 =>
  bndE (dSt h 21 [x7, x26]) h fun _ h =>
  bndV (kFa 0 [x6]) fun x28 =>
  bndV (qLd h none [x28]) fun x29 =>
  bndV (kNilc [x0]) fun x31 =>
  bndV (kFa 1 [x31]) fun x32 =>
  bndV (qLd h none [x32]) fun x33 =>
  bndV (kBin .eql [x29, x33]) fun x34 =>
  bndC (gsel x34 true (retV (kFa 1 [x6]) h) h) fun x36 h =>
  bndC (gsel x34 true (retV (qLd h none [x36]) h) h) fun x37 h =>
  (f41_1 rc x0 x3 x7 x13 x14 x15 x34 x37 h)
noncomputable def f41_3 (rc : List V → HT → Option J) (x0 : V) (vs : List V) (h : HT) : Option J := unc vs fun x3 vs =>
  unc vs fun x13 vs =>
  unc vs fun x14 vs =>
  unc vs fun x15 vs =>
  bndV (kBin .lss [x15, x14]) fun x16 =>
  tstv x16 (bndV (kIaS 2 [x13, x15]) fun x17 =>
  bndV (qLd h (some 2) [x17]) fun x18 =>
  bndN (kAlloc [(.int .i64 (.ofNat (nat_lit 0))), (.int .i64 (.ofNat (nat_lit 0)))] []) h fun x6 h =>
  bndE (dSt h 2 [x6, x18]) h fun _ h =>
  bndV (kNilc [x0]) fun x21 =>
  bndV (kFa 4 [x21]) fun x22 =>
  bndV (qLd h none [x22]) fun x23 =>
  (f41_2 rc x0 x3 x6 x13 x14 x15 x23 h))
  (some ⟨0, [], h⟩)
noncomputable def f41_4 (x0 : V) (vs : List V) (h : HT) : Option J := unc vs fun x1 vs =>
  bndN (kBox [x1]) h fun x3 h =>
  bndV (kNilc [x0]) fun x10 =>
  bndV (kFa 4 [x10]) fun x11 =>
  bndV (qLd h none [x11]) fun x12 =>
  bndC (f118 [x12] h) fun x13 h =>
  bndV (kLenS [x13]) fun x14 =>
  bndJ (loopF (fun rc vs h => unc vs fun x0 vs =>
  (f41_3 rc x0 vs h)) 1000000 [x0, x3, x13, x14, (.int .i64 (.ofNat (nat_lit 0)))] h)
  fun j vs h => nsw j (ret1 (.bool false) h)
  fun j => unc vs fun x4 vs =>
  ret1 x4 h
noncomputable def f41 (vs : List V) (h : HT) : Option J := unc vs fun x0 vs =>
  (f41_4 x0 vs h)
def a41 : List Ann := [.no, .loop [0, 3, 13, 14, 15] [((.exit 0), []), (.ret, [4])], .no, .no, .no]
theorem e41 : f41 = evFun Tryz.prog 41 2 a41 t41 := by kernel_rfl
theorem o41 : FnOk Tryz.prog 41 f41 := .of hmO (show enters Tryz.prog 41 = true by kernel_rfl) e41 (.cons o118 (.nil))

/- (*concord/log.Log).Top -/
noncomputable def l120 : List (Nat × (List V → HT → Option J)) := []
noncomputable def t120 : Fns := tab l120
noncomputable def f120_0 (rc : List V → HT → Option J) (x2 : V) (x3 : V) (x13 : V) (x16 : V) (h : HT) : Option J := bndV (kExt 0 [x16]) fun x17 =>
  bndN (kAlloc [(.int .i64 (.ofNat (nat_lit 0))), (.int .i64 (.ofNat (nat_lit 0)))] []) h fun x4 h =>
  bndE (dSt h 2 [x4, x17]) h fun _ h =>
  bndV (kFa 0 [x4]) fun x18 =>
  bndV (qLd h none [x18]) fun x19 =>
  bndV (kFa 0 [x4]) fun x20 =>
  bndV (qLd h none [x20]) fun x21 =>
  bndV (kIaA 7 1 [x3, x21]) fun x22 =>
  bndV (qLd h none [x22]) fun x23 =>
  bndV (kFa 1 [x4]) fun x24 =>
  bndV (qLd h none [x24]) fun x25 =>
  bndV (kMaxI [x23, x25]) fun x26 =>
  bndV (kIaA 7 1 [x3, x19]) fun x27 =>
  bndE (dSt h 1 [x27, x26]) h fun _ h =>
  rc [x2, x3, x13] h
noncomputable def f120_1 (x2 : V) (x3 : V) (x13 : V) (h : HT) : Option J := bndJ (loopF (fun rc vs h => unc vs fun x2 vs =>
  unc vs fun x3 vs =>
  unc vs fun x13 vs =>
  bndE (dNx h [x13]) h fun x14 h =>
  bndV (kExt 0 [x14]) fun x15 =>
  tstv x15 (bndV (kEnt h.heap [x13]) fun x16 =>
  (f120_0 rc x2 x3 x13 x16 h))
  (some ⟨0, [x2, x3], h⟩)) 1000000 [x2, x3, x13] h)
  fun j vs h => unc vs fun x2 vs =>
  unc vs fun x3 vs =>
  bndV (qLd h (some 7) [x3]) fun x28 =>
  bndE (dSt h 7 [x2, x28]) h fun _ h =>
  bndV (qLd h (some 7) [x2]) fun x900000 =>
  ret1 x900000 h
noncomputable def f120 (vs : List V) (h : HT) : Option J := unc vs fun x0 vs =>
  bndN (kAlloc [(.int .i64 (.ofNat (nat_lit 0))), (.int .i64 (.ofNat (nat_lit 0))), (.int .i64 (.ofNat (nat_lit 0))), (.int .i64 (.ofNat (nat_lit 0))), (.int .i64 (.ofNat (nat_lit 0))), (.int .i64 (.ofNat (nat_lit 0))), (.int .i64 (.ofNat (nat_lit 0)))] []) h fun x2 h =>
  bndV (kNilc [x0]) fun x6 =>
  bndV (kFa 1 [x6]) fun x7 =>
  bndV (qLd h (some 7) [x7]) fun x8 =>
  bndN (kAlloc [(.int .i64 (.ofNat (nat_lit 0))), (.int .i64 (.ofNat (nat_lit 0))), (.int .i64 (.ofNat (nat_lit 0))), (.int .i64 (.ofNat (nat_lit 0))), (.int .i64 (.ofNat (nat_lit 0))), (.int .i64 (.ofNat (nat_lit 0))), (.int .i64 (.ofNat (nat_lit 0)))] []) h fun x3 h =>
  bndE (dSt h 7 [x3, x8]) h fun _ h =>
  bndV (kNilc [x0]) fun x10 =>
  bndV (kFa 0 [x10]) fun x11 =>
  bndV (qLd h none [x11]) fun x12 =>
  bndN (kRng h.heap [x12]) h fun x13 h =>
  (f120_1 x2 x3 x13 h)
def a120 : List Ann := [.no, .loop [2, 3, 13] [((.exit 0), [2, 3])], .no, .no]
theorem e120 : f120 = evFun Tryz.prog 120 1 a120 t120 := by kernel_rfl
theorem o120 : FnOk Tryz.prog 120 f120 := .of hmO (show enters Tryz.prog 120 = true by kernel_rfl) e120 (.nil)
end Go.Cn
