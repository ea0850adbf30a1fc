/- Functions of the program, told as plain functions of what they are called with, each with the proof that it is what the code does (printed by a program of the prover). -/
import Derived.Test.YtdchnobmkhcccaaGreatDoorGh
namespace Go.Cn
open Go.Proofs
set_option maxRecDepth 100000
set_option linter.unusedVariables false
/- concord/disk.New -/
noncomputable def l8 : List (Nat × (List V → HT → Option J)) := []
noncomputable def t8 : Fns := tab l8

noncomputable def f8 (vs : List V) (h : HT) : Option J := unc vs fun x0 vs =>
  bndV (kBin .lss [x0, (.int .i64 (.ofNat (nat_lit 0)))]) fun x5 =>
  bndC (gsel x5 false (retV (kMov [x0]) h) h) fun x7 h =>
  bndC (gsel x5 false (retV (kBin .gtr [x7, (.int .i64 (.ofNat (nat_lit 1048576)))]) h) h) fun x8 h =>
  bndV (kPick [x5, (.bool true), x8]) fun x9 =>
  tstv x9 (ret1 (.tuple [(.ptr none), (.int .i64 (.ofNat (nat_lit 1)))]) h)
  (bndV (kBld [(.int .i64 (.ofNat (nat_lit 0))), (.slice none 0 true 0), (.bool false), (.bool false), (.int .i64 (.ofNat (nat_lit 0)))] [(0, 1)] [x0]) fun x11 =>
  bndN (kBox [x11]) h fun x12 h =>
  ret1 (.tuple [x12, (.int .i64 (.ofNat (nat_lit 0)))]) h)
def a8 : List Ann := [.no]
theorem e8 : f8 = evFun Tryz.prog 8 1 a8 t8 := by kernel_rfl
theorem o8 : FnOk Tryz.prog 8 f8 := .of hmO (show enters Tryz.prog 8 = true by kernel_rfl) e8 (.nil)

/- concord/quorum.Fits -/
noncomputable def l29 : List (Nat × (List V → HT → Option J)) := []
noncomputable def t29 : Fns := tab l29

noncomputable def f29 (vs : List V) (h : HT) : Option J := unc vs fun x0 vs =>
  bndV (kBin .eql [x0, (.int .i64 (.ofNat (nat_lit 3)))]) fun x4 =>
  bndC (gsel x4 false (retV (kMov [x0]) h) h) fun x6 h =>
  bndC (gsel x4 false (retV (kBin .eql [x6, (.int .i64 (.ofNat (nat_lit 5)))]) h) h) fun x7 h =>
  bndV (kPick [x4, (.bool true), x7]) fun x8 =>
  bndC (gsel x8 false (retV (kMov [x0]) h) h) fun x10 h =>
  bndC (gsel x8 false (retV (kBin .eql [x10, (.int .i64 (.ofNat (nat_lit 7)))]) h) h) fun x11 h =>
  bndV (kPick [x8, (.bool true), x11]) fun x12 =>
  ret1 x12 h
def a29 : List Ann := []
theorem e29 : f29 = evFun Tryz.prog 29 1 a29 t29 := by kernel_rfl
theorem o29 : FnOk Tryz.prog 29 f29 := .of hmO (show enters Tryz.prog 29 = true by kernel_rfl) e29 (.nil)

/- concord/front.New -/
noncomputable def l30 : List (Nat × (List V → HT → Option J)) := []
noncomputable def t30 : Fns := tab l30
noncomputable def f30_0 (x0 : V) (x1 : V) (x11 : V) (h : HT) : Option J := bndC (gsel x11 true (retV (kMov [x0]) h) h) fun x13 h =>
  bndC (gsel x11 true (retV (kBin .neq [x13, (.int .i64 (.ofNat (nat_lit 7)))]) h) h) fun x14 h =>
  bndV (kPick [x11, x14, (.bool false)]) fun x15 =>
  bndC (gsel x15 false (retV (kMov [x1]) h) h) fun x17 h =>
  bndC (gsel x15 false (retV (kBin .lss [x17, (.int .i64 (.ofNat (nat_lit 0)))]) h) h) fun x18 h =>
  bndV (kPick [x15, (.bool true), x18]) fun x19 =>
  bndC (gsel x19 false (retV (kMov [x1]) h) h) fun x21 h =>
  bndC (gsel x19 false (retV (kMov [x0]) h) h) fun x22 h =>
  bndC (gsel x19 false (retV (kBin .geq [x21, x22]) h) h) fun x23 h =>
  bndV (kPick [x19, (.bool true), x23]) fun x24 =>
  tstv x24 (ret1 (.tuple [(.ptr none), (.int .i64 (.ofNat (nat_lit 1)))]) h)
  (bndV (kBld [(.int .i64 (.ofNat (nat_lit 0))), (.int .i64 (.ofNat (nat_lit 0))), (.int .i64 (.ofNat (nat_lit 0))), (.int .i64 (.ofNat (nat_lit 0))), (.int .i64 (.ofNat (nat_lit 0))), (.int .i64 (.ofNat (nat_lit 0))), (.int .i64 (.ofNat (nat_lit 0))), (.int .i64 (.ofNat (nat_lit 0))), (.int .i64 (.ofNat (nat_lit 0))), (.int .i64 (.ofNat (nat_lit 0))), (.int .i64 (.ofNat (nat_lit 0))), (.int .i64 (.ofNat (nat_lit 0))), (.int .i64 (.ofNat (nat_lit 0))), (.int .i64 (.ofNat (nat_lit 0))), (.int .i64 (.ofNat (nat_lit 0))), (.int .i64 (.ofNat (nat_lit 0))), (.int .i64 (.ofNat (nat_lit 0))), (.int .i64 (.ofNat (nat_lit 0))), (.int .i64 (.ofNat (nat_lit 0))), (.int .i64 (.ofNat (nat_lit 0))), (.int .i64 (.ofNat (nat_lit 0))), (.int .i64 (.ofNat (nat_lit 0))), (.int .i64 (.ofNat (nat_lit 0))), (.int .i64 (.ofNat (nat_lit 0))), (.int .i64 (.ofNat (nat_lit 0))), (.int .i64 (.ofNat (nat_lit 0))), (.int .i64 (.ofNat (nat_lit 0))), (.int .i64 (.ofNat (nat_lit 0))), (.int .i64 (.ofNat (nat_lit 0))), (.int .i64 (.ofNat (nat_lit 0))), (.int .i64 (.ofNat (nat_lit 0))), (.int .i64 (.ofNat (nat_lit 0))), (.int .i64 (.ofNat (nat_lit 0))), (.int .i64 (.ofNat (nat_lit 0))), (.int .i64 (.ofNat (nat_lit 0))), (.int .i64 (.ofNat (nat_lit 0))), (.int .i64 (.ofNat (nat_lit 0))), (.int .i64 (.ofNat (nat_lit 0))), (.int .i64 (.ofNat (nat_lit 0))), (.int .i64 (.ofNat (nat_lit 0))), (.int .i64 (.ofNat (nat_lit 0))), (.int .i64 (.ofNat (nat_lit 0))), (.int .i64 (.ofNat (nat_lit 0))), (.int .i64 (.ofNat (nat_lit 0))), (.int .i64 (.ofNat (nat_lit 0))), (.int .i64 (.ofNat (nat_lit 0))), (.int .i64 (.ofNat (nat_lit 0))), (.int .i64 (.ofNat (nat_lit 0))), (.int .i64 (.ofNat (nat_lit 0))), (.int .i64 (.ofNat (nat_lit 0))), (.int .i64 (.ofNat (nat_lit 0)))] [(0, 1), (1, 1)] [x0, x1]) fun x27 =>
  bndN (kBox [x27]) h fun x28 h =>
  ret1 (.tuple [x28, (.int .i64 (.ofNat (nat_lit 0)))]) h)
noncomputable def f30 (vs : List V) (h : HT) : Option J := unc vs fun x0 vs =>
  unc vs fun x1 vs =>
  bndV (kBin .neq [x0, (.int .i64 (.ofNat (nat_lit 3)))]) fun x7 =>
  bndC (gsel x7 true (retV (kMov [x0]) h) h) fun x9 h =>
  bndC (gsel x7 true (retV (kBin .neq [x9, (.int .i64 (.ofNat (nat_lit 5)))]) h) h) fun x10 h =>
  bndV (kPick [x7, x10, (.bool false)]) fun x11 =>
  (f30_0 x0 x1 x11 h)
def a30 : List Ann := [.no]
theorem e30 : f30 = evFun Tryz.prog 30 2 a30 t30 := by kernel_rfl
theorem o30 : FnOk Tryz.prog 30 f30 := .of hmO (show enters Tryz.prog 30 = true by kernel_rfl) e30 (.nil)

/- slices.Clone[[]byte,byte] -/
noncomputable def l147 : List (Nat × (List V → HT → Option J)) := []
noncomputable def t147 : Fns := tab l147

noncomputable def f147 (vs : List V) (h : HT) : Option J := unc vs fun x0 vs =>
  bndV (kEqN false [x0, (.slice none 0 true 0)]) fun x4 =>
  tstv x4 (ret1 (.slice none 0 true 0) h)
  (bndN (kBsl 1 0 [] [] []) h fun x5 h =>
  bndE (dApp h 1 1 [x5, x0]) h fun x7 h =>
  ret1 x7 h)
def a147 : List Ann := [.no]
theorem e147 : f147 = evFun Tryz.prog 147 1 a147 t147 := by kernel_rfl
theorem o147 : FnOk Tryz.prog 147 f147 := .of hmO (show enters Tryz.prog 147 = true by kernel_rfl) e147 (.nil)

/- (*concord/disk.Disk).find -/
noncomputable def l163 : List (Nat × (List V → HT → Option J)) := []
noncomputable def t163 : Fns := tab l163
noncomputable def f163_0 (rc : List V → HT → Option J) (x0 : V) (x1 : V) (x11 : V) (x12 : V) (x13 : V) (x14 : V) (h : HT) : Option J := tstv x14 (bndV (kIaS 3 [x11, x13]) fun x16 =>
  bndV (qLd h (some 3) [x16]) fun x17 =>
  bndN (kAlloc [(.str (sb [])), (.slice none 0 true 0), (.int .i64 (.ofNat (nat_lit 0)))] []) h fun x7 h =>
  bndE (dSt h 3 [x7, x17]) h fun _ h =>
  bndV (kFa 0 [x7]) fun x18 =>
  bndV (qLd h none [x18]) fun x19 =>
  bndV (kBin .geq [x19, x1]) fun x21 =>
  tstv x21 (bndV (kFa 0 [x7]) fun x23 =>
  bndV (qLd h none [x23]) fun x24 =>
  bndV (kBin .eql [x24, x1]) fun x26 =>
  some ⟨1, [x13, x26], h⟩)
  (bndV (kBin .add [x13, (.int .i64 (.ofNat (nat_lit 1)))]) fun x27 =>
  rc [x0, x1, x11, x12, x27] h))
  (some ⟨0, [x0], h⟩)
noncomputable def f163_1 (x0 : V) (x1 : V) (x11 : V) (x12 : V) (h : HT) : Option J := bndJ (loopF (fun rc vs h => unc vs fun x0 vs =>
  unc vs fun x1 vs =>
  unc vs fun x11 vs =>
  unc vs fun x12 vs =>
  unc vs fun x13 vs =>
  bndV (kBin .lss [x13, x12]) fun x14 =>
  (f163_0 rc x0 x1 x11 x12 x13 x14 h)) 1000000 [x0, x1, x11, x12, (.int .i64 (.ofNat (nat_lit 0)))] h)
  fun j vs h => nsw j (unc vs fun x0 vs =>
  bndV (kNilc [x0]) fun x29 =>
  bndV (kFa 1 [x29]) fun x30 =>
  bndV (qLd h none [x30]) fun x31 =>
  bndV (kLenS [x31]) fun x32 =>
  ret1 (.tuple [x32, (.bool false)]) h)
  fun j => unc vs fun x4 vs =>
  unc vs fun x5 vs =>
  ret1 (.tuple [x4, x5]) h
noncomputable def f163 (vs : List V) (h : HT) : Option J := unc vs fun x0 vs =>
  unc vs fun x1 vs =>
  bndV (kNilc [x0]) fun x9 =>
  bndV (kFa 1 [x9]) fun x10 =>
  bndV (qLd h none [x10]) fun x11 =>
  bndV (kLenS [x11]) fun x12 =>
  (f163_1 x0 x1 x11 x12 h)
def a163 : List Ann := [.no, .loop [0, 1, 11, 12, 13] [((.exit 0), [0]), (.ret, [4, 5])], .no, .no, .no]
theorem e163 : f163 = evFun Tryz.prog 163 2 a163 t163 := by kernel_rfl
theorem o163 : FnOk Tryz.prog 163 f163 := .of hmO (show enters Tryz.prog 163 = true by kernel_rfl) e163 (.nil)

/- (*concord/disk.Disk).Read -/
noncomputable def l87 : List (Nat × (List V → HT → Option J)) := [(147, f147), (163, f163)]
noncomputable def t87 : Fns := tab l87
noncomputable def f87_0 (x0 : V) (vs : List V) (h : HT) : Option J := unc vs fun x1 vs =>
  bndC (f163 [x0, x1] h) fun x11 h =>
  bndV (kExt 0 [x11]) fun x12 =>
  bndV (kExt 1 [x11]) fun x13 =>
  bndV (kUn .not [x13]) fun x15 =>
  tstv x15 (ret1 (.tuple [(.slice none 0 true 0), (.bool false)]) h)
  (bndV (kNilc [x0]) fun x17 =>
  bndV (kFa 1 [x17]) fun x18 =>
  bndV (qLd h none [x18]) fun x19 =>
  bndV (kIaS 3 [x19, x12]) fun x21 =>
  bndV (kFa 1 [x21]) fun x22 =>
  bndV (qLd h none [x22]) fun x23 =>
  bndC (f147 [x23] h) fun x24 h =>
  ret1 (.tuple [x24, (.bool true)]) h)
noncomputable def f87 (vs : List V) (h : HT) : Option J := unc vs fun x0 vs =>
  (f87_0 x0 vs h)
def a87 : List Ann := [.no]
theorem e87 : f87 = evFun Tryz.prog 87 2 a87 t87 := by kernel_rfl
theorem o87 : FnOk Tryz.prog 87 f87 := .of hmO (show enters Tryz.prog 87 = true by kernel_rfl) e87 (.cons o147 (.cons o163 (.nil)))

/- (*concord/node.Node).load -/
noncomputable def l31 : List (Nat × (List V → HT → Option J)) := [(87, f87)]
noncomputable def t31 : Fns := tab l31
noncomputable def f31_0 (x0 : V) (x5 : V) (x6 : V) (x31 : V) (h : HT) : Option J := bndV (qLd h (some 7) [x5]) fun x32 =>
  bndV (qLd h (some 49) [x6]) fun x33 =>
  bndV (kNilc [x0]) fun x34 =>
  bndV (kFa 55 [x34]) fun x35 =>
  bndE (dSt h 7 [x35, x31]) h fun _ h =>
  chk1 (sameE (qLd h (some 49) [x6]) x33) (chk1 (sameE (qLd h (some 7) [x5]) x32) (bndV (kNilc [x0]) fun x36 =>
  bndV (kFa 62 [x36]) fun x37 =>
  bndE (dSt h 7 [x37, x32]) h fun _ h =>
  chk1 (sameE (qLd h (some 49) [x6]) x33) (bndV (kNilc [x0]) fun x38 =>
  bndV (kFa 6 [x38]) fun x39 =>
  bndE (dSt h 49 [x39, x33]) h fun _ h =>
  some ⟨1, [x0], h⟩)))
noncomputable def f31_1 (x0 : V) (x16 : V) (x17 : V) (h : HT) : Option J := tstv x17 (bndC (noF [x16] h) fun x21 h =>
  bndV (kExt 0 [x21]) fun x22 =>
  bndV (kExt 1 [x21]) fun x23 =>
  bndV (kExt 2 [x21]) fun x24 =>
  bndN (kAlloc [(.int .i64 (.ofNat (nat_lit 0))), (.int .i64 (.ofNat (nat_lit 0))), (.int .i64 (.ofNat (nat_lit 0))), (.int .i64 (.ofNat (nat_lit 0))), (.int .i64 (.ofNat (nat_lit 0))), (.int .i64 (.ofNat (nat_lit 0))), (.int .i64 (.ofNat (nat_lit 0)))] []) h fun x5 h =>
  bndN (kAlloc [(.slice none 0 true 0), (.int .i64 (.ofNat (nat_lit 0))), (.int .i64 (.ofNat (nat_lit 0))), (.bool false), (.str (sb [])), (.int .i64 (.ofNat (nat_lit 0))), (.slice none 0 true 0), (.int .i64 (.ofNat (nat_lit 0))), (.int .i64 (.ofNat (nat_lit 0))), (.bool false), (.str (sb [])), (.int .i64 (.ofNat (nat_lit 0))), (.slice none 0 true 0), (.int .i64 (.ofNat (nat_lit 0))), (.int .i64 (.ofNat (nat_lit 0))), (.bool false), (.str (sb [])), (.int .i64 (.ofNat (nat_lit 0))), (.slice none 0 true 0), (.int .i64 (.ofNat (nat_lit 0))), (.int .i64 (.ofNat (nat_lit 0))), (.bool false), (.str (sb [])), (.int .i64 (.ofNat (nat_lit 0))), (.slice none 0 true 0), (.int .i64 (.ofNat (nat_lit 0))), (.int .i64 (.ofNat (nat_lit 0))), (.bool false), (.str (sb [])), (.int .i64 (.ofNat (nat_lit 0))), (.slice none 0 true 0), (.int .i64 (.ofNat (nat_lit 0))), (.int .i64 (.ofNat (nat_lit 0))), (.bool false), (.str (sb [])), (.int .i64 (.ofNat (nat_lit 0))), (.slice none 0 true 0), (.int .i64 (.ofNat (nat_lit 0))), (.int .i64 (.ofNat (nat_lit 0))), (.bool false), (.str (sb [])), (.int .i64 (.ofNat (nat_lit 0))), (.slice none 0 true 0), (.int .i64 (.ofNat (nat_lit 0))), (.int .i64 (.ofNat (nat_lit 0))), (.bool false), (.str (sb [])), (.int .i64 (.ofNat (nat_lit 0))), (.slice none 0 true 0)] []) h fun x6 h =>
  bndE (dSt h 7 [x5, x22]) h fun _ h =>
  bndE (dSt h 49 [x6, x23]) h fun _ h =>
  bndV (kBin .neq [x24, (.int .i64 (.ofNat (nat_lit 0)))]) fun x26 =>
  tstv x26 (some ⟨0, [x24], h⟩)
  (bndV (qLd h (some 7) [x5]) fun x31 =>
  (f31_0 x0 x5 x6 x31 h)))
  (some ⟨1, [x0], h⟩)
noncomputable def f31_2 (j : Nat) (vs : List V) (h : HT) : Option J := nsw j (unc vs fun x2 vs =>
  ret1 x2 h)
  fun j => unc vs fun x0 vs =>
  bndV (kNilc [x0]) fun x42 =>
  bndV (kFa 2 [x42]) fun x43 =>
  bndV (qLd h none [x43]) fun x44 =>
  bndC (f87 [x44, (.str (sb [105, 109, 97, 103, 101, 46, 110, 101, 119]))] h) fun x45 h =>
  bndV (kExt 0 [x45]) fun x46 =>
  bndV (kExt 1 [x45]) fun x47 =>
  tstv x47 (bndV (kNilc [x0]) fun x50 =>
  bndV (kFa 2 [x50]) fun x51 =>
  bndV (qLd h none [x51]) fun x52 =>
  bndC (noF [x52, (.str (sb [105, 109, 97, 103, 101, 46, 110, 101, 119]))] h) fun x53 h =>
  ret1 x53 h)
  (ret1 (.int .i64 (.ofNat (nat_lit 0))) h)
noncomputable def f31 (vs : List V) (h : HT) : Option J := unc vs fun x0 vs =>
  bndV (kNilc [x0]) fun x12 =>
  bndV (kFa 2 [x12]) fun x13 =>
  bndV (qLd h none [x13]) fun x14 =>
  bndC (f87 [x14, (.str (sb [105, 109, 97, 103, 101]))] h) fun x15 h =>
  bndV (kExt 0 [x15]) fun x16 =>
  bndV (kExt 1 [x15]) fun x17 =>
  bndJ ((f31_1 x0 x16 x17 h))
  fun j vs h => (f31_2 j vs h)
def a31 : List Ann := [.join [(.ret, [2]), (.normal, [0])], .no, .no]
theorem e31 : f31 = evFun Tryz.prog 31 1 a31 t31 := by kernel_rfl
theorem o31 : FnOk Tryz.prog 31 f31 := .of hmO (show enters Tryz.prog 31 = true by kernel_rfl) e31 (.cons o87 (.nil))

/- internal/strconv.small -/
noncomputable def l284 : List (Nat × (List V → HT → Option J)) := []
noncomputable def t284 : Fns := tab l284

noncomputable def f284 (vs : List V) (h : HT) : Option J := unc vs fun x0 vs =>
  bndV (kBin .lss [x0, (.int .i64 (.ofNat (nat_lit 10)))]) fun x4 =>
  tstv x4 (bndV (kBin .add [x0, (.int .i64 (.ofNat (nat_lit 1)))]) fun x7 =>
  bndV (kSlStr true true [(.str (sb [48, 49, 50, 51, 52, 53, 54, 55, 56, 57, 97, 98, 99, 100, 101, 102, 103, 104, 105, 106, 107, 108, 109, 110, 111, 112, 113, 114, 115, 116, 117, 118, 119, 120, 121, 122])), x0, x7]) fun x8 =>
  ret1 x8 h)
  (bndV (kBin .mul [x0, (.int .i64 (.ofNat (nat_lit 2)))]) fun x10 =>
  bndV (kBin .mul [x0, (.int .i64 (.ofNat (nat_lit 2)))]) fun x12 =>
  bndV (kBin .add [x12, (.int .i64 (.ofNat (nat_lit 2)))]) fun x13 =>
  bndV (kSlStr true true [(.str (sb [48, 48, 48, 49, 48, 50, 48, 51, 48, 52, 48, 53, 48, 54, 48, 55, 48, 56, 48, 57, 49, 48, 49, 49, 49, 50, 49, 51, 49, 52, 49, 53, 49, 54, 49, 55, 49, 56, 49, 57, 50, 48, 50, 49, 50, 50, 50, 51, 50, 52, 50, 53, 50, 54, 50, 55, 50, 56, 50, 57, 51, 48, 51, 49, 51, 50, 51, 51, 51, 52, 51, 53, 51, 54, 51, 55, 51, 56, 51, 57, 52, 48, 52, 49, 52, 50, 52, 51, 52, 52, 52, 53, 52, 54, 52, 55, 52, 56, 52, 57, 53, 48, 53, 49, 53, 50, 53, 51, 53, 52, 53, 53, 53, 54, 53, 55, 53, 56, 53, 57, 54, 48, 54, 49, 54, 50, 54, 51, 54, 52, 54, 53, 54, 54, 54, 55, 54, 56, 54, 57, 55, 48, 55, 49, 55, 50, 55, 51, 55, 52, 55, 53, 55, 54, 55, 55, 55, 56, 55, 57, 56, 48, 56, 49, 56, 50, 56, 51, 56, 52, 56, 53, 56, 54, 56, 55, 56, 56, 56, 57, 57, 48, 57, 49, 57, 50, 57, 51, 57, 52, 57, 53, 57, 54, 57, 55, 57, 56, 57, 57])), x10, x13]) fun x14 =>
  ret1 x14 h)
def a284 : List Ann := [.no]
theorem e284 : f284 = evFun Tryz.prog 284 1 a284 t284 := by kernel_rfl
theorem o284 : FnOk Tryz.prog 284 f284 := .of hmO (show enters Tryz.prog 284 = true by kernel_rfl) e284 (.nil)

/- internal/strconv.FormatInt -/
noncomputable def l228 : List (Nat × (List V → HT → Option J)) := [(284, f284)]
noncomputable def t228 : Fns := tab l228
noncomputable def f228_0 (x0 : V) (x17 : V) (h : HT) : Option J := tstv x17 (bndC (f284 [x0] h) fun x19 h =>
  ret1 x19 h)
  (bndN (kAlloc [(.int .u8 (.ofNat (nat_lit 0))), (.int .u8 (.ofNat (nat_lit 0))), (.int .u8 (.ofNat (nat_lit 0))), (.int .u8 (.ofNat (nat_lit 0))), (.int .u8 (.ofNat (nat_lit 0))), (.int .u8 (.ofNat (nat_lit 0))), (.int .u8 (.ofNat (nat_lit 0))), (.int .u8 (.ofNat (nat_lit 0))), (.int .u8 (.ofNat (nat_lit 0))), (.int .u8 (.ofNat (nat_lit 0))), (.int .u8 (.ofNat (nat_lit 0))), (.int .u8 (.ofNat (nat_lit 0))), (.int .u8 (.ofNat (nat_lit 0))), (.int .u8 (.ofNat (nat_lit 0))), (.int .u8 (.ofNat (nat_lit 0))), (.int .u8 (.ofNat (nat_lit 0))), (.int .u8 (.ofNat (nat_lit 0))), (.int .u8 (.ofNat (nat_lit 0))), (.int .u8 (.ofNat (nat_lit 0))), (.int .u8 (.ofNat (nat_lit 0))), (.int .u8 (.ofNat (nat_lit 0))), (.int .u8 (.ofNat (nat_lit 0))), (.int .u8 (.ofNat (nat_lit 0))), (.int .u8 (.ofNat (nat_lit 0)))] []) h fun x5 h =>
  bndV (kCvI .u64 [x0]) fun x21 =>
  bndV (kBin .lss [x0, (.int .i64 (.ofNat (nat_lit 0)))]) fun x23 =>
  bndJ (tstv x23 (bndV (kUn .neg [x21]) fun x25 =>
  some ⟨0, [x0, x5, x25], h⟩)
  (some ⟨0, [x0, x5, x21], h⟩))
  fun j vs h => unc vs fun x0 vs =>
  unc vs fun x5 vs =>
  unc vs fun x6 vs =>
  bndC (noF [x6] h) fun x27 h =>
  bndV (kBin .add [(.int .i64 (.ofNat (nat_lit 1))), x27]) fun x29 =>
  none)
noncomputable def f228 (vs : List V) (h : HT) : Option J := unc vs fun x0 vs =>
  unc vs fun x1 vs =>
  bndV (kBin .eql [x1, (.int .i64 (.ofNat (nat_lit 10)))]) fun x11 =>
  tstv x11 (bndV (kBin .leq [(.int .i64 (.ofNat (nat_lit 0))), x0]) fun x13 =>
  bndC (gsel x13 true (retV (kMov [x0]) h) h) fun x15 h =>
  bndC (gsel x13 true (retV (kBin .lss [x15, (.int .i64 (.ofNat (nat_lit 100)))]) h) h) fun x16 h =>
  bndV (kPick [x13, x16, (.bool false)]) fun x17 =>
  (f228_0 x0 x17 h))
  (bndV (kCvI .u64 [x0]) fun x46 =>
  bndV (kBin .lss [x0, (.int .i64 (.ofNat (nat_lit 0)))]) fun x49 =>
  bndC (noF [(.slice none 0 true 0), x46, x1, x49, (.bool false)] h) fun x50 h =>
  bndV (kExt 0 [x50]) fun x51 =>
  bndV (kExt 1 [x50]) fun x52 =>
  ret1 x52 h)
def a228 : List Ann := [.no, .no, .join [(.normal, [0, 5, 6])], .no]
theorem e228 : f228 = evFun Tryz.prog 228 2 a228 t228 := by kernel_rfl
theorem o228 : FnOk Tryz.prog 228 f228 := .of hmO (show enters Tryz.prog 228 = true by kernel_rfl) e228 (.cons o284 (.nil))

/- internal/strconv.Itoa -/
noncomputable def l155 : List (Nat × (List V → HT → Option J)) := [(228, f228)]
noncomputable def t155 : Fns := tab l155

noncomputable def f155 (vs : List V) (h : HT) : Option J := unc vs fun x0 vs =>
  bndC (f228 [x0, (.int .i64 (.ofNat (nat_lit 10)))] h) fun x4 h =>
  ret1 x4 h
def a155 : List Ann := []
theorem e155 : f155 = evFun Tryz.prog 155 1 a155 t155 := by kernel_rfl
theorem o155 : FnOk Tryz.prog 155 f155 := .of hmO (show enters Tryz.prog 155 = true by kernel_rfl) e155 (.cons o228 (.nil))

/- strconv.Itoa -/
noncomputable def l77 : List (Nat × (List V → HT → Option J)) := [(155, f155)]
noncomputable def t77 : Fns := tab l77

noncomputable def f77 (vs : List V) (h : HT) : Option J := unc vs fun x0 vs =>
  bndC (f155 [x0] h) fun x4 h =>
  ret1 x4 h
def a77 : List Ann := []
theorem e77 : f77 = evFun Tryz.prog 77 1 a77 t77 := by kernel_rfl
theorem o77 : FnOk Tryz.prog 77 f77 := .of hmO (show enters Tryz.prog 77 = true by kernel_rfl) e77 (.cons o155 (.nil))

/- (concord/wal.place).name -/
noncomputable def l93 : List (Nat × (List V → HT → Option J)) := [(77, f77)]
noncomputable def t93 : Fns := tab l93

noncomputable def f93 (vs : List V) (h : HT) : Option J := unc vs fun x0 vs =>
  bndN (kBox [x0]) h fun x1 h =>
  bndV (kFa 0 [x1]) fun x3 =>
  bndV (qLd h none [x3]) fun x4 =>
  bndV (kFa 1 [x1]) fun x8 =>
  bndV (qLd h none [x8]) fun x9 =>
  bndC (f77 [x4] h) fun x5 h =>
  chk1 (sameE (qLd h none [x8]) x9) (bndV (kBin .add [(.str (sb [108, 111, 103, 46])), x5]) fun x6 =>
  bndV (kBin .add [x6, (.str (sb [46]))]) fun x7 =>
  bndC (f77 [x9] h) fun x10 h =>
  bndV (kBin .add [x7, x10]) fun x11 =>
  ret1 x11 h)
def a93 : List Ann := []
theorem e93 : f93 = evFun Tryz.prog 93 1 a93 t93 := by kernel_rfl
theorem o93 : FnOk Tryz.prog 93 f93 := .of hmO (show enters Tryz.prog 93 = true by kernel_rfl) e93 (.cons o77 (.nil))

/- concord/pack.grown -/
noncomputable def l176 : List (Nat × (List V → HT → Option J)) := []
noncomputable def t176 : Fns := tab l176

noncomputable def f176 (vs : List V) (h : HT) : Option J := unc vs fun x0 vs =>
  unc vs fun x1 vs =>
  bndV (kLenS [x0]) fun x6 =>
  bndV (kBin .add [x6, x1]) fun x8 =>
  bndN (kMkS 1 1 [(.int .u8 (.ofNat (nat_lit 0)))] [(.int .i64 (.ofNat (nat_lit 0))), x8]) h fun x9 h =>
  bndE (dApp h 1 1 [x9, x0]) h fun x11 h =>
  ret1 x11 h
def a176 : List Ann := []
theorem e176 : f176 = evFun Tryz.prog 176 2 a176 t176 := by kernel_rfl
theorem o176 : FnOk Tryz.prog 176 f176 := .of hmO (show enters Tryz.prog 176 = true by kernel_rfl) e176 (.nil)

/- concord/pack.Read -/
noncomputable def l96 : List (Nat × (List V → HT → Option J)) := [(176, f176)]
noncomputable def t96 : Fns := tab l96

noncomputable def f96 (vs : List V) (h : HT) : Option J := unc vs fun x0 vs =>
  bndC (f176 [x0, (.int .i64 (.ofNat (nat_lit 0)))] h) fun x4 h =>
  bndV (kBld [(.slice none 0 true 0), (.int .i64 (.ofNat (nat_lit 0))), (.int .i64 (.ofNat (nat_lit 0)))] [(0, 1)] [x4]) fun x5 =>
  bndN (kBox [x5]) h fun x6 h =>
  ret1 x6 h
def a96 : List Ann := []
theorem e96 : f96 = evFun Tryz.prog 96 1 a96 t96 := by kernel_rfl
theorem o96 : FnOk Tryz.prog 96 f96 := .of hmO (show enters Tryz.prog 96 = true by kernel_rfl) e96 (.cons o176 (.nil))

/- concord/word.Zag -/
noncomputable def l178 : List (Nat × (List V → HT → Option J)) := []
noncomputable def t178 : Fns := tab l178

noncomputable def f178 (vs : List V) (h : HT) : Option J := unc vs fun x0 vs =>
  bndV (kBin .shr [x0, (.int .u64 (.ofNat (nat_lit 1)))]) fun x4 =>
  bndV (kCvI .i64 [x4]) fun x5 =>
  bndV (kBin .and [x0, (.int .u64 (.ofNat (nat_lit 1)))]) fun x7 =>
  bndV (kCvI .i64 [x7]) fun x8 =>
  bndV (kUn .neg [x8]) fun x9 =>
  bndV (kBin .xor [x5, x9]) fun x10 =>
  ret1 x10 h
def a178 : List Ann := []
theorem e178 : f178 = evFun Tryz.prog 178 1 a178 t178 := by kernel_rfl
theorem o178 : FnOk Tryz.prog 178 f178 := .of hmO (show enters Tryz.prog 178 = true by kernel_rfl) e178 (.nil)

/- (*concord/pack.Reader).Num -/
noncomputable def l97 : List (Nat × (List V → HT → Option J)) := [(178, f178)]
noncomputable def t97 : Fns := tab l97
noncomputable def f97_0 (rc : List V → HT → Option J) (x0 : V) (x3 : V) (x4 : V) (x5 : V) (x40 : V) (x62 : V) (h : HT) : Option J := bndV (kNilc [x0]) fun x63 =>
  bndV (kFa 1 [x63]) fun x64 =>
  bndE (dSt h 1 [x64, x62]) h fun _ h =>
  bndV (kBin .and [x40, (.int .u8 (.ofNat (nat_lit 127)))]) fun x67 =>
  bndV (kCvI .u64 [x67]) fun x68 =>
  bndV (kBin .mul [(.int .i64 (.ofNat (nat_lit 7))), x5]) fun x70 =>
  bndV (kCvI .u64 [x70]) fun x71 =>
  bndV (kBin .shl [x68, x71]) fun x72 =>
  bndV (kBin .or [x4, x72]) fun x73 =>
  bndV (kBin .lss [x40, (.int .u8 (.ofNat (nat_lit 128)))]) fun x75 =>
  tstv x75 (bndC (f178 [x73] h) fun x77 h =>
  some ⟨0, [x77], h⟩)
  (bndV (kBin .add [x5, (.int .i64 (.ofNat (nat_lit 1)))]) fun x17 =>
  rc [x0, x3, x73, x17] h)
noncomputable def f97_1 (rc : List V → HT → Option J) (x0 : V) (x3 : V) (x4 : V) (x5 : V) (x40 : V) (x46 : V) (h : HT) : Option J := bndC (gsel x46 false (retV (kMov [x5]) h) h) fun x48 h =>
  bndC (gsel x46 false (retV (kBin .eql [x48, (.int .i64 (.ofNat (nat_lit 9)))]) h) h) fun x49 h =>
  bndC (gsel x46 false (retV (kMov [x49]) h) h) fun x50 h =>
  bndC (gsel x50 true (retV (kMov [x40]) h) h) fun x51 h =>
  bndC (gsel x50 true (retV (kBin .gtr [x51, (.int .u8 (.ofNat (nat_lit 1)))]) h) h) fun x52 h =>
  bndC (gsel x46 false (retV (kPick [x50, x52, (.bool false)]) h) h) fun x53 h =>
  bndV (kPick [x46, (.bool true), x53]) fun x54 =>
  tstv x54 (bndC (noF [x0, x3, (.int .i64 (.ofNat (nat_lit 4)))] h) fun x57 h =>
  some ⟨0, [(.int .i64 (.ofNat (nat_lit 0)))], h⟩)
  (bndV (kNilc [x0]) fun x59 =>
  bndV (kFa 1 [x59]) fun x60 =>
  bndV (qLd h none [x60]) fun x61 =>
  bndV (kBin .add [x61, (.int .i64 (.ofNat (nat_lit 1)))]) fun x62 =>
  (f97_0 rc x0 x3 x4 x5 x40 x62 h))
noncomputable def f97_2 (rc : List V → HT → Option J) (x0 : V) (x3 : V) (x4 : V) (x5 : V) (x27 : V) (h : HT) : Option J := tstv x27 (bndC (noF [x0, x3, (.int .i64 (.ofNat (nat_lit 3)))] h) fun x30 h =>
  some ⟨0, [(.int .i64 (.ofNat (nat_lit 0)))], h⟩)
  (bndV (kNilc [x0]) fun x32 =>
  bndV (kFa 0 [x32]) fun x33 =>
  bndV (qLd h none [x33]) fun x34 =>
  bndV (kNilc [x0]) fun x36 =>
  bndV (kFa 1 [x36]) fun x37 =>
  bndV (qLd h none [x37]) fun x38 =>
  bndV (kIaS 1 [x34, x38]) fun x39 =>
  bndV (qLd h none [x39]) fun x40 =>
  bndV (kBin .gtr [x5, (.int .i64 (.ofNat (nat_lit 0)))]) fun x42 =>
  bndC (gsel x42 true (retV (kMov [x40]) h) h) fun x44 h =>
  bndC (gsel x42 true (retV (kBin .eql [x44, (.int .u8 (.ofNat (nat_lit 0)))]) h) h) fun x45 h =>
  bndV (kPick [x42, x45, (.bool false)]) fun x46 =>
  (f97_1 rc x0 x3 x4 x5 x40 x46 h))
noncomputable def f97_3 (x0 : V) (x15 : V) (h : HT) : Option J := bndJ (loopF (fun rc vs h => unc vs fun x0 vs =>
  unc vs fun x3 vs =>
  unc vs fun x4 vs =>
  unc vs fun x5 vs =>
  bndV (kNilc [x0]) fun x19 =>
  bndV (kFa 1 [x19]) fun x20 =>
  bndV (qLd h none [x20]) fun x21 =>
  bndV (kNilc [x0]) fun x23 =>
  bndV (kFa 0 [x23]) fun x24 =>
  bndV (qLd h none [x24]) fun x25 =>
  bndV (kLenS [x25]) fun x26 =>
  bndV (kBin .eql [x21, x26]) fun x27 =>
  (f97_2 rc x0 x3 x4 x5 x27 h)) 1000000 [x0, x15, (.int .u64 (.ofNat (nat_lit 0))), (.int .i64 (.ofNat (nat_lit 0)))] h)
  fun j vs h => unc vs fun x2 vs =>
  ret1 x2 h
noncomputable def f97 (vs : List V) (h : HT) : Option J := unc vs fun x0 vs =>
  bndV (kNilc [x0]) fun x8 =>
  bndV (kFa 2 [x8]) fun x9 =>
  bndV (qLd h none [x9]) fun x10 =>
  bndV (kBin .neq [x10, (.int .i64 (.ofNat (nat_lit 0)))]) fun x11 =>
  tstv x11 (ret1 (.int .i64 (.ofNat (nat_lit 0))) h)
  (bndV (kNilc [x0]) fun x13 =>
  bndV (kFa 1 [x13]) fun x14 =>
  bndV (qLd h none [x14]) fun x15 =>
  (f97_3 x0 x15 h))
def a97 : List Ann := [.no, .no, .loop [0, 3, 4, 5] [(.ret, [2])], .no, .no, .no, .no]
theorem e97 : f97 = evFun Tryz.prog 97 1 a97 t97 := by kernel_rfl
theorem o97 : FnOk Tryz.prog 97 f97 := .of hmO (show enters Tryz.prog 97 = true by kernel_rfl) e97 (.cons o178 (.nil))

/- (*concord/pack.Reader).End -/
noncomputable def l98 : List (Nat × (List V → HT → Option J)) := []
noncomputable def t98 : Fns := tab l98
noncomputable def f98_0 (x0 : V) (x7 : V) (x12 : V) (x16 : V) (h : HT) : Option J := bndC (gsel x7 true (retV (kLenS [x16]) h) h) fun x17 h =>
  bndC (gsel x7 true (retV (kBin .lss [x12, x17]) h) h) fun x18 h =>
  bndV (kPick [x7, x18, (.bool false)]) fun x19 =>
  bndJ (tstv x19 (bndV (kNilc [x0]) fun x21 =>
  bndV (kFa 2 [x21]) fun x22 =>
  bndE (dSt h 1 [x22, (.int .i64 (.ofNat (nat_lit 5)))]) h fun _ h =>
  some ⟨0, [x0], h⟩)
  (some ⟨0, [x0], h⟩))
  fun j vs h => unc vs fun x0 vs =>
  bndV (kNilc [x0]) fun x24 =>
  bndV (kFa 2 [x24]) fun x25 =>
  bndV (qLd h none [x25]) fun x26 =>
  ret1 x26 h
noncomputable def f98 (vs : List V) (h : HT) : Option J := unc vs fun x0 vs =>
  bndV (kNilc [x0]) fun x4 =>
  bndV (kFa 2 [x4]) fun x5 =>
  bndV (qLd h none [x5]) fun x6 =>
  bndV (kBin .eql [x6, (.int .i64 (.ofNat (nat_lit 0)))]) fun x7 =>
  bndC (gsel x7 true (retV (kMov [x0]) h) h) fun x9 h =>
  bndC (gsel x7 true (retV (kNilc [x9]) h) h) fun x10 h =>
  bndC (gsel x7 true (retV (kFa 1 [x10]) h) h) fun x11 h =>
  bndC (gsel x7 true (retV (qLd h none [x11]) h) h) fun x12 h =>
  bndC (gsel x7 true (retV (kMov [x0]) h) h) fun x13 h =>
  bndC (gsel x7 true (retV (kNilc [x13]) h) h) fun x14 h =>
  bndC (gsel x7 true (retV (kFa 0 [x14]) h) h) fun x15 h =>
  bndC (gsel x7 true (retV (qLd h none [x15]) h) h) fun x16 h =>
  (f98_0 x0 x7 x12 x16 h)
def a98 : List Ann := [.join [(.normal, [0])]]
theorem e98 : f98 = evFun Tryz.prog 98 1 a98 t98 := by kernel_rfl
theorem o98 : FnOk Tryz.prog 98 f98 := .of hmO (show enters Tryz.prog 98 = true by kernel_rfl) e98 (.nil)

/- concord/word.Get -/
noncomputable def l164 : List (Nat × (List V → HT → Option J)) := []
noncomputable def t164 : Fns := tab l164
noncomputable def f164_0 (rc : List V → HT → Option J) (x8 : V) (vs : List V) (h : HT) : Option J := unc vs fun x38 vs =>
  unc vs fun x39 vs =>
  unc vs fun x40 vs =>
  bndV (kBin .lss [x40, x39]) fun x41 =>
  tstv x41 (bndV (kIaS 1 [x38, x40]) fun x43 =>
  bndV (qLd h none [x43]) fun x44 =>
  bndV (kCvI .u64 [x44]) fun x47 =>
  bndV (kBin .mul [(.int .i64 (.ofNat (nat_lit 8))), x40]) fun x49 =>
  bndV (kCvI .u64 [x49]) fun x50 =>
  bndV (kBin .shl [x47, x50]) fun x51 =>
  bndV (kBin .or [x8, x51]) fun x52 =>
  bndV (kBin .add [x40, (.int .i64 (.ofNat (nat_lit 1)))]) fun x53 =>
  rc [x52, x38, x39, x53] h)
  (some ⟨0, [x8], h⟩)
noncomputable def f164_1 (x0 : V) (x1 : V) (x2 : V) (x26 : V) (h : HT) : Option J := tstv x26 (ret1 (.tuple [(.int .u64 (.ofNat (nat_lit 0))), (.int .i64 (.ofNat (nat_lit 1)))]) h)
  (bndV (kLenS [x0]) fun x28 =>
  bndV (kBin .sub [x28, x1]) fun x30 =>
  bndV (kBin .lss [x30, x2]) fun x32 =>
  tstv x32 (ret1 (.tuple [(.int .u64 (.ofNat (nat_lit 0))), (.int .i64 (.ofNat (nat_lit 3)))]) h)
  (bndV (kBin .add [x1, x2]) fun x37 =>
  bndV (kSlS 1 true true [x0, x1, x37]) fun x38 =>
  bndV (kLenS [x38]) fun x39 =>
  bndJ (loopF (fun rc vs h => unc vs fun x8 vs =>
  (f164_0 rc x8 vs h)) 1000000 [(.int .u64 (.ofNat (nat_lit 0))), x38, x39, (.int .i64 (.ofNat (nat_lit 0)))] h)
  fun j vs h => unc vs fun x8 vs =>
  ret1 (.tuple [x8, (.int .i64 (.ofNat (nat_lit 0)))]) h))
noncomputable def f164_2 (x0 : V) (vs : List V) (h : HT) : Option J := unc vs fun x1 vs =>
  unc vs fun x2 vs =>
  bndV (kBin .lss [x2, (.int .i64 (.ofNat (nat_lit 1)))]) fun x12 =>
  bndC (gsel x12 false (retV (kMov [x2]) h) h) fun x14 h =>
  bndC (gsel x12 false (retV (kBin .gtr [x14, (.int .i64 (.ofNat (nat_lit 8)))]) h) h) fun x15 h =>
  bndV (kPick [x12, (.bool true), x15]) fun x16 =>
  bndC (gsel x16 false (retV (kMov [x1]) h) h) fun x18 h =>
  bndC (gsel x16 false (retV (kBin .lss [x18, (.int .i64 (.ofNat (nat_lit 0)))]) h) h) fun x19 h =>
  bndV (kPick [x16, (.bool true), x19]) fun x20 =>
  bndC (gsel x20 false (retV (kMov [x1]) h) h) fun x22 h =>
  bndC (gsel x20 false (retV (kMov [x0]) h) h) fun x23 h =>
  bndC (gsel x20 false (retV (kLenS [x23]) h) h) fun x24 h =>
  bndC (gsel x20 false (retV (kBin .gtr [x22, x24]) h) h) fun x25 h =>
  bndV (kPick [x20, (.bool true), x25]) fun x26 =>
  (f164_1 x0 x1 x2 x26 h)
noncomputable def f164 (vs : List V) (h : HT) : Option J := unc vs fun x0 vs =>
  (f164_2 x0 vs h)
def a164 : List Ann := [.no, .no, .no, .loop [8, 38, 39, 40] [((.exit 0), [8])], .no, .no]
theorem e164 : f164 = evFun Tryz.prog 164 3 a164 t164 := by kernel_rfl
theorem o164 : FnOk Tryz.prog 164 f164 := .of hmO (show enters Tryz.prog 164 = true by kernel_rfl) e164 (.nil)

/- concord/sum.On -/
noncomputable def l237 : List (Nat × (List V → HT → Option J)) := []
noncomputable def t237 : Fns := tab l237
noncomputable def f237_0 (rc : List V → HT → Option J) (x0 : V) (x10 : V) (x11 : V) (x12 : V) (x20 : V) (h : HT) : Option J := bndV (kBin .and [x0, (.int .u32 (.ofNat (nat_lit 1)))]) fun x23 =>
  bndV (kBin .shr [x0, (.int .u64 (.ofNat (nat_lit 1)))]) fun x25 =>
  bndV (kBin .eql [x23, (.int .u32 (.ofNat (nat_lit 1)))]) fun x27 =>
  bndJ (tstv x27 (bndV (kBin .xor [x25, (.int .u32 (.ofNat (nat_lit 3988292384)))]) fun x29 =>
  some ⟨0, [x29, x10, x11, x12, x20], h⟩)
  (some ⟨0, [x25, x10, x11, x12, x20], h⟩))
  fun j vs h => unc vs fun x0 vs =>
  unc vs fun x10 vs =>
  unc vs fun x11 vs =>
  unc vs fun x12 vs =>
  unc vs fun x20 vs =>
  bndV (kBin .add [x20, (.int .i64 (.ofNat (nat_lit 1)))]) fun x30 =>
  rc [x0, x10, x11, x12, x30] h
noncomputable def f237_1 (rc : List V → HT → Option J) (x10 : V) (x11 : V) (x12 : V) (x19 : V) (h : HT) : Option J := bndJ (loopF (fun rc vs h => unc vs fun x0 vs =>
  unc vs fun x10 vs =>
  unc vs fun x11 vs =>
  unc vs fun x12 vs =>
  unc vs fun x20 vs =>
  bndV (kBin .lss [x20, (.int .i64 (.ofNat (nat_lit 8)))]) fun x21 =>
  tstv x21 ((f237_0 rc x0 x10 x11 x12 x20 h))
  (some ⟨0, [x0, x10, x11, x12], h⟩)) 1000000 [x19, x10, x11, x12, (.int .i64 (.ofNat (nat_lit 0)))] h)
  fun j vs h => unc vs fun x0 vs =>
  unc vs fun x10 vs =>
  unc vs fun x11 vs =>
  unc vs fun x12 vs =>
  bndV (kBin .add [x12, (.int .i64 (.ofNat (nat_lit 1)))]) fun x31 =>
  rc [x0, x10, x11, x31] h
noncomputable def f237_2 (x1 : V) (x9 : V) (x11 : V) (h : HT) : Option J := bndJ (loopF (fun rc vs h => unc vs fun x0 vs =>
  unc vs fun x10 vs =>
  unc vs fun x11 vs =>
  unc vs fun x12 vs =>
  bndV (kBin .lss [x12, x11]) fun x13 =>
  tstv x13 (bndV (kIaS 1 [x10, x12]) fun x14 =>
  bndV (qLd h none [x14]) fun x15 =>
  bndV (kCvI .u32 [x15]) fun x18 =>
  bndV (kBin .xor [x0, x18]) fun x19 =>
  (f237_1 rc x10 x11 x12 x19 h))
  (some ⟨0, [x0], h⟩)) 1000000 [x9, x1, x11, (.int .i64 (.ofNat (nat_lit 0)))] h)
  fun j vs h => unc vs fun x0 vs =>
  bndV (kUn .xor [x0]) fun x33 =>
  ret1 x33 h
noncomputable def f237 (vs : List V) (h : HT) : Option J := unc vs fun x0 vs =>
  unc vs fun x1 vs =>
  bndV (kUn .xor [x0]) fun x9 =>
  bndV (kLenS [x1]) fun x11 =>
  (f237_2 x1 x9 x11 h)
def a237 : List Ann := [.no, .loop [0, 10, 11, 12] [((.exit 0), [0])], .no, .no, .no, .loop [0, 10, 11, 12, 20] [((.exit 2), [0, 10, 11, 12])], .no, .no, .join [(.normal, [0, 10, 11, 12, 20])]]
theorem e237 : f237 = evFun Tryz.prog 237 2 a237 t237 := by kernel_rfl
theorem o237 : FnOk Tryz.prog 237 f237 := .of hmO (show enters Tryz.prog 237 = true by kernel_rfl) e237 (.nil)

/- concord/sum.Of -/
noncomputable def l165 : List (Nat × (List V → HT → Option J)) := [(237, f237)]
noncomputable def t165 : Fns := tab l165

noncomputable def f165 (vs : List V) (h : HT) : Option J := unc vs fun x0 vs =>
  bndC (f237 [(.int .u32 (.ofNat (nat_lit 0))), x0] h) fun x4 h =>
  ret1 x4 h
def a165 : List Ann := []
theorem e165 : f165 = evFun Tryz.prog 165 1 a165 t165 := by kernel_rfl
theorem o165 : FnOk Tryz.prog 165 f165 := .of hmO (show enters Tryz.prog 165 = true by kernel_rfl) e165 (.cons o237 (.nil))

/- concord/frame.Next -/
noncomputable def l242 : List (Nat × (List V → HT → Option J)) := [(164, f164), (165, f165)]
noncomputable def t242 : Fns := tab l242
noncomputable def f242_0 (x1 : V) (x23 : V) (x32 : V) (x49 : V) (x50 : V) (h : HT) : Option J := bndV (kExt 1 [x49]) fun x51 =>
  bndV (kBin .add [(.int .i64 (.ofNat (nat_lit 2))), x32]) fun x55 =>
  bndV (kSlS 1 false true [x23, x55]) fun x56 =>
  bndC (f165 [x56] h) fun x57 h =>
  bndV (kCvI .u64 [x57]) fun x58 =>
  bndV (kBin .neq [x50, x58]) fun x59 =>
  tstv x59 (ret1 (.tuple [(.slice none 0 true 0), (.int .i64 (.ofNat (nat_lit 0))), (.int .i64 (.ofNat (nat_lit 6)))]) h)
  (bndV (kBin .add [(.int .i64 (.ofNat (nat_lit 2))), x32]) fun x62 =>
  bndV (kSlS 1 true true [x23, (.int .i64 (.ofNat (nat_lit 2))), x62]) fun x63 =>
  bndE (dApp h 1 1 [(.slice none 0 true 0), x63]) h fun x64 h =>
  bndV (kBin .add [x1, (.int .i64 (.ofNat (nat_lit 2)))]) fun x66 =>
  bndV (kBin .add [x66, x32]) fun x68 =>
  bndV (kBin .add [x68, (.int .i64 (.ofNat (nat_lit 4)))]) fun x69 =>
  ret1 (.tuple [x64, x69, (.int .i64 (.ofNat (nat_lit 0)))]) h)
noncomputable def f242_1 (x1 : V) (x23 : V) (x32 : V) (x34 : V) (h : HT) : Option J := bndC (gsel x34 false (retV (kMov [x32]) h) h) fun x36 h =>
  bndC (gsel x34 false (retV (kBin .gtr [x36, (.int .i64 (.ofNat (nat_lit 16384)))]) h) h) fun x37 h =>
  bndV (kPick [x34, (.bool true), x37]) fun x38 =>
  tstv x38 (ret1 (.tuple [(.slice none 0 true 0), (.int .i64 (.ofNat (nat_lit 0))), (.int .i64 (.ofNat (nat_lit 4)))]) h)
  (bndV (kLenS [x23]) fun x40 =>
  bndV (kBin .add [(.int .i64 (.ofNat (nat_lit 2))), x32]) fun x42 =>
  bndV (kBin .add [x42, (.int .i64 (.ofNat (nat_lit 4)))]) fun x43 =>
  bndV (kBin .lss [x40, x43]) fun x44 =>
  tstv x44 (ret1 (.tuple [(.slice none 0 true 0), (.int .i64 (.ofNat (nat_lit 0))), (.int .i64 (.ofNat (nat_lit 3)))]) h)
  (bndV (kBin .add [(.int .i64 (.ofNat (nat_lit 2))), x32]) fun x48 =>
  bndC (f164 [x23, x48, (.int .i64 (.ofNat (nat_lit 4)))] h) fun x49 h =>
  bndV (kExt 0 [x49]) fun x50 =>
  (f242_0 x1 x23 x32 x49 x50 h)))
noncomputable def f242_2 (x0 : V) (x1 : V) (x14 : V) (x16 : V) (x17 : V) (h : HT) : Option J := bndC (gsel x14 false (retV (kLenS [x17]) h) h) fun x18 h =>
  bndC (gsel x14 false (retV (kBin .gtr [x16, x18]) h) h) fun x19 h =>
  bndV (kPick [x14, (.bool true), x19]) fun x20 =>
  tstv x20 (ret1 (.tuple [(.slice none 0 true 0), (.int .i64 (.ofNat (nat_lit 0))), (.int .i64 (.ofNat (nat_lit 1)))]) h)
  (bndV (kSlS 1 true false [x0, x1]) fun x23 =>
  bndC (f164 [x23, (.int .i64 (.ofNat (nat_lit 0))), (.int .i64 (.ofNat (nat_lit 2)))] h) fun x26 h =>
  bndV (kExt 0 [x26]) fun x27 =>
  bndV (kExt 1 [x26]) fun x28 =>
  bndV (kBin .neq [x28, (.int .i64 (.ofNat (nat_lit 0)))]) fun x30 =>
  tstv x30 (ret1 (.tuple [(.slice none 0 true 0), (.int .i64 (.ofNat (nat_lit 0))), (.int .i64 (.ofNat (nat_lit 3)))]) h)
  (bndV (kCvI .i64 [x27]) fun x32 =>
  bndV (kBin .eql [x32, (.int .i64 (.ofNat (nat_lit 0)))]) fun x34 =>
  (f242_1 x1 x23 x32 x34 h)))
noncomputable def f242 (vs : List V) (h : HT) : Option J := unc vs fun x0 vs =>
  unc vs fun x1 vs =>
  bndV (kBin .lss [x1, (.int .i64 (.ofNat (nat_lit 0)))]) fun x14 =>
  bndC (gsel x14 false (retV (kMov [x1]) h) h) fun x16 h =>
  bndC (gsel x14 false (retV (kMov [x0]) h) h) fun x17 h =>
  (f242_2 x0 x1 x14 x16 x17 h)
def a242 : List Ann := [.no, .no, .no, .no, .no]
theorem e242 : f242 = evFun Tryz.prog 242 2 a242 t242 := by kernel_rfl
theorem o242 : FnOk Tryz.prog 242 f242 := .of hmO (show enters Tryz.prog 242 = true by kernel_rfl) e242 (.cons o164 (.cons o165 (.nil)))

/- concord/frame.Scan -/
noncomputable def l175 : List (Nat × (List V → HT → Option J)) := [(242, f242)]
noncomputable def t175 : Fns := tab l175
noncomputable def f175_0 (x0 : V) (h : HT) : Option J := bndJ (loopF (fun rc vs h => unc vs fun x0 vs =>
  unc vs fun x4 vs =>
  unc vs fun x5 vs =>
  bndC (f242 [x0, x5] h) fun x12 h =>
  bndV (kExt 0 [x12]) fun x13 =>
  bndV (kExt 1 [x12]) fun x14 =>
  bndV (kExt 2 [x12]) fun x15 =>
  bndV (kBin .neq [x15, (.int .i64 (.ofNat (nat_lit 0)))]) fun x17 =>
  tstv x17 (some ⟨0, [x4, x5], h⟩)
  (bndN (kBsl 1 1 [(.slice none 0 true 0)] [(0, 1)] [x13]) h fun x22 h =>
  bndE (dApp h 1 24 [x4, x22]) h fun x23 h =>
  rc [x0, x23, x14] h)) 1000000 [x0, (.slice none 0 true 0), (.int .i64 (.ofNat (nat_lit 0)))] h)
  fun j vs h => unc vs fun x2 vs =>
  unc vs fun x3 vs =>
  ret1 (.tuple [x2, x3]) h
noncomputable def f175 (vs : List V) (h : HT) : Option J := unc vs fun x0 vs =>
  (f175_0 x0 h)
def a175 : List Ann := [.no, .loop [0, 4, 5] [(.ret, [2, 3])], .no, .no]
theorem e175 : f175 = evFun Tryz.prog 175 1 a175 t175 := by kernel_rfl
theorem o175 : FnOk Tryz.prog 175 f175 := .of hmO (show enters Tryz.prog 175 = true by kernel_rfl) e175 (.cons o242 (.nil))

/- concord/wal.read -/
noncomputable def l92 : List (Nat × (List V → HT → Option J)) := [(87, f87), (93, f93), (96, f96), (97, f97), (98, f98), (175, f175)]
noncomputable def t92 : Fns := tab l92
noncomputable def f92_0 (rc : List V → HT → Option J) (x0 : V) (x1 : V) (x5 : V) (x6 : V) (x8 : V) (x9 : V) (x25 : V) (x32 : V) (x33 : V) (x35 : V) (x38 : V) (h : HT) : Option J := bndC (gsel x35 true (retV (kBin .eql [x38, (.int .i64 (.ofNat (nat_lit 0)))]) h) h) fun x39 h =>
  bndV (kPick [x35, x39, (.bool false)]) fun x40 =>
  tstv x40 (bndV (qLd h (some 2) [x5]) fun x41 =>
  bndE (dSt h 2 [x5, x41]) h fun _ h =>
  some ⟨1, [(.slice none 0 true 0), x5, x6, (.bool false)], h⟩)
  (bndE (dApp h 1 24 [x8, x32]) h fun x45 h =>
  bndV (kBld [(.int .i64 (.ofNat (nat_lit 0))), (.int .i64 (.ofNat (nat_lit 0)))] [(0, 1), (1, 1)] [x1, x9]) fun x48 =>
  bndE (dSt h 2 [x5, x48]) h fun _ h =>
  bndV (kLenS [x25]) fun x52 =>
  bndV (kBin .lss [x33, x52]) fun x53 =>
  tstv x53 (some ⟨0, [x5, x33, x45], h⟩)
  (bndV (kBin .add [x9, (.int .i64 (.ofNat (nat_lit 1)))]) fun x17 =>
  rc [x0, x1, x5, x33, x45, x17] h))
noncomputable def f92_1 (rc : List V → HT → Option J) (x0 : V) (x1 : V) (x5 : V) (x6 : V) (x8 : V) (x9 : V) (h : HT) : Option J := bndV (kBld [(.int .i64 (.ofNat (nat_lit 0))), (.int .i64 (.ofNat (nat_lit 0)))] [(0, 1), (1, 1)] [x1, x9]) fun x22 =>
  bndC (f93 [x22] h) fun x23 h =>
  bndC (f87 [x0, x23] h) fun x24 h =>
  bndV (kExt 0 [x24]) fun x25 =>
  bndV (kExt 1 [x24]) fun x26 =>
  bndV (kUn .not [x26]) fun x28 =>
  tstv x28 (some ⟨0, [x5, x6, x8], h⟩)
  (bndC (f175 [x25] h) fun x31 h =>
  bndV (kExt 0 [x31]) fun x32 =>
  bndV (kExt 1 [x31]) fun x33 =>
  bndV (kBin .eql [x9, (.int .i64 (.ofNat (nat_lit 1)))]) fun x35 =>
  bndC (gsel x35 true (retV (kMov [x32]) h) h) fun x37 h =>
  bndC (gsel x35 true (retV (kLenS [x37]) h) h) fun x38 h =>
  (f92_0 rc x0 x1 x5 x6 x8 x9 x25 x32 x33 x35 x38 h))
noncomputable def f92_2 (x5 : V) (x6 : V) (x8 : V) (x71 : V) (x73 : V) (h : HT) : Option J := bndC (gsel x71 false (retV (kMov [x8]) h) h) fun x74 h =>
  bndC (gsel x71 false (retV (kLenS [x74]) h) h) fun x75 h =>
  bndC (gsel x71 false (retV (kBin .sub [x75, (.int .i64 (.ofNat (nat_lit 1)))]) h) h) fun x76 h =>
  bndC (gsel x71 false (retV (kBin .gtr [x73, x76]) h) h) fun x77 h =>
  bndV (kPick [x71, (.bool true), x77]) fun x78 =>
  tstv x78 (bndV (qLd h (some 2) [x5]) fun x79 =>
  bndE (dSt h 2 [x5, x79]) h fun _ h =>
  bndV (qLd h (some 2) [x5]) fun x900000 =>
  ret1 (.tuple [(.slice none 0 true 0), x900000, x6, (.bool false)]) h)
  (bndV (kSlS 1 true false [x8, (.int .i64 (.ofNat (nat_lit 1)))]) fun x82 =>
  bndV (qLd h (some 2) [x5]) fun x83 =>
  bndE (dSt h 2 [x5, x83]) h fun _ h =>
  bndV (qLd h (some 2) [x5]) fun x900000 =>
  ret1 (.tuple [x82, x900000, x6, (.bool true)]) h)
noncomputable def f92_3 (x5 : V) (x6 : V) (x8 : V) (x56 : V) (h : HT) : Option J := tstv x56 (bndV (qLd h (some 2) [x5]) fun x57 =>
  bndE (dSt h 2 [x5, x57]) h fun _ h =>
  bndV (qLd h (some 2) [x5]) fun x900000 =>
  ret1 (.tuple [(.slice none 0 true 0), x900000, x6, (.bool false)]) h)
  (bndV (kIaS 1 [x8, (.int .i64 (.ofNat (nat_lit 0)))]) fun x60 =>
  bndV (qLd h none [x60]) fun x61 =>
  bndC (f96 [x61] h) fun x62 h =>
  bndC (f97 [x62] h) fun x64 h =>
  bndC (f98 [x62] h) fun x66 h =>
  bndV (kBin .neq [x66, (.int .i64 (.ofNat (nat_lit 0)))]) fun x67 =>
  bndC (gsel x67 false (retV (kMov [x64]) h) h) fun x69 h =>
  bndC (gsel x67 false (retV (kBin .lss [x69, (.int .i64 (.ofNat (nat_lit 0)))]) h) h) fun x70 h =>
  bndV (kPick [x67, (.bool true), x70]) fun x71 =>
  bndC (gsel x71 false (retV (kMov [x64]) h) h) fun x73 h =>
  (f92_2 x5 x6 x8 x71 x73 h))
noncomputable def f92_4 (x0 : V) (x1 : V) (x5 : V) (h : HT) : Option J := bndJ (loopF (fun rc vs h => unc vs fun x0 vs =>
  unc vs fun x1 vs =>
  unc vs fun x5 vs =>
  unc vs fun x6 vs =>
  unc vs fun x8 vs =>
  unc vs fun x9 vs =>
  (f92_1 rc x0 x1 x5 x6 x8 x9 h)) 1000000 [x0, x1, x5, (.int .i64 (.ofNat (nat_lit 0))), (.slice none 0 true 0), (.int .i64 (.ofNat (nat_lit 1)))] h)
  fun j vs h => nsw j (unc vs fun x5 vs =>
  unc vs fun x6 vs =>
  unc vs fun x8 vs =>
  bndV (kLenS [x8]) fun x55 =>
  bndV (kBin .eql [x55, (.int .i64 (.ofNat (nat_lit 0)))]) fun x56 =>
  (f92_3 x5 x6 x8 x56 h))
  fun j => unc vs fun x4 vs =>
  unc vs fun x5 vs =>
  unc vs fun x6 vs =>
  unc vs fun x7 vs =>
  bndV (qLd h (some 2) [x5]) fun x900000 =>
  ret1 (.tuple [x4, x900000, x6, x7]) h
noncomputable def f92 (vs : List V) (h : HT) : Option J := unc vs fun x0 vs =>
  unc vs fun x1 vs =>
  bndN (kAlloc [(.int .i64 (.ofNat (nat_lit 0))), (.int .i64 (.ofNat (nat_lit 0)))] []) h fun x5 h =>
  (f92_4 x0 x1 x5 h)
def a92 : List Ann := [.no, .loop [0, 1, 5, 6, 8, 9] [((.exit 0), [5, 6, 8]), (.ret, [4, 5, 6, 7])], .no, .no, .no, .no, .no, .no]
theorem e92 : f92 = evFun Tryz.prog 92 2 a92 t92 := by kernel_rfl
theorem o92 : FnOk Tryz.prog 92 f92 := .of hmO (show enters Tryz.prog 92 = true by kernel_rfl) e92 (.cons o87 (.cons o93 (.cons o96 (.cons o97 (.cons o98 (.cons o175 (.nil)))))))

/- (*concord/disk.Disk).Names -/
noncomputable def l173 : List (Nat × (List V → HT → Option J)) := []
noncomputable def t173 : Fns := tab l173
noncomputable def f173_0 (rc : List V → HT → Option J) (x3 : V) (x9 : V) (vs : List V) (h : HT) : Option J := unc vs fun x10 vs =>
  unc vs fun x11 vs =>
  bndV (kBin .lss [x11, x10]) fun x12 =>
  tstv x12 (bndV (kIaS 3 [x9, x11]) fun x13 =>
  bndV (qLd h (some 3) [x13]) fun x14 =>
  bndN (kAlloc [(.str (sb [])), (.slice none 0 true 0), (.int .i64 (.ofNat (nat_lit 0)))] []) h fun x5 h =>
  bndE (dSt h 3 [x5, x14]) h fun _ h =>
  bndV (kFa 0 [x5]) fun x16 =>
  bndV (qLd h none [x16]) fun x17 =>
  bndN (kBsl 1 1 [(.str (sb []))] [(0, 1)] [x17]) h fun x18 h =>
  bndE (dApp h 1 16 [x3, x18]) h fun x19 h =>
  bndV (kBin .add [x11, (.int .i64 (.ofNat (nat_lit 1)))]) fun x20 =>
  rc [x19, x9, x10, x20] h)
  (some ⟨0, [x3], h⟩)
noncomputable def f173 (vs : List V) (h : HT) : Option J := unc vs fun x0 vs =>
  bndV (kNilc [x0]) fun x7 =>
  bndV (kFa 1 [x7]) fun x8 =>
  bndV (qLd h none [x8]) fun x9 =>
  bndV (kLenS [x9]) fun x10 =>
  bndJ (loopF (fun rc vs h => unc vs fun x3 vs =>
  unc vs fun x9 vs =>
  (f173_0 rc x3 x9 vs h)) 1000000 [(.slice none 0 true 0), x9, x10, (.int .i64 (.ofNat (nat_lit 0)))] h)
  fun j vs h => unc vs fun x3 vs =>
  ret1 x3 h
def a173 : List Ann := [.no, .loop [3, 9, 10, 11] [((.exit 0), [3])], .no, .no]
theorem e173 : f173 = evFun Tryz.prog 173 1 a173 t173 := by kernel_rfl
theorem o173 : FnOk Tryz.prog 173 f173 := .of hmO (show enters Tryz.prog 173 = true by kernel_rfl) e173 (.nil)

/- internal/stringslite.Index -/
noncomputable def l295 : List (Nat × (List V → HT → Option J)) := [(291, cIndexByte')]
noncomputable def t295 : Fns := tab l295
noncomputable def f295_0 (x0 : V) (x1 : V) (x15 : V) (x18 : V) (x20 : V) (h : HT) : Option J := bndC (gsel x18 false (retV (kMov [x0]) h) h) fun x21 h =>
  bndC (gsel x18 false (retV (kBin .eql [x20, x21]) h) h) fun x22 h =>
  bndV (kPick [x18, (.bool true), x22]) fun x23 =>
  tstv x23 (ret1 (.int .i64 (.ofNat (nat_lit 0))) h)
  (bndV (kBin .eql [x15, (.int .i64 (.ofNat (nat_lit 1)))]) fun x26 =>
  tstv x26 (bndV (kIxStr [x1, (.int .i64 (.ofNat (nat_lit 0)))]) fun x29 =>
  bndC (cIndexByte' [x0, x29] h) fun x30 h =>
  ret1 x30 h)
  (bndV (kLenT [x0]) fun x34 =>
  bndV (kBin .geq [x15, x34]) fun x35 =>
  tstv x35 (ret1 (.int .i64 (.negSucc (nat_lit 0))) h)
  (none)))
noncomputable def f295 (vs : List V) (h : HT) : Option J := unc vs fun x0 vs =>
  unc vs fun x1 vs =>
  bndV (kLenT [x1]) fun x15 =>
  bndV (kBin .eql [x15, (.int .i64 (.ofNat (nat_lit 0)))]) fun x18 =>
  bndC (gsel x18 false (retV (kMov [x1]) h) h) fun x20 h =>
  (f295_0 x0 x1 x15 x18 x20 h)
def a295 : List Ann := [.no, .no, .no, .no, .no, .no, .loop [0, 1, 5, 6, 7, 8, 9, 10] [((.exit 1), []), (.ret, [4])], .no, .no, .join [(.ret, [4]), (.normal, [0, 1, 5, 6, 7, 8, 9, 10])], .no, .no, .no, .no, .no, .no]
theorem e295 : f295 = evFun Tryz.prog 295 2 a295 t295 := by kernel_rfl
theorem o295 : FnOk Tryz.prog 295 f295 := .of hmO (show enters Tryz.prog 295 = true by kernel_rfl) e295 (.cons o291 (.nil))

/- internal/stringslite.Cut -/
noncomputable def l235 : List (Nat × (List V → HT → Option J)) := [(295, f295)]
noncomputable def t235 : Fns := tab l235

noncomputable def f235 (vs : List V) (h : HT) : Option J := unc vs fun x0 vs =>
  unc vs fun x1 vs =>
  bndC (f295 [x0, x1] h) fun x10 h =>
  bndV (kBin .geq [x10, (.int .i64 (.ofNat (nat_lit 0)))]) fun x12 =>
  tstv x12 (bndV (kSlStr false true [x0, x10]) fun x15 =>
  bndV (kLenT [x1]) fun x19 =>
  bndV (kBin .add [x10, x19]) fun x20 =>
  bndV (kSlStr true false [x0, x20]) fun x21 =>
  ret1 (.tuple [x15, x21, (.bool true)]) h)
  (ret1 (.tuple [x0, (.str (sb [])), (.bool false)]) h)
def a235 : List Ann := [.no]
theorem e235 : f235 = evFun Tryz.prog 235 2 a235 t235 := by kernel_rfl
theorem o235 : FnOk Tryz.prog 235 f235 := .of hmO (show enters Tryz.prog 235 = true by kernel_rfl) e235 (.cons o295 (.nil))

/- strings.Cut -/
noncomputable def l161 : List (Nat × (List V → HT → Option J)) := [(235, f235)]
noncomputable def t161 : Fns := tab l161

noncomputable def f161 (vs : List V) (h : HT) : Option J := unc vs fun x0 vs =>
  unc vs fun x1 vs =>
  bndC (f235 [x0, x1] h) fun x9 h =>
  bndV (kExt 0 [x9]) fun x10 =>
  bndV (kExt 1 [x9]) fun x11 =>
  bndV (kExt 2 [x9]) fun x12 =>
  ret1 (.tuple [x10, x11, x12]) h
def a161 : List Ann := []
theorem e161 : f161 = evFun Tryz.prog 161 2 a161 t161 := by kernel_rfl
theorem o161 : FnOk Tryz.prog 161 f161 := .of hmO (show enters Tryz.prog 161 = true by kernel_rfl) e161 (.cons o235 (.nil))

/- internal/strconv.Atoi -/
noncomputable def l289 : List (Nat × (List V → HT → Option J)) := []
noncomputable def t289 : Fns := tab l289
noncomputable def f289_0 (rc : List V → HT → Option J) (x5 : V) (x6 : V) (x47 : V) (x48 : V) (x49 : V) (h : HT) : Option J := bndV (kBin .lss [x49, x48]) fun x50 =>
  tstv x50 (bndV (kIaS 1 [x47, x49]) fun x51 =>
  bndV (qLd h none [x51]) fun x52 =>
  bndV (kBin .sub [x52, (.int .u8 (.ofNat (nat_lit 48)))]) fun x54 =>
  bndV (kBin .gtr [x54, (.int .u8 (.ofNat (nat_lit 9)))]) fun x56 =>
  tstv x56 (bndV (kMkI 437 [(.int .i64 (.ofNat (nat_lit 2)))]) fun x57 =>
  some ⟨1, [(.int .i64 (.ofNat (nat_lit 0))), x57], h⟩)
  (bndV (kBin .mul [x6, (.int .i64 (.ofNat (nat_lit 10)))]) fun x59 =>
  bndV (kCvI .i64 [x54]) fun x61 =>
  bndV (kBin .add [x59, x61]) fun x62 =>
  bndV (kBin .add [x49, (.int .i64 (.ofNat (nat_lit 1)))]) fun x63 =>
  rc [x5, x62, x47, x48, x63] h))
  (some ⟨0, [x5, x6], h⟩)
noncomputable def f289_1 (j : Nat) (vs : List V) (h : HT) : Option J := nsw j (unc vs fun x5 vs =>
  unc vs fun x6 vs =>
  bndV (kIxStr [x5, (.int .i64 (.ofNat (nat_lit 0)))]) fun x65 =>
  bndV (kBin .eql [x65, (.int .u8 (.ofNat (nat_lit 45)))]) fun x66 =>
  bndJ (tstv x66 (bndV (kUn .neg [x6]) fun x68 =>
  some ⟨0, [x68], h⟩)
  (some ⟨0, [x6], h⟩))
  fun j vs h => unc vs fun x6 vs =>
  ret1 (.tuple [x6, .nilIface]) h)
  fun j => unc vs fun x2 vs =>
  unc vs fun x3 vs =>
  ret1 (.tuple [x2, x3]) h
noncomputable def f289_2 (j : Nat) (vs : List V) (h : HT) : Option J := nsw j (unc vs fun x2 vs =>
  unc vs fun x3 vs =>
  ret1 (.tuple [x2, x3]) h)
  fun j => unc vs fun x0 vs =>
  unc vs fun x5 vs =>
  bndN (kS2b [x0]) h fun x47 h =>
  bndV (kLenS [x47]) fun x48 =>
  bndJ (loopF (fun rc vs h => unc vs fun x5 vs =>
  unc vs fun x6 vs =>
  unc vs fun x47 vs =>
  unc vs fun x48 vs =>
  unc vs fun x49 vs =>
  (f289_0 rc x5 x6 x47 x48 x49 h)) 1000000 [x5, (.int .i64 (.ofNat (nat_lit 0))), x47, x48, (.int .i64 (.ofNat (nat_lit 0)))] h)
  fun j vs h => (f289_1 j vs h)
noncomputable def f289_3 (x0 : V) (x34 : V) (h : HT) : Option J := bndC (gsel x34 false (retV (kMov [x0]) h) h) fun x36 h =>
  bndC (gsel x34 false (retV (kIxStr [x36, (.int .i64 (.ofNat (nat_lit 0)))]) h) h) fun x37 h =>
  bndC (gsel x34 false (retV (kBin .eql [x37, (.int .u8 (.ofNat (nat_lit 43)))]) h) h) fun x38 h =>
  bndV (kPick [x34, (.bool true), x38]) fun x39 =>
  bndJ (tstv x39 (bndV (kSlStr true false [x0, (.int .i64 (.ofNat (nat_lit 1)))]) fun x41 =>
  bndV (kLenT [x41]) fun x43 =>
  bndV (kBin .lss [x43, (.int .i64 (.ofNat (nat_lit 1)))]) fun x44 =>
  tstv x44 (bndV (kMkI 437 [(.int .i64 (.ofNat (nat_lit 2)))]) fun x45 =>
  some ⟨0, [(.int .i64 (.ofNat (nat_lit 0))), x45], h⟩)
  (some ⟨1, [x41, x0], h⟩))
  (some ⟨1, [x0, x0], h⟩))
  fun j vs h => (f289_2 j vs h)
noncomputable def f289_4 (x0 : V) (x12 : V) (x20 : V) (x22 : V) (x23 : V) (h : HT) : Option J := bndC (gsel x22 true (retV (kBin .lss [(.int .i64 (.ofNat (nat_lit 0))), x23]) h) h) fun x24 h =>
  bndC (gsel x22 true (retV (kMov [x24]) h) h) fun x25 h =>
  bndC (gsel x25 true (retV (kMov [x12]) h) h) fun x26 h =>
  bndC (gsel x25 true (retV (kBin .lss [x26, (.int .i64 (.ofNat (nat_lit 19)))]) h) h) fun x27 h =>
  bndC (gsel x22 true (retV (kPick [x25, x27, (.bool false)]) h) h) fun x28 h =>
  bndC (gsel x20 false (retV (kPick [x22, x28, (.bool false)]) h) h) fun x29 h =>
  bndV (kPick [x20, (.bool true), x29]) fun x30 =>
  tstv x30 (bndV (kIxStr [x0, (.int .i64 (.ofNat (nat_lit 0)))]) fun x33 =>
  bndV (kBin .eql [x33, (.int .u8 (.ofNat (nat_lit 45)))]) fun x34 =>
  (f289_3 x0 x34 h))
  (bndC (noF [x0, (.int .i64 (.ofNat (nat_lit 10))), (.int .i64 (.ofNat (nat_lit 0)))] h) fun x72 h =>
  bndV (kExt 0 [x72]) fun x73 =>
  bndV (kExt 1 [x72]) fun x74 =>
  ret1 (.tuple [x73, x74]) h)
noncomputable def f289 (vs : List V) (h : HT) : Option J := unc vs fun x0 vs =>
  bndV (kLenT [x0]) fun x12 =>
  bndC (gsel (.bool false) true (retV (kMov [x12]) h) h) fun x14 h =>
  bndC (gsel (.bool false) true (retV (kBin .lss [(.int .i64 (.ofNat (nat_lit 0))), x14]) h) h) fun x15 h =>
  bndC (gsel (.bool false) true (retV (kMov [x15]) h) h) fun x16 h =>
  bndC (gsel x16 true (retV (kMov [x12]) h) h) fun x17 h =>
  bndC (gsel x16 true (retV (kBin .lss [x17, (.int .i64 (.ofNat (nat_lit 10)))]) h) h) fun x18 h =>
  bndC (gsel (.bool false) true (retV (kPick [x16, x18, (.bool false)]) h) h) fun x19 h =>
  bndV (kPick [(.bool false), x19, (.bool false)]) fun x20 =>
  bndC (gsel x20 false (retV (kMov [(.bool true)]) h) h) fun x22 h =>
  bndC (gsel x22 true (retV (kMov [x12]) h) h) fun x23 h =>
  (f289_4 x0 x12 x20 x22 x23 h)
def a289 : List Ann := [.no, .join [(.ret, [2, 3]), (.normal, [0, 5])], .no, .no, .loop [5, 6, 47, 48, 49] [((.exit 0), [5, 6]), (.ret, [2, 3])], .no, .no, .no, .join [(.normal, [6])]]
theorem e289 : f289 = evFun Tryz.prog 289 1 a289 t289 := by kernel_rfl
theorem o289 : FnOk Tryz.prog 289 f289 := .of hmO (show enters Tryz.prog 289 = true by kernel_rfl) e289 (.nil)

/- strconv.Atoi -/
noncomputable def l230 : List (Nat × (List V → HT → Option J)) := [(289, f289)]
noncomputable def t230 : Fns := tab l230

noncomputable def f230 (vs : List V) (h : HT) : Option J := unc vs fun x0 vs =>
  bndC (f289 [x0] h) fun x8 h =>
  bndV (kExt 0 [x8]) fun x9 =>
  bndV (kExt 1 [x8]) fun x10 =>
  bndV (kEqN true [x10, .nilIface]) fun x12 =>
  tstv x12 (bndC (noF [(.str (sb [65, 116, 111, 105])), x0, (.int .i64 (.ofNat (nat_lit 0))), (.int .i64 (.ofNat (nat_lit 0))), x10] h) fun x16 h =>
  ret1 (.tuple [x9, x16]) h)
  (ret1 (.tuple [x9, .nilIface]) h)
def a230 : List Ann := [.no]
theorem e230 : f230 = evFun Tryz.prog 230 1 a230 t230 := by kernel_rfl
theorem o230 : FnOk Tryz.prog 230 f230 := .of hmO (show enters Tryz.prog 230 = true by kernel_rfl) e230 (.cons o289 (.nil))

/- internal/stringslite.HasPrefix -/
noncomputable def l341 : List (Nat × (List V → HT → Option J)) := []
noncomputable def t341 : Fns := tab l341

noncomputable def f341 (vs : List V) (h : HT) : Option J := unc vs fun x0 vs =>
  unc vs fun x1 vs =>
  bndV (kLenT [x0]) fun x6 =>
  bndV (kLenT [x1]) fun x8 =>
  bndV (kBin .geq [x6, x8]) fun x9 =>
  bndC (gsel x9 true (retV (kMov [x0]) h) h) fun x11 h =>
  bndC (gsel x9 true (retV (kMov [x1]) h) h) fun x12 h =>
  bndC (gsel x9 true (retV (kLenT [x12]) h) h) fun x13 h =>
  bndC (gsel x9 true (retV (kSlStr false true [x11, x13]) h) h) fun x14 h =>
  bndC (gsel x9 true (retV (kMov [x1]) h) h) fun x15 h =>
  bndC (gsel x9 true (retV (kBin .eql [x14, x15]) h) h) fun x16 h =>
  bndV (kPick [x9, x16, (.bool false)]) fun x17 =>
  ret1 x17 h
def a341 : List Ann := []
theorem e341 : f341 = evFun Tryz.prog 341 2 a341 t341 := by kernel_rfl
theorem o341 : FnOk Tryz.prog 341 f341 := .of hmO (show enters Tryz.prog 341 = true by kernel_rfl) e341 (.nil)

/- internal/stringslite.TrimPrefix -/
noncomputable def l297 : List (Nat × (List V → HT → Option J)) := [(341, f341)]
noncomputable def t297 : Fns := tab l297

noncomputable def f297 (vs : List V) (h : HT) : Option J := unc vs fun x0 vs =>
  unc vs fun x1 vs =>
  bndC (f341 [x0, x1] h) fun x7 h =>
  tstv x7 (bndV (kLenT [x1]) fun x10 =>
  bndV (kSlStr true false [x0, x10]) fun x11 =>
  ret1 x11 h)
  (ret1 x0 h)
def a297 : List Ann := [.no]
theorem e297 : f297 = evFun Tryz.prog 297 2 a297 t297 := by kernel_rfl
theorem o297 : FnOk Tryz.prog 297 f297 := .of hmO (show enters Tryz.prog 297 = true by kernel_rfl) e297 (.cons o341 (.nil))

/- strings.TrimPrefix -/
noncomputable def l241 : List (Nat × (List V → HT → Option J)) := [(297, f297)]
noncomputable def t241 : Fns := tab l241

noncomputable def f241 (vs : List V) (h : HT) : Option J := unc vs fun x0 vs =>
  unc vs fun x1 vs =>
  bndC (f297 [x0, x1] h) fun x7 h =>
  ret1 x7 h
def a241 : List Ann := []
theorem e241 : f241 = evFun Tryz.prog 241 2 a241 t241 := by kernel_rfl
theorem o241 : FnOk Tryz.prog 241 f241 := .of hmO (show enters Tryz.prog 241 = true by kernel_rfl) e241 (.cons o297 (.nil))

/- concord/wal.placed -/
noncomputable def l174 : List (Nat × (List V → HT → Option J)) := [(93, f93), (161, f161), (230, f230), (241, f241)]
noncomputable def t174 : Fns := tab l174
noncomputable def f174_0 (x0 : V) (x2 : V) (x11 : V) (x27 : V) (x32 : V) (x41 : V) (h : HT) : Option J := bndC (gsel x41 true (retV (kMov [x27]) h) h) fun x43 h =>
  bndC (gsel x41 true (retV (kBin .gtr [x43, (.int .i64 (.ofNat (nat_lit 0)))]) h) h) fun x44 h =>
  bndV (kPick [x41, x44, (.bool false)]) fun x45 =>
  bndC (gsel x45 true (retV (kMov [x27]) h) h) fun x47 h =>
  bndC (gsel x45 true (retV (kBin .leq [x47, (.int .i64 (.ofNat (nat_lit 999999999)))]) h) h) fun x48 h =>
  bndV (kPick [x45, x48, (.bool false)]) fun x49 =>
  bndC (gsel x49 true (retV (qLd h (some 2) [x11]) h) h) fun x51 h =>
  bndC (gsel x49 true (retV (kMov [x0]) h) h) fun x53 h =>
  bndC (gsel x49 true (f93 [x51] h) h) fun x52 h =>
  chk1 (sameE (qLd h (some 2) [x11]) x32) (bndC (gsel x49 true (retV (kBin .eql [x52, x53]) h) h) fun x54 h =>
  bndV (kPick [x49, x54, (.bool false)]) fun x55 =>
  bndE (dSt h 2 [x2, x32]) h fun _ h =>
  bndV (qLd h (some 2) [x2]) fun x900000 =>
  ret1 (.tuple [x900000, x55]) h)
noncomputable def f174_1 (x0 : V) (x2 : V) (x17 : V) (x18 : V) (x21 : V) (x22 : V) (h : HT) : Option J := bndV (kExt 1 [x21]) fun x23 =>
  bndC (f230 [x17] h) fun x26 h =>
  bndV (kExt 0 [x26]) fun x27 =>
  bndV (kExt 1 [x26]) fun x28 =>
  bndV (kBld [(.int .i64 (.ofNat (nat_lit 0))), (.int .i64 (.ofNat (nat_lit 0)))] [(0, 1), (1, 1)] [x22, x27]) fun x31 =>
  bndN (kAlloc [(.int .i64 (.ofNat (nat_lit 0))), (.int .i64 (.ofNat (nat_lit 0)))] []) h fun x11 h =>
  bndE (dSt h 2 [x11, x31]) h fun _ h =>
  bndV (qLd h (some 2) [x11]) fun x32 =>
  bndC (gsel x18 true (retV (kMov [x22]) h) h) fun x35 h =>
  bndC (gsel x18 true (retV (kBin .gtr [x35, (.int .i64 (.ofNat (nat_lit 0)))]) h) h) fun x36 h =>
  bndV (kPick [x18, x36, (.bool false)]) fun x37 =>
  bndC (gsel x37 true (retV (kMov [x22]) h) h) fun x39 h =>
  bndC (gsel x37 true (retV (kBin .leq [x39, (.int .i64 (.ofNat (nat_lit 999999999)))]) h) h) fun x40 h =>
  bndV (kPick [x37, x40, (.bool false)]) fun x41 =>
  (f174_0 x0 x2 x11 x27 x32 x41 h)
noncomputable def f174 (vs : List V) (h : HT) : Option J := unc vs fun x0 vs =>
  bndN (kAlloc [(.int .i64 (.ofNat (nat_lit 0))), (.int .i64 (.ofNat (nat_lit 0)))] []) h fun x2 h =>
  bndC (f241 [x0, (.str (sb [108, 111, 103, 46]))] h) fun x14 h =>
  bndC (f161 [x14, (.str (sb [46]))] h) fun x15 h =>
  bndV (kExt 0 [x15]) fun x16 =>
  bndV (kExt 1 [x15]) fun x17 =>
  bndV (kExt 2 [x15]) fun x18 =>
  bndC (f230 [x16] h) fun x21 h =>
  bndV (kExt 0 [x21]) fun x22 =>
  (f174_1 x0 x2 x17 x18 x21 x22 h)
def a174 : List Ann := []
theorem e174 : f174 = evFun Tryz.prog 174 1 a174 t174 := by kernel_rfl
theorem o174 : FnOk Tryz.prog 174 f174 := .of hmO (show enters Tryz.prog 174 = true by kernel_rfl) e174 (.cons o93 (.cons o161 (.cons o230 (.cons o241 (.nil)))))

/- concord/wal.greatest -/
noncomputable def l90 : List (Nat × (List V → HT → Option J)) := [(92, f92), (173, f173), (174, f174)]
noncomputable def t90 : Fns := tab l90
noncomputable def f90_0 (x0 : V) (x3 : V) (x6 : V) (x13 : V) (x14 : V) (x15 : V) (x36 : V) (x38 : V) (h : HT) : Option J := bndV (kExt 3 [x36]) fun x40 =>
  bndN (kAlloc [(.int .i64 (.ofNat (nat_lit 0))), (.int .i64 (.ofNat (nat_lit 0)))] []) h fun x9 h =>
  bndE (dSt h 2 [x9, x38]) h fun _ h =>
  bndJ (tstv x40 (bndV (kFa 0 [x6]) fun x42 =>
  bndV (qLd h none [x42]) fun x43 =>
  some ⟨0, [x0, x43, x13, x14, x15], h⟩)
  (some ⟨0, [x0, x3, x13, x14, x15], h⟩))
  fun j vs h => unc vs fun x0 vs =>
  unc vs fun x3 vs =>
  unc vs fun x13 vs =>
  unc vs fun x14 vs =>
  unc vs fun x15 vs =>
  some ⟨0, [x0, x3, x13, x14, x15], h⟩
noncomputable def f90_1 (x0 : V) (x3 : V) (x6 : V) (x13 : V) (x14 : V) (x15 : V) (x23 : V) (h : HT) : Option J := bndV (kUn .not [x23]) fun x25 =>
  bndC (gsel x25 false (retV (kFa 0 [x6]) h) h) fun x27 h =>
  bndC (gsel x25 false (retV (qLd h none [x27]) h) h) fun x28 h =>
  bndC (gsel x25 false (retV (kMov [x3]) h) h) fun x29 h =>
  bndC (gsel x25 false (retV (kBin .leq [x28, x29]) h) h) fun x30 h =>
  bndV (kPick [x25, (.bool true), x30]) fun x31 =>
  tstv x31 (some ⟨0, [x0, x3, x13, x14, x15], h⟩)
  (bndV (kFa 0 [x6]) fun x34 =>
  bndV (qLd h none [x34]) fun x35 =>
  bndC (f92 [x0, x35] h) fun x36 h =>
  bndV (kExt 0 [x36]) fun x37 =>
  bndV (kExt 1 [x36]) fun x38 =>
  bndV (kExt 2 [x36]) fun x39 =>
  (f90_0 x0 x3 x6 x13 x14 x15 x36 x38 h))
noncomputable def f90_2 (rc : List V → HT → Option J) (x0 : V) (x3 : V) (x13 : V) (x14 : V) (x15 : V) (h : HT) : Option J := bndJ (bndV (kIaS 1 [x13, x15]) fun x17 =>
  bndV (qLd h none [x17]) fun x18 =>
  bndC (f174 [x18] h) fun x21 h =>
  bndV (kExt 0 [x21]) fun x22 =>
  bndV (kExt 1 [x21]) fun x23 =>
  bndN (kAlloc [(.int .i64 (.ofNat (nat_lit 0))), (.int .i64 (.ofNat (nat_lit 0)))] []) h fun x6 h =>
  bndE (dSt h 2 [x6, x22]) h fun _ h =>
  (f90_1 x0 x3 x6 x13 x14 x15 x23 h))
  fun j vs h => unc vs fun x0 vs =>
  unc vs fun x3 vs =>
  unc vs fun x13 vs =>
  unc vs fun x14 vs =>
  unc vs fun x15 vs =>
  bndV (kBin .add [x15, (.int .i64 (.ofNat (nat_lit 1)))]) fun x44 =>
  rc [x0, x3, x13, x14, x44] h
noncomputable def f90_3 (x0 : V) (h : HT) : Option J := bndC (f173 [x0] h) fun x13 h =>
  bndV (kLenS [x13]) fun x14 =>
  bndJ (loopF (fun rc vs h => unc vs fun x0 vs =>
  unc vs fun x3 vs =>
  unc vs fun x13 vs =>
  unc vs fun x14 vs =>
  unc vs fun x15 vs =>
  bndV (kBin .lss [x15, x14]) fun x16 =>
  tstv x16 ((f90_2 rc x0 x3 x13 x14 x15 h))
  (some ⟨0, [x3], h⟩)) 1000000 [x0, (.int .i64 (.ofNat (nat_lit 0))), x13, x14, (.int .i64 (.ofNat (nat_lit 0)))] h)
  fun j vs h => unc vs fun x3 vs =>
  ret1 x3 h
noncomputable def f90 (vs : List V) (h : HT) : Option J := unc vs fun x0 vs =>
  (f90_3 x0 h)
def a90 : List Ann := [.no, .loop [0, 3, 13, 14, 15] [((.exit 0), [3])], .no, .join [(.normal, [0, 3, 13, 14, 15])], .no, .join [(.normal, [0, 3, 13, 14, 15])]]
theorem e90 : f90 = evFun Tryz.prog 90 1 a90 t90 := by kernel_rfl
theorem o90 : FnOk Tryz.prog 90 f90 := .of hmO (show enters Tryz.prog 90 = true by kernel_rfl) e90 (.cons o92 (.cons o173 (.cons o174 (.nil))))

/- concord/wal.clean -/
noncomputable def l91 : List (Nat × (List V → HT → Option J)) := [(173, f173), (174, f174)]
noncomputable def t91 : Fns := tab l91
noncomputable def f91_0 (x0 : V) (x3 : V) (x7 : V) (x11 : V) (x12 : V) (x13 : V) (x16 : V) (x23 : V) (x29 : V) (h : HT) : Option J := bndC (gsel x23 false (retV (kMov [x29]) h) h) fun x30 h =>
  bndC (gsel x30 true (retV (kFa 1 [x7]) h) h) fun x31 h =>
  bndC (gsel x30 true (retV (qLd h none [x31]) h) h) fun x32 h =>
  bndC (gsel x30 true (retV (kFa 1 [x3]) h) h) fun x33 h =>
  bndC (gsel x30 true (retV (qLd h none [x33]) h) h) fun x34 h =>
  bndC (gsel x30 true (retV (kBin .leq [x32, x34]) h) h) fun x35 h =>
  bndC (gsel x23 false (retV (kPick [x30, x35, (.bool false)]) h) h) fun x36 h =>
  bndV (kPick [x23, (.bool true), x36]) fun x37 =>
  tstv x37 (some ⟨0, [x0, x3, x11, x12, x13], h⟩)
  (bndC (noF [x0, x16] h) fun x40 h =>
  bndV (kBin .neq [x40, (.int .i64 (.ofNat (nat_lit 0)))]) fun x42 =>
  tstv x42 (some ⟨1, [x40], h⟩)
  (some ⟨0, [x0, x3, x11, x12, x13], h⟩))
noncomputable def f91_1 (rc : List V → HT → Option J) (x0 : V) (x3 : V) (x11 : V) (x12 : V) (x13 : V) (h : HT) : Option J := bndJ (bndV (kIaS 1 [x11, x13]) fun x15 =>
  bndV (qLd h none [x15]) fun x16 =>
  bndC (f174 [x16] h) fun x19 h =>
  bndV (kExt 0 [x19]) fun x20 =>
  bndV (kExt 1 [x19]) fun x21 =>
  bndN (kAlloc [(.int .i64 (.ofNat (nat_lit 0))), (.int .i64 (.ofNat (nat_lit 0)))] []) h fun x7 h =>
  bndE (dSt h 2 [x7, x20]) h fun _ h =>
  bndV (kUn .not [x21]) fun x23 =>
  bndC (gsel x23 false (retV (kFa 0 [x7]) h) h) fun x25 h =>
  bndC (gsel x23 false (retV (qLd h none [x25]) h) h) fun x26 h =>
  bndC (gsel x23 false (retV (kFa 0 [x3]) h) h) fun x27 h =>
  bndC (gsel x23 false (retV (qLd h none [x27]) h) h) fun x28 h =>
  bndC (gsel x23 false (retV (kBin .eql [x26, x28]) h) h) fun x29 h =>
  (f91_0 x0 x3 x7 x11 x12 x13 x16 x23 x29 h))
  fun j vs h => nsw j (unc vs fun x0 vs =>
  unc vs fun x3 vs =>
  unc vs fun x11 vs =>
  unc vs fun x12 vs =>
  unc vs fun x13 vs =>
  bndV (kBin .add [x13, (.int .i64 (.ofNat (nat_lit 1)))]) fun x44 =>
  rc [x0, x3, x11, x12, x44] h)
  fun j => unc vs fun x4 vs =>
  some ⟨1, [x4], h⟩
noncomputable def f91_2 (x0 : V) (x3 : V) (x11 : V) (x12 : V) (h : HT) : Option J := bndJ (loopF (fun rc vs h => unc vs fun x0 vs =>
  unc vs fun x3 vs =>
  unc vs fun x11 vs =>
  unc vs fun x12 vs =>
  unc vs fun x13 vs =>
  bndV (kBin .lss [x13, x12]) fun x14 =>
  tstv x14 ((f91_1 rc x0 x3 x11 x12 x13 h))
  (some ⟨0, [], h⟩)) 1000000 [x0, x3, x11, x12, (.int .i64 (.ofNat (nat_lit 0)))] h)
  fun j vs h => nsw j (ret1 (.int .i64 (.ofNat (nat_lit 0))) h)
  fun j => unc vs fun x4 vs =>
  ret1 x4 h
noncomputable def f91 (vs : List V) (h : HT) : Option J := unc vs fun x0 vs =>
  unc vs fun x1 vs =>
  bndN (kBox [x1]) h fun x3 h =>
  bndC (f173 [x0] h) fun x11 h =>
  bndV (kLenS [x11]) fun x12 =>
  (f91_2 x0 x3 x11 x12 h)
def a91 : List Ann := [.no, .loop [0, 3, 11, 12, 13] [((.exit 0), []), (.ret, [4])], .no, .join [(.normal, [0, 3, 11, 12, 13]), (.ret, [4])], .no, .no]
theorem e91 : f91 = evFun Tryz.prog 91 2 a91 t91 := by kernel_rfl
theorem o91 : FnOk Tryz.prog 91 f91 := .of hmO (show enters Tryz.prog 91 = true by kernel_rfl) e91 (.cons o173 (.cons o174 (.nil)))

/- (*concord/disk.Disk).known -/
noncomputable def l170 : List (Nat × (List V → HT → Option J)) := [(163, f163)]
noncomputable def t170 : Fns := tab l170

noncomputable def f170 (vs : List V) (h : HT) : Option J := unc vs fun x0 vs =>
  unc vs fun x1 vs =>
  bndV (kNilc [x0]) fun x9 =>
  bndV (kFa 2 [x9]) fun x10 =>
  bndV (qLd h none [x10]) fun x11 =>
  tstv x11 (ret1 (.tuple [(.int .i64 (.ofNat (nat_lit 0))), (.int .i64 (.ofNat (nat_lit 10)))]) h)
  (bndC (f163 [x0, x1] h) fun x15 h =>
  bndV (kExt 0 [x15]) fun x16 =>
  bndV (kExt 1 [x15]) fun x17 =>
  bndV (kUn .not [x17]) fun x19 =>
  tstv x19 (ret1 (.tuple [(.int .i64 (.ofNat (nat_lit 0))), (.int .i64 (.ofNat (nat_lit 8)))]) h)
  (ret1 (.tuple [x16, (.int .i64 (.ofNat (nat_lit 0)))]) h))
def a170 : List Ann := [.no, .no]
theorem e170 : f170 = evFun Tryz.prog 170 2 a170 t170 := by kernel_rfl
theorem o170 : FnOk Tryz.prog 170 f170 := .of hmO (show enters Tryz.prog 170 = true by kernel_rfl) e170 (.cons o163 (.nil))

/- (*concord/disk.Disk).power -/
noncomputable def l171 : List (Nat × (List V → HT → Option J)) := []
noncomputable def t171 : Fns := tab l171
noncomputable def f171_0 (x0 : V) (x13 : V) (h : HT) : Option J := tstv x13 (bndV (kNilc [x0]) fun x15 =>
  bndV (kFa 2 [x15]) fun x16 =>
  bndE (dSt h 1 [x16, (.bool true)]) h fun _ h =>
  ret1 (.int .i64 (.ofNat (nat_lit 10))) h)
  (bndV (kNilc [x0]) fun x18 =>
  bndV (kFa 3 [x18]) fun x19 =>
  bndV (qLd h none [x19]) fun x20 =>
  tstv x20 (bndV (kNilc [x0]) fun x22 =>
  bndV (kFa 4 [x22]) fun x23 =>
  bndV (qLd h none [x23]) fun x24 =>
  bndV (kBin .sub [x24, (.int .i64 (.ofNat (nat_lit 1)))]) fun x25 =>
  bndV (kNilc [x0]) fun x26 =>
  bndV (kFa 4 [x26]) fun x27 =>
  bndE (dSt h 1 [x27, x25]) h fun _ h =>
  ret1 (.int .i64 (.ofNat (nat_lit 0))) h)
  (ret1 (.int .i64 (.ofNat (nat_lit 0))) h))
noncomputable def f171 (vs : List V) (h : HT) : Option J := unc vs fun x0 vs =>
  bndV (kNilc [x0]) fun x4 =>
  bndV (kFa 3 [x4]) fun x5 =>
  bndV (qLd h none [x5]) fun x6 =>
  bndC (gsel x6 true (retV (kMov [x0]) h) h) fun x8 h =>
  bndC (gsel x6 true (retV (kNilc [x8]) h) h) fun x9 h =>
  bndC (gsel x6 true (retV (kFa 4 [x9]) h) h) fun x10 h =>
  bndC (gsel x6 true (retV (qLd h none [x10]) h) h) fun x11 h =>
  bndC (gsel x6 true (retV (kBin .eql [x11, (.int .i64 (.ofNat (nat_lit 0)))]) h) h) fun x12 h =>
  bndV (kPick [x6, x12, (.bool false)]) fun x13 =>
  (f171_0 x0 x13 h)
def a171 : List Ann := [.no, .no]
theorem e171 : f171 = evFun Tryz.prog 171 1 a171 t171 := by kernel_rfl
theorem o171 : FnOk Tryz.prog 171 f171 := .of hmO (show enters Tryz.prog 171 = true by kernel_rfl) e171 (.nil)

/- (*concord/disk.Disk).Sync -/
noncomputable def l95 : List (Nat × (List V → HT → Option J)) := [(170, f170), (171, f171)]
noncomputable def t95 : Fns := tab l95
noncomputable def f95_0 (x0 : V) (x5 : V) (x6 : V) (x18 : V) (h : HT) : Option J := tstv x18 (bndV (kNilc [x0]) fun x20 =>
  bndV (kFa 1 [x20]) fun x21 =>
  bndV (qLd h none [x21]) fun x22 =>
  bndV (kNilc [x0]) fun x25 =>
  bndV (kFa 1 [x25]) fun x26 =>
  bndV (qLd h none [x26]) fun x27 =>
  bndV (kIaS 3 [x27, x5]) fun x29 =>
  bndV (kFa 1 [x29]) fun x30 =>
  bndV (qLd h none [x30]) fun x31 =>
  bndV (kLenS [x31]) fun x32 =>
  bndV (kIaS 3 [x22, x5]) fun x33 =>
  bndV (kFa 2 [x33]) fun x34 =>
  bndE (dSt h 1 [x34, x32]) h fun _ h =>
  some ⟨0, [x6], h⟩)
  (some ⟨0, [x6], h⟩)
noncomputable def f95_1 (x0 : V) (x10 : V) (x11 : V) (h : HT) : Option J := bndV (kExt 1 [x10]) fun x12 =>
  bndV (kBin .eql [x12, (.int .i64 (.ofNat (nat_lit 0)))]) fun x14 =>
  bndJ (tstv x14 (bndC (f171 [x0] h) fun x16 h =>
  some ⟨0, [x0, x11, x16], h⟩)
  (some ⟨0, [x0, x11, x12], h⟩))
  fun j vs h => unc vs fun x0 vs =>
  unc vs fun x5 vs =>
  unc vs fun x6 vs =>
  bndV (kBin .eql [x6, (.int .i64 (.ofNat (nat_lit 0)))]) fun x18 =>
  bndJ ((f95_0 x0 x5 x6 x18 h))
  fun j vs h => unc vs fun x6 vs =>
  ret1 x6 h
noncomputable def f95 (vs : List V) (h : HT) : Option J := unc vs fun x0 vs =>
  unc vs fun x1 vs =>
  bndC (f170 [x0, x1] h) fun x10 h =>
  bndV (kExt 0 [x10]) fun x11 =>
  (f95_1 x0 x10 x11 h)
def a95 : List Ann := [.join [(.normal, [0, 5, 6])], .join [(.normal, [6])]]
theorem e95 : f95 = evFun Tryz.prog 95 2 a95 t95 := by kernel_rfl
theorem o95 : FnOk Tryz.prog 95 f95 := .of hmO (show enters Tryz.prog 95 = true by kernel_rfl) e95 (.cons o170 (.cons o171 (.nil)))

/- concord/wal.Open -/
noncomputable def l32 : List (Nat × (List V → HT → Option J)) := [(87, f87), (90, f90), (91, f91), (92, f92), (93, f93), (95, f95)]
noncomputable def t32 : Fns := tab l32
noncomputable def f32_0 (x0 : V) (x7 : V) (x8 : V) (h : HT) : Option J := bndV (qLd h (some 2) [x8]) fun x59 =>
  bndC (f91 [x0, x59] h) fun x60 h =>
  bndV (kBin .neq [x60, (.int .i64 (.ofNat (nat_lit 0)))]) fun x62 =>
  tstv x62 (ret1 (.tuple [(.ptr none), (.slice none 0 true 0), x60]) h)
  (bndV (qLd h (some 2) [x8]) fun x65 =>
  bndC (f93 [x65] h) fun x66 h =>
  bndC (f95 [x0, x66] h) fun x67 h =>
  bndV (kBin .neq [x67, (.int .i64 (.ofNat (nat_lit 0)))]) fun x69 =>
  tstv x69 (ret1 (.tuple [(.ptr none), (.slice none 0 true 0), x67]) h)
  (bndV (qLd h (some 2) [x8]) fun x72 =>
  bndV (kBld [(.ptr none), (.int .i64 (.ofNat (nat_lit 0))), (.int .i64 (.ofNat (nat_lit 0))), (.bool false)] [(0, 1), (1, 2)] [x0, x72]) fun x73 =>
  bndN (kBox [x73]) h fun x74 h =>
  ret1 (.tuple [x74, x7, (.int .i64 (.ofNat (nat_lit 0)))]) h))
noncomputable def f32_1 (x0 : V) (x8 : V) (x35 : V) (x37 : V) (x49 : V) (h : HT) : Option J := bndJ (tstv x49 (bndV (qLd h (some 2) [x8]) fun x51 =>
  bndC (f93 [x51] h) fun x52 h =>
  bndC (noF [x0, x52, x37] h) fun x54 h =>
  bndV (kBin .neq [x54, (.int .i64 (.ofNat (nat_lit 0)))]) fun x56 =>
  tstv x56 (some ⟨0, [(.ptr none), (.slice none 0 true 0), x54], h⟩)
  (some ⟨1, [x0, x35, x8], h⟩))
  (some ⟨1, [x0, x35, x8], h⟩))
  fun j vs h => nsw j (unc vs fun x2 vs =>
  unc vs fun x3 vs =>
  unc vs fun x4 vs =>
  ret1 (.tuple [x2, x3, x4]) h)
  fun j => unc vs fun x0 vs =>
  unc vs fun x7 vs =>
  unc vs fun x8 vs =>
  (f32_0 x0 x7 x8 h)
noncomputable def f32_2 (x0 : V) (x19 : V) (h : HT) : Option J := bndC (f92 [x0, x19] h) fun x34 h =>
  bndV (kExt 0 [x34]) fun x35 =>
  bndV (kExt 1 [x34]) fun x36 =>
  bndV (kExt 2 [x34]) fun x37 =>
  bndV (kExt 3 [x34]) fun x38 =>
  bndN (kAlloc [(.int .i64 (.ofNat (nat_lit 0))), (.int .i64 (.ofNat (nat_lit 0)))] []) h fun x8 h =>
  bndE (dSt h 2 [x8, x36]) h fun _ h =>
  bndV (qLd h (some 2) [x8]) fun x41 =>
  bndC (f93 [x41] h) fun x42 h =>
  bndC (f87 [x0, x42] h) fun x43 h =>
  bndV (kExt 0 [x43]) fun x44 =>
  bndV (kExt 1 [x43]) fun x45 =>
  bndV (kLenS [x44]) fun x47 =>
  bndV (kBin .gtr [x47, x37]) fun x49 =>
  (f32_1 x0 x8 x35 x37 x49 h)
noncomputable def f32_3 (x0 : V) (h : HT) : Option J := bndV (kEqN false [x0, (.ptr none)]) fun x17 =>
  tstv x17 (ret1 (.tuple [(.ptr none), (.slice none 0 true 0), (.int .i64 (.ofNat (nat_lit 1)))]) h)
  (bndC (f90 [x0] h) fun x19 h =>
  bndV (kBin .eql [x19, (.int .i64 (.ofNat (nat_lit 0)))]) fun x21 =>
  tstv x21 (bndV (kBld [(.int .i64 (.ofNat (nat_lit 0))), (.int .i64 (.ofNat (nat_lit 0)))] [] []) fun x23 =>
  bndC (f91 [x0, x23] h) fun x24 h =>
  bndV (kBin .neq [x24, (.int .i64 (.ofNat (nat_lit 0)))]) fun x26 =>
  tstv x26 (ret1 (.tuple [(.ptr none), (.slice none 0 true 0), x24]) h)
  (bndV (kBld [(.ptr none), (.int .i64 (.ofNat (nat_lit 0))), (.int .i64 (.ofNat (nat_lit 0))), (.bool false)] [(0, 1)] [x0]) fun x29 =>
  bndN (kBox [x29]) h fun x30 h =>
  ret1 (.tuple [x30, (.slice none 0 true 0), (.int .i64 (.ofNat (nat_lit 0)))]) h))
  ((f32_2 x0 x19 h)))
noncomputable def f32 (vs : List V) (h : HT) : Option J := unc vs fun x0 vs =>
  (f32_3 x0 h)
def a32 : List Ann := [.no, .no, .no, .join [(.ret, [2, 3, 4]), (.normal, [0, 7, 8])], .no, .no, .no]
theorem e32 : f32 = evFun Tryz.prog 32 1 a32 t32 := by kernel_rfl
theorem o32 : FnOk Tryz.prog 32 f32 := .of hmO (show enters Tryz.prog 32 = true by kernel_rfl) e32 (.cons o87 (.cons o90 (.cons o91 (.cons o92 (.cons o93 (.cons o95 (.nil)))))))

/- concord/deps.Right -/
noncomputable def l99 : List (Nat × (List V → HT → Option J)) := []
noncomputable def t99 : Fns := tab l99
noncomputable def f99_0 (rc : List V → HT → Option J) (vs : List V) (h : HT) : Option J := unc vs fun x1 vs =>
  unc vs fun x6 vs =>
  unc vs fun x7 vs =>
  bndV (kBin .lss [x7, (.int .i64 (.ofNat (nat_lit 7)))]) fun x8 =>
  tstv x8 (bndV (kIxA 7 1 false [x6, x7]) fun x9 =>
  bndV (kBin .lss [x9, (.int .i64 (.ofNat (nat_lit 0)))]) fun x11 =>
  bndC (gsel x11 false (retV (kMov [x9]) h) h) fun x13 h =>
  bndC (gsel x11 false (retV (kBin .gtr [x13, (.int .i64 (.ofNat (nat_lit 1073741824)))]) h) h) fun x14 h =>
  bndV (kPick [x11, (.bool true), x14]) fun x15 =>
  tstv x15 (some ⟨1, [(.bool false)], h⟩)
  (bndV (kBin .add [x7, (.int .i64 (.ofNat (nat_lit 1)))]) fun x16 =>
  rc [x1, x6, x16] h))
  (some ⟨0, [x1], h⟩)
noncomputable def f99_1 (x1 : V) (x6 : V) (h : HT) : Option J := bndJ (loopF (fun rc vs h => (f99_0 rc vs h)) 1000000 [x1, x6, (.int .i64 (.ofNat (nat_lit 0)))] h)
  fun j vs h => nsw j (unc vs fun x1 vs =>
  bndV (kFa 0 [x1]) fun x17 =>
  bndV (qLd h none [x17]) fun x18 =>
  bndV (kBin .geq [x18, (.int .i64 (.ofNat (nat_lit 0)))]) fun x19 =>
  bndC (gsel x19 true (retV (kFa 0 [x1]) h) h) fun x21 h =>
  bndC (gsel x19 true (retV (qLd h none [x21]) h) h) fun x22 h =>
  bndC (gsel x19 true (retV (kBin .leq [x22, (.int .i64 (.ofNat (nat_lit 1099511627776)))]) h) h) fun x23 h =>
  bndV (kPick [x19, x23, (.bool false)]) fun x24 =>
  ret1 x24 h)
  fun j => unc vs fun x2 vs =>
  ret1 x2 h
noncomputable def f99 (vs : List V) (h : HT) : Option J := unc vs fun x0 vs =>
  bndN (kBox [x0]) h fun x1 h =>
  bndV (kFa 1 [x1]) fun x5 =>
  bndV (qLd h (some 7) [x5]) fun x6 =>
  (f99_1 x1 x6 h)
def a99 : List Ann := [.no, .loop [1, 6, 7] [((.exit 0), [1]), (.ret, [2])], .no, .no, .no]
theorem e99 : f99 = evFun Tryz.prog 99 1 a99 t99 := by kernel_rfl
theorem o99 : FnOk Tryz.prog 99 f99 := .of hmO (show enters Tryz.prog 99 = true by kernel_rfl) e99 (.nil)

/- concord/node.getCut -/
noncomputable def l33 : List (Nat × (List V → HT → Option J)) := [(96, f96), (97, f97), (98, f98), (99, f99)]
noncomputable def t33 : Fns := tab l33
noncomputable def f33_0 (vs : List V) (h : HT) : Option J := unc vs fun x2 vs =>
  unc vs fun x4 vs =>
  unc vs fun x5 vs =>
  bndV (qLd h (some 7) [x4]) fun x28 =>
  bndC (f98 [x5] h) fun x30 h =>
  chk1 (sameE (qLd h (some 7) [x4]) x28) (bndV (kBin .eql [x30, (.int .i64 (.ofNat (nat_lit 0)))]) fun x31 =>
  bndC (gsel x31 true (retV (qLd h (some 7) [x4]) h) h) fun x33 h =>
  bndC (gsel x31 true (retV (kBld [(.int .i64 (.ofNat (nat_lit 0))), (.int .i64 (.ofNat (nat_lit 0))), (.int .i64 (.ofNat (nat_lit 0))), (.int .i64 (.ofNat (nat_lit 0))), (.int .i64 (.ofNat (nat_lit 0))), (.int .i64 (.ofNat (nat_lit 0))), (.int .i64 (.ofNat (nat_lit 0))), (.int .i64 (.ofNat (nat_lit 0)))] [(1, 7)] [x33]) h) h) fun x34 h =>
  bndC (gsel x31 true (f99 [x34] h) h) fun x35 h =>
  chk1 (sameE (qLd h (some 7) [x4]) x28) (bndV (kPick [x31, x35, (.bool false)]) fun x36 =>
  bndE (dSt h 7 [x2, x28]) h fun _ h =>
  bndV (qLd h (some 7) [x2]) fun x900000 =>
  ret1 (.tuple [x900000, x36]) h))
noncomputable def f33_1 (x2 : V) (x4 : V) (x19 : V) (h : HT) : Option J := bndJ (loopF (fun rc vs h => unc vs fun x2 vs =>
  unc vs fun x4 vs =>
  unc vs fun x5 vs =>
  unc vs fun x20 vs =>
  bndV (kBin .lss [x20, (.int .i64 (.ofNat (nat_lit 7)))]) fun x21 =>
  tstv x21 (bndC (f97 [x5] h) fun x25 h =>
  bndV (kIaA 7 1 [x4, x20]) fun x26 =>
  bndE (dSt h 1 [x26, x25]) h fun _ h =>
  bndV (kBin .add [x20, (.int .i64 (.ofNat (nat_lit 1)))]) fun x27 =>
  rc [x2, x4, x5, x27] h)
  (some ⟨0, [x2, x4, x5], h⟩)) 1000000 [x2, x4, x19, (.int .i64 (.ofNat (nat_lit 0)))] h)
  fun j vs h => (f33_0 vs h)
noncomputable def f33_2 (x0 : V) (x2 : V) (x4 : V) (h : HT) : Option J := bndV (kLenS [x0]) fun x8 =>
  bndV (kBin .eql [x8, (.int .i64 (.ofNat (nat_lit 0)))]) fun x9 =>
  bndC (gsel x9 false (retV (kMov [x0]) h) h) fun x11 h =>
  bndC (gsel x9 false (retV (kIaS 1 [x11, (.int .i64 (.ofNat (nat_lit 0)))]) h) h) fun x12 h =>
  bndC (gsel x9 false (retV (qLd h none [x12]) h) h) fun x13 h =>
  bndC (gsel x9 false (retV (kBin .neq [x13, (.int .u8 (.ofNat (nat_lit 1)))]) h) h) fun x14 h =>
  bndV (kPick [x9, (.bool true), x14]) fun x15 =>
  tstv x15 (bndV (qLd h (some 7) [x4]) fun x16 =>
  bndE (dSt h 7 [x2, x16]) h fun _ h =>
  bndV (qLd h (some 7) [x2]) fun x900000 =>
  ret1 (.tuple [x900000, (.bool false)]) h)
  (bndV (kSlS 1 true false [x0, (.int .i64 (.ofNat (nat_lit 1)))]) fun x18 =>
  bndC (f96 [x18] h) fun x19 h =>
  (f33_1 x2 x4 x19 h))
noncomputable def f33 (vs : List V) (h : HT) : Option J := unc vs fun x0 vs =>
  bndN (kAlloc [(.int .i64 (.ofNat (nat_lit 0))), (.int .i64 (.ofNat (nat_lit 0))), (.int .i64 (.ofNat (nat_lit 0))), (.int .i64 (.ofNat (nat_lit 0))), (.int .i64 (.ofNat (nat_lit 0))), (.int .i64 (.ofNat (nat_lit 0))), (.int .i64 (.ofNat (nat_lit 0)))] []) h fun x2 h =>
  bndN (kAlloc [(.int .i64 (.ofNat (nat_lit 0))), (.int .i64 (.ofNat (nat_lit 0))), (.int .i64 (.ofNat (nat_lit 0))), (.int .i64 (.ofNat (nat_lit 0))), (.int .i64 (.ofNat (nat_lit 0))), (.int .i64 (.ofNat (nat_lit 0))), (.int .i64 (.ofNat (nat_lit 0)))] []) h fun x4 h =>
  (f33_2 x0 x2 x4 h)
def a33 : List Ann := [.no, .no, .loop [2, 4, 5, 20] [((.exit 0), [2, 4, 5])], .no, .no]
theorem e33 : f33 = evFun Tryz.prog 33 1 a33 t33 := by kernel_rfl
theorem o33 : FnOk Tryz.prog 33 f33 := .of hmO (show enters Tryz.prog 33 = true by kernel_rfl) e33 (.cons o96 (.cons o97 (.cons o98 (.cons o99 (.nil)))))

/- (*concord/log.Log).Trim -/
noncomputable def l179 : List (Nat × (List V → HT → Option J)) := []
noncomputable def t179 : Fns := tab l179
noncomputable def f179_0 (rc : List V → HT → Option J) (x0 : V) (x7 : V) (x8 : V) (x9 : V) (h : HT) : Option J := tstv x9 (bndV (kIxA 7 1 false [x7, x8]) fun x11 =>
  bndV (kNilc [x0]) fun x16 =>
  bndV (kFa 1 [x16]) fun x17 =>
  bndV (kIaA 7 1 [x17, x8]) fun x18 =>
  bndV (qLd h none [x18]) fun x19 =>
  bndV (kMaxI [x11, (.int .i64 (.ofNat (nat_lit 0)))]) fun x21 =>
  bndV (kMinI [x21, (.int .i64 (.ofNat (nat_lit 1073741824)))]) fun x22 =>
  bndV (kMaxI [x19, x22]) fun x23 =>
  bndV (kNilc [x0]) fun x24 =>
  bndV (kFa 1 [x24]) fun x25 =>
  bndV (kIaA 7 1 [x25, x8]) fun x26 =>
  bndE (dSt h 1 [x26, x23]) h fun _ h =>
  bndV (kBin .add [x8, (.int .i64 (.ofNat (nat_lit 1)))]) fun x27 =>
  rc [x0, x7, x27] h)
  (some ⟨0, [x0], h⟩)
noncomputable def f179_1 (rc : List V → HT → Option J) (x0 : V) (x32 : V) (x34 : V) (h : HT) : Option J := tstv x34 (bndV (kEnt h.heap [x32]) fun x35 =>
  bndV (kExt 0 [x35]) fun x36 =>
  bndN (kAlloc [(.int .i64 (.ofNat (nat_lit 0))), (.int .i64 (.ofNat (nat_lit 0)))] []) h fun x6 h =>
  bndE (dSt h 2 [x6, x36]) h fun _ h =>
  bndV (qLd h (some 2) [x6]) fun x38 =>
  bndC (noF [x0, x38] h) fun x39 h =>
  tstv x39 (bndV (kNilc [x0]) fun x41 =>
  bndV (kFa 0 [x41]) fun x42 =>
  bndV (qLd h none [x42]) fun x43 =>
  bndV (qLd h (some 2) [x6]) fun x44 =>
  bndE (dDel h true [.i, .i] [x43, x44]) h fun _ h =>
  rc [x0, x32] h)
  (rc [x0, x32] h))
  (some ⟨0, [], h⟩)
noncomputable def f179_2 (x0 : V) (x7 : V) (h : HT) : Option J := bndJ (loopF (fun rc vs h => unc vs fun x0 vs =>
  unc vs fun x7 vs =>
  unc vs fun x8 vs =>
  bndV (kBin .lss [x8, (.int .i64 (.ofNat (nat_lit 7)))]) fun x9 =>
  (f179_0 rc x0 x7 x8 x9 h)) 1000000 [x0, x7, (.int .i64 (.ofNat (nat_lit 0)))] h)
  fun j vs h => unc vs fun x0 vs =>
  bndV (kNilc [x0]) fun x29 =>
  bndV (kFa 0 [x29]) fun x30 =>
  bndV (qLd h none [x30]) fun x31 =>
  bndN (kRng h.heap [x31]) h fun x32 h =>
  bndJ (loopF (fun rc vs h => unc vs fun x0 vs =>
  unc vs fun x32 vs =>
  bndE (dNx h [x32]) h fun x33 h =>
  bndV (kExt 0 [x33]) fun x34 =>
  (f179_1 rc x0 x32 x34 h)) 1000000 [x0, x32] h)
  fun j vs h => ret1 (.tuple []) h
noncomputable def f179 (vs : List V) (h : HT) : Option J := unc vs fun x0 vs =>
  unc vs fun x1 vs =>
  bndN (kBox [x1]) h fun x3 h =>
  bndV (qLd h (some 7) [x3]) fun x7 =>
  (f179_2 x0 x7 h)
def a179 : List Ann := [.no, .loop [0, 7, 8] [((.exit 0), [0])], .no, .no, .no, .loop [0, 32] [((.exit 2), [])], .no, .no, .no]
theorem e179 : f179 = evFun Tryz.prog 179 2 a179 t179 := by kernel_rfl
theorem o179 : FnOk Tryz.prog 179 f179 := .of hmO (show enters Tryz.prog 179 = true by kernel_rfl) e179 (.nil)

/- concord/log.New -/
noncomputable def l100 : List (Nat × (List V → HT → Option J)) := [(179, f179)]
noncomputable def t100 : Fns := tab l100

noncomputable def f100 (vs : List V) (h : HT) : Option J := unc vs fun x0 vs =>
  bndN (kBox [x0]) h fun x1 h =>
  bndN (kMkM []) h fun x4 h =>
  bndV (kBld [(.map none), (.int .i64 (.ofNat (nat_lit 0))), (.int .i64 (.ofNat (nat_lit 0))), (.int .i64 (.ofNat (nat_lit 0))), (.int .i64 (.ofNat (nat_lit 0))), (.int .i64 (.ofNat (nat_lit 0))), (.int .i64 (.ofNat (nat_lit 0))), (.int .i64 (.ofNat (nat_lit 0)))] [(0, 1)] [x4]) fun x5 =>
  bndN (kBox [x5]) h fun x6 h =>
  bndV (qLd h (some 7) [x1]) fun x8 =>
  bndC (f179 [x6, x8] h) fun x9 h =>
  ret1 x6 h
def a100 : List Ann := []
theorem e100 : f100 = evFun Tryz.prog 100 1 a100 t100 := by kernel_rfl
theorem o100 : FnOk Tryz.prog 100 f100 := .of hmO (show enters Tryz.prog 100 = true by kernel_rfl) e100 (.cons o179 (.nil))

/- concord/interf.New -/
noncomputable def l101 : List (Nat × (List V → HT → Option J)) := []
noncomputable def t101 : Fns := tab l101

noncomputable def f101 (vs : List V) (h : HT) : Option J := bndN (kMkM []) h fun x1 h =>
  bndV (kBld [(.map none), (.int .i64 (.ofNat (nat_lit 0))), (.int .i64 (.ofNat (nat_lit 0))), (.int .i64 (.ofNat (nat_lit 0))), (.int .i64 (.ofNat (nat_lit 0))), (.int .i64 (.ofNat (nat_lit 0))), (.int .i64 (.ofNat (nat_lit 0))), (.int .i64 (.ofNat (nat_lit 0)))] [(0, 1)] [x1]) fun x2 =>
  bndN (kBox [x2]) h fun x3 h =>
  ret1 x3 h
def a101 : List Ann := []
theorem e101 : f101 = evFun Tryz.prog 101 0 a101 t101 := by kernel_rfl
theorem o101 : FnOk Tryz.prog 101 f101 := .of hmO (show enters Tryz.prog 101 = true by kernel_rfl) e101 (.nil)

/- (*concord/interf.Index).Prune -/
noncomputable def l102 : List (Nat × (List V → HT → Option J)) := []
noncomputable def t102 : Fns := tab l102
noncomputable def f102_0 (rc : List V → HT → Option J) (x0 : V) (x7 : V) (x8 : V) (x9 : V) (h : HT) : Option J := tstv x9 (bndV (kIxA 7 1 false [x7, x8]) fun x11 =>
  bndV (kNilc [x0]) fun x16 =>
  bndV (kFa 1 [x16]) fun x17 =>
  bndV (kIaA 7 1 [x17, x8]) fun x18 =>
  bndV (qLd h none [x18]) fun x19 =>
  bndV (kMaxI [x11, (.int .i64 (.ofNat (nat_lit 0)))]) fun x21 =>
  bndV (kMinI [x21, (.int .i64 (.ofNat (nat_lit 1073741824)))]) fun x22 =>
  bndV (kMaxI [x19, x22]) fun x23 =>
  bndV (kNilc [x0]) fun x24 =>
  bndV (kFa 1 [x24]) fun x25 =>
  bndV (kIaA 7 1 [x25, x8]) fun x26 =>
  bndE (dSt h 1 [x26, x23]) h fun _ h =>
  bndV (kBin .add [x8, (.int .i64 (.ofNat (nat_lit 1)))]) fun x27 =>
  rc [x0, x7, x27] h)
  (some ⟨0, [x0], h⟩)
noncomputable def f102_1 (rc : List V → HT → Option J) (x0 : V) (x6 : V) (x32 : V) (x38 : V) (h : HT) : Option J := bndV (kFa 0 [x6]) fun x40 =>
  bndV (qLd h none [x40]) fun x41 =>
  bndV (kNilc [x0]) fun x42 =>
  bndV (kFa 1 [x42]) fun x43 =>
  bndV (kIaA 7 1 [x43, x41]) fun x44 =>
  bndV (qLd h none [x44]) fun x45 =>
  bndV (kBin .leq [x38, x45]) fun x46 =>
  tstv x46 (bndV (kNilc [x0]) fun x48 =>
  bndV (kFa 0 [x48]) fun x49 =>
  bndV (qLd h none [x49]) fun x50 =>
  bndV (qLd h (some 2) [x6]) fun x51 =>
  bndE (dDel h true [.i, .i] [x50, x51]) h fun _ h =>
  rc [x0, x32] h)
  (rc [x0, x32] h)
noncomputable def f102_2 (x0 : V) (x32 : V) (h : HT) : Option J := bndJ (loopF (fun rc vs h => unc vs fun x0 vs =>
  unc vs fun x32 vs =>
  bndE (dNx h [x32]) h fun x33 h =>
  bndV (kExt 0 [x33]) fun x34 =>
  tstv x34 (bndV (kEnt h.heap [x32]) fun x35 =>
  bndV (kExt 0 [x35]) fun x36 =>
  bndN (kAlloc [(.int .i64 (.ofNat (nat_lit 0))), (.int .i64 (.ofNat (nat_lit 0)))] []) h fun x6 h =>
  bndE (dSt h 2 [x6, x36]) h fun _ h =>
  bndV (kFa 1 [x6]) fun x37 =>
  bndV (qLd h none [x37]) fun x38 =>
  (f102_1 rc x0 x6 x32 x38 h))
  (some ⟨0, [], h⟩)) 1000000 [x0, x32] h)
  fun j vs h => ret1 (.tuple []) h
noncomputable def f102_3 (x0 : V) (x1 : V) (h : HT) : Option J := bndN (kBox [x1]) h fun x3 h =>
  bndV (qLd h (some 7) [x3]) fun x7 =>
  bndJ (loopF (fun rc vs h => unc vs fun x0 vs =>
  unc vs fun x7 vs =>
  unc vs fun x8 vs =>
  bndV (kBin .lss [x8, (.int .i64 (.ofNat (nat_lit 7)))]) fun x9 =>
  (f102_0 rc x0 x7 x8 x9 h)) 1000000 [x0, x7, (.int .i64 (.ofNat (nat_lit 0)))] h)
  fun j vs h => unc vs fun x0 vs =>
  bndV (kNilc [x0]) fun x29 =>
  bndV (kFa 0 [x29]) fun x30 =>
  bndV (qLd h none [x30]) fun x31 =>
  bndN (kRng h.heap [x31]) h fun x32 h =>
  (f102_2 x0 x32 h)
noncomputable def f102 (vs : List V) (h : HT) : Option J := unc vs fun x0 vs =>
  unc vs fun x1 vs =>
  (f102_3 x0 x1 h)
def a102 : List Ann := [.no, .loop [0, 7, 8] [((.exit 0), [0])], .no, .no, .no, .loop [0, 32] [((.exit 2), [])], .no, .no, .no]
theorem e102 : f102 = evFun Tryz.prog 102 2 a102 t102 := by kernel_rfl
theorem o102 : FnOk Tryz.prog 102 f102 := .of hmO (show enters Tryz.prog 102 = true by kernel_rfl) e102 (.nil)

/- concord/inst.Right -/
noncomputable def l128 : List (Nat × (List V → HT → Option J)) := []
noncomputable def t128 : Fns := tab l128
noncomputable def f128_0 (x1 : V) (x3 : V) (h : HT) : Option J := bndV (qLd h none [x3]) fun x4 =>
  bndV (kBin .geq [x4, (.int .i64 (.ofNat (nat_lit 0)))]) fun x5 =>
  bndC (gsel x5 true (retV (kFa 0 [x1]) h) h) fun x7 h =>
  bndC (gsel x5 true (retV (qLd h none [x7]) h) h) fun x8 h =>
  bndC (gsel x5 true (retV (kBin .lss [x8, (.int .i64 (.ofNat (nat_lit 7)))]) h) h) fun x9 h =>
  bndV (kPick [x5, x9, (.bool false)]) fun x10 =>
  bndC (gsel x10 true (retV (kFa 1 [x1]) h) h) fun x12 h =>
  bndC (gsel x10 true (retV (qLd h none [x12]) h) h) fun x13 h =>
  bndC (gsel x10 true (retV (kBin .geq [x13, (.int .i64 (.ofNat (nat_lit 1)))]) h) h) fun x14 h =>
  bndV (kPick [x10, x14, (.bool false)]) fun x15 =>
  bndC (gsel x15 true (retV (kFa 1 [x1]) h) h) fun x17 h =>
  bndC (gsel x15 true (retV (qLd h none [x17]) h) h) fun x18 h =>
  bndC (gsel x15 true (retV (kBin .leq [x18, (.int .i64 (.ofNat (nat_lit 1073741824)))]) h) h) fun x19 h =>
  bndV (kPick [x15, x19, (.bool false)]) fun x20 =>
  ret1 x20 h
noncomputable def f128 (vs : List V) (h : HT) : Option J := unc vs fun x0 vs =>
  bndN (kBox [x0]) h fun x1 h =>
  bndV (kFa 0 [x1]) fun x3 =>
  (f128_0 x1 x3 h)
def a128 : List Ann := []
theorem e128 : f128 = evFun Tryz.prog 128 1 a128 t128 := by kernel_rfl
theorem o128 : FnOk Tryz.prog 128 f128 := .of hmO (show enters Tryz.prog 128 = true by kernel_rfl) e128 (.nil)

/- concord/cmd.within -/
noncomputable def l116 : List (Nat × (List V → HT → Option J)) := []
noncomputable def t116 : Fns := tab l116

noncomputable def f116 (vs : List V) (h : HT) : Option J := unc vs fun x0 vs =>
  unc vs fun x1 vs =>
  bndV (kBin .geq [x0, (.int .i64 (.ofNat (nat_lit 1)))]) fun x6 =>
  bndC (gsel x6 true (retV (kMov [x0]) h) h) fun x8 h =>
  bndC (gsel x6 true (retV (kMov [x1]) h) h) fun x9 h =>
  bndC (gsel x6 true (retV (kBin .leq [x8, x9]) h) h) fun x10 h =>
  bndV (kPick [x6, x10, (.bool false)]) fun x11 =>
  ret1 x11 h
def a116 : List Ann := []
theorem e116 : f116 = evFun Tryz.prog 116 2 a116 t116 := by kernel_rfl
theorem o116 : FnOk Tryz.prog 116 f116 := .of hmO (show enters Tryz.prog 116 = true by kernel_rfl) e116 (.nil)

/- concord/cmd.bare -/
noncomputable def l117 : List (Nat × (List V → HT → Option J)) := []
noncomputable def t117 : Fns := tab l117
noncomputable def f117_0 (x1 : V) (x2 : V) (x3 : V) (x14 : V) (x21 : V) (h : HT) : Option J := tstv x21 (bndV (kFa 5 [x1]) fun x22 =>
  bndV (qLd h none [x22]) fun x23 =>
  bndV (kFa 6 [x1]) fun x24 =>
  bndV (qLd h none [x24]) fun x25 =>
  bndV (kFa 5 [x3]) fun x26 =>
  bndE (dSt h 1 [x26, x23]) h fun _ h =>
  chk1 (sameE (qLd h none [x24]) x25) (bndV (kFa 6 [x3]) fun x27 =>
  bndE (dSt h 1 [x27, x25]) h fun _ h =>
  some ⟨0, [x2, x3], h⟩))
  (bndV (kBin .eql [x14, (.int .i64 (.ofNat (nat_lit 5)))]) fun x29 =>
  bndJ (tstv x29 (bndV (kFa 4 [x1]) fun x30 =>
  bndV (qLd h none [x30]) fun x31 =>
  bndV (kFa 4 [x3]) fun x32 =>
  bndE (dSt h 1 [x32, x31]) h fun _ h =>
  some ⟨0, [x2, x3], h⟩)
  (some ⟨0, [x2, x3], h⟩))
  fun j vs h => unc vs fun x2 vs =>
  unc vs fun x3 vs =>
  some ⟨0, [x2, x3], h⟩)
noncomputable def f117_1 (x1 : V) (x2 : V) (x3 : V) (x14 : V) (x16 : V) (h : HT) : Option J := bndJ (tstv x16 (bndV (kFa 6 [x1]) fun x17 =>
  bndV (qLd h none [x17]) fun x18 =>
  bndV (kFa 6 [x3]) fun x19 =>
  bndE (dSt h 1 [x19, x18]) h fun _ h =>
  some ⟨0, [x2, x3], h⟩)
  (bndV (kBin .eql [x14, (.int .i64 (.ofNat (nat_lit 4)))]) fun x21 =>
  bndJ ((f117_0 x1 x2 x3 x14 x21 h))
  fun j vs h => unc vs fun x2 vs =>
  unc vs fun x3 vs =>
  some ⟨0, [x2, x3], h⟩))
  fun j vs h => unc vs fun x2 vs =>
  unc vs fun x3 vs =>
  bndV (qLd h (some 7) [x3]) fun x33 =>
  bndE (dSt h 7 [x2, x33]) h fun _ h =>
  bndV (qLd h (some 7) [x2]) fun x900000 =>
  ret1 x900000 h
noncomputable def f117_2 (x1 : V) (x2 : V) (h : HT) : Option J := bndV (kFa 0 [x1]) fun x4 =>
  bndV (qLd h none [x4]) fun x5 =>
  bndV (kFa 1 [x1]) fun x6 =>
  bndV (qLd h none [x6]) fun x7 =>
  bndV (kFa 2 [x1]) fun x8 =>
  bndV (qLd h none [x8]) fun x9 =>
  bndV (kFa 3 [x1]) fun x10 =>
  bndV (qLd h none [x10]) fun x11 =>
  bndV (kBld [(.int .i64 (.ofNat (nat_lit 0))), (.int .i64 (.ofNat (nat_lit 0))), (.int .i64 (.ofNat (nat_lit 0))), (.str (sb [])), (.str (sb [])), (.str (sb [])), (.str (sb []))] [(0, 1), (1, 1), (2, 1), (3, 1)] [x5, x7, x9, x11]) fun x12 =>
  bndN (kAlloc [(.int .i64 (.ofNat (nat_lit 0))), (.int .i64 (.ofNat (nat_lit 0))), (.int .i64 (.ofNat (nat_lit 0))), (.str (sb [])), (.str (sb [])), (.str (sb [])), (.str (sb []))] []) h fun x3 h =>
  bndE (dSt h 7 [x3, x12]) h fun _ h =>
  bndV (kFa 0 [x1]) fun x13 =>
  bndV (qLd h none [x13]) fun x14 =>
  bndV (kBin .eql [x14, (.int .i64 (.ofNat (nat_lit 2)))]) fun x16 =>
  (f117_1 x1 x2 x3 x14 x16 h)
noncomputable def f117 (vs : List V) (h : HT) : Option J := unc vs fun x0 vs =>
  bndN (kBox [x0]) h fun x1 h =>
  bndN (kAlloc [(.int .i64 (.ofNat (nat_lit 0))), (.int .i64 (.ofNat (nat_lit 0))), (.int .i64 (.ofNat (nat_lit 0))), (.str (sb [])), (.str (sb [])), (.str (sb [])), (.str (sb []))] []) h fun x2 h =>
  (f117_2 x1 x2 h)
def a117 : List Ann := [.no, .join [(.normal, [2, 3])], .join [(.normal, [2, 3])], .join [(.normal, [2, 3])]]
theorem e117 : f117 = evFun Tryz.prog 117 1 a117 t117 := by kernel_rfl
theorem o117 : FnOk Tryz.prog 117 f117 := .of hmO (show enters Tryz.prog 117 = true by kernel_rfl) e117 (.nil)

/- concord/cmd.Right -/
noncomputable def l40 : List (Nat × (List V → HT → Option J)) := [(116, f116), (117, f117)]
noncomputable def t40 : Fns := tab l40
noncomputable def f40_0 (x1 : V) (x44 : V) (x46 : V) (h : HT) : Option J := bndC (gsel x44 false (retV (qLd h none [x46]) h) h) fun x47 h =>
  bndC (gsel x44 false (retV (kLenT [x47]) h) h) fun x48 h =>
  bndC (gsel x44 false (retV (kBin .gtr [x48, (.int .i64 (.ofNat (nat_lit 64)))]) h) h) fun x49 h =>
  bndV (kPick [x44, (.bool true), x49]) fun x50 =>
  bndV (kUn .not [x50]) fun x52 =>
  bndC (gsel x52 true (retV (kFa 3 [x1]) h) h) fun x54 h =>
  bndC (gsel x52 true (retV (qLd h none [x54]) h) h) fun x55 h =>
  bndC (gsel x52 true (retV (kBin .neq [x55, (.str (sb []))]) h) h) fun x56 h =>
  bndC (gsel x52 true (retV (kMov [x56]) h) h) fun x57 h =>
  bndC (gsel x57 false (retV (kFa 0 [x1]) h) h) fun x58 h =>
  bndC (gsel x57 false (retV (qLd h none [x58]) h) h) fun x59 h =>
  bndC (gsel x57 false (retV (kBin .eql [x59, (.int .i64 (.ofNat (nat_lit 5)))]) h) h) fun x60 h =>
  bndC (gsel x52 true (retV (kPick [x57, (.bool true), x60]) h) h) fun x61 h =>
  bndV (kPick [x52, x61, (.bool false)]) fun x62 =>
  ret1 x62 h
noncomputable def f40_1 (x1 : V) (x29 : V) (h : HT) : Option J := bndV (qLd h none [x29]) fun x30 =>
  bndV (kLenT [x30]) fun x31 =>
  bndV (kBin .gtr [x31, (.int .i64 (.ofNat (nat_lit 16)))]) fun x32 =>
  bndC (gsel x32 false (retV (kFa 4 [x1]) h) h) fun x34 h =>
  bndC (gsel x32 false (retV (qLd h none [x34]) h) h) fun x35 h =>
  bndC (gsel x32 false (retV (kLenT [x35]) h) h) fun x36 h =>
  bndC (gsel x32 false (retV (kBin .gtr [x36, (.int .i64 (.ofNat (nat_lit 16)))]) h) h) fun x37 h =>
  bndV (kPick [x32, (.bool true), x37]) fun x38 =>
  bndC (gsel x38 false (retV (kFa 5 [x1]) h) h) fun x40 h =>
  bndC (gsel x38 false (retV (qLd h none [x40]) h) h) fun x41 h =>
  bndC (gsel x38 false (retV (kLenT [x41]) h) h) fun x42 h =>
  bndC (gsel x38 false (retV (kBin .gtr [x42, (.int .i64 (.ofNat (nat_lit 64)))]) h) h) fun x43 h =>
  bndV (kPick [x38, (.bool true), x43]) fun x44 =>
  bndC (gsel x44 false (retV (kFa 6 [x1]) h) h) fun x46 h =>
  (f40_0 x1 x44 x46 h)
noncomputable def f40_2 (x1 : V) (x16 : V) (h : HT) : Option J := bndC (gsel x16 false (retV (kFa 2 [x1]) h) h) fun x18 h =>
  bndC (gsel x16 false (retV (qLd h none [x18]) h) h) fun x19 h =>
  bndC (gsel x16 false (f116 [x19, (.int .i64 (.ofNat (nat_lit 1099511627776)))] h) h) fun x20 h =>
  bndC (gsel x16 false (retV (kUn .not [x20]) h) h) fun x21 h =>
  bndV (kPick [x16, (.bool true), x21]) fun x22 =>
  bndC (gsel x22 false (retV (qLd h (some 7) [x1]) h) h) fun x24 h =>
  bndC (gsel x22 false (retV (qLd h (some 7) [x1]) h) h) fun x25 h =>
  bndC (gsel x22 false (f117 [x25] h) h) fun x26 h =>
  chk1 (gchk x22 false (sameE (qLd h (some 7) [x1]) x24)) (bndC (gsel x22 false (retV (kEqF true [.i, .i, .i, .s, .s, .s, .s] [x24, x26]) h) h) fun x27 h =>
  bndV (kPick [x22, (.bool true), x27]) fun x28 =>
  tstv x28 (ret1 (.bool false) h)
  (bndV (kFa 3 [x1]) fun x29 =>
  (f40_1 x1 x29 h)))
noncomputable def f40_3 (x1 : V) (h : HT) : Option J := bndV (qLd h (some 7) [x1]) fun x4 =>
  bndV (kBld [(.int .i64 (.ofNat (nat_lit 0))), (.int .i64 (.ofNat (nat_lit 0))), (.int .i64 (.ofNat (nat_lit 0))), (.str (sb [])), (.str (sb [])), (.str (sb [])), (.str (sb []))] [] []) fun x5 =>
  bndV (kEqF false [.i, .i, .i, .s, .s, .s, .s] [x4, x5]) fun x6 =>
  tstv x6 (ret1 (.bool true) h)
  (bndV (kFa 0 [x1]) fun x7 =>
  bndV (qLd h none [x7]) fun x8 =>
  bndC (f116 [x8, (.int .i64 (.ofNat (nat_lit 5)))] h) fun x9 h =>
  bndV (kUn .not [x9]) fun x10 =>
  bndC (gsel x10 false (retV (kFa 1 [x1]) h) h) fun x12 h =>
  bndC (gsel x10 false (retV (qLd h none [x12]) h) h) fun x13 h =>
  bndC (gsel x10 false (f116 [x13, (.int .i64 (.ofNat (nat_lit 8)))] h) h) fun x14 h =>
  bndC (gsel x10 false (retV (kUn .not [x14]) h) h) fun x15 h =>
  bndV (kPick [x10, (.bool true), x15]) fun x16 =>
  (f40_2 x1 x16 h))
noncomputable def f40 (vs : List V) (h : HT) : Option J := unc vs fun x0 vs =>
  bndN (kBox [x0]) h fun x1 h =>
  (f40_3 x1 h)
def a40 : List Ann := [.no, .no]
theorem e40 : f40 = evFun Tryz.prog 40 1 a40 t40 := by kernel_rfl
theorem o40 : FnOk Tryz.prog 40 f40 := .of hmO (show enters Tryz.prog 40 = true by kernel_rfl) e40 (.cons o116 (.cons o117 (.nil)))

/- concord/inst.RightBallot -/
noncomputable def l129 : List (Nat × (List V → HT → Option J)) := []
noncomputable def t129 : Fns := tab l129
noncomputable def f129_0 (x1 : V) (x3 : V) (h : HT) : Option J := bndV (qLd h none [x3]) fun x4 =>
  bndV (kBin .geq [x4, (.int .i64 (.ofNat (nat_lit 0)))]) fun x5 =>
  bndC (gsel x5 true (retV (kFa 0 [x1]) h) h) fun x7 h =>
  bndC (gsel x5 true (retV (qLd h none [x7]) h) h) fun x8 h =>
  bndC (gsel x5 true (retV (kBin .leq [x8, (.int .i64 (.ofNat (nat_lit 1073741824)))]) h) h) fun x9 h =>
  bndV (kPick [x5, x9, (.bool false)]) fun x10 =>
  bndC (gsel x10 true (retV (kFa 1 [x1]) h) h) fun x12 h =>
  bndC (gsel x10 true (retV (qLd h none [x12]) h) h) fun x13 h =>
  bndC (gsel x10 true (retV (kBin .geq [x13, (.int .i64 (.ofNat (nat_lit 0)))]) h) h) fun x14 h =>
  bndV (kPick [x10, x14, (.bool false)]) fun x15 =>
  bndC (gsel x15 true (retV (kFa 1 [x1]) h) h) fun x17 h =>
  bndC (gsel x15 true (retV (qLd h none [x17]) h) h) fun x18 h =>
  bndC (gsel x15 true (retV (kBin .lss [x18, (.int .i64 (.ofNat (nat_lit 7)))]) h) h) fun x19 h =>
  bndV (kPick [x15, x19, (.bool false)]) fun x20 =>
  ret1 x20 h
noncomputable def f129 (vs : List V) (h : HT) : Option J := unc vs fun x0 vs =>
  bndN (kBox [x0]) h fun x1 h =>
  bndV (kFa 0 [x1]) fun x3 =>
  (f129_0 x1 x3 h)
def a129 : List Ann := []
theorem e129 : f129 = evFun Tryz.prog 129 1 a129 t129 := by kernel_rfl
theorem o129 : FnOk Tryz.prog 129 f129 := .of hmO (show enters Tryz.prog 129 = true by kernel_rfl) e129 (.nil)

/- concord/inst.Below -/
noncomputable def l204 : List (Nat × (List V → HT → Option J)) := []
noncomputable def t204 : Fns := tab l204
noncomputable def f204_0 (x2 : V) (x3 : V) (x6 : V) (x8 : V) (h : HT) : Option J := bndV (kBin .lss [x6, x8]) fun x9 =>
  bndC (gsel x9 false (retV (kFa 0 [x2]) h) h) fun x11 h =>
  bndC (gsel x9 false (retV (qLd h none [x11]) h) h) fun x12 h =>
  bndC (gsel x9 false (retV (kFa 0 [x3]) h) h) fun x13 h =>
  bndC (gsel x9 false (retV (qLd h none [x13]) h) h) fun x14 h =>
  bndC (gsel x9 false (retV (kBin .eql [x12, x14]) h) h) fun x15 h =>
  bndC (gsel x9 false (retV (kMov [x15]) h) h) fun x16 h =>
  bndC (gsel x16 true (retV (kFa 1 [x2]) h) h) fun x17 h =>
  bndC (gsel x16 true (retV (qLd h none [x17]) h) h) fun x18 h =>
  bndC (gsel x16 true (retV (kFa 1 [x3]) h) h) fun x19 h =>
  bndC (gsel x16 true (retV (qLd h none [x19]) h) h) fun x20 h =>
  bndC (gsel x16 true (retV (kBin .lss [x18, x20]) h) h) fun x21 h =>
  bndC (gsel x9 false (retV (kPick [x16, x21, (.bool false)]) h) h) fun x22 h =>
  bndV (kPick [x9, (.bool true), x22]) fun x23 =>
  ret1 x23 h
noncomputable def f204 (vs : List V) (h : HT) : Option J := unc vs fun x0 vs =>
  unc vs fun x1 vs =>
  bndN (kBox [x0]) h fun x2 h =>
  bndN (kBox [x1]) h fun x3 h =>
  bndV (kFa 0 [x2]) fun x5 =>
  bndV (qLd h none [x5]) fun x6 =>
  bndV (kFa 0 [x3]) fun x7 =>
  bndV (qLd h none [x7]) fun x8 =>
  (f204_0 x2 x3 x6 x8 h)
def a204 : List Ann := []
theorem e204 : f204 = evFun Tryz.prog 204 2 a204 t204 := by kernel_rfl
theorem o204 : FnOk Tryz.prog 204 f204 := .of hmO (show enters Tryz.prog 204 = true by kernel_rfl) e204 (.nil)

/- concord/letter.RightCell -/
noncomputable def l130 : List (Nat × (List V → HT → Option J)) := [(40, f40), (99, f99), (129, f129), (204, f204)]
noncomputable def t130 : Fns := tab l130
noncomputable def f130_0 (x1 : V) (x42 : V) (x47 : V) (x48 : V) (x49 : V) (h : HT) : Option J := bndC (gsel x47 true (retV (qLd h (some 2) [x49]) h) h) fun x50 h =>
  bndC (gsel x47 true (retV (kBld [(.int .i64 (.ofNat (nat_lit 0))), (.int .i64 (.ofNat (nat_lit 0))), (.int .i64 (.ofNat (nat_lit 0))), (.int .i64 (.ofNat (nat_lit 0))), (.int .i64 (.ofNat (nat_lit 0))), (.int .i64 (.ofNat (nat_lit 0))), (.int .i64 (.ofNat (nat_lit 0))), (.int .i64 (.ofNat (nat_lit 0))), (.str (sb [])), (.str (sb [])), (.str (sb [])), (.str (sb [])), (.int .i64 (.ofNat (nat_lit 0))), (.int .i64 (.ofNat (nat_lit 0))), (.int .i64 (.ofNat (nat_lit 0))), (.int .i64 (.ofNat (nat_lit 0))), (.int .i64 (.ofNat (nat_lit 0))), (.int .i64 (.ofNat (nat_lit 0))), (.int .i64 (.ofNat (nat_lit 0))), (.int .i64 (.ofNat (nat_lit 0))), (.bool false)] [(1, 2)] [x50]) h) h) fun x51 h =>
  bndC (gsel x47 true (retV (kEqF true [.i, .i, .i, .i, .i, .i, .i, .i, .s, .s, .s, .s, .i, .i, .i, .i, .i, .i, .i, .i, .b] [x48, x51]) h) h) fun x52 h =>
  bndC (gsel x42 false (retV (kPick [x47, x52, (.bool false)]) h) h) fun x53 h =>
  bndV (kPick [x42, (.bool true), x53]) fun x54 =>
  tstv x54 (ret1 (.bool false) h)
  (bndV (kFa 5 [x1]) fun x55 =>
  bndV (qLd h (some 7) [x55]) fun x56 =>
  bndC (f40 [x56] h) fun x57 h =>
  bndC (gsel x57 true (retV (kFa 12 [x1]) h) h) fun x59 h =>
  bndC (gsel x57 true (retV (qLd h (some 8) [x59]) h) h) fun x60 h =>
  bndC (gsel x57 true (f99 [x60] h) h) fun x61 h =>
  bndV (kPick [x57, x61, (.bool false)]) fun x62 =>
  ret1 x62 h)
noncomputable def f130_1 (x1 : V) (x31 : V) (x34 : V) (h : HT) : Option J := bndC (gsel x31 true (retV (kBin .neq [x34, (.int .i64 (.ofNat (nat_lit 1)))]) h) h) fun x35 h =>
  bndC (gsel x31 true (retV (kMov [x35]) h) h) fun x36 h =>
  bndC (gsel x36 false (retV (kFa 3 [x1]) h) h) fun x37 h =>
  bndC (gsel x36 false (retV (qLd h (some 2) [x37]) h) h) fun x38 h =>
  bndC (gsel x36 false (retV (kBld [(.int .i64 (.ofNat (nat_lit 0))), (.int .i64 (.ofNat (nat_lit 0)))] [] []) h) h) fun x39 h =>
  bndC (gsel x36 false (retV (kEqF true [.i, .i] [x38, x39]) h) h) fun x40 h =>
  bndC (gsel x31 true (retV (kPick [x36, (.bool true), x40]) h) h) fun x41 h =>
  bndV (kPick [x31, x41, (.bool false)]) fun x42 =>
  bndC (gsel x42 false (retV (kFa 0 [x1]) h) h) fun x44 h =>
  bndC (gsel x42 false (retV (qLd h none [x44]) h) h) fun x45 h =>
  bndC (gsel x42 false (retV (kBin .eql [x45, (.int .i64 (.ofNat (nat_lit 0)))]) h) h) fun x46 h =>
  bndC (gsel x42 false (retV (kMov [x46]) h) h) fun x47 h =>
  bndC (gsel x47 true (retV (qLd h (some 21) [x1]) h) h) fun x48 h =>
  bndC (gsel x47 true (retV (kFa 1 [x1]) h) h) fun x49 h =>
  (f130_0 x1 x42 x47 x48 x49 h)
noncomputable def f130_2 (x1 : V) (x16 : V) (x20 : V) (h : HT) : Option J := bndC (gsel x16 false (retV (kUn .not [x20]) h) h) fun x21 h =>
  bndV (kPick [x16, (.bool true), x21]) fun x22 =>
  bndC (gsel x22 false (retV (kFa 1 [x1]) h) h) fun x24 h =>
  bndC (gsel x22 false (retV (qLd h (some 2) [x24]) h) h) fun x25 h =>
  bndC (gsel x22 false (retV (kFa 3 [x1]) h) h) fun x26 h =>
  bndC (gsel x22 false (retV (qLd h (some 2) [x26]) h) h) fun x27 h =>
  bndC (gsel x22 false (f204 [x25, x27] h) h) fun x28 h =>
  bndV (kPick [x22, (.bool true), x28]) fun x29 =>
  tstv x29 (ret1 (.bool false) h)
  (bndV (kFa 20 [x1]) fun x30 =>
  bndV (qLd h none [x30]) fun x31 =>
  bndC (gsel x31 true (retV (kFa 0 [x1]) h) h) fun x33 h =>
  bndC (gsel x31 true (retV (qLd h none [x33]) h) h) fun x34 h =>
  (f130_1 x1 x31 x34 h))
noncomputable def f130_3 (x1 : V) (x3 : V) (h : HT) : Option J := bndV (qLd h none [x3]) fun x4 =>
  bndV (kBin .lss [x4, (.int .i64 (.ofNat (nat_lit 0)))]) fun x5 =>
  bndC (gsel x5 false (retV (kFa 0 [x1]) h) h) fun x7 h =>
  bndC (gsel x5 false (retV (qLd h none [x7]) h) h) fun x8 h =>
  bndC (gsel x5 false (retV (kBin .gtr [x8, (.int .i64 (.ofNat (nat_lit 3)))]) h) h) fun x9 h =>
  bndV (kPick [x5, (.bool true), x9]) fun x10 =>
  bndC (gsel x10 false (retV (kFa 1 [x1]) h) h) fun x12 h =>
  bndC (gsel x10 false (retV (qLd h (some 2) [x12]) h) h) fun x13 h =>
  bndC (gsel x10 false (f129 [x13] h) h) fun x14 h =>
  bndC (gsel x10 false (retV (kUn .not [x14]) h) h) fun x15 h =>
  bndV (kPick [x10, (.bool true), x15]) fun x16 =>
  bndC (gsel x16 false (retV (kFa 3 [x1]) h) h) fun x18 h =>
  bndC (gsel x16 false (retV (qLd h (some 2) [x18]) h) h) fun x19 h =>
  bndC (gsel x16 false (f129 [x19] h) h) fun x20 h =>
  (f130_2 x1 x16 x20 h)
noncomputable def f130 (vs : List V) (h : HT) : Option J := unc vs fun x0 vs =>
  bndN (kBox [x0]) h fun x1 h =>
  bndV (kFa 0 [x1]) fun x3 =>
  (f130_3 x1 x3 h)
def a130 : List Ann := [.no, .no]
theorem e130 : f130 = evFun Tryz.prog 130 1 a130 t130 := by kernel_rfl
theorem o130 : FnOk Tryz.prog 130 f130 := .of hmO (show enters Tryz.prog 130 = true by kernel_rfl) e130 (.cons o40 (.cons o99 (.cons o129 (.cons o204 (.nil)))))

/- (*concord/pack.Reader).Wrong -/
noncomputable def l166 : List (Nat × (List V → HT → Option J)) := []
noncomputable def t166 : Fns := tab l166

noncomputable def f166 (vs : List V) (h : HT) : Option J := unc vs fun x0 vs =>
  bndV (kNilc [x0]) fun x4 =>
  bndV (kFa 2 [x4]) fun x5 =>
  bndV (qLd h none [x5]) fun x6 =>
  ret1 x6 h
def a166 : List Ann := []
theorem e166 : f166 = evFun Tryz.prog 166 1 a166 t166 := by kernel_rfl
theorem o166 : FnOk Tryz.prog 166 f166 := .of hmO (show enters Tryz.prog 166 = true by kernel_rfl) e166 (.nil)

/- (*concord/pack.Reader).Flag -/
noncomputable def l239 : List (Nat × (List V → HT → Option J)) := []
noncomputable def t239 : Fns := tab l239
noncomputable def f239_0 (x0 : V) (x34 : V) (x36 : V) (h : HT) : Option J := tstv x36 (bndV (kNilc [x0]) fun x39 =>
  bndV (kFa 1 [x39]) fun x40 =>
  bndV (qLd h none [x40]) fun x41 =>
  bndC (noF [x0, x41, (.int .i64 (.ofNat (nat_lit 4)))] h) fun x42 h =>
  ret1 (.bool false) h)
  (bndV (kNilc [x0]) fun x44 =>
  bndV (kFa 1 [x44]) fun x45 =>
  bndV (qLd h none [x45]) fun x46 =>
  bndV (kBin .add [x46, (.int .i64 (.ofNat (nat_lit 1)))]) fun x47 =>
  bndV (kNilc [x0]) fun x48 =>
  bndV (kFa 1 [x48]) fun x49 =>
  bndE (dSt h 1 [x49, x47]) h fun _ h =>
  bndV (kBin .eql [x34, (.int .u8 (.ofNat (nat_lit 1)))]) fun x51 =>
  ret1 x51 h)
noncomputable def f239_1 (x0 : V) (x18 : V) (h : HT) : Option J := tstv x18 (bndV (kNilc [x0]) fun x21 =>
  bndV (kFa 1 [x21]) fun x22 =>
  bndV (qLd h none [x22]) fun x23 =>
  bndC (noF [x0, x23, (.int .i64 (.ofNat (nat_lit 3)))] h) fun x24 h =>
  ret1 (.bool false) h)
  (bndV (kNilc [x0]) fun x26 =>
  bndV (kFa 0 [x26]) fun x27 =>
  bndV (qLd h none [x27]) fun x28 =>
  bndV (kNilc [x0]) fun x30 =>
  bndV (kFa 1 [x30]) fun x31 =>
  bndV (qLd h none [x31]) fun x32 =>
  bndV (kIaS 1 [x28, x32]) fun x33 =>
  bndV (qLd h none [x33]) fun x34 =>
  bndV (kBin .gtr [x34, (.int .u8 (.ofNat (nat_lit 1)))]) fun x36 =>
  (f239_0 x0 x34 x36 h))
noncomputable def f239_2 (x0 : V) (h : HT) : Option J := bndV (kNilc [x0]) fun x5 =>
  bndV (kFa 2 [x5]) fun x6 =>
  bndV (qLd h none [x6]) fun x7 =>
  bndV (kBin .neq [x7, (.int .i64 (.ofNat (nat_lit 0)))]) fun x8 =>
  tstv x8 (ret1 (.bool false) h)
  (bndV (kNilc [x0]) fun x10 =>
  bndV (kFa 1 [x10]) fun x11 =>
  bndV (qLd h none [x11]) fun x12 =>
  bndV (kNilc [x0]) fun x14 =>
  bndV (kFa 0 [x14]) fun x15 =>
  bndV (qLd h none [x15]) fun x16 =>
  bndV (kLenS [x16]) fun x17 =>
  bndV (kBin .eql [x12, x17]) fun x18 =>
  (f239_1 x0 x18 h))
noncomputable def f239 (vs : List V) (h : HT) : Option J := unc vs fun x0 vs =>
  (f239_2 x0 h)
def a239 : List Ann := [.no, .no, .no]
theorem e239 : f239 = evFun Tryz.prog 239 1 a239 t239 := by kernel_rfl
theorem o239 : FnOk Tryz.prog 239 f239 := .of hmO (show enters Tryz.prog 239 = true by kernel_rfl) e239 (.nil)

/- concord/letter.getBallot -/
noncomputable def l243 : List (Nat × (List V → HT → Option J)) := [(97, f97)]
noncomputable def t243 : Fns := tab l243

noncomputable def f243 (vs : List V) (h : HT) : Option J := unc vs fun x0 vs =>
  bndN (kAlloc [(.int .i64 (.ofNat (nat_lit 0))), (.int .i64 (.ofNat (nat_lit 0)))] []) h fun x2 h =>
  bndC (f97 [x0] h) fun x5 h =>
  bndC (f97 [x0] h) fun x8 h =>
  bndV (kBld [(.int .i64 (.ofNat (nat_lit 0))), (.int .i64 (.ofNat (nat_lit 0)))] [(0, 1), (1, 1)] [x5, x8]) fun x9 =>
  bndE (dSt h 2 [x2, x9]) h fun _ h =>
  bndV (qLd h (some 2) [x2]) fun x900000 =>
  ret1 x900000 h
def a243 : List Ann := []
theorem e243 : f243 = evFun Tryz.prog 243 1 a243 t243 := by kernel_rfl
theorem o243 : FnOk Tryz.prog 243 f243 := .of hmO (show enters Tryz.prog 243 = true by kernel_rfl) e243 (.cons o97 (.nil))

/- (*concord/pack.Reader).Count -/
noncomputable def l296 : List (Nat × (List V → HT → Option J)) := [(97, f97)]
noncomputable def t296 : Fns := tab l296
noncomputable def f296_0 (x0 : V) (x1 : V) (x10 : V) (x12 : V) (x14 : V) (h : HT) : Option J := bndV (kFa 2 [x14]) fun x15 =>
  bndV (qLd h none [x15]) fun x16 =>
  bndV (kBin .eql [x16, (.int .i64 (.ofNat (nat_lit 0)))]) fun x17 =>
  bndC (gsel x17 true (retV (kMov [x12]) h) h) fun x19 h =>
  bndC (gsel x17 true (retV (kBin .lss [x19, (.int .i64 (.ofNat (nat_lit 0)))]) h) h) fun x20 h =>
  bndC (gsel x17 true (retV (kMov [x20]) h) h) fun x21 h =>
  bndC (gsel x21 false (retV (kMov [x12]) h) h) fun x22 h =>
  bndC (gsel x21 false (retV (kMov [x1]) h) h) fun x23 h =>
  bndC (gsel x21 false (retV (kBin .gtr [x22, x23]) h) h) fun x24 h =>
  bndC (gsel x17 true (retV (kPick [x21, (.bool true), x24]) h) h) fun x25 h =>
  bndV (kPick [x17, x25, (.bool false)]) fun x26 =>
  tstv x26 (bndC (noF [x0, x10, (.int .i64 (.ofNat (nat_lit 2)))] h) fun x29 h =>
  ret1 (.int .i64 (.ofNat (nat_lit 0))) h)
  (ret1 x12 h)
noncomputable def f296 (vs : List V) (h : HT) : Option J := unc vs fun x0 vs =>
  unc vs fun x1 vs =>
  bndV (kNilc [x0]) fun x8 =>
  bndV (kFa 1 [x8]) fun x9 =>
  bndV (qLd h none [x9]) fun x10 =>
  bndC (f97 [x0] h) fun x12 h =>
  bndV (kNilc [x0]) fun x14 =>
  (f296_0 x0 x1 x10 x12 x14 h)
def a296 : List Ann := [.no]
theorem e296 : f296 = evFun Tryz.prog 296 2 a296 t296 := by kernel_rfl
theorem o296 : FnOk Tryz.prog 296 f296 := .of hmO (show enters Tryz.prog 296 = true by kernel_rfl) e296 (.cons o97 (.nil))

/- (*concord/pack.Reader).Text -/
noncomputable def l240 : List (Nat × (List V → HT → Option J)) := [(296, f296)]
noncomputable def t240 : Fns := tab l240
noncomputable def f240_0 (x0 : V) (x14 : V) (x38 : V) (x41 : V) (h : HT) : Option J := bndV (qLd h none [x41]) fun x42 =>
  bndV (kNilc [x0]) fun x44 =>
  bndV (kFa 1 [x44]) fun x45 =>
  bndV (qLd h none [x45]) fun x46 =>
  bndV (kBin .add [x46, x14]) fun x48 =>
  bndV (kSlS 1 true true [x38, x42, x48]) fun x49 =>
  bndV (kB2s h.heap [x49]) fun x50 =>
  bndV (kNilc [x0]) fun x52 =>
  bndV (kFa 1 [x52]) fun x53 =>
  bndV (qLd h none [x53]) fun x54 =>
  bndV (kBin .add [x54, x14]) fun x56 =>
  bndV (kNilc [x0]) fun x57 =>
  bndV (kFa 1 [x57]) fun x58 =>
  bndE (dSt h 1 [x58, x56]) h fun _ h =>
  ret1 x50 h
noncomputable def f240_1 (x0 : V) (x11 : V) (x14 : V) (x24 : V) (h : HT) : Option J := bndV (kLenS [x24]) fun x25 =>
  bndV (kNilc [x0]) fun x27 =>
  bndV (kFa 1 [x27]) fun x28 =>
  bndV (qLd h none [x28]) fun x29 =>
  bndV (kBin .sub [x25, x29]) fun x30 =>
  bndV (kBin .gtr [x14, x30]) fun x31 =>
  tstv x31 (bndC (noF [x0, x11, (.int .i64 (.ofNat (nat_lit 3)))] h) fun x34 h =>
  ret1 (.str (sb [])) h)
  (bndV (kNilc [x0]) fun x36 =>
  bndV (kFa 0 [x36]) fun x37 =>
  bndV (qLd h none [x37]) fun x38 =>
  bndV (kNilc [x0]) fun x40 =>
  bndV (kFa 1 [x40]) fun x41 =>
  (f240_0 x0 x14 x38 x41 h))
noncomputable def f240_2 (x0 : V) (vs : List V) (h : HT) : Option J := unc vs fun x1 vs =>
  bndV (kNilc [x0]) fun x9 =>
  bndV (kFa 1 [x9]) fun x10 =>
  bndV (qLd h none [x10]) fun x11 =>
  bndC (f296 [x0, x1] h) fun x14 h =>
  bndV (kNilc [x0]) fun x16 =>
  bndV (kFa 2 [x16]) fun x17 =>
  bndV (qLd h none [x17]) fun x18 =>
  bndV (kBin .neq [x18, (.int .i64 (.ofNat (nat_lit 0)))]) fun x19 =>
  tstv x19 (ret1 (.str (sb [])) h)
  (bndV (kNilc [x0]) fun x22 =>
  bndV (kFa 0 [x22]) fun x23 =>
  bndV (qLd h none [x23]) fun x24 =>
  (f240_1 x0 x11 x14 x24 h))
noncomputable def f240 (vs : List V) (h : HT) : Option J := unc vs fun x0 vs =>
  (f240_2 x0 vs h)
def a240 : List Ann := [.no, .no]
theorem e240 : f240 = evFun Tryz.prog 240 2 a240 t240 := by kernel_rfl
theorem o240 : FnOk Tryz.prog 240 f240 := .of hmO (show enters Tryz.prog 240 = true by kernel_rfl) e240 (.cons o296 (.nil))

/- concord/cmd.Get -/
noncomputable def l244 : List (Nat × (List V → HT → Option J)) := [(40, f40), (97, f97), (166, f166), (240, f240)]
noncomputable def t244 : Fns := tab l244
noncomputable def f244_0 (x0 : V) (x2 : V) (x3 : V) (x20 : V) (x27 : V) (h : HT) : Option J := tstv x27 (bndC (f240 [x0, (.int .i64 (.ofNat (nat_lit 64)))] h) fun x29 h =>
  bndV (kFa 5 [x3]) fun x30 =>
  bndE (dSt h 1 [x30, x29]) h fun _ h =>
  bndC (f240 [x0, (.int .i64 (.ofNat (nat_lit 64)))] h) fun x32 h =>
  bndV (kFa 6 [x3]) fun x33 =>
  bndE (dSt h 1 [x33, x32]) h fun _ h =>
  some ⟨0, [x0, x2, x3], h⟩)
  (bndV (kBin .eql [x20, (.int .i64 (.ofNat (nat_lit 5)))]) fun x35 =>
  bndJ (tstv x35 (bndC (f240 [x0, (.int .i64 (.ofNat (nat_lit 16)))] h) fun x37 h =>
  bndV (kFa 4 [x3]) fun x38 =>
  bndE (dSt h 1 [x38, x37]) h fun _ h =>
  some ⟨0, [x0, x2, x3], h⟩)
  (some ⟨0, [x0, x2, x3], h⟩))
  fun j vs h => unc vs fun x0 vs =>
  unc vs fun x2 vs =>
  unc vs fun x3 vs =>
  some ⟨0, [x0, x2, x3], h⟩)
noncomputable def f244_1 (x0 : V) (x2 : V) (x3 : V) (x46 : V) (h : HT) : Option J := bndJ (tstv x46 (bndC (noF [x0] h) fun x48 h =>
  some ⟨0, [x0, x2, x3], h⟩)
  (some ⟨0, [x0, x2, x3], h⟩))
  fun j vs h => unc vs fun x0 vs =>
  unc vs fun x2 vs =>
  unc vs fun x3 vs =>
  bndC (f166 [x0] h) fun x50 h =>
  bndV (kBin .neq [x50, (.int .i64 (.ofNat (nat_lit 0)))]) fun x51 =>
  tstv x51 (bndV (kBld [(.int .i64 (.ofNat (nat_lit 0))), (.int .i64 (.ofNat (nat_lit 0))), (.int .i64 (.ofNat (nat_lit 0))), (.str (sb [])), (.str (sb [])), (.str (sb [])), (.str (sb []))] [] []) fun x52 =>
  bndE (dSt h 7 [x2, x52]) h fun _ h =>
  bndV (qLd h (some 7) [x2]) fun x900000 =>
  ret1 x900000 h)
  (bndV (qLd h (some 7) [x3]) fun x53 =>
  bndE (dSt h 7 [x2, x53]) h fun _ h =>
  bndV (qLd h (some 7) [x2]) fun x900000 =>
  ret1 x900000 h)
noncomputable def f244_2 (x0 : V) (x2 : V) (x3 : V) (x20 : V) (x22 : V) (h : HT) : Option J := bndJ (tstv x22 (bndC (f240 [x0, (.int .i64 (.ofNat (nat_lit 64)))] h) fun x24 h =>
  bndV (kFa 6 [x3]) fun x25 =>
  bndE (dSt h 1 [x25, x24]) h fun _ h =>
  some ⟨0, [x0, x2, x3], h⟩)
  (bndV (kBin .eql [x20, (.int .i64 (.ofNat (nat_lit 4)))]) fun x27 =>
  bndJ ((f244_0 x0 x2 x3 x20 x27 h))
  fun j vs h => unc vs fun x0 vs =>
  unc vs fun x2 vs =>
  unc vs fun x3 vs =>
  some ⟨0, [x0, x2, x3], h⟩))
  fun j vs h => unc vs fun x0 vs =>
  unc vs fun x2 vs =>
  unc vs fun x3 vs =>
  bndC (f166 [x0] h) fun x40 h =>
  bndV (kBin .eql [x40, (.int .i64 (.ofNat (nat_lit 0)))]) fun x41 =>
  bndC (gsel x41 true (retV (qLd h (some 7) [x3]) h) h) fun x43 h =>
  bndC (gsel x41 true (f40 [x43] h) h) fun x44 h =>
  bndC (gsel x41 true (retV (kUn .not [x44]) h) h) fun x45 h =>
  bndV (kPick [x41, x45, (.bool false)]) fun x46 =>
  (f244_1 x0 x2 x3 x46 h)
noncomputable def f244_3 (x0 : V) (x2 : V) (x3 : V) (x9 : V) (h : HT) : Option J := bndJ (tstv x9 (bndC (f97 [x0] h) fun x11 h =>
  bndV (kFa 1 [x3]) fun x12 =>
  bndE (dSt h 1 [x12, x11]) h fun _ h =>
  bndC (f97 [x0] h) fun x14 h =>
  bndV (kFa 2 [x3]) fun x15 =>
  bndE (dSt h 1 [x15, x14]) h fun _ h =>
  bndC (f240 [x0, (.int .i64 (.ofNat (nat_lit 16)))] h) fun x17 h =>
  bndV (kFa 3 [x3]) fun x18 =>
  bndE (dSt h 1 [x18, x17]) h fun _ h =>
  some ⟨0, [x0, x2, x3], h⟩)
  (some ⟨0, [x0, x2, x3], h⟩))
  fun j vs h => unc vs fun x0 vs =>
  unc vs fun x2 vs =>
  unc vs fun x3 vs =>
  bndV (kFa 0 [x3]) fun x19 =>
  bndV (qLd h none [x19]) fun x20 =>
  bndV (kBin .eql [x20, (.int .i64 (.ofNat (nat_lit 2)))]) fun x22 =>
  (f244_2 x0 x2 x3 x20 x22 h)
noncomputable def f244 (vs : List V) (h : HT) : Option J := unc vs fun x0 vs =>
  bndN (kAlloc [(.int .i64 (.ofNat (nat_lit 0))), (.int .i64 (.ofNat (nat_lit 0))), (.int .i64 (.ofNat (nat_lit 0))), (.str (sb [])), (.str (sb [])), (.str (sb [])), (.str (sb []))] []) h fun x2 h =>
  bndC (f97 [x0] h) fun x5 h =>
  bndV (kBld [(.int .i64 (.ofNat (nat_lit 0))), (.int .i64 (.ofNat (nat_lit 0))), (.int .i64 (.ofNat (nat_lit 0))), (.str (sb [])), (.str (sb [])), (.str (sb [])), (.str (sb []))] [(0, 1)] [x5]) fun x6 =>
  bndN (kAlloc [(.int .i64 (.ofNat (nat_lit 0))), (.int .i64 (.ofNat (nat_lit 0))), (.int .i64 (.ofNat (nat_lit 0))), (.str (sb [])), (.str (sb [])), (.str (sb [])), (.str (sb []))] []) h fun x3 h =>
  bndE (dSt h 7 [x3, x6]) h fun _ h =>
  bndV (kFa 0 [x3]) fun x7 =>
  bndV (qLd h none [x7]) fun x8 =>
  bndV (kBin .neq [x8, (.int .i64 (.ofNat (nat_lit 0)))]) fun x9 =>
  (f244_3 x0 x2 x3 x9 h)
def a244 : List Ann := [.join [(.normal, [0, 2, 3])], .no, .join [(.normal, [0, 2, 3])], .join [(.normal, [0, 2, 3])], .join [(.normal, [0, 2, 3])], .join [(.normal, [0, 2, 3])], .no]
theorem e244 : f244 = evFun Tryz.prog 244 1 a244 t244 := by kernel_rfl
theorem o244 : FnOk Tryz.prog 244 f244 := .of hmO (show enters Tryz.prog 244 = true by kernel_rfl) e244 (.cons o40 (.cons o97 (.cons o166 (.cons o240 (.nil)))))

/- concord/deps.Get -/
noncomputable def l245 : List (Nat × (List V → HT → Option J)) := [(97, f97), (99, f99), (166, f166)]
noncomputable def t245 : Fns := tab l245
noncomputable def f245_0 (x0 : V) (x2 : V) (x3 : V) (x24 : V) (h : HT) : Option J := bndJ (tstv x24 (bndC (noF [x0] h) fun x26 h =>
  some ⟨0, [x0, x2, x3], h⟩)
  (some ⟨0, [x0, x2, x3], h⟩))
  fun j vs h => unc vs fun x0 vs =>
  unc vs fun x2 vs =>
  unc vs fun x3 vs =>
  bndC (f166 [x0] h) fun x28 h =>
  bndV (kBin .neq [x28, (.int .i64 (.ofNat (nat_lit 0)))]) fun x29 =>
  tstv x29 (bndV (kBld [(.int .i64 (.ofNat (nat_lit 0))), (.int .i64 (.ofNat (nat_lit 0))), (.int .i64 (.ofNat (nat_lit 0))), (.int .i64 (.ofNat (nat_lit 0))), (.int .i64 (.ofNat (nat_lit 0))), (.int .i64 (.ofNat (nat_lit 0))), (.int .i64 (.ofNat (nat_lit 0))), (.int .i64 (.ofNat (nat_lit 0)))] [] []) fun x30 =>
  bndE (dSt h 8 [x2, x30]) h fun _ h =>
  bndV (qLd h (some 8) [x2]) fun x900000 =>
  ret1 x900000 h)
  (bndV (qLd h (some 8) [x3]) fun x31 =>
  bndE (dSt h 8 [x2, x31]) h fun _ h =>
  bndV (qLd h (some 8) [x2]) fun x900000 =>
  ret1 x900000 h)
noncomputable def f245_1 (x0 : V) (x2 : V) (x3 : V) (h : HT) : Option J := bndJ (loopF (fun rc vs h => unc vs fun x0 vs =>
  unc vs fun x2 vs =>
  unc vs fun x3 vs =>
  unc vs fun x8 vs =>
  bndV (kBin .lss [x8, (.int .i64 (.ofNat (nat_lit 7)))]) fun x9 =>
  tstv x9 (bndC (f97 [x0] h) fun x13 h =>
  bndV (kFa 1 [x3]) fun x14 =>
  bndV (kIaA 7 1 [x14, x8]) fun x15 =>
  bndE (dSt h 1 [x15, x13]) h fun _ h =>
  bndV (kBin .add [x8, (.int .i64 (.ofNat (nat_lit 1)))]) fun x16 =>
  rc [x0, x2, x3, x16] h)
  (some ⟨0, [x0, x2, x3], h⟩)) 1000000 [x0, x2, x3, (.int .i64 (.ofNat (nat_lit 0)))] h)
  fun j vs h => unc vs fun x0 vs =>
  unc vs fun x2 vs =>
  unc vs fun x3 vs =>
  bndC (f166 [x0] h) fun x18 h =>
  bndV (kBin .eql [x18, (.int .i64 (.ofNat (nat_lit 0)))]) fun x19 =>
  bndC (gsel x19 true (retV (qLd h (some 8) [x3]) h) h) fun x21 h =>
  bndC (gsel x19 true (f99 [x21] h) h) fun x22 h =>
  bndC (gsel x19 true (retV (kUn .not [x22]) h) h) fun x23 h =>
  bndV (kPick [x19, x23, (.bool false)]) fun x24 =>
  (f245_0 x0 x2 x3 x24 h)
noncomputable def f245 (vs : List V) (h : HT) : Option J := unc vs fun x0 vs =>
  bndN (kAlloc [(.int .i64 (.ofNat (nat_lit 0))), (.int .i64 (.ofNat (nat_lit 0))), (.int .i64 (.ofNat (nat_lit 0))), (.int .i64 (.ofNat (nat_lit 0))), (.int .i64 (.ofNat (nat_lit 0))), (.int .i64 (.ofNat (nat_lit 0))), (.int .i64 (.ofNat (nat_lit 0))), (.int .i64 (.ofNat (nat_lit 0)))] []) h fun x2 h =>
  bndC (f97 [x0] h) fun x6 h =>
  bndV (kBld [(.int .i64 (.ofNat (nat_lit 0))), (.int .i64 (.ofNat (nat_lit 0))), (.int .i64 (.ofNat (nat_lit 0))), (.int .i64 (.ofNat (nat_lit 0))), (.int .i64 (.ofNat (nat_lit 0))), (.int .i64 (.ofNat (nat_lit 0))), (.int .i64 (.ofNat (nat_lit 0))), (.int .i64 (.ofNat (nat_lit 0)))] [(0, 1)] [x6]) fun x7 =>
  bndN (kAlloc [(.int .i64 (.ofNat (nat_lit 0))), (.int .i64 (.ofNat (nat_lit 0))), (.int .i64 (.ofNat (nat_lit 0))), (.int .i64 (.ofNat (nat_lit 0))), (.int .i64 (.ofNat (nat_lit 0))), (.int .i64 (.ofNat (nat_lit 0))), (.int .i64 (.ofNat (nat_lit 0))), (.int .i64 (.ofNat (nat_lit 0)))] []) h fun x3 h =>
  bndE (dSt h 8 [x3, x7]) h fun _ h =>
  (f245_1 x0 x2 x3 h)
def a245 : List Ann := [.no, .loop [0, 2, 3, 8] [((.exit 0), [0, 2, 3])], .no, .no, .join [(.normal, [0, 2, 3])], .no]
theorem e245 : f245 = evFun Tryz.prog 245 1 a245 t245 := by kernel_rfl
theorem o245 : FnOk Tryz.prog 245 f245 := .of hmO (show enters Tryz.prog 245 = true by kernel_rfl) e245 (.cons o97 (.cons o99 (.cons o166 (.nil))))

/- concord/letter.GetCell -/
noncomputable def l180 : List (Nat × (List V → HT → Option J)) := [(97, f97), (130, f130), (166, f166), (239, f239), (243, f243), (244, f244), (245, f245)]
noncomputable def t180 : Fns := tab l180
noncomputable def f180_0 (x0 : V) (x2 : V) (x3 : V) (x12 : V) (h : HT) : Option J := tstv x12 (bndC (f243 [x0] h) fun x14 h =>
  bndV (kFa 3 [x3]) fun x15 =>
  bndE (dSt h 2 [x15, x14]) h fun _ h =>
  bndC (f244 [x0] h) fun x17 h =>
  bndV (kFa 5 [x3]) fun x18 =>
  bndE (dSt h 7 [x18, x17]) h fun _ h =>
  bndC (f245 [x0] h) fun x20 h =>
  bndV (kFa 12 [x3]) fun x21 =>
  bndE (dSt h 8 [x21, x20]) h fun _ h =>
  bndC (f239 [x0] h) fun x23 h =>
  bndV (kFa 20 [x3]) fun x24 =>
  bndE (dSt h 1 [x24, x23]) h fun _ h =>
  some ⟨0, [x0, x2, x3], h⟩)
  (some ⟨0, [x0, x2, x3], h⟩)
noncomputable def f180_1 (x0 : V) (x2 : V) (x3 : V) (x32 : V) (h : HT) : Option J := bndJ (tstv x32 (bndC (noF [x0] h) fun x34 h =>
  some ⟨0, [x0, x2, x3], h⟩)
  (some ⟨0, [x0, x2, x3], h⟩))
  fun j vs h => unc vs fun x0 vs =>
  unc vs fun x2 vs =>
  unc vs fun x3 vs =>
  bndC (f166 [x0] h) fun x36 h =>
  bndV (kBin .neq [x36, (.int .i64 (.ofNat (nat_lit 0)))]) fun x37 =>
  tstv x37 (bndV (kBld [(.int .i64 (.ofNat (nat_lit 0))), (.int .i64 (.ofNat (nat_lit 0))), (.int .i64 (.ofNat (nat_lit 0))), (.int .i64 (.ofNat (nat_lit 0))), (.int .i64 (.ofNat (nat_lit 0))), (.int .i64 (.ofNat (nat_lit 0))), (.int .i64 (.ofNat (nat_lit 0))), (.int .i64 (.ofNat (nat_lit 0))), (.str (sb [])), (.str (sb [])), (.str (sb [])), (.str (sb [])), (.int .i64 (.ofNat (nat_lit 0))), (.int .i64 (.ofNat (nat_lit 0))), (.int .i64 (.ofNat (nat_lit 0))), (.int .i64 (.ofNat (nat_lit 0))), (.int .i64 (.ofNat (nat_lit 0))), (.int .i64 (.ofNat (nat_lit 0))), (.int .i64 (.ofNat (nat_lit 0))), (.int .i64 (.ofNat (nat_lit 0))), (.bool false)] [] []) fun x38 =>
  bndE (dSt h 21 [x2, x38]) h fun _ h =>
  bndV (qLd h (some 21) [x2]) fun x900000 =>
  ret1 x900000 h)
  (bndV (qLd h (some 21) [x3]) fun x39 =>
  bndE (dSt h 21 [x2, x39]) h fun _ h =>
  bndV (qLd h (some 21) [x2]) fun x900000 =>
  ret1 x900000 h)
noncomputable def f180_2 (x0 : V) (x2 : V) (x3 : V) (h : HT) : Option J := bndV (kFa 0 [x3]) fun x10 =>
  bndV (qLd h none [x10]) fun x11 =>
  bndV (kBin .neq [x11, (.int .i64 (.ofNat (nat_lit 0)))]) fun x12 =>
  bndJ ((f180_0 x0 x2 x3 x12 h))
  fun j vs h => unc vs fun x0 vs =>
  unc vs fun x2 vs =>
  unc vs fun x3 vs =>
  bndC (f166 [x0] h) fun x26 h =>
  bndV (kBin .eql [x26, (.int .i64 (.ofNat (nat_lit 0)))]) fun x27 =>
  bndC (gsel x27 true (retV (qLd h (some 21) [x3]) h) h) fun x29 h =>
  bndC (gsel x27 true (f130 [x29] h) h) fun x30 h =>
  bndC (gsel x27 true (retV (kUn .not [x30]) h) h) fun x31 h =>
  bndV (kPick [x27, x31, (.bool false)]) fun x32 =>
  (f180_1 x0 x2 x3 x32 h)
noncomputable def f180 (vs : List V) (h : HT) : Option J := unc vs fun x0 vs =>
  bndN (kAlloc [(.int .i64 (.ofNat (nat_lit 0))), (.int .i64 (.ofNat (nat_lit 0))), (.int .i64 (.ofNat (nat_lit 0))), (.int .i64 (.ofNat (nat_lit 0))), (.int .i64 (.ofNat (nat_lit 0))), (.int .i64 (.ofNat (nat_lit 0))), (.int .i64 (.ofNat (nat_lit 0))), (.int .i64 (.ofNat (nat_lit 0))), (.str (sb [])), (.str (sb [])), (.str (sb [])), (.str (sb [])), (.int .i64 (.ofNat (nat_lit 0))), (.int .i64 (.ofNat (nat_lit 0))), (.int .i64 (.ofNat (nat_lit 0))), (.int .i64 (.ofNat (nat_lit 0))), (.int .i64 (.ofNat (nat_lit 0))), (.int .i64 (.ofNat (nat_lit 0))), (.int .i64 (.ofNat (nat_lit 0))), (.int .i64 (.ofNat (nat_lit 0))), (.bool false)] []) h fun x2 h =>
  bndC (f97 [x0] h) fun x5 h =>
  bndV (kBld [(.int .i64 (.ofNat (nat_lit 0))), (.int .i64 (.ofNat (nat_lit 0))), (.int .i64 (.ofNat (nat_lit 0))), (.int .i64 (.ofNat (nat_lit 0))), (.int .i64 (.ofNat (nat_lit 0))), (.int .i64 (.ofNat (nat_lit 0))), (.int .i64 (.ofNat (nat_lit 0))), (.int .i64 (.ofNat (nat_lit 0))), (.str (sb [])), (.str (sb [])), (.str (sb [])), (.str (sb [])), (.int .i64 (.ofNat (nat_lit 0))), (.int .i64 (.ofNat (nat_lit 0))), (.int .i64 (.ofNat (nat_lit 0))), (.int .i64 (.ofNat (nat_lit 0))), (.int .i64 (.ofNat (nat_lit 0))), (.int .i64 (.ofNat (nat_lit 0))), (.int .i64 (.ofNat (nat_lit 0))), (.int .i64 (.ofNat (nat_lit 0))), (.bool false)] [(0, 1)] [x5]) fun x6 =>
  bndN (kAlloc [(.int .i64 (.ofNat (nat_lit 0))), (.int .i64 (.ofNat (nat_lit 0))), (.int .i64 (.ofNat (nat_lit 0))), (.int .i64 (.ofNat (nat_lit 0))), (.int .i64 (.ofNat (nat_lit 0))), (.int .i64 (.ofNat (nat_lit 0))), (.int .i64 (.ofNat (nat_lit 0))), (.int .i64 (.ofNat (nat_lit 0))), (.str (sb [])), (.str (sb [])), (.str (sb [])), (.str (sb [])), (.int .i64 (.ofNat (nat_lit 0))), (.int .i64 (.ofNat (nat_lit 0))), (.int .i64 (.ofNat (nat_lit 0))), (.int .i64 (.ofNat (nat_lit 0))), (.int .i64 (.ofNat (nat_lit 0))), (.int .i64 (.ofNat (nat_lit 0))), (.int .i64 (.ofNat (nat_lit 0))), (.int .i64 (.ofNat (nat_lit 0))), (.bool false)] []) h fun x3 h =>
  bndE (dSt h 21 [x3, x6]) h fun _ h =>
  bndC (f243 [x0] h) fun x8 h =>
  bndV (kFa 1 [x3]) fun x9 =>
  bndE (dSt h 2 [x9, x8]) h fun _ h =>
  (f180_2 x0 x2 x3 h)
def a180 : List Ann := [.join [(.normal, [0, 2, 3])], .join [(.normal, [0, 2, 3])], .no]
theorem e180 : f180 = evFun Tryz.prog 180 1 a180 t180 := by kernel_rfl
theorem o180 : FnOk Tryz.prog 180 f180 := .of hmO (show enters Tryz.prog 180 = true by kernel_rfl) e180 (.cons o97 (.cons o130 (.cons o166 (.cons o239 (.cons o243 (.cons o244 (.cons o245 (.nil))))))))

/- concord/log.Replay -/
noncomputable def l103 : List (Nat × (List V → HT → Option J)) := [(96, f96), (97, f97), (98, f98), (128, f128), (180, f180)]
noncomputable def t103 : Fns := tab l103
noncomputable def f103_0 (x2 : V) (x3 : V) (x6 : V) (x7 : V) (x28 : V) (h : HT) : Option J := tstv x28 (bndV (kBld [(.int .i64 (.ofNat (nat_lit 0))), (.int .i64 (.ofNat (nat_lit 0)))] [] []) fun x29 =>
  bndV (kBld [(.int .i64 (.ofNat (nat_lit 0))), (.int .i64 (.ofNat (nat_lit 0))), (.int .i64 (.ofNat (nat_lit 0))), (.int .i64 (.ofNat (nat_lit 0))), (.int .i64 (.ofNat (nat_lit 0))), (.int .i64 (.ofNat (nat_lit 0))), (.int .i64 (.ofNat (nat_lit 0))), (.int .i64 (.ofNat (nat_lit 0))), (.str (sb [])), (.str (sb [])), (.str (sb [])), (.str (sb [])), (.int .i64 (.ofNat (nat_lit 0))), (.int .i64 (.ofNat (nat_lit 0))), (.int .i64 (.ofNat (nat_lit 0))), (.int .i64 (.ofNat (nat_lit 0))), (.int .i64 (.ofNat (nat_lit 0))), (.int .i64 (.ofNat (nat_lit 0))), (.int .i64 (.ofNat (nat_lit 0))), (.int .i64 (.ofNat (nat_lit 0))), (.bool false)] [] []) fun x30 =>
  bndE (dSt h 2 [x2, x29]) h fun _ h =>
  bndE (dSt h 21 [x3, x30]) h fun _ h =>
  bndV (qLd h (some 2) [x2]) fun x900000 =>
  bndV (qLd h (some 21) [x3]) fun x900001 =>
  ret1 (.tuple [x900000, x900001, (.int .i64 (.ofNat (nat_lit 4)))]) h)
  (bndV (qLd h (some 2) [x6]) fun x31 =>
  bndV (qLd h (some 21) [x7]) fun x32 =>
  bndE (dSt h 2 [x2, x31]) h fun _ h =>
  chk1 (sameE (qLd h (some 21) [x7]) x32) (bndE (dSt h 21 [x3, x32]) h fun _ h =>
  bndV (qLd h (some 2) [x2]) fun x900000 =>
  bndV (qLd h (some 21) [x3]) fun x900001 =>
  ret1 (.tuple [x900000, x900001, (.int .i64 (.ofNat (nat_lit 0)))]) h))
noncomputable def f103_1 (x2 : V) (x3 : V) (x6 : V) (x7 : V) (x10 : V) (x18 : V) (h : HT) : Option J := bndE (dSt h 21 [x7, x18]) h fun _ h =>
  bndC (f98 [x10] h) fun x20 h =>
  bndV (kBin .neq [x20, (.int .i64 (.ofNat (nat_lit 0)))]) fun x22 =>
  tstv x22 (bndV (kBld [(.int .i64 (.ofNat (nat_lit 0))), (.int .i64 (.ofNat (nat_lit 0)))] [] []) fun x23 =>
  bndV (kBld [(.int .i64 (.ofNat (nat_lit 0))), (.int .i64 (.ofNat (nat_lit 0))), (.int .i64 (.ofNat (nat_lit 0))), (.int .i64 (.ofNat (nat_lit 0))), (.int .i64 (.ofNat (nat_lit 0))), (.int .i64 (.ofNat (nat_lit 0))), (.int .i64 (.ofNat (nat_lit 0))), (.int .i64 (.ofNat (nat_lit 0))), (.str (sb [])), (.str (sb [])), (.str (sb [])), (.str (sb [])), (.int .i64 (.ofNat (nat_lit 0))), (.int .i64 (.ofNat (nat_lit 0))), (.int .i64 (.ofNat (nat_lit 0))), (.int .i64 (.ofNat (nat_lit 0))), (.int .i64 (.ofNat (nat_lit 0))), (.int .i64 (.ofNat (nat_lit 0))), (.int .i64 (.ofNat (nat_lit 0))), (.int .i64 (.ofNat (nat_lit 0))), (.bool false)] [] []) fun x24 =>
  bndE (dSt h 2 [x2, x23]) h fun _ h =>
  bndE (dSt h 21 [x3, x24]) h fun _ h =>
  bndV (qLd h (some 2) [x2]) fun x900000 =>
  bndV (qLd h (some 21) [x3]) fun x900001 =>
  ret1 (.tuple [x900000, x900001, x20]) h)
  (bndV (qLd h (some 2) [x6]) fun x26 =>
  bndC (f128 [x26] h) fun x27 h =>
  bndV (kUn .not [x27]) fun x28 =>
  (f103_0 x2 x3 x6 x7 x28 h))
noncomputable def f103 (vs : List V) (h : HT) : Option J := unc vs fun x0 vs =>
  bndN (kAlloc [(.int .i64 (.ofNat (nat_lit 0))), (.int .i64 (.ofNat (nat_lit 0)))] []) h fun x2 h =>
  bndN (kAlloc [(.int .i64 (.ofNat (nat_lit 0))), (.int .i64 (.ofNat (nat_lit 0))), (.int .i64 (.ofNat (nat_lit 0))), (.int .i64 (.ofNat (nat_lit 0))), (.int .i64 (.ofNat (nat_lit 0))), (.int .i64 (.ofNat (nat_lit 0))), (.int .i64 (.ofNat (nat_lit 0))), (.int .i64 (.ofNat (nat_lit 0))), (.str (sb [])), (.str (sb [])), (.str (sb [])), (.str (sb [])), (.int .i64 (.ofNat (nat_lit 0))), (.int .i64 (.ofNat (nat_lit 0))), (.int .i64 (.ofNat (nat_lit 0))), (.int .i64 (.ofNat (nat_lit 0))), (.int .i64 (.ofNat (nat_lit 0))), (.int .i64 (.ofNat (nat_lit 0))), (.int .i64 (.ofNat (nat_lit 0))), (.int .i64 (.ofNat (nat_lit 0))), (.bool false)] []) h fun x3 h =>
  bndC (f96 [x0] h) fun x10 h =>
  bndN (kAlloc [(.int .i64 (.ofNat (nat_lit 0))), (.int .i64 (.ofNat (nat_lit 0)))] []) h fun x6 h =>
  bndC (f97 [x10] h) fun x12 h =>
  bndV (kFa 0 [x6]) fun x13 =>
  bndE (dSt h 1 [x13, x12]) h fun _ h =>
  bndC (f97 [x10] h) fun x15 h =>
  bndV (kFa 1 [x6]) fun x16 =>
  bndE (dSt h 1 [x16, x15]) h fun _ h =>
  bndC (f180 [x10] h) fun x18 h =>
  bndN (kAlloc [(.int .i64 (.ofNat (nat_lit 0))), (.int .i64 (.ofNat (nat_lit 0))), (.int .i64 (.ofNat (nat_lit 0))), (.int .i64 (.ofNat (nat_lit 0))), (.int .i64 (.ofNat (nat_lit 0))), (.int .i64 (.ofNat (nat_lit 0))), (.int .i64 (.ofNat (nat_lit 0))), (.int .i64 (.ofNat (nat_lit 0))), (.str (sb [])), (.str (sb [])), (.str (sb [])), (.str (sb [])), (.int .i64 (.ofNat (nat_lit 0))), (.int .i64 (.ofNat (nat_lit 0))), (.int .i64 (.ofNat (nat_lit 0))), (.int .i64 (.ofNat (nat_lit 0))), (.int .i64 (.ofNat (nat_lit 0))), (.int .i64 (.ofNat (nat_lit 0))), (.int .i64 (.ofNat (nat_lit 0))), (.int .i64 (.ofNat (nat_lit 0))), (.bool false)] []) h fun x7 h =>
  (f103_1 x2 x3 x6 x7 x10 x18 h)
def a103 : List Ann := [.no, .no]
theorem e103 : f103 = evFun Tryz.prog 103 1 a103 t103 := by kernel_rfl
theorem o103 : FnOk Tryz.prog 103 f103 := .of hmO (show enters Tryz.prog 103 = true by kernel_rfl) e103 (.cons o96 (.cons o97 (.cons o98 (.cons o128 (.cons o180 (.nil))))))

/- (*concord/log.Log).Gone -/
noncomputable def l134 : List (Nat × (List V → HT → Option J)) := [(128, f128)]
noncomputable def t134 : Fns := tab l134
noncomputable def f134_0 (x0 : V) (x1 : V) (h : HT) : Option J := bndN (kBox [x1]) h fun x3 h =>
  bndV (qLd h (some 2) [x3]) fun x5 =>
  bndC (f128 [x5] h) fun x6 h =>
  bndC (gsel x6 true (retV (kFa 1 [x3]) h) h) fun x8 h =>
  bndC (gsel x6 true (retV (qLd h none [x8]) h) h) fun x9 h =>
  bndC (gsel x6 true (retV (kMov [x0]) h) h) fun x10 h =>
  bndC (gsel x6 true (retV (kFa 0 [x3]) h) h) fun x11 h =>
  bndC (gsel x6 true (retV (qLd h none [x11]) h) h) fun x12 h =>
  bndC (gsel x6 true (retV (kNilc [x10]) h) h) fun x13 h =>
  bndC (gsel x6 true (retV (kFa 1 [x13]) h) h) fun x14 h =>
  bndC (gsel x6 true (retV (kIaA 7 1 [x14, x12]) h) h) fun x15 h =>
  bndC (gsel x6 true (retV (qLd h none [x15]) h) h) fun x16 h =>
  bndC (gsel x6 true (retV (kBin .leq [x9, x16]) h) h) fun x17 h =>
  bndV (kPick [x6, x17, (.bool false)]) fun x18 =>
  ret1 x18 h
noncomputable def f134 (vs : List V) (h : HT) : Option J := unc vs fun x0 vs =>
  unc vs fun x1 vs =>
  (f134_0 x0 x1 h)
def a134 : List Ann := []
theorem e134 : f134 = evFun Tryz.prog 134 2 a134 t134 := by kernel_rfl
theorem o134 : FnOk Tryz.prog 134 f134 := .of hmO (show enters Tryz.prog 134 = true by kernel_rfl) e134 (.cons o128 (.nil))

/- concord/log.may -/
noncomputable def l181 : List (Nat × (List V → HT → Option J)) := [(204, f204)]
noncomputable def t181 : Fns := tab l181
noncomputable def f181_0 (x2 : V) (x3 : V) (x31 : V) (x37 : V) (h : HT) : Option J := bndV (kPick [x31, (.bool true), x37]) fun x38 =>
  tstv x38 (ret1 (.bool false) h)
  (bndV (kFa 0 [x3]) fun x39 =>
  bndV (qLd h none [x39]) fun x40 =>
  bndV (kFa 0 [x2]) fun x41 =>
  bndV (qLd h none [x41]) fun x42 =>
  bndV (kBin .geq [x40, x42]) fun x43 =>
  bndC (gsel x43 false (retV (kFa 3 [x3]) h) h) fun x45 h =>
  bndC (gsel x43 false (retV (qLd h (some 2) [x45]) h) h) fun x46 h =>
  bndC (gsel x43 false (retV (kFa 3 [x2]) h) h) fun x47 h =>
  bndC (gsel x43 false (retV (qLd h (some 2) [x47]) h) h) fun x48 h =>
  bndC (gsel x43 false (retV (kEqF true [.i, .i] [x46, x48]) h) h) fun x49 h =>
  bndV (kPick [x43, (.bool true), x49]) fun x50 =>
  ret1 x50 h)
noncomputable def f181_1 (x2 : V) (x3 : V) (x7 : V) (x19 : V) (x24 : V) (h : HT) : Option J := bndC (gsel x7 true (retV (kPick [x19, (.bool true), x24]) h) h) fun x25 h =>
  bndV (kPick [x7, x25, (.bool false)]) fun x26 =>
  tstv x26 (ret1 (.bool false) h)
  (bndV (kFa 1 [x3]) fun x27 =>
  bndV (qLd h (some 2) [x27]) fun x28 =>
  bndV (kFa 1 [x2]) fun x29 =>
  bndV (qLd h (some 2) [x29]) fun x30 =>
  bndC (f204 [x28, x30] h) fun x31 h =>
  bndC (gsel x31 false (retV (kFa 3 [x3]) h) h) fun x33 h =>
  bndC (gsel x31 false (retV (qLd h (some 2) [x33]) h) h) fun x34 h =>
  bndC (gsel x31 false (retV (kFa 3 [x2]) h) h) fun x35 h =>
  bndC (gsel x31 false (retV (qLd h (some 2) [x35]) h) h) fun x36 h =>
  bndC (gsel x31 false (f204 [x34, x36] h) h) fun x37 h =>
  (f181_0 x2 x3 x31 x37 h))
noncomputable def f181_2 (x2 : V) (x3 : V) (x7 : V) (x10 : V) (h : HT) : Option J := bndC (gsel x7 true (retV (kBin .neq [x10, (.int .i64 (.ofNat (nat_lit 3)))]) h) h) fun x11 h =>
  bndC (gsel x7 true (retV (kMov [x11]) h) h) fun x12 h =>
  bndC (gsel x12 false (retV (kFa 5 [x3]) h) h) fun x13 h =>
  bndC (gsel x12 false (retV (qLd h (some 7) [x13]) h) h) fun x14 h =>
  bndC (gsel x12 false (retV (kFa 5 [x2]) h) h) fun x15 h =>
  bndC (gsel x12 false (retV (qLd h (some 7) [x15]) h) h) fun x16 h =>
  bndC (gsel x12 false (retV (kEqF true [.i, .i, .i, .s, .s, .s, .s] [x14, x16]) h) h) fun x17 h =>
  bndC (gsel x7 true (retV (kPick [x12, (.bool true), x17]) h) h) fun x18 h =>
  bndC (gsel x7 true (retV (kMov [x18]) h) h) fun x19 h =>
  bndC (gsel x19 false (retV (kFa 12 [x3]) h) h) fun x20 h =>
  bndC (gsel x19 false (retV (qLd h (some 8) [x20]) h) h) fun x21 h =>
  bndC (gsel x19 false (retV (kFa 12 [x2]) h) h) fun x22 h =>
  bndC (gsel x19 false (retV (qLd h (some 8) [x22]) h) h) fun x23 h =>
  bndC (gsel x19 false (retV (kEqF true [.i, .i, .i, .i, .i, .i, .i, .i] [x21, x23]) h) h) fun x24 h =>
  (f181_1 x2 x3 x7 x19 x24 h)
noncomputable def f181 (vs : List V) (h : HT) : Option J := unc vs fun x0 vs =>
  unc vs fun x1 vs =>
  bndN (kBox [x0]) h fun x2 h =>
  bndN (kBox [x1]) h fun x3 h =>
  bndV (kFa 0 [x2]) fun x5 =>
  bndV (qLd h none [x5]) fun x6 =>
  bndV (kBin .eql [x6, (.int .i64 (.ofNat (nat_lit 3)))]) fun x7 =>
  bndC (gsel x7 true (retV (kFa 0 [x3]) h) h) fun x9 h =>
  bndC (gsel x7 true (retV (qLd h none [x9]) h) h) fun x10 h =>
  (f181_2 x2 x3 x7 x10 h)
def a181 : List Ann := [.no, .no]
theorem e181 : f181 = evFun Tryz.prog 181 2 a181 t181 := by kernel_rfl
theorem o181 : FnOk Tryz.prog 181 f181 := .of hmO (show enters Tryz.prog 181 = true by kernel_rfl) e181 (.cons o204 (.nil))

/- (*concord/log.Log).Set -/
noncomputable def l104 : List (Nat × (List V → HT → Option J)) := [(128, f128), (130, f130), (134, f134), (181, f181)]
noncomputable def t104 : Fns := tab l104
noncomputable def f104_0 (x0 : V) (x4 : V) (x5 : V) (x7 : V) (x29 : V) (x30 : V) (h : HT) : Option J := bndE (dSt h 21 [x7, x29]) h fun _ h =>
  bndC (gsel x30 true (retV (qLd h (some 21) [x7]) h) h) fun x33 h =>
  bndC (gsel x30 true (retV (qLd h (some 21) [x5]) h) h) fun x34 h =>
  bndC (gsel x30 true (f181 [x33, x34] h) h) fun x35 h =>
  bndC (gsel x30 true (retV (kUn .not [x35]) h) h) fun x36 h =>
  bndV (kPick [x30, x36, (.bool false)]) fun x37 =>
  tstv x37 (ret1 (.bool false) h)
  (bndV (kNilc [x0]) fun x39 =>
  bndV (kFa 0 [x39]) fun x40 =>
  bndV (qLd h none [x40]) fun x41 =>
  bndV (qLd h (some 2) [x4]) fun x42 =>
  bndV (qLd h (some 21) [x5]) fun x43 =>
  bndE (dMset h true [.i, .i] [x41, x42, x43]) h fun _ h =>
  ret1 (.bool true) h)
noncomputable def f104_1 (x0 : V) (x4 : V) (x5 : V) (x16 : V) (h : HT) : Option J := bndC (gsel x16 false (retV (qLd h (some 21) [x5]) h) h) fun x18 h =>
  bndC (gsel x16 false (f130 [x18] h) h) fun x19 h =>
  bndC (gsel x16 false (retV (kUn .not [x19]) h) h) fun x20 h =>
  bndV (kPick [x16, (.bool true), x20]) fun x21 =>
  tstv x21 (ret1 (.bool false) h)
  (bndV (kNilc [x0]) fun x24 =>
  bndV (kFa 0 [x24]) fun x25 =>
  bndV (qLd h none [x25]) fun x26 =>
  bndV (qLd h (some 2) [x4]) fun x27 =>
  bndV (kLkp h.heap true [.i, .i] (.agg [(.int .i64 (.ofNat (nat_lit 0))), (.int .i64 (.ofNat (nat_lit 0))), (.int .i64 (.ofNat (nat_lit 0))), (.int .i64 (.ofNat (nat_lit 0))), (.int .i64 (.ofNat (nat_lit 0))), (.int .i64 (.ofNat (nat_lit 0))), (.int .i64 (.ofNat (nat_lit 0))), (.int .i64 (.ofNat (nat_lit 0))), (.str (sb [])), (.str (sb [])), (.str (sb [])), (.str (sb [])), (.int .i64 (.ofNat (nat_lit 0))), (.int .i64 (.ofNat (nat_lit 0))), (.int .i64 (.ofNat (nat_lit 0))), (.int .i64 (.ofNat (nat_lit 0))), (.int .i64 (.ofNat (nat_lit 0))), (.int .i64 (.ofNat (nat_lit 0))), (.int .i64 (.ofNat (nat_lit 0))), (.int .i64 (.ofNat (nat_lit 0))), (.bool false)]) true [x26, x27]) fun x28 =>
  bndV (kExt 0 [x28]) fun x29 =>
  bndV (kExt 1 [x28]) fun x30 =>
  bndN (kAlloc [(.int .i64 (.ofNat (nat_lit 0))), (.int .i64 (.ofNat (nat_lit 0))), (.int .i64 (.ofNat (nat_lit 0))), (.int .i64 (.ofNat (nat_lit 0))), (.int .i64 (.ofNat (nat_lit 0))), (.int .i64 (.ofNat (nat_lit 0))), (.int .i64 (.ofNat (nat_lit 0))), (.int .i64 (.ofNat (nat_lit 0))), (.str (sb [])), (.str (sb [])), (.str (sb [])), (.str (sb [])), (.int .i64 (.ofNat (nat_lit 0))), (.int .i64 (.ofNat (nat_lit 0))), (.int .i64 (.ofNat (nat_lit 0))), (.int .i64 (.ofNat (nat_lit 0))), (.int .i64 (.ofNat (nat_lit 0))), (.int .i64 (.ofNat (nat_lit 0))), (.int .i64 (.ofNat (nat_lit 0))), (.int .i64 (.ofNat (nat_lit 0))), (.bool false)] []) h fun x7 h =>
  (f104_0 x0 x4 x5 x7 x29 x30 h))
noncomputable def f104 (vs : List V) (h : HT) : Option J := unc vs fun x0 vs =>
  unc vs fun x1 vs =>
  unc vs fun x2 vs =>
  bndN (kBox [x1]) h fun x4 h =>
  bndN (kBox [x2]) h fun x5 h =>
  bndV (qLd h (some 2) [x4]) fun x9 =>
  bndC (f128 [x9] h) fun x10 h =>
  bndV (kUn .not [x10]) fun x11 =>
  bndC (gsel x11 false (retV (kMov [x0]) h) h) fun x13 h =>
  bndC (gsel x11 false (retV (qLd h (some 2) [x4]) h) h) fun x14 h =>
  bndC (gsel x11 false (f134 [x13, x14] h) h) fun x15 h =>
  bndV (kPick [x11, (.bool true), x15]) fun x16 =>
  (f104_1 x0 x4 x5 x16 h)
def a104 : List Ann := [.no, .no]
theorem e104 : f104 = evFun Tryz.prog 104 3 a104 t104 := by kernel_rfl
theorem o104 : FnOk Tryz.prog 104 f104 := .of hmO (show enters Tryz.prog 104 = true by kernel_rfl) e104 (.cons o128 (.cons o130 (.cons o134 (.cons o181 (.nil)))))

/- (*concord/interf.Index).Note -/
noncomputable def l182 : List (Nat × (List V → HT → Option J)) := [(40, f40), (128, f128)]
noncomputable def t182 : Fns := tab l182
noncomputable def f182_0 (x0 : V) (x3 : V) (x5 : V) (x6 : V) (x28 : V) (x30 : V) (h : HT) : Option J := bndC (gsel x28 false (retV (kBin .lss [x30, (.int .i64 (.ofNat (nat_lit 0)))]) h) h) fun x31 h =>
  bndV (kPick [x28, (.bool true), x31]) fun x32 =>
  bndC (gsel x32 false (retV (kMov [x3]) h) h) fun x34 h =>
  bndC (gsel x32 false (retV (kBin .gtr [x34, (.int .i64 (.ofNat (nat_lit 1099511627776)))]) h) h) fun x35 h =>
  bndV (kPick [x32, (.bool true), x35]) fun x36 =>
  tstv x36 (ret1 (.bool false) h)
  (bndV (kNilc [x0]) fun x38 =>
  bndV (kFa 0 [x38]) fun x39 =>
  bndV (qLd h none [x39]) fun x40 =>
  bndV (qLd h (some 2) [x5]) fun x41 =>
  bndV (qLd h (some 7) [x6]) fun x42 =>
  bndV (kBld [(.int .i64 (.ofNat (nat_lit 0))), (.int .i64 (.ofNat (nat_lit 0))), (.int .i64 (.ofNat (nat_lit 0))), (.str (sb [])), (.str (sb [])), (.str (sb [])), (.str (sb [])), (.int .i64 (.ofNat (nat_lit 0)))] [(0, 7), (7, 1)] [x42, x3]) fun x44 =>
  bndE (dMset h true [.i, .i] [x40, x41, x44]) h fun _ h =>
  ret1 (.bool true) h)
noncomputable def f182_1 (x0 : V) (x3 : V) (x5 : V) (x6 : V) (x11 : V) (x14 : V) (h : HT) : Option J := bndC (gsel x11 false (retV (kMov [x0]) h) h) fun x15 h =>
  bndC (gsel x11 false (retV (kFa 0 [x5]) h) h) fun x16 h =>
  bndC (gsel x11 false (retV (qLd h none [x16]) h) h) fun x17 h =>
  bndC (gsel x11 false (retV (kNilc [x15]) h) h) fun x18 h =>
  bndC (gsel x11 false (retV (kFa 1 [x18]) h) h) fun x19 h =>
  bndC (gsel x11 false (retV (kIaA 7 1 [x19, x17]) h) h) fun x20 h =>
  bndC (gsel x11 false (retV (qLd h none [x20]) h) h) fun x21 h =>
  bndC (gsel x11 false (retV (kBin .leq [x14, x21]) h) h) fun x22 h =>
  bndV (kPick [x11, (.bool true), x22]) fun x23 =>
  bndC (gsel x23 false (retV (qLd h (some 7) [x6]) h) h) fun x25 h =>
  bndC (gsel x23 false (f40 [x25] h) h) fun x26 h =>
  bndC (gsel x23 false (retV (kUn .not [x26]) h) h) fun x27 h =>
  bndV (kPick [x23, (.bool true), x27]) fun x28 =>
  bndC (gsel x28 false (retV (kMov [x3]) h) h) fun x30 h =>
  (f182_0 x0 x3 x5 x6 x28 x30 h)
noncomputable def f182 (vs : List V) (h : HT) : Option J := unc vs fun x0 vs =>
  unc vs fun x1 vs =>
  unc vs fun x2 vs =>
  unc vs fun x3 vs =>
  bndN (kBox [x1]) h fun x5 h =>
  bndN (kBox [x2]) h fun x6 h =>
  bndV (qLd h (some 2) [x5]) fun x9 =>
  bndC (f128 [x9] h) fun x10 h =>
  bndV (kUn .not [x10]) fun x11 =>
  bndC (gsel x11 false (retV (kFa 1 [x5]) h) h) fun x13 h =>
  bndC (gsel x11 false (retV (qLd h none [x13]) h) h) fun x14 h =>
  (f182_1 x0 x3 x5 x6 x11 x14 h)
def a182 : List Ann := [.no]
theorem e182 : f182 = evFun Tryz.prog 182 4 a182 t182 := by kernel_rfl
theorem o182 : FnOk Tryz.prog 182 f182 := .of hmO (show enters Tryz.prog 182 = true by kernel_rfl) e182 (.cons o40 (.cons o128 (.nil)))

/- (*concord/core.Core).note -/
noncomputable def l105 : List (Nat × (List V → HT → Option J)) := [(182, f182)]
noncomputable def t105 : Fns := tab l105
noncomputable def f105_0 (x0 : V) (x4 : V) (x5 : V) (x6 : V) (h : HT) : Option J := bndV (qLd h none [x6]) fun x7 =>
  bndV (kBin .neq [x7, (.int .i64 (.ofNat (nat_lit 0)))]) fun x8 =>
  tstv x8 (bndV (kNilc [x0]) fun x10 =>
  bndV (kFa 3 [x10]) fun x11 =>
  bndV (qLd h none [x11]) fun x12 =>
  bndV (qLd h (some 2) [x4]) fun x13 =>
  bndV (kFa 5 [x5]) fun x14 =>
  bndV (qLd h (some 7) [x14]) fun x15 =>
  bndV (kFa 12 [x5]) fun x16 =>
  bndV (kFa 0 [x16]) fun x17 =>
  bndV (qLd h none [x17]) fun x18 =>
  bndC (f182 [x12, x13, x15, x18] h) fun x19 h =>
  ret1 (.tuple []) h)
  (ret1 (.tuple []) h)
noncomputable def f105 (vs : List V) (h : HT) : Option J := unc vs fun x0 vs =>
  unc vs fun x1 vs =>
  unc vs fun x2 vs =>
  bndN (kBox [x1]) h fun x4 h =>
  bndN (kBox [x2]) h fun x5 h =>
  bndV (kFa 0 [x5]) fun x6 =>
  (f105_0 x0 x4 x5 x6 h)
def a105 : List Ann := [.no]
theorem e105 : f105 = evFun Tryz.prog 105 3 a105 t105 := by kernel_rfl
theorem o105 : FnOk Tryz.prog 105 f105 := .of hmO (show enters Tryz.prog 105 = true by kernel_rfl) e105 (.cons o182 (.nil))

/- concord/core.New -/
noncomputable def l34 : List (Nat × (List V → HT → Option J)) := [(29, f29), (99, f99), (100, f100), (101, f101), (102, f102), (103, f103), (104, f104), (105, f105)]
noncomputable def t34 : Fns := tab l34
noncomputable def f34_0 (rc : List V → HT → Option J) (x10 : V) (x13 : V) (x14 : V) (x47 : V) (x48 : V) (x49 : V) (x60 : V) (x65 : V) (x66 : V) (x67 : V) (h : HT) : Option J := bndC (gsel x60 true (f104 [x65, x66, x67] h) h) fun x68 h =>
  bndV (kPick [x60, x68, (.bool false)]) fun x69 =>
  bndJ (tstv x69 (bndV (qLd h (some 2) [x13]) fun x71 =>
  bndV (qLd h (some 21) [x14]) fun x72 =>
  bndC (f105 [x10, x71, x72] h) fun x73 h =>
  some ⟨0, [x10, x47, x48, x49], h⟩)
  (some ⟨0, [x10, x47, x48, x49], h⟩))
  fun j vs h => unc vs fun x10 vs =>
  unc vs fun x47 vs =>
  unc vs fun x48 vs =>
  unc vs fun x49 vs =>
  bndV (kBin .add [x49, (.int .i64 (.ofNat (nat_lit 1)))]) fun x74 =>
  rc [x10, x47, x48, x74] h
noncomputable def f34_1 (rc : List V → HT → Option J) (x10 : V) (x47 : V) (x48 : V) (x49 : V) (x55 : V) (h : HT) : Option J := bndV (kExt 0 [x55]) fun x56 =>
  bndV (kExt 1 [x55]) fun x57 =>
  bndV (kExt 2 [x55]) fun x58 =>
  bndN (kAlloc [(.int .i64 (.ofNat (nat_lit 0))), (.int .i64 (.ofNat (nat_lit 0)))] []) h fun x13 h =>
  bndN (kAlloc [(.int .i64 (.ofNat (nat_lit 0))), (.int .i64 (.ofNat (nat_lit 0))), (.int .i64 (.ofNat (nat_lit 0))), (.int .i64 (.ofNat (nat_lit 0))), (.int .i64 (.ofNat (nat_lit 0))), (.int .i64 (.ofNat (nat_lit 0))), (.int .i64 (.ofNat (nat_lit 0))), (.int .i64 (.ofNat (nat_lit 0))), (.str (sb [])), (.str (sb [])), (.str (sb [])), (.str (sb [])), (.int .i64 (.ofNat (nat_lit 0))), (.int .i64 (.ofNat (nat_lit 0))), (.int .i64 (.ofNat (nat_lit 0))), (.int .i64 (.ofNat (nat_lit 0))), (.int .i64 (.ofNat (nat_lit 0))), (.int .i64 (.ofNat (nat_lit 0))), (.int .i64 (.ofNat (nat_lit 0))), (.int .i64 (.ofNat (nat_lit 0))), (.bool false)] []) h fun x14 h =>
  bndE (dSt h 2 [x13, x56]) h fun _ h =>
  bndE (dSt h 21 [x14, x57]) h fun _ h =>
  bndV (kBin .eql [x58, (.int .i64 (.ofNat (nat_lit 0)))]) fun x60 =>
  bndC (gsel x60 true (retV (kMov [x10]) h) h) fun x62 h =>
  bndC (gsel x60 true (retV (kNilc [x62]) h) h) fun x63 h =>
  bndC (gsel x60 true (retV (kFa 2 [x63]) h) h) fun x64 h =>
  bndC (gsel x60 true (retV (qLd h none [x64]) h) h) fun x65 h =>
  bndC (gsel x60 true (retV (qLd h (some 2) [x13]) h) h) fun x66 h =>
  bndC (gsel x60 true (retV (qLd h (some 21) [x14]) h) h) fun x67 h =>
  (f34_0 rc x10 x13 x14 x47 x48 x49 x60 x65 x66 x67 h)
noncomputable def f34_2 (x3 : V) (x40 : V) (x48 : V) (h : HT) : Option J := bndJ (loopF (fun rc vs h => unc vs fun x10 vs =>
  unc vs fun x47 vs =>
  unc vs fun x48 vs =>
  unc vs fun x49 vs =>
  bndV (kBin .lss [x49, x48]) fun x50 =>
  tstv x50 (bndV (kIaS 1 [x47, x49]) fun x51 =>
  bndV (qLd h none [x51]) fun x52 =>
  bndC (f103 [x52] h) fun x55 h =>
  (f34_1 rc x10 x47 x48 x49 x55 h))
  (some ⟨0, [x10], h⟩)) 1000000 [x40, x3, x48, (.int .i64 (.ofNat (nat_lit 0)))] h)
  fun j vs h => unc vs fun x10 vs =>
  ret1 (.tuple [x10, (.int .i64 (.ofNat (nat_lit 0)))]) h
noncomputable def f34_3 (x0 : V) (x1 : V) (x3 : V) (x6 : V) (x27 : V) (x32 : V) (h : HT) : Option J := bndV (kPick [x27, (.bool true), x32]) fun x33 =>
  tstv x33 (ret1 (.tuple [(.ptr none), (.int .i64 (.ofNat (nat_lit 1)))]) h)
  (bndV (qLd h (some 7) [x6]) fun x36 =>
  bndC (f100 [x36] h) fun x37 h =>
  bndC (f101 [] h) fun x38 h =>
  bndV (kBld [(.int .i64 (.ofNat (nat_lit 0))), (.int .i64 (.ofNat (nat_lit 0))), (.ptr none), (.ptr none), (.slice none 0 true 0), (.slice none 0 true 0), (.slice none 0 true 0), (.slice none 0 true 0)] [(0, 1), (1, 1), (2, 1), (3, 1)] [x0, x1, x37, x38]) fun x39 =>
  bndN (kBox [x39]) h fun x40 h =>
  bndV (kNilc [x40]) fun x42 =>
  bndV (kFa 3 [x42]) fun x43 =>
  bndV (qLd h none [x43]) fun x44 =>
  bndV (qLd h (some 7) [x6]) fun x45 =>
  bndC (f102 [x44, x45] h) fun x46 h =>
  bndV (kLenS [x3]) fun x48 =>
  (f34_2 x3 x40 x48 h))
noncomputable def f34_4 (x0 : V) (x1 : V) (x2 : V) (x3 : V) (h : HT) : Option J := bndN (kBox [x2]) h fun x6 h =>
  bndC (f29 [x0] h) fun x17 h =>
  bndV (kUn .not [x17]) fun x18 =>
  bndC (gsel x18 false (retV (kMov [x1]) h) h) fun x20 h =>
  bndC (gsel x18 false (retV (kBin .lss [x20, (.int .i64 (.ofNat (nat_lit 0)))]) h) h) fun x21 h =>
  bndV (kPick [x18, (.bool true), x21]) fun x22 =>
  bndC (gsel x22 false (retV (kMov [x1]) h) h) fun x24 h =>
  bndC (gsel x22 false (retV (kMov [x0]) h) h) fun x25 h =>
  bndC (gsel x22 false (retV (kBin .geq [x24, x25]) h) h) fun x26 h =>
  bndV (kPick [x22, (.bool true), x26]) fun x27 =>
  bndC (gsel x27 false (retV (qLd h (some 7) [x6]) h) h) fun x29 h =>
  bndC (gsel x27 false (retV (kBld [(.int .i64 (.ofNat (nat_lit 0))), (.int .i64 (.ofNat (nat_lit 0))), (.int .i64 (.ofNat (nat_lit 0))), (.int .i64 (.ofNat (nat_lit 0))), (.int .i64 (.ofNat (nat_lit 0))), (.int .i64 (.ofNat (nat_lit 0))), (.int .i64 (.ofNat (nat_lit 0))), (.int .i64 (.ofNat (nat_lit 0)))] [(1, 7)] [x29]) h) h) fun x30 h =>
  bndC (gsel x27 false (f99 [x30] h) h) fun x31 h =>
  bndC (gsel x27 false (retV (kUn .not [x31]) h) h) fun x32 h =>
  (f34_3 x0 x1 x3 x6 x27 x32 h)
noncomputable def f34 (vs : List V) (h : HT) : Option J := unc vs fun x0 vs =>
  unc vs fun x1 vs =>
  unc vs fun x2 vs =>
  unc vs fun x3 vs =>
  (f34_4 x0 x1 x2 x3 h)
def a34 : List Ann := [.no, .no, .loop [10, 47, 48, 49] [((.exit 0), [10])], .no, .no, .join [(.normal, [10, 47, 48, 49])]]
theorem e34 : f34 = evFun Tryz.prog 34 4 a34 t34 := by kernel_rfl
theorem o34 : FnOk Tryz.prog 34 f34 := .of hmO (show enters Tryz.prog 34 = true by kernel_rfl) e34 (.cons o29 (.cons o99 (.cons o100 (.cons o101 (.cons o102 (.cons o103 (.cons o104 (.cons o105 (.nil)))))))))

/- (*concord/wal.Wal).Where -/
noncomputable def l35 : List (Nat × (List V → HT → Option J)) := []
noncomputable def t35 : Fns := tab l35

noncomputable def f35 (vs : List V) (h : HT) : Option J := unc vs fun x0 vs =>
  bndV (kNilc [x0]) fun x5 =>
  bndV (kFa 1 [x5]) fun x6 =>
  bndV (kFa 0 [x6]) fun x7 =>
  bndV (qLd h none [x7]) fun x8 =>
  bndV (kNilc [x0]) fun x10 =>
  bndV (kFa 1 [x10]) fun x11 =>
  bndV (kFa 1 [x11]) fun x12 =>
  bndV (qLd h none [x12]) fun x13 =>
  ret1 (.tuple [x8, x13]) h
def a35 : List Ann := []
theorem e35 : f35 = evFun Tryz.prog 35 1 a35 t35 := by kernel_rfl
theorem o35 : FnOk Tryz.prog 35 f35 := .of hmO (show enters Tryz.prog 35 = true by kernel_rfl) e35 (.nil)

/- concord/word.Put -/
noncomputable def l183 : List (Nat × (List V → HT → Option J)) := []
noncomputable def t183 : Fns := tab l183
noncomputable def f183_0 (x2 : V) (x13 : V) (x16 : V) (h : HT) : Option J := bndJ (loopF (fun rc vs h => unc vs fun x2 vs =>
  unc vs fun x7 vs =>
  unc vs fun x16 vs =>
  unc vs fun x17 vs =>
  bndV (kBin .lss [x17, x16]) fun x18 =>
  tstv x18 (bndV (kCvI .u8 [x2]) fun x21 =>
  bndN (kBsl 1 1 [(.int .u8 (.ofNat (nat_lit 0)))] [(0, 1)] [x21]) h fun x22 h =>
  bndE (dApp h 1 1 [x7, x22]) h fun x23 h =>
  bndV (kBin .shr [x2, (.int .u64 (.ofNat (nat_lit 8)))]) fun x25 =>
  bndV (kBin .add [x17, (.int .i64 (.ofNat (nat_lit 1)))]) fun x26 =>
  rc [x25, x23, x16, x26] h)
  (some ⟨0, [x7], h⟩)) 1000000 [x2, x13, x16, (.int .i64 (.ofNat (nat_lit 0)))] h)
  fun j vs h => unc vs fun x7 vs =>
  ret1 x7 h
noncomputable def f183 (vs : List V) (h : HT) : Option J := unc vs fun x0 vs =>
  unc vs fun x1 vs =>
  unc vs fun x2 vs =>
  bndV (kLenS [x0]) fun x9 =>
  bndV (kBin .add [x9, (.int .i64 (.ofNat (nat_lit 8)))]) fun x10 =>
  bndN (kMkS 1 1 [(.int .u8 (.ofNat (nat_lit 0)))] [(.int .i64 (.ofNat (nat_lit 0))), x10]) h fun x11 h =>
  bndE (dApp h 1 1 [x11, x0]) h fun x13 h =>
  bndV (kMaxI [x1, (.int .i64 (.ofNat (nat_lit 0)))]) fun x15 =>
  bndV (kMinI [x15, (.int .i64 (.ofNat (nat_lit 8)))]) fun x16 =>
  (f183_0 x2 x13 x16 h)
def a183 : List Ann := [.no, .loop [2, 7, 16, 17] [((.exit 0), [7])], .no, .no]
theorem e183 : f183 = evFun Tryz.prog 183 3 a183 t183 := by kernel_rfl
theorem o183 : FnOk Tryz.prog 183 f183 := .of hmO (show enters Tryz.prog 183 = true by kernel_rfl) e183 (.nil)

/- concord/frame.Put -/
noncomputable def l107 : List (Nat × (List V → HT → Option J)) := [(165, f165), (183, f183)]
noncomputable def t107 : Fns := tab l107
noncomputable def f107_0 (x1 : V) (x16 : V) (x19 : V) (x21 : V) (h : HT) : Option J := bndC (gsel x19 false (retV (kLenS [x21]) h) h) fun x22 h =>
  bndC (gsel x19 false (retV (kBin .gtr [x22, (.int .i64 (.ofNat (nat_lit 16384)))]) h) h) fun x23 h =>
  bndV (kPick [x19, (.bool true), x23]) fun x24 =>
  tstv x24 (ret1 x16 h)
  (bndV (kLenS [x1]) fun x27 =>
  bndV (kCvI .u64 [x27]) fun x28 =>
  bndC (f183 [(.slice none 0 true 0), (.int .i64 (.ofNat (nat_lit 2))), x28] h) fun x29 h =>
  bndE (dApp h 1 1 [x29, x1]) h fun x31 h =>
  bndE (dApp h 1 1 [x16, x31]) h fun x34 h =>
  bndC (f165 [x31] h) fun x36 h =>
  bndV (kCvI .u64 [x36]) fun x37 =>
  bndC (f183 [(.slice none 0 true 0), (.int .i64 (.ofNat (nat_lit 4))), x37] h) fun x38 h =>
  bndE (dApp h 1 1 [x34, x38]) h fun x39 h =>
  ret1 x39 h)
noncomputable def f107 (vs : List V) (h : HT) : Option J := unc vs fun x0 vs =>
  unc vs fun x1 vs =>
  bndV (kLenS [x0]) fun x8 =>
  bndV (kBin .add [x8, (.int .i64 (.ofNat (nat_lit 2)))]) fun x9 =>
  bndV (kLenS [x1]) fun x11 =>
  bndV (kBin .add [x9, x11]) fun x12 =>
  bndV (kBin .add [x12, (.int .i64 (.ofNat (nat_lit 4)))]) fun x13 =>
  bndN (kMkS 1 1 [(.int .u8 (.ofNat (nat_lit 0)))] [(.int .i64 (.ofNat (nat_lit 0))), x13]) h fun x14 h =>
  bndE (dApp h 1 1 [x14, x0]) h fun x16 h =>
  bndV (kLenS [x1]) fun x18 =>
  bndV (kBin .eql [x18, (.int .i64 (.ofNat (nat_lit 0)))]) fun x19 =>
  bndC (gsel x19 false (retV (kMov [x1]) h) h) fun x21 h =>
  (f107_0 x1 x16 x19 x21 h)
def a107 : List Ann := [.no]
theorem e107 : f107 = evFun Tryz.prog 107 2 a107 t107 := by kernel_rfl
theorem o107 : FnOk Tryz.prog 107 f107 := .of hmO (show enters Tryz.prog 107 = true by kernel_rfl) e107 (.cons o165 (.cons o183 (.nil)))

/- concord/wal.frames -/
noncomputable def l106 : List (Nat × (List V → HT → Option J)) := [(107, f107)]
noncomputable def t106 : Fns := tab l106
noncomputable def f106_0 (rc : List V → HT → Option J) (x0 : V) (x8 : V) (x9 : V) (x10 : V) (x11 : V) (h : HT) : Option J := tstv x11 (bndV (kIaS 1 [x8, x10]) fun x12 =>
  bndV (qLd h none [x12]) fun x13 =>
  bndV (kLenS [x13]) fun x15 =>
  bndV (kBin .eql [x15, (.int .i64 (.ofNat (nat_lit 0)))]) fun x16 =>
  bndC (gsel x16 false (retV (kMov [x13]) h) h) fun x18 h =>
  bndC (gsel x16 false (retV (kLenS [x18]) h) h) fun x19 h =>
  bndC (gsel x16 false (retV (kBin .gtr [x19, (.int .i64 (.ofNat (nat_lit 16384)))]) h) h) fun x20 h =>
  bndV (kPick [x16, (.bool true), x20]) fun x21 =>
  tstv x21 (some ⟨1, [(.slice none 0 true 0), (.bool false)], h⟩)
  (bndC (f107 [x0, x13] h) fun x24 h =>
  bndV (kBin .add [x10, (.int .i64 (.ofNat (nat_lit 1)))]) fun x25 =>
  rc [x24, x8, x9, x25] h))
  (some ⟨0, [x0], h⟩)
noncomputable def f106_1 (x0 : V) (x1 : V) (h : HT) : Option J := bndV (kLenS [x1]) fun x9 =>
  bndJ (loopF (fun rc vs h => unc vs fun x0 vs =>
  unc vs fun x8 vs =>
  unc vs fun x9 vs =>
  unc vs fun x10 vs =>
  bndV (kBin .lss [x10, x9]) fun x11 =>
  (f106_0 rc x0 x8 x9 x10 x11 h)) 1000000 [x0, x1, x9, (.int .i64 (.ofNat (nat_lit 0)))] h)
  fun j vs h => nsw j (unc vs fun x0 vs =>
  ret1 (.tuple [x0, (.bool true)]) h)
  fun j => unc vs fun x4 vs =>
  unc vs fun x5 vs =>
  ret1 (.tuple [x4, x5]) h
noncomputable def f106 (vs : List V) (h : HT) : Option J := unc vs fun x0 vs =>
  unc vs fun x1 vs =>
  (f106_1 x0 x1 h)
def a106 : List Ann := [.no, .loop [0, 8, 9, 10] [((.exit 0), [0]), (.ret, [4, 5])], .no, .no, .no]
theorem e106 : f106 = evFun Tryz.prog 106 2 a106 t106 := by kernel_rfl
theorem o106 : FnOk Tryz.prog 106 f106 := .of hmO (show enters Tryz.prog 106 = true by kernel_rfl) e106 (.cons o107 (.nil))

/- concord/word.Zig -/
noncomputable def l247 : List (Nat × (List V → HT → Option J)) := []
noncomputable def t247 : Fns := tab l247

noncomputable def f247 (vs : List V) (h : HT) : Option J := unc vs fun x0 vs =>
  bndV (kCvI .u64 [x0]) fun x4 =>
  bndV (kBin .shl [x4, (.int .u64 (.ofNat (nat_lit 1)))]) fun x5 =>
  bndV (kBin .shr [x0, (.int .u64 (.ofNat (nat_lit 63)))]) fun x7 =>
  bndV (kCvI .u64 [x7]) fun x8 =>
  bndV (kBin .xor [x5, x8]) fun x9 =>
  ret1 x9 h
def a247 : List Ann := []
theorem e247 : f247 = evFun Tryz.prog 247 1 a247 t247 := by kernel_rfl
theorem o247 : FnOk Tryz.prog 247 f247 := .of hmO (show enters Tryz.prog 247 = true by kernel_rfl) e247 (.nil)

/- concord/pack.num -/
noncomputable def l184 : List (Nat × (List V → HT → Option J)) := [(247, f247)]
noncomputable def t184 : Fns := tab l184
noncomputable def f184_0 (x0 : V) (x7 : V) (h : HT) : Option J := bndJ (loopF (fun rc vs h => unc vs fun x0 vs =>
  unc vs fun x5 vs =>
  bndV (kBin .geq [x5, (.int .u64 (.ofNat (nat_lit 128)))]) fun x9 =>
  tstv x9 (bndV (kCvI .u8 [x5]) fun x12 =>
  bndV (kBin .or [x12, (.int .u8 (.ofNat (nat_lit 128)))]) fun x13 =>
  bndN (kBsl 1 1 [(.int .u8 (.ofNat (nat_lit 0)))] [(0, 1)] [x13]) h fun x14 h =>
  bndE (dApp h 1 1 [x0, x14]) h fun x15 h =>
  bndV (kBin .shr [x5, (.int .u64 (.ofNat (nat_lit 7)))]) fun x17 =>
  rc [x15, x17] h)
  (some ⟨0, [x0, x5], h⟩)) 1000000 [x0, x7] h)
  fun j vs h => unc vs fun x0 vs =>
  unc vs fun x5 vs =>
  bndV (kCvI .u8 [x5]) fun x20 =>
  bndN (kBsl 1 1 [(.int .u8 (.ofNat (nat_lit 0)))] [(0, 1)] [x20]) h fun x21 h =>
  bndE (dApp h 1 1 [x0, x21]) h fun x22 h =>
  ret1 x22 h
noncomputable def f184 (vs : List V) (h : HT) : Option J := unc vs fun x0 vs =>
  unc vs fun x1 vs =>
  bndC (f247 [x1] h) fun x7 h =>
  (f184_0 x0 x7 h)
def a184 : List Ann := [.no, .loop [0, 5] [((.exit 0), [0, 5])], .no, .no]
theorem e184 : f184 = evFun Tryz.prog 184 2 a184 t184 := by kernel_rfl
theorem o184 : FnOk Tryz.prog 184 f184 := .of hmO (show enters Tryz.prog 184 = true by kernel_rfl) e184 (.cons o247 (.nil))

/- concord/pack.Num -/
noncomputable def l108 : List (Nat × (List V → HT → Option J)) := [(176, f176), (184, f184)]
noncomputable def t108 : Fns := tab l108

noncomputable def f108 (vs : List V) (h : HT) : Option J := unc vs fun x0 vs =>
  unc vs fun x1 vs =>
  bndC (f176 [x0, (.int .i64 (.ofNat (nat_lit 10)))] h) fun x6 h =>
  bndC (f184 [x6, x1] h) fun x8 h =>
  ret1 x8 h
def a108 : List Ann := []
theorem e108 : f108 = evFun Tryz.prog 108 2 a108 t108 := by kernel_rfl
theorem o108 : FnOk Tryz.prog 108 f108 := .of hmO (show enters Tryz.prog 108 = true by kernel_rfl) e108 (.cons o176 (.cons o184 (.nil)))

/- concord/disk.may -/
noncomputable def l248 : List (Nat × (List V → HT → Option J)) := []
noncomputable def t248 : Fns := tab l248
noncomputable def f248_0 (rc : List V → HT → Option J) (x0 : V) (x12 : V) (vs : List V) (h : HT) : Option J := unc vs fun x13 vs =>
  bndV (kBin .lss [x13, x12]) fun x14 =>
  tstv x14 (bndV (kIxStr [x0, x13]) fun x18 =>
  bndV (kBin .lss [x18, (.int .u8 (.ofNat (nat_lit 33)))]) fun x19 =>
  bndC (gsel x19 false (retV (kMov [x0]) h) h) fun x21 h =>
  bndC (gsel x19 false (retV (kMov [x13]) h) h) fun x22 h =>
  bndC (gsel x19 false (retV (kIxStr [x21, x22]) h) h) fun x23 h =>
  bndC (gsel x19 false (retV (kBin .gtr [x23, (.int .u8 (.ofNat (nat_lit 126)))]) h) h) fun x24 h =>
  bndV (kPick [x19, (.bool true), x24]) fun x25 =>
  tstv x25 (some ⟨1, [(.bool false)], h⟩)
  (bndV (kBin .add [x13, (.int .i64 (.ofNat (nat_lit 1)))]) fun x26 =>
  rc [x0, x12, x26] h))
  (some ⟨0, [], h⟩)
noncomputable def f248_1 (x0 : V) (x5 : V) (x7 : V) (h : HT) : Option J := bndC (gsel x5 false (retV (kLenT [x7]) h) h) fun x8 h =>
  bndC (gsel x5 false (retV (kBin .gtr [x8, (.int .i64 (.ofNat (nat_lit 24)))]) h) h) fun x9 h =>
  bndV (kPick [x5, (.bool true), x9]) fun x10 =>
  tstv x10 (ret1 (.bool false) h)
  (bndV (kLenT [x0]) fun x12 =>
  bndJ (loopF (fun rc vs h => unc vs fun x0 vs =>
  unc vs fun x12 vs =>
  (f248_0 rc x0 x12 vs h)) 1000000 [x0, x12, (.int .i64 (.ofNat (nat_lit 0)))] h)
  fun j vs h => nsw j (ret1 (.bool true) h)
  fun j => unc vs fun x2 vs =>
  ret1 x2 h)
noncomputable def f248 (vs : List V) (h : HT) : Option J := unc vs fun x0 vs =>
  bndV (kBin .eql [x0, (.str (sb []))]) fun x5 =>
  bndC (gsel x5 false (retV (kMov [x0]) h) h) fun x7 h =>
  (f248_1 x0 x5 x7 h)
def a248 : List Ann := [.no, .no, .loop [0, 12, 13] [((.exit 0), []), (.ret, [2])], .no, .no, .no]
theorem e248 : f248 = evFun Tryz.prog 248 1 a248 t248 := by kernel_rfl
theorem o248 : FnOk Tryz.prog 248 f248 := .of hmO (show enters Tryz.prog 248 = true by kernel_rfl) e248 (.nil)

/- (*concord/disk.Disk).Total -/
noncomputable def l298 : List (Nat × (List V → HT → Option J)) := []
noncomputable def t298 : Fns := tab l298
noncomputable def f298_0 (rc : List V → HT → Option J) (x3 : V) (x9 : V) (vs : List V) (h : HT) : Option J := unc vs fun x10 vs =>
  unc vs fun x11 vs =>
  bndV (kBin .lss [x11, x10]) fun x12 =>
  tstv x12 (bndV (kIaS 3 [x9, x11]) fun x13 =>
  bndV (qLd h (some 3) [x13]) fun x14 =>
  bndN (kAlloc [(.str (sb [])), (.slice none 0 true 0), (.int .i64 (.ofNat (nat_lit 0)))] []) h fun x5 h =>
  bndE (dSt h 3 [x5, x14]) h fun _ h =>
  bndV (kFa 1 [x5]) fun x16 =>
  bndV (qLd h none [x16]) fun x17 =>
  bndV (kLenS [x17]) fun x18 =>
  bndV (kBin .add [x3, x18]) fun x19 =>
  bndV (kBin .add [x11, (.int .i64 (.ofNat (nat_lit 1)))]) fun x20 =>
  rc [x19, x9, x10, x20] h)
  (some ⟨0, [x3], h⟩)
noncomputable def f298 (vs : List V) (h : HT) : Option J := unc vs fun x0 vs =>
  bndV (kNilc [x0]) fun x7 =>
  bndV (kFa 1 [x7]) fun x8 =>
  bndV (qLd h none [x8]) fun x9 =>
  bndV (kLenS [x9]) fun x10 =>
  bndJ (loopF (fun rc vs h => unc vs fun x3 vs =>
  unc vs fun x9 vs =>
  (f298_0 rc x3 x9 vs h)) 1000000 [(.int .i64 (.ofNat (nat_lit 0))), x9, x10, (.int .i64 (.ofNat (nat_lit 0)))] h)
  fun j vs h => unc vs fun x3 vs =>
  ret1 x3 h
def a298 : List Ann := [.no, .loop [3, 9, 10, 11] [((.exit 0), [3])], .no, .no]
theorem e298 : f298 = evFun Tryz.prog 298 1 a298 t298 := by kernel_rfl
theorem o298 : FnOk Tryz.prog 298 f298 := .of hmO (show enters Tryz.prog 298 = true by kernel_rfl) e298 (.nil)

/- (*concord/disk.Disk).Room -/
noncomputable def l249 : List (Nat × (List V → HT → Option J)) := [(298, f298)]
noncomputable def t249 : Fns := tab l249

noncomputable def f249 (vs : List V) (h : HT) : Option J := unc vs fun x0 vs =>
  bndV (kNilc [x0]) fun x4 =>
  bndV (kFa 0 [x4]) fun x5 =>
  bndV (qLd h none [x5]) fun x6 =>
  bndC (f298 [x0] h) fun x8 h =>
  chk1 (sameE (qLd h none [x5]) x6) (bndV (kBin .sub [x6, x8]) fun x9 =>
  ret1 x9 h)
def a249 : List Ann := []
theorem e249 : f249 = evFun Tryz.prog 249 1 a249 t249 := by kernel_rfl
theorem o249 : FnOk Tryz.prog 249 f249 := .of hmO (show enters Tryz.prog 249 = true by kernel_rfl) e249 (.cons o298 (.nil))

/- slices.Insert[[]concord/disk.file,concord/disk.file] -/
noncomputable def l250 : List (Nat × (List V → HT → Option J)) := []
noncomputable def t250 : Fns := tab l250
noncomputable def f250_0 (x0 : V) (x1 : V) (x2 : V) (x14 : V) (x19 : V) (x22 : V) (h : HT) : Option J := tstv x22 (bndE (dApp h 3 48 [x0, x2]) h fun x25 h =>
  ret1 x25 h)
  (bndV (kBin .add [x19, x14]) fun x28 =>
  bndV (kCapS [x0]) fun x30 =>
  bndV (kBin .gtr [x28, x30]) fun x31 =>
  tstv x31 (bndV (kSlS 3 false true [x0, x1]) fun x34 =>
  bndV (kBin .add [x19, x14]) fun x37 =>
  bndV (kBin .sub [x37, x1]) fun x39 =>
  none)
  (bndV (kBin .add [x19, x14]) fun x59 =>
  bndV (kSlS 3 false true [x0, x59]) fun x60 =>
  bndV (kBin .add [x1, x14]) fun x65 =>
  bndV (kSlS 3 true false [x60, x65]) fun x66 =>
  none))
noncomputable def f250 (vs : List V) (h : HT) : Option J := unc vs fun x0 vs =>
  unc vs fun x1 vs =>
  unc vs fun x2 vs =>
  bndV (kSlS 3 true false [x0, x1]) fun x12 =>
  bndV (kLenS [x2]) fun x14 =>
  bndV (kBin .eql [x14, (.int .i64 (.ofNat (nat_lit 0)))]) fun x16 =>
  tstv x16 (ret1 x0 h)
  (bndV (kLenS [x0]) fun x19 =>
  bndV (kBin .eql [x1, x19]) fun x22 =>
  (f250_0 x0 x1 x2 x14 x19 x22 h))
def a250 : List Ann := [.no, .no, .no, .no]
theorem e250 : f250 = evFun Tryz.prog 250 3 a250 t250 := by kernel_rfl
theorem o250 : FnOk Tryz.prog 250 f250 := .of hmO (show enters Tryz.prog 250 = true by kernel_rfl) e250 (.nil)

/- slices.Concat[[]byte,byte] -/
noncomputable def l251 : List (Nat × (List V → HT → Option J)) := [(301, (cGrow 1 1))]
noncomputable def t251 : Fns := tab l251
noncomputable def f251_0 (rc : List V → HT → Option J) (x0 : V) (x3 : V) (x9 : V) (x10 : V) (x11 : V) (x14 : V) (h : HT) : Option J := bndV (kLenS [x14]) fun x17 =>
  bndV (kBin .add [x3, x17]) fun x18 =>
  bndV (kBin .lss [x18, (.int .i64 (.ofNat (nat_lit 0)))]) fun x20 =>
  bndJ (tstv x20 (bndV (kMkI 9 [(.str (sb [108, 101, 110, 32, 111, 117, 116, 32, 111, 102, 32, 114, 97, 110, 103, 101]))]) fun x21 =>
  none)
  (some ⟨0, [x0, x18, x9, x10, x11], h⟩))
  fun j vs h => unc vs fun x0 vs =>
  unc vs fun x3 vs =>
  unc vs fun x9 vs =>
  unc vs fun x10 vs =>
  unc vs fun x11 vs =>
  bndV (kBin .add [x11, (.int .i64 (.ofNat (nat_lit 1)))]) fun x22 =>
  rc [x0, x3, x9, x10, x22] h
noncomputable def f251_1 (x0 : V) (x24 : V) (x26 : V) (h : HT) : Option J := bndJ (loopF (fun rc vs h => unc vs fun x6 vs =>
  unc vs fun x25 vs =>
  unc vs fun x26 vs =>
  unc vs fun x27 vs =>
  bndV (kBin .lss [x27, x26]) fun x28 =>
  tstv x28 (bndV (kIaS 1 [x25, x27]) fun x29 =>
  bndV (qLd h none [x29]) fun x30 =>
  bndE (dApp h 1 1 [x6, x30]) h fun x33 h =>
  bndV (kBin .add [x27, (.int .i64 (.ofNat (nat_lit 1)))]) fun x34 =>
  rc [x33, x25, x26, x34] h)
  (some ⟨0, [x6], h⟩)) 1000000 [x24, x0, x26, (.int .i64 (.ofNat (nat_lit 0)))] h)
  fun j vs h => unc vs fun x6 vs =>
  ret1 x6 h
noncomputable def f251_2 (x0 : V) (x10 : V) (h : HT) : Option J := bndJ (loopF (fun rc vs h => unc vs fun x0 vs =>
  unc vs fun x3 vs =>
  unc vs fun x9 vs =>
  unc vs fun x10 vs =>
  unc vs fun x11 vs =>
  bndV (kBin .lss [x11, x10]) fun x12 =>
  tstv x12 (bndV (kIaS 1 [x9, x11]) fun x13 =>
  bndV (qLd h none [x13]) fun x14 =>
  (f251_0 rc x0 x3 x9 x10 x11 x14 h))
  (some ⟨0, [x0, x3], h⟩)) 1000000 [x0, (.int .i64 (.ofNat (nat_lit 0))), x0, x10, (.int .i64 (.ofNat (nat_lit 0)))] h)
  fun j vs h => unc vs fun x0 vs =>
  unc vs fun x3 vs =>
  bndC ((cGrow 1 1) [(.slice none 0 true 0), x3] h) fun x24 h =>
  bndV (kLenS [x0]) fun x26 =>
  (f251_1 x0 x24 x26 h)
noncomputable def f251 (vs : List V) (h : HT) : Option J := unc vs fun x0 vs =>
  bndV (kLenS [x0]) fun x10 =>
  (f251_2 x0 x10 h)
def a251 : List Ann := [.no, .loop [0, 3, 9, 10, 11] [((.exit 0), [0, 3])], .no, .no, .join [(.normal, [0, 3, 9, 10, 11])], .no, .loop [6, 25, 26, 27] [((.exit 2), [6])], .no, .no]
theorem e251 : f251 = evFun Tryz.prog 251 1 a251 t251 := by kernel_rfl
theorem o251 : FnOk Tryz.prog 251 f251 := .of hmO (show enters Tryz.prog 251 = true by kernel_rfl) e251 (.cons o301 (.nil))

/- (*concord/disk.Disk).Append -/
noncomputable def l185 : List (Nat × (List V → HT → Option J)) := [(163, f163), (171, f171), (248, f248), (249, f249), (250, f250), (251, f251)]
noncomputable def t185 : Fns := tab l185
noncomputable def f185_0 (x0 : V) (x2 : V) (x8 : V) (x51 : V) (h : HT) : Option J := bndV (kFa 1 [x51]) fun x52 =>
  bndV (qLd h none [x52]) fun x53 =>
  bndV (kNilc [x0]) fun x56 =>
  bndV (kFa 1 [x56]) fun x57 =>
  bndV (qLd h none [x57]) fun x58 =>
  bndV (kIaS 3 [x58, x8]) fun x60 =>
  bndV (kFa 1 [x60]) fun x61 =>
  bndV (qLd h none [x61]) fun x62 =>
  bndN (kBsl 1 2 [(.slice none 0 true 0), (.slice none 0 true 0)] [(0, 1), (1, 1)] [x62, x2]) h fun x64 h =>
  bndC (f251 [x64] h) fun x65 h =>
  chk1 (sameE (qLd h none [x52]) x53) (bndV (kIaS 3 [x53, x8]) fun x66 =>
  bndV (kFa 1 [x66]) fun x67 =>
  bndE (dSt h 1 [x67, x65]) h fun _ h =>
  ret1 (.int .i64 (.ofNat (nat_lit 0))) h)
noncomputable def f185_1 (x0 : V) (x1 : V) (x2 : V) (x34 : V) (x37 : V) (h : HT) : Option J := bndJ (tstv x37 (bndV (kNilc [x0]) fun x40 =>
  bndV (kFa 1 [x40]) fun x41 =>
  bndV (qLd h none [x41]) fun x42 =>
  bndV (kBld [(.str (sb [])), (.slice none 0 true 0), (.int .i64 (.ofNat (nat_lit 0)))] [(0, 1)] [x1]) fun x45 =>
  bndN (kBsl 3 1 [(.str (sb [])), (.slice none 0 true 0), (.int .i64 (.ofNat (nat_lit 0)))] [(0, 3)] [x45]) h fun x46 h =>
  bndC (f250 [x42, x34, x46] h) fun x47 h =>
  bndV (kNilc [x0]) fun x48 =>
  bndV (kFa 1 [x48]) fun x49 =>
  bndE (dSt h 1 [x49, x47]) h fun _ h =>
  some ⟨0, [x0, x2, x34], h⟩)
  (some ⟨0, [x0, x2, x34], h⟩))
  fun j vs h => unc vs fun x0 vs =>
  unc vs fun x2 vs =>
  unc vs fun x8 vs =>
  bndV (kNilc [x0]) fun x51 =>
  (f185_0 x0 x2 x8 x51 h)
noncomputable def f185_2 (x0 : V) (x1 : V) (x2 : V) (x18 : V) (h : HT) : Option J := tstv x18 (ret1 (.int .i64 (.ofNat (nat_lit 11))) h)
  (bndV (kLenS [x2]) fun x21 =>
  bndC (f249 [x0] h) fun x23 h =>
  bndV (kBin .gtr [x21, x23]) fun x24 =>
  tstv x24 (ret1 (.int .i64 (.ofNat (nat_lit 7))) h)
  (bndC (f171 [x0] h) fun x26 h =>
  bndV (kBin .neq [x26, (.int .i64 (.ofNat (nat_lit 0)))]) fun x28 =>
  tstv x28 (ret1 x26 h)
  (bndC (f163 [x0, x1] h) fun x33 h =>
  bndV (kExt 0 [x33]) fun x34 =>
  bndV (kExt 1 [x33]) fun x35 =>
  bndV (kUn .not [x35]) fun x37 =>
  (f185_1 x0 x1 x2 x34 x37 h))))
noncomputable def f185 (vs : List V) (h : HT) : Option J := unc vs fun x0 vs =>
  unc vs fun x1 vs =>
  unc vs fun x2 vs =>
  bndV (kNilc [x0]) fun x12 =>
  bndV (kFa 2 [x12]) fun x13 =>
  bndV (qLd h none [x13]) fun x14 =>
  tstv x14 (ret1 (.int .i64 (.ofNat (nat_lit 10))) h)
  (bndC (f248 [x1] h) fun x17 h =>
  bndV (kUn .not [x17]) fun x18 =>
  (f185_2 x0 x1 x2 x18 h))
def a185 : List Ann := [.no, .no, .no, .no, .no, .join [(.normal, [0, 2, 8])]]
theorem e185 : f185 = evFun Tryz.prog 185 3 a185 t185 := by kernel_rfl
theorem o185 : FnOk Tryz.prog 185 f185 := .of hmO (show enters Tryz.prog 185 = true by kernel_rfl) e185 (.cons o163 (.cons o171 (.cons o248 (.cons o249 (.cons o250 (.cons o251 (.nil)))))))

/- (*concord/wal.Wal).write -/
noncomputable def l109 : List (Nat × (List V → HT → Option J)) := [(93, f93), (95, f95), (185, f185)]
noncomputable def t109 : Fns := tab l109
noncomputable def f109_0 (x0 : V) (x4 : V) (x15 : V) (x20 : V) (h : HT) : Option J := bndJ (tstv x20 (bndV (kNilc [x0]) fun x22 =>
  bndV (kFa 0 [x22]) fun x23 =>
  bndV (qLd h none [x23]) fun x24 =>
  bndV (qLd h (some 2) [x4]) fun x25 =>
  bndC (f93 [x25] h) fun x26 h =>
  chk1 (sameE (qLd h none [x23]) x24) (bndC (f95 [x24, x26] h) fun x27 h =>
  some ⟨0, [x0, x27], h⟩))
  (some ⟨0, [x0, x15], h⟩))
  fun j vs h => unc vs fun x0 vs =>
  unc vs fun x7 vs =>
  bndV (kBin .neq [x7, (.int .i64 (.ofNat (nat_lit 0)))]) fun x30 =>
  bndV (kNilc [x0]) fun x31 =>
  bndV (kFa 3 [x31]) fun x32 =>
  bndE (dSt h 1 [x32, x30]) h fun _ h =>
  ret1 x7 h
noncomputable def f109_1 (x0 : V) (vs : List V) (h : HT) : Option J := unc vs fun x1 vs =>
  unc vs fun x2 vs =>
  bndN (kBox [x1]) h fun x4 h =>
  bndV (kNilc [x0]) fun x9 =>
  bndV (kFa 0 [x9]) fun x10 =>
  bndV (qLd h none [x10]) fun x11 =>
  bndV (qLd h (some 2) [x4]) fun x12 =>
  bndC (f93 [x12] h) fun x13 h =>
  chk1 (sameE (qLd h none [x10]) x11) (bndC (f185 [x11, x13, x2] h) fun x15 h =>
  bndV (kBin .eql [x15, (.int .i64 (.ofNat (nat_lit 7)))]) fun x17 =>
  tstv x17 (ret1 x15 h)
  (bndV (kBin .eql [x15, (.int .i64 (.ofNat (nat_lit 0)))]) fun x20 =>
  (f109_0 x0 x4 x15 x20 h)))
noncomputable def f109 (vs : List V) (h : HT) : Option J := unc vs fun x0 vs =>
  (f109_1 x0 vs h)
def a109 : List Ann := [.no, .join [(.normal, [0, 7])]]
theorem e109 : f109 = evFun Tryz.prog 109 3 a109 t109 := by kernel_rfl
theorem o109 : FnOk Tryz.prog 109 f109 := .of hmO (show enters Tryz.prog 109 = true by kernel_rfl) e109 (.cons o93 (.cons o95 (.cons o185 (.nil))))

/- (*concord/wal.Wal).Anew -/
noncomputable def l36 : List (Nat × (List V → HT → Option J)) := [(106, f106), (107, f107), (108, f108), (109, f109)]
noncomputable def t36 : Fns := tab l36
noncomputable def f36_0 (rc : List V → HT → Option J) (x0 : V) (x7 : V) (x9 : V) (x57 : V) (x58 : V) (x60 : V) (h : HT) : Option J := bndV (kFa 1 [x60]) fun x61 =>
  bndV (kFa 0 [x61]) fun x62 =>
  bndV (qLd h none [x62]) fun x63 =>
  bndV (kBld [(.int .i64 (.ofNat (nat_lit 0))), (.int .i64 (.ofNat (nat_lit 0)))] [(0, 1), (1, 1)] [x63, x9]) fun x65 =>
  bndC (noF [x65] h) fun x66 h =>
  chk1 (sameE (qLd h none [x57]) x58) (bndC (noF [x58, x66] h) fun x67 h =>
  bndV (kBin .neq [x67, (.int .i64 (.ofNat (nat_lit 0)))]) fun x69 =>
  tstv x69 (bndV (kNilc [x0]) fun x71 =>
  bndV (kFa 3 [x71]) fun x72 =>
  bndE (dSt h 1 [x72, (.bool true)]) h fun _ h =>
  some ⟨1, [x67], h⟩)
  (bndV (kBin .add [x9, (.int .i64 (.ofNat (nat_lit 1)))]) fun x54 =>
  rc [x0, x7, x54] h))
noncomputable def f36_1 (rc : List V → HT → Option J) (vs : List V) (h : HT) : Option J := unc vs fun x0 vs =>
  unc vs fun x7 vs =>
  unc vs fun x9 vs =>
  bndV (kNilc [x0]) fun x48 =>
  bndV (kFa 1 [x48]) fun x49 =>
  bndV (kFa 1 [x49]) fun x50 =>
  bndV (qLd h none [x50]) fun x51 =>
  bndV (kBin .leq [x9, x51]) fun x52 =>
  tstv x52 (bndV (kNilc [x0]) fun x56 =>
  bndV (kFa 0 [x56]) fun x57 =>
  bndV (qLd h none [x57]) fun x58 =>
  bndV (kNilc [x0]) fun x60 =>
  (f36_0 rc x0 x7 x9 x57 x58 x60 h))
  (some ⟨0, [x0, x7], h⟩)
noncomputable def f36_2 (x0 : V) (x7 : V) (x42 : V) (x44 : V) (h : HT) : Option J := tstv x44 (ret1 x42 h)
  (bndJ (loopF (fun rc vs h => (f36_1 rc vs h)) 1000000 [x0, x7, (.int .i64 (.ofNat (nat_lit 1)))] h)
  fun j vs h => nsw j (unc vs fun x0 vs =>
  unc vs fun x7 vs =>
  bndV (qLd h (some 2) [x7]) fun x75 =>
  bndV (kNilc [x0]) fun x76 =>
  bndV (kFa 1 [x76]) fun x77 =>
  bndE (dSt h 2 [x77, x75]) h fun _ h =>
  ret1 (.int .i64 (.ofNat (nat_lit 0))) h)
  fun j => unc vs fun x4 vs =>
  ret1 x4 h)
noncomputable def f36_3 (x0 : V) (x22 : V) (x30 : V) (h : HT) : Option J := bndV (kBin .geq [x30, (.int .i64 (.ofNat (nat_lit 999999999)))]) fun x31 =>
  tstv x31 (ret1 (.int .i64 (.ofNat (nat_lit 7))) h)
  (bndV (kNilc [x0]) fun x33 =>
  bndV (kFa 1 [x33]) fun x34 =>
  bndV (kFa 0 [x34]) fun x35 =>
  bndV (qLd h none [x35]) fun x36 =>
  bndV (kBin .add [x36, (.int .i64 (.ofNat (nat_lit 1)))]) fun x37 =>
  bndV (kBld [(.int .i64 (.ofNat (nat_lit 0))), (.int .i64 (.ofNat (nat_lit 0)))] [(0, 1), (1, 1)] [x37, (.int .i64 (.ofNat (nat_lit 1)))]) fun x38 =>
  bndN (kAlloc [(.int .i64 (.ofNat (nat_lit 0))), (.int .i64 (.ofNat (nat_lit 0)))] []) h fun x7 h =>
  bndE (dSt h 2 [x7, x38]) h fun _ h =>
  bndV (qLd h (some 2) [x7]) fun x40 =>
  bndC (f109 [x0, x40, x22] h) fun x42 h =>
  bndV (kBin .neq [x42, (.int .i64 (.ofNat (nat_lit 0)))]) fun x44 =>
  (f36_2 x0 x7 x42 x44 h))
noncomputable def f36_4 (x0 : V) (x1 : V) (x14 : V) (h : HT) : Option J := tstv x14 (ret1 (.int .i64 (.ofNat (nat_lit 10))) h)
  (bndV (kLenS [x1]) fun x17 =>
  bndC (f108 [(.slice none 0 true 0), x17] h) fun x18 h =>
  bndC (f107 [(.slice none 0 true 0), x18] h) fun x19 h =>
  bndC (f106 [x19, x1] h) fun x21 h =>
  bndV (kExt 0 [x21]) fun x22 =>
  bndV (kExt 1 [x21]) fun x23 =>
  bndV (kUn .not [x23]) fun x25 =>
  tstv x25 (ret1 (.int .i64 (.ofNat (nat_lit 1))) h)
  (bndV (kNilc [x0]) fun x27 =>
  bndV (kFa 1 [x27]) fun x28 =>
  bndV (kFa 0 [x28]) fun x29 =>
  bndV (qLd h none [x29]) fun x30 =>
  (f36_3 x0 x22 x30 h)))
noncomputable def f36 (vs : List V) (h : HT) : Option J := unc vs fun x0 vs =>
  unc vs fun x1 vs =>
  bndV (kNilc [x0]) fun x12 =>
  bndV (kFa 3 [x12]) fun x13 =>
  bndV (qLd h none [x13]) fun x14 =>
  (f36_4 x0 x1 x14 h)
def a36 : List Ann := [.no, .no, .no, .no, .no, .loop [0, 7, 9] [((.exit 0), [0, 7]), (.ret, [4])], .no, .no, .no]
theorem e36 : f36 = evFun Tryz.prog 36 2 a36 t36 := by kernel_rfl
theorem o36 : FnOk Tryz.prog 36 f36 := .of hmO (show enters Tryz.prog 36 = true by kernel_rfl) e36 (.cons o106 (.cons o107 (.cons o108 (.cons o109 (.nil)))))

/- concord/node.cutRecord -/
noncomputable def l37 : List (Nat × (List V → HT → Option J)) := [(108, f108)]
noncomputable def t37 : Fns := tab l37
noncomputable def f37_0 (x1 : V) (x6 : V) (h : HT) : Option J := bndV (qLd h (some 7) [x1]) fun x7 =>
  bndJ (loopF (fun rc vs h => unc vs fun x3 vs =>
  unc vs fun x7 vs =>
  unc vs fun x8 vs =>
  bndV (kBin .lss [x8, (.int .i64 (.ofNat (nat_lit 7)))]) fun x9 =>
  tstv x9 (bndV (kIxA 7 1 false [x7, x8]) fun x10 =>
  bndC (f108 [x3, x10] h) fun x13 h =>
  bndV (kBin .add [x8, (.int .i64 (.ofNat (nat_lit 1)))]) fun x14 =>
  rc [x13, x7, x14] h)
  (some ⟨0, [x3], h⟩)) 1000000 [x6, x7, (.int .i64 (.ofNat (nat_lit 0)))] h)
  fun j vs h => unc vs fun x3 vs =>
  ret1 x3 h
noncomputable def f37 (vs : List V) (h : HT) : Option J := unc vs fun x0 vs =>
  bndN (kBox [x0]) h fun x1 h =>
  bndN (kBsl 1 1 [(.int .u8 (.ofNat (nat_lit 0)))] [(0, 1)] [(.int .u8 (.ofNat (nat_lit 1)))]) h fun x6 h =>
  (f37_0 x1 x6 h)
def a37 : List Ann := [.no, .loop [3, 7, 8] [((.exit 0), [3])], .no, .no]
theorem e37 : f37 = evFun Tryz.prog 37 1 a37 t37 := by kernel_rfl
theorem o37 : FnOk Tryz.prog 37 f37 := .of hmO (show enters Tryz.prog 37 = true by kernel_rfl) e37 (.cons o108 (.nil))

/- (*concord/front.Fronts).Hear -/
noncomputable def l38 : List (Nat × (List V → HT → Option J)) := [(99, f99)]
noncomputable def t38 : Fns := tab l38
noncomputable def f38_0 (rc : List V → HT → Option J) (x0 : V) (x1 : V) (x25 : V) (x26 : V) (x27 : V) (h : HT) : Option J := tstv x27 (bndV (kIxA 7 1 false [x25, x26]) fun x29 =>
  bndV (kNilc [x0]) fun x36 =>
  bndV (kFa 2 [x36]) fun x37 =>
  bndV (kIaA 7 7 [x37, x1]) fun x38 =>
  bndV (kIaA 7 1 [x38, x26]) fun x39 =>
  bndV (qLd h none [x39]) fun x40 =>
  bndV (kMaxI [x40, x29]) fun x42 =>
  bndV (kNilc [x0]) fun x43 =>
  bndV (kFa 2 [x43]) fun x44 =>
  bndV (kIaA 7 7 [x44, x1]) fun x45 =>
  bndV (kIaA 7 1 [x45, x26]) fun x46 =>
  bndE (dSt h 1 [x46, x42]) h fun _ h =>
  bndV (kBin .add [x26, (.int .i64 (.ofNat (nat_lit 1)))]) fun x47 =>
  rc [x0, x1, x25, x47] h)
  (some ⟨0, [], h⟩)
noncomputable def f38_1 (x0 : V) (x1 : V) (x5 : V) (x18 : V) (x21 : V) (h : HT) : Option J := bndC (gsel x18 false (f99 [x21] h) h) fun x22 h =>
  bndC (gsel x18 false (retV (kUn .not [x22]) h) h) fun x23 h =>
  bndV (kPick [x18, (.bool true), x23]) fun x24 =>
  tstv x24 (ret1 (.bool false) h)
  (bndV (qLd h (some 7) [x5]) fun x25 =>
  bndJ (loopF (fun rc vs h => unc vs fun x0 vs =>
  unc vs fun x1 vs =>
  unc vs fun x25 vs =>
  unc vs fun x26 vs =>
  bndV (kBin .lss [x26, (.int .i64 (.ofNat (nat_lit 7)))]) fun x27 =>
  (f38_0 rc x0 x1 x25 x26 x27 h)) 1000000 [x0, x1, x25, (.int .i64 (.ofNat (nat_lit 0)))] h)
  fun j vs h => ret1 (.bool true) h)
noncomputable def f38 (vs : List V) (h : HT) : Option J := unc vs fun x0 vs =>
  unc vs fun x1 vs =>
  unc vs fun x2 vs =>
  bndN (kBox [x2]) h fun x5 h =>
  bndV (kBin .lss [x1, (.int .i64 (.ofNat (nat_lit 0)))]) fun x10 =>
  bndC (gsel x10 false (retV (kMov [x1]) h) h) fun x12 h =>
  bndC (gsel x10 false (retV (kMov [x0]) h) h) fun x13 h =>
  bndC (gsel x10 false (retV (kNilc [x13]) h) h) fun x14 h =>
  bndC (gsel x10 false (retV (kFa 0 [x14]) h) h) fun x15 h =>
  bndC (gsel x10 false (retV (qLd h none [x15]) h) h) fun x16 h =>
  bndC (gsel x10 false (retV (kBin .geq [x12, x16]) h) h) fun x17 h =>
  bndV (kPick [x10, (.bool true), x17]) fun x18 =>
  bndC (gsel x18 false (retV (qLd h (some 7) [x5]) h) h) fun x20 h =>
  bndC (gsel x18 false (retV (kBld [(.int .i64 (.ofNat (nat_lit 0))), (.int .i64 (.ofNat (nat_lit 0))), (.int .i64 (.ofNat (nat_lit 0))), (.int .i64 (.ofNat (nat_lit 0))), (.int .i64 (.ofNat (nat_lit 0))), (.int .i64 (.ofNat (nat_lit 0))), (.int .i64 (.ofNat (nat_lit 0))), (.int .i64 (.ofNat (nat_lit 0)))] [(1, 7)] [x20]) h) h) fun x21 h =>
  (f38_1 x0 x1 x5 x18 x21 h)
def a38 : List Ann := [.no, .no, .loop [0, 1, 25, 26] [((.exit 0), [])], .no, .no]
theorem e38 : f38 = evFun Tryz.prog 38 3 a38 t38 := by kernel_rfl
theorem o38 : FnOk Tryz.prog 38 f38 := .of hmO (show enters Tryz.prog 38 = true by kernel_rfl) e38 (.cons o99 (.nil))

/- (*concord/core.Core).Drain -/
noncomputable def l186 : List (Nat × (List V → HT → Option J)) := []
noncomputable def t186 : Fns := tab l186

noncomputable def f186 (vs : List V) (h : HT) : Option J := unc vs fun x0 vs =>
  bndV (kNilc [x0]) fun x7 =>
  bndV (kFa 6 [x7]) fun x8 =>
  bndV (qLd h none [x8]) fun x9 =>
  bndV (kNilc [x0]) fun x11 =>
  bndV (kFa 7 [x11]) fun x12 =>
  bndV (qLd h none [x12]) fun x13 =>
  bndV (kNilc [x0]) fun x16 =>
  bndV (kFa 6 [x16]) fun x17 =>
  bndE (dSt h 1 [x17, (.slice none 0 true 0)]) h fun _ h =>
  bndV (kNilc [x0]) fun x18 =>
  bndV (kFa 7 [x18]) fun x19 =>
  bndE (dSt h 1 [x19, (.slice none 0 true 0)]) h fun _ h =>
  ret1 (.tuple [x9, x13]) h
def a186 : List Ann := []
theorem e186 : f186 = evFun Tryz.prog 186 1 a186 t186 := by kernel_rfl
theorem o186 : FnOk Tryz.prog 186 f186 := .of hmO (show enters Tryz.prog 186 = true by kernel_rfl) e186 (.nil)

/- concord/node.cellRecord -/
noncomputable def l187 : List (Nat × (List V → HT → Option J)) := []
noncomputable def t187 : Fns := tab l187

noncomputable def f187 (vs : List V) (h : HT) : Option J := unc vs fun x0 vs =>
  bndN (kBsl 1 1 [(.int .u8 (.ofNat (nat_lit 0)))] [(0, 1)] [(.int .u8 (.ofNat (nat_lit 2)))]) h fun x3 h =>
  bndE (dApp h 1 1 [x3, x0]) h fun x5 h =>
  ret1 x5 h
def a187 : List Ann := []
theorem e187 : f187 = evFun Tryz.prog 187 1 a187 t187 := by kernel_rfl
theorem o187 : FnOk Tryz.prog 187 f187 := .of hmO (show enters Tryz.prog 187 = true by kernel_rfl) e187 (.nil)

/- (*concord/wal.Wal).Add -/
noncomputable def l188 : List (Nat × (List V → HT → Option J)) := [(87, f87), (93, f93), (106, f106), (109, f109)]
noncomputable def t188 : Fns := tab l188
noncomputable def f188_0 (x0 : V) (x7 : V) (x24 : V) (x52 : V) (h : HT) : Option J := bndJ (tstv x52 (bndV (kFa 1 [x7]) fun x53 =>
  bndV (qLd h none [x53]) fun x54 =>
  bndV (kBin .add [x54, (.int .i64 (.ofNat (nat_lit 1)))]) fun x55 =>
  bndV (kFa 1 [x7]) fun x56 =>
  bndE (dSt h 1 [x56, x55]) h fun _ h =>
  some ⟨0, [x0, x24, x7], h⟩)
  (some ⟨0, [x0, x24, x7], h⟩))
  fun j vs h => unc vs fun x0 vs =>
  unc vs fun x5 vs =>
  unc vs fun x7 vs =>
  bndV (qLd h (some 2) [x7]) fun x58 =>
  bndC (f109 [x0, x58, x5] h) fun x60 h =>
  bndV (kBin .neq [x60, (.int .i64 (.ofNat (nat_lit 0)))]) fun x62 =>
  tstv x62 (ret1 x60 h)
  (bndV (qLd h (some 2) [x7]) fun x65 =>
  bndV (kNilc [x0]) fun x66 =>
  bndV (kFa 1 [x66]) fun x67 =>
  bndE (dSt h 2 [x67, x65]) h fun _ h =>
  ret1 (.int .i64 (.ofNat (nat_lit 0))) h)
noncomputable def f188_1 (x0 : V) (x7 : V) (x24 : V) (x37 : V) (h : HT) : Option J := bndV (kFa 0 [x37]) fun x38 =>
  bndV (qLd h none [x38]) fun x39 =>
  bndV (qLd h (some 2) [x7]) fun x40 =>
  bndC (f93 [x40] h) fun x41 h =>
  chk1 (sameE (qLd h none [x38]) x39) (bndC (f87 [x39, x41] h) fun x42 h =>
  bndV (kExt 0 [x42]) fun x43 =>
  bndV (kExt 1 [x42]) fun x44 =>
  bndV (kLenS [x43]) fun x46 =>
  bndV (kBin .gtr [x46, (.int .i64 (.ofNat (nat_lit 4096)))]) fun x47 =>
  bndC (gsel x47 true (retV (kFa 1 [x7]) h) h) fun x49 h =>
  bndC (gsel x47 true (retV (qLd h none [x49]) h) h) fun x50 h =>
  bndC (gsel x47 true (retV (kBin .lss [x50, (.int .i64 (.ofNat (nat_lit 999999999)))]) h) h) fun x51 h =>
  bndV (kPick [x47, x51, (.bool false)]) fun x52 =>
  (f188_0 x0 x7 x24 x52 h))
noncomputable def f188_2 (x0 : V) (x1 : V) (x23 : V) (x24 : V) (h : HT) : Option J := bndV (kExt 1 [x23]) fun x25 =>
  bndV (kUn .not [x25]) fun x27 =>
  tstv x27 (ret1 (.int .i64 (.ofNat (nat_lit 1))) h)
  (bndV (kLenS [x1]) fun x29 =>
  bndV (kBin .eql [x29, (.int .i64 (.ofNat (nat_lit 0)))]) fun x30 =>
  tstv x30 (ret1 (.int .i64 (.ofNat (nat_lit 0))) h)
  (bndV (kNilc [x0]) fun x32 =>
  bndV (kFa 1 [x32]) fun x33 =>
  bndV (qLd h (some 2) [x33]) fun x34 =>
  bndN (kAlloc [(.int .i64 (.ofNat (nat_lit 0))), (.int .i64 (.ofNat (nat_lit 0)))] []) h fun x7 h =>
  bndE (dSt h 2 [x7, x34]) h fun _ h =>
  bndV (kNilc [x0]) fun x37 =>
  (f188_1 x0 x7 x24 x37 h)))
noncomputable def f188_3 (x0 : V) (x1 : V) (h : HT) : Option J := bndV (kNilc [x0]) fun x12 =>
  bndV (kFa 3 [x12]) fun x13 =>
  bndV (qLd h none [x13]) fun x14 =>
  tstv x14 (ret1 (.int .i64 (.ofNat (nat_lit 10))) h)
  (bndV (kNilc [x0]) fun x16 =>
  bndV (kFa 1 [x16]) fun x17 =>
  bndV (kFa 0 [x17]) fun x18 =>
  bndV (qLd h none [x18]) fun x19 =>
  bndV (kBin .eql [x19, (.int .i64 (.ofNat (nat_lit 0)))]) fun x20 =>
  tstv x20 (ret1 (.int .i64 (.ofNat (nat_lit 8))) h)
  (bndC (f106 [(.slice none 0 true 0), x1] h) fun x23 h =>
  bndV (kExt 0 [x23]) fun x24 =>
  (f188_2 x0 x1 x23 x24 h)))
noncomputable def f188 (vs : List V) (h : HT) : Option J := unc vs fun x0 vs =>
  unc vs fun x1 vs =>
  (f188_3 x0 x1 h)
def a188 : List Ann := [.no, .no, .no, .no, .join [(.normal, [0, 5, 7])], .no]
theorem e188 : f188 = evFun Tryz.prog 188 2 a188 t188 := by kernel_rfl
theorem o188 : FnOk Tryz.prog 188 f188 := .of hmO (show enters Tryz.prog 188 = true by kernel_rfl) e188 (.cons o87 (.cons o93 (.cons o106 (.cons o109 (.nil)))))

/- (*concord/node.Node).drain -/
noncomputable def l110 : List (Nat × (List V → HT → Option J)) := [(186, f186), (187, f187), (188, f188)]
noncomputable def t110 : Fns := tab l110
noncomputable def f110_0 (rc : List V → HT → Option J) (x0 : V) (vs : List V) (h : HT) : Option J := unc vs fun x3 vs =>
  unc vs fun x4 vs =>
  unc vs fun x15 vs =>
  unc vs fun x16 vs =>
  unc vs fun x17 vs =>
  bndV (kBin .lss [x17, x16]) fun x18 =>
  tstv x18 (bndV (kIaS 1 [x15, x17]) fun x20 =>
  bndV (qLd h none [x20]) fun x21 =>
  bndC (f187 [x21] h) fun x25 h =>
  bndV (kIaS 1 [x3, x17]) fun x26 =>
  bndE (dSt h 1 [x26, x25]) h fun _ h =>
  bndV (kBin .add [x17, (.int .i64 (.ofNat (nat_lit 1)))]) fun x27 =>
  rc [x0, x3, x4, x15, x16, x27] h)
  (some ⟨0, [x0, x3, x4], h⟩)
noncomputable def f110_1 (x0 : V) (x3 : V) (x4 : V) (x29 : V) (h : HT) : Option J := bndV (kFa 3 [x29]) fun x30 =>
  bndV (qLd h none [x30]) fun x31 =>
  bndC (f188 [x31, x3] h) fun x33 h =>
  bndV (kBin .neq [x33, (.int .i64 (.ofNat (nat_lit 0)))]) fun x34 =>
  tstv x34 (bndC (noF [x0] h) fun x36 h =>
  ret1 (.bool false) h)
  (bndV (kNilc [x0]) fun x39 =>
  bndV (kFa 72 [x39]) fun x40 =>
  bndV (qLd h none [x40]) fun x41 =>
  bndE (dApp h 51 480 [x41, x4]) h fun x43 h =>
  bndV (kNilc [x0]) fun x44 =>
  bndV (kFa 72 [x44]) fun x45 =>
  bndE (dSt h 1 [x45, x43]) h fun _ h =>
  ret1 (.bool true) h)
noncomputable def f110_2 (x0 : V) (x9 : V) (h : HT) : Option J := bndV (kFa 4 [x9]) fun x10 =>
  bndV (qLd h none [x10]) fun x11 =>
  bndC (f186 [x11] h) fun x12 h =>
  bndV (kExt 0 [x12]) fun x13 =>
  bndV (kExt 1 [x12]) fun x14 =>
  bndV (kLenS [x13]) fun x16 =>
  bndJ (loopF (fun rc vs h => unc vs fun x0 vs =>
  (f110_0 rc x0 vs h)) 1000000 [x0, x13, x14, x13, x16, (.int .i64 (.ofNat (nat_lit 0)))] h)
  fun j vs h => unc vs fun x0 vs =>
  unc vs fun x3 vs =>
  unc vs fun x4 vs =>
  bndV (kNilc [x0]) fun x29 =>
  (f110_1 x0 x3 x4 x29 h)
noncomputable def f110 (vs : List V) (h : HT) : Option J := unc vs fun x0 vs =>
  bndV (kNilc [x0]) fun x9 =>
  (f110_2 x0 x9 h)
def a110 : List Ann := [.no, .loop [0, 3, 4, 15, 16, 17] [((.exit 0), [0, 3, 4])], .no, .no, .no]
theorem e110 : f110 = evFun Tryz.prog 110 1 a110 t110 := by kernel_rfl
theorem o110 : FnOk Tryz.prog 110 f110 := .of hmO (show enters Tryz.prog 110 = true by kernel_rfl) e110 (.cons o186 (.cons o187 (.cons o188 (.nil))))

/- slices.Clone[[]concord/api.Pair,concord/api.Pair] -/
noncomputable def l63 : List (Nat × (List V → HT → Option J)) := []
noncomputable def t63 : Fns := tab l63

noncomputable def f63 (vs : List V) (h : HT) : Option J := unc vs fun x0 vs =>
  bndV (kEqN false [x0, (.slice none 0 true 0)]) fun x4 =>
  tstv x4 (ret1 (.slice none 0 true 0) h)
  (bndN (kBsl 3 0 [] [] []) h fun x5 h =>
  bndE (dApp h 3 40 [x5, x0]) h fun x7 h =>
  ret1 x7 h)
def a63 : List Ann := [.no]
theorem e63 : f63 = evFun Tryz.prog 63 1 a63 t63 := by kernel_rfl
theorem o63 : FnOk Tryz.prog 63 f63 := .of hmO (show enters Tryz.prog 63 = true by kernel_rfl) e63 (.nil)

/- concord/dedup.known -/
noncomputable def l276 : List (Nat × (List V → HT → Option J)) := []
noncomputable def t276 : Fns := tab l276

noncomputable def f276 (vs : List V) (h : HT) : Option J := unc vs fun x0 vs =>
  bndV (kBin .geq [x0, (.int .i64 (.ofNat (nat_lit 1)))]) fun x4 =>
  bndC (gsel x4 true (retV (kMov [x0]) h) h) fun x6 h =>
  bndC (gsel x4 true (retV (kBin .leq [x6, (.int .i64 (.ofNat (nat_lit 8)))]) h) h) fun x7 h =>
  bndV (kPick [x4, x7, (.bool false)]) fun x8 =>
  ret1 x8 h
def a276 : List Ann := []
theorem e276 : f276 = evFun Tryz.prog 276 1 a276 t276 := by kernel_rfl
theorem o276 : FnOk Tryz.prog 276 f276 := .of hmO (show enters Tryz.prog 276 = true by kernel_rfl) e276 (.nil)

/- concord/dedup.copied -/
noncomputable def l277 : List (Nat × (List V → HT → Option J)) := [(63, f63)]
noncomputable def t277 : Fns := tab l277

noncomputable def f277 (vs : List V) (h : HT) : Option J := unc vs fun x0 vs =>
  bndN (kBox [x0]) h fun x1 h =>
  bndN (kAlloc [(.int .i64 (.ofNat (nat_lit 0))), (.bool false), (.str (sb [])), (.int .i64 (.ofNat (nat_lit 0))), (.slice none 0 true 0)] []) h fun x2 h =>
  bndV (kFa 4 [x1]) fun x3 =>
  bndV (qLd h none [x3]) fun x4 =>
  bndC (f63 [x4] h) fun x5 h =>
  bndV (kFa 4 [x1]) fun x6 =>
  bndE (dSt h 1 [x6, x5]) h fun _ h =>
  bndV (qLd h (some 5) [x1]) fun x7 =>
  bndE (dSt h 5 [x2, x7]) h fun _ h =>
  bndV (qLd h (some 5) [x2]) fun x900000 =>
  ret1 x900000 h
def a277 : List Ann := []
theorem e277 : f277 = evFun Tryz.prog 277 1 a277 t277 := by kernel_rfl
theorem o277 : FnOk Tryz.prog 277 f277 := .of hmO (show enters Tryz.prog 277 = true by kernel_rfl) e277 (.cons o63 (.nil))

/- concord/dedup.Note -/
noncomputable def l215 : List (Nat × (List V → HT → Option J)) := [(276, f276), (277, f277)]
noncomputable def t215 : Fns := tab l215
noncomputable def f215_0 (rc : List V → HT → Option J) (vs : List V) (h : HT) : Option J := unc vs fun x4 vs =>
  unc vs fun x8 vs =>
  unc vs fun x18 vs =>
  bndV (kBin .lss [x18, (.int .i64 (.ofNat (nat_lit 8)))]) fun x19 =>
  tstv x19 (bndV (kIaA 8 6 [x4, x18]) fun x23 =>
  bndV (kFa 1 [x23]) fun x24 =>
  bndV (qLd h (some 5) [x24]) fun x25 =>
  bndC (f277 [x25] h) fun x26 h =>
  bndV (kIaA 8 6 [x4, x18]) fun x27 =>
  bndV (kFa 1 [x27]) fun x28 =>
  bndE (dSt h 5 [x28, x26]) h fun _ h =>
  bndV (kBin .add [x18, (.int .i64 (.ofNat (nat_lit 1)))]) fun x29 =>
  rc [x4, x8, x29] h)
  (some ⟨0, [x4, x8], h⟩)
noncomputable def f215_1 (x1 : V) (x2 : V) (x4 : V) (x7 : V) (x8 : V) (x11 : V) (h : HT) : Option J := bndJ (tstv x11 (bndV (kBin .sub [x1, (.int .i64 (.ofNat (nat_lit 1)))]) fun x13 =>
  bndV (qLd h (some 5) [x7]) fun x15 =>
  bndV (kBld [(.int .i64 (.ofNat (nat_lit 0))), (.int .i64 (.ofNat (nat_lit 0))), (.bool false), (.str (sb [])), (.int .i64 (.ofNat (nat_lit 0))), (.slice none 0 true 0)] [(0, 1), (1, 5)] [x2, x15]) fun x16 =>
  bndV (kIaA 8 6 [x4, x13]) fun x17 =>
  bndE (dSt h 6 [x17, x16]) h fun _ h =>
  some ⟨0, [x4, x8], h⟩)
  (some ⟨0, [x4, x8], h⟩))
  fun j vs h => unc vs fun x4 vs =>
  unc vs fun x8 vs =>
  bndJ (loopF (fun rc vs h => (f215_0 rc vs h)) 1000000 [x4, x8, (.int .i64 (.ofNat (nat_lit 0)))] h)
  fun j vs h => unc vs fun x4 vs =>
  unc vs fun x8 vs =>
  bndV (qLd h (some 48) [x4]) fun x30 =>
  bndE (dSt h 48 [x8, x30]) h fun _ h =>
  bndV (qLd h (some 48) [x8]) fun x900000 =>
  ret1 x900000 h
noncomputable def f215 (vs : List V) (h : HT) : Option J := unc vs fun x0 vs =>
  unc vs fun x1 vs =>
  unc vs fun x2 vs =>
  unc vs fun x3 vs =>
  bndN (kBox [x0]) h fun x4 h =>
  bndN (kBox [x3]) h fun x7 h =>
  bndN (kAlloc [(.int .i64 (.ofNat (nat_lit 0))), (.int .i64 (.ofNat (nat_lit 0))), (.bool false), (.str (sb [])), (.int .i64 (.ofNat (nat_lit 0))), (.slice none 0 true 0), (.int .i64 (.ofNat (nat_lit 0))), (.int .i64 (.ofNat (nat_lit 0))), (.bool false), (.str (sb [])), (.int .i64 (.ofNat (nat_lit 0))), (.slice none 0 true 0), (.int .i64 (.ofNat (nat_lit 0))), (.int .i64 (.ofNat (nat_lit 0))), (.bool false), (.str (sb [])), (.int .i64 (.ofNat (nat_lit 0))), (.slice none 0 true 0), (.int .i64 (.ofNat (nat_lit 0))), (.int .i64 (.ofNat (nat_lit 0))), (.bool false), (.str (sb [])), (.int .i64 (.ofNat (nat_lit 0))), (.slice none 0 true 0), (.int .i64 (.ofNat (nat_lit 0))), (.int .i64 (.ofNat (nat_lit 0))), (.bool false), (.str (sb [])), (.int .i64 (.ofNat (nat_lit 0))), (.slice none 0 true 0), (.int .i64 (.ofNat (nat_lit 0))), (.int .i64 (.ofNat (nat_lit 0))), (.bool false), (.str (sb [])), (.int .i64 (.ofNat (nat_lit 0))), (.slice none 0 true 0), (.int .i64 (.ofNat (nat_lit 0))), (.int .i64 (.ofNat (nat_lit 0))), (.bool false), (.str (sb [])), (.int .i64 (.ofNat (nat_lit 0))), (.slice none 0 true 0), (.int .i64 (.ofNat (nat_lit 0))), (.int .i64 (.ofNat (nat_lit 0))), (.bool false), (.str (sb [])), (.int .i64 (.ofNat (nat_lit 0))), (.slice none 0 true 0)] []) h fun x8 h =>
  bndC (f276 [x1] h) fun x11 h =>
  (f215_1 x1 x2 x4 x7 x8 x11 h)
def a215 : List Ann := [.join [(.normal, [4, 8])], .no, .loop [4, 8, 18] [((.exit 0), [4, 8])], .no, .no]
theorem e215 : f215 = evFun Tryz.prog 215 4 a215 t215 := by kernel_rfl
theorem o215 : FnOk Tryz.prog 215 f215 := .of hmO (show enters Tryz.prog 215 = true by kernel_rfl) e215 (.cons o276 (.cons o277 (.nil)))

/- concord/state.copied -/
noncomputable def l139 : List (Nat × (List V → HT → Option J)) := [(63, f63), (215, f215)]
noncomputable def t139 : Fns := tab l139

noncomputable def f139 (vs : List V) (h : HT) : Option J := unc vs fun x0 vs =>
  bndN (kBox [x0]) h fun x1 h =>
  bndN (kAlloc [(.slice none 0 true 0), (.int .i64 (.ofNat (nat_lit 0))), (.int .i64 (.ofNat (nat_lit 0))), (.bool false), (.str (sb [])), (.int .i64 (.ofNat (nat_lit 0))), (.slice none 0 true 0), (.int .i64 (.ofNat (nat_lit 0))), (.int .i64 (.ofNat (nat_lit 0))), (.bool false), (.str (sb [])), (.int .i64 (.ofNat (nat_lit 0))), (.slice none 0 true 0), (.int .i64 (.ofNat (nat_lit 0))), (.int .i64 (.ofNat (nat_lit 0))), (.bool false), (.str (sb [])), (.int .i64 (.ofNat (nat_lit 0))), (.slice none 0 true 0), (.int .i64 (.ofNat (nat_lit 0))), (.int .i64 (.ofNat (nat_lit 0))), (.bool false), (.str (sb [])), (.int .i64 (.ofNat (nat_lit 0))), (.slice none 0 true 0), (.int .i64 (.ofNat (nat_lit 0))), (.int .i64 (.ofNat (nat_lit 0))), (.bool false), (.str (sb [])), (.int .i64 (.ofNat (nat_lit 0))), (.slice none 0 true 0), (.int .i64 (.ofNat (nat_lit 0))), (.int .i64 (.ofNat (nat_lit 0))), (.bool false), (.str (sb [])), (.int .i64 (.ofNat (nat_lit 0))), (.slice none 0 true 0), (.int .i64 (.ofNat (nat_lit 0))), (.int .i64 (.ofNat (nat_lit 0))), (.bool false), (.str (sb [])), (.int .i64 (.ofNat (nat_lit 0))), (.slice none 0 true 0), (.int .i64 (.ofNat (nat_lit 0))), (.int .i64 (.ofNat (nat_lit 0))), (.bool false), (.str (sb [])), (.int .i64 (.ofNat (nat_lit 0))), (.slice none 0 true 0)] []) h fun x2 h =>
  bndV (kFa 0 [x1]) fun x3 =>
  bndV (qLd h none [x3]) fun x4 =>
  bndV (kFa 1 [x1]) fun x6 =>
  bndV (qLd h (some 48) [x6]) fun x7 =>
  bndV (kBld [(.int .i64 (.ofNat (nat_lit 0))), (.bool false), (.str (sb [])), (.int .i64 (.ofNat (nat_lit 0))), (.slice none 0 true 0)] [] []) fun x8 =>
  bndC (f63 [x4] h) fun x5 h =>
  chk1 (sameE (qLd h (some 48) [x6]) x7) (bndC (f215 [x7, (.int .i64 (.ofNat (nat_lit 0))), (.int .i64 (.ofNat (nat_lit 0))), x8] h) fun x9 h =>
  bndV (kBld [(.slice none 0 true 0), (.int .i64 (.ofNat (nat_lit 0))), (.int .i64 (.ofNat (nat_lit 0))), (.bool false), (.str (sb [])), (.int .i64 (.ofNat (nat_lit 0))), (.slice none 0 true 0), (.int .i64 (.ofNat (nat_lit 0))), (.int .i64 (.ofNat (nat_lit 0))), (.bool false), (.str (sb [])), (.int .i64 (.ofNat (nat_lit 0))), (.slice none 0 true 0), (.int .i64 (.ofNat (nat_lit 0))), (.int .i64 (.ofNat (nat_lit 0))), (.bool false), (.str (sb [])), (.int .i64 (.ofNat (nat_lit 0))), (.slice none 0 true 0), (.int .i64 (.ofNat (nat_lit 0))), (.int .i64 (.ofNat (nat_lit 0))), (.bool false), (.str (sb [])), (.int .i64 (.ofNat (nat_lit 0))), (.slice none 0 true 0), (.int .i64 (.ofNat (nat_lit 0))), (.int .i64 (.ofNat (nat_lit 0))), (.bool false), (.str (sb [])), (.int .i64 (.ofNat (nat_lit 0))), (.slice none 0 true 0), (.int .i64 (.ofNat (nat_lit 0))), (.int .i64 (.ofNat (nat_lit 0))), (.bool false), (.str (sb [])), (.int .i64 (.ofNat (nat_lit 0))), (.slice none 0 true 0), (.int .i64 (.ofNat (nat_lit 0))), (.int .i64 (.ofNat (nat_lit 0))), (.bool false), (.str (sb [])), (.int .i64 (.ofNat (nat_lit 0))), (.slice none 0 true 0), (.int .i64 (.ofNat (nat_lit 0))), (.int .i64 (.ofNat (nat_lit 0))), (.bool false), (.str (sb [])), (.int .i64 (.ofNat (nat_lit 0))), (.slice none 0 true 0)] [(0, 1), (1, 48)] [x5, x9]) fun x10 =>
  bndE (dSt h 49 [x2, x10]) h fun _ h =>
  bndV (qLd h (some 49) [x2]) fun x900000 =>
  ret1 x900000 h)
def a139 : List Ann := []
theorem e139 : f139 = evFun Tryz.prog 139 1 a139 t139 := by kernel_rfl
theorem o139 : FnOk Tryz.prog 139 f139 := .of hmO (show enters Tryz.prog 139 = true by kernel_rfl) e139 (.cons o63 (.cons o215 (.nil)))

/- concord/dedup.Look -/
noncomputable def l216 : List (Nat × (List V → HT → Option J)) := [(276, f276)]
noncomputable def t216 : Fns := tab l216
noncomputable def f216_0 (x2 : V) (x7 : V) (x8 : V) (x21 : V) (h : HT) : Option J := tstv x21 (bndV (kBld [(.int .i64 (.ofNat (nat_lit 0))), (.bool false), (.str (sb [])), (.int .i64 (.ofNat (nat_lit 0))), (.slice none 0 true 0)] [] []) fun x22 =>
  bndE (dSt h 5 [x7, x22]) h fun _ h =>
  bndV (qLd h (some 5) [x7]) fun x900000 =>
  ret1 (.tuple [(.int .i64 (.ofNat (nat_lit 1))), x900000]) h)
  (bndV (kFa 0 [x8]) fun x25 =>
  bndV (qLd h none [x25]) fun x26 =>
  bndV (kBin .eql [x2, x26]) fun x27 =>
  tstv x27 (bndV (kFa 1 [x8]) fun x28 =>
  bndV (qLd h (some 5) [x28]) fun x29 =>
  bndC (noF [x29] h) fun x30 h =>
  bndE (dSt h 5 [x7, x30]) h fun _ h =>
  bndV (qLd h (some 5) [x7]) fun x900000 =>
  ret1 (.tuple [(.int .i64 (.ofNat (nat_lit 2))), x900000]) h)
  (bndV (kBld [(.int .i64 (.ofNat (nat_lit 0))), (.bool false), (.str (sb [])), (.int .i64 (.ofNat (nat_lit 0))), (.slice none 0 true 0)] [] []) fun x31 =>
  bndE (dSt h 5 [x7, x31]) h fun _ h =>
  bndV (qLd h (some 5) [x7]) fun x900000 =>
  ret1 (.tuple [(.int .i64 (.ofNat (nat_lit 3))), x900000]) h))
noncomputable def f216_1 (x1 : V) (x2 : V) (x3 : V) (x7 : V) (x10 : V) (h : HT) : Option J := bndV (kUn .not [x10]) fun x11 =>
  tstv x11 (bndV (kBld [(.int .i64 (.ofNat (nat_lit 0))), (.bool false), (.str (sb [])), (.int .i64 (.ofNat (nat_lit 0))), (.slice none 0 true 0)] [] []) fun x12 =>
  bndE (dSt h 5 [x7, x12]) h fun _ h =>
  bndV (qLd h (some 5) [x7]) fun x900000 =>
  ret1 (.tuple [(.int .i64 (.ofNat (nat_lit 0))), x900000]) h)
  (bndV (kBin .sub [x1, (.int .i64 (.ofNat (nat_lit 1)))]) fun x14 =>
  bndV (kIaA 8 6 [x3, x14]) fun x15 =>
  bndV (qLd h (some 6) [x15]) fun x16 =>
  bndN (kAlloc [(.int .i64 (.ofNat (nat_lit 0))), (.int .i64 (.ofNat (nat_lit 0))), (.bool false), (.str (sb [])), (.int .i64 (.ofNat (nat_lit 0))), (.slice none 0 true 0)] []) h fun x8 h =>
  bndE (dSt h 6 [x8, x16]) h fun _ h =>
  bndV (kFa 0 [x8]) fun x19 =>
  bndV (qLd h none [x19]) fun x20 =>
  bndV (kBin .gtr [x2, x20]) fun x21 =>
  (f216_0 x2 x7 x8 x21 h))
noncomputable def f216 (vs : List V) (h : HT) : Option J := unc vs fun x0 vs =>
  unc vs fun x1 vs =>
  unc vs fun x2 vs =>
  bndN (kBox [x0]) h fun x3 h =>
  bndN (kAlloc [(.int .i64 (.ofNat (nat_lit 0))), (.bool false), (.str (sb [])), (.int .i64 (.ofNat (nat_lit 0))), (.slice none 0 true 0)] []) h fun x7 h =>
  bndC (f276 [x1] h) fun x10 h =>
  (f216_1 x1 x2 x3 x7 x10 h)
def a216 : List Ann := [.no, .no, .no, .no]
theorem e216 : f216 = evFun Tryz.prog 216 3 a216 t216 := by kernel_rfl
theorem o216 : FnOk Tryz.prog 216 f216 := .of hmO (show enters Tryz.prog 216 = true by kernel_rfl) e216 (.cons o276 (.nil))
end Go.Cn
