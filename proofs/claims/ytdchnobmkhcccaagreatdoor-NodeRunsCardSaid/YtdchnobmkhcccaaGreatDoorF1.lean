/- Functions of the program, told as plain functions of what they are called with, each with the proof that it is what the code does (printed by a program of the prover). -/
import Derived.Test.YtdchnobmkhcccaaGreatDoorF0
namespace Go.Cn
open Go.Proofs
set_option maxRecDepth 100000
set_option linter.unusedVariables false
/- (*concord/disk.Disk).Total -/
noncomputable def l298 : List (Nat × (List V → HT → Option J)) := []
noncomputable def t298 : Fns := tab l298
noncomputable def f298_0 (rc : List V → HT → Option J) (x3 : V) (x9 : V) (x10 : V) (x11 : V) (x12 : V) (h : HT) : Option J := tstv x12 (bndV (kIaS 3 [x9, x11]) fun x13 =>
  bndV (qLd h (some 3) [x13]) fun x14 =>
  bndN (kAlloc [(.str (sb [])), (.slice none 0 true 0), (.int .i64 (.ofNat (nat_lit 0)))] []) h fun x5 h =>
  bndE (dSt h 3 [x5, x14]) h fun _ h =>
  bndV (kMov [x3]) fun x15 =>
  bndV (kFa 1 [x5]) fun x16 =>
  bndV (qLd h none [x16]) fun x17 =>
  bndV (kLenS [x17]) fun x18 =>
  bndV (kBin .add [x15, x18]) fun x19 =>
  bndV (kMov [x19]) fun x3 =>
  bndV (kBin .add [x11, (.int .i64 (.ofNat (nat_lit 1)))]) fun x20 =>
  bndV (kMov [x20]) fun x11 =>
  rc [x3, x9, x10, x11] h)
  (some ⟨0, [x3], h⟩)
noncomputable def f298_1 (x3 : V) (x8 : V) (h : HT) : Option J := bndV (qLd h none [x8]) fun x9 =>
  bndV (kLenS [x9]) fun x10 =>
  bndV (kMov [(.int .i64 (.ofNat (nat_lit 0)))]) fun x11 =>
  bndJ (loopF (fun rc vs h => unc vs fun x3 vs =>
  unc vs fun x9 vs =>
  unc vs fun x10 vs =>
  unc vs fun x11 vs =>
  bndV (kBin .lss [x11, x10]) fun x12 =>
  (f298_0 rc x3 x9 x10 x11 x12 h)) 1000000 [x3, x9, x10, x11] h)
  fun j vs h => unc vs fun x3 vs =>
  bndV (kMov [x3]) fun x21 =>
  bndV (kMov [x21]) fun x2 =>
  ret1 x2 h
noncomputable def f298 (vs : List V) (h : HT) : Option J := unc vs fun x0 vs =>
  bndV (kMov [(.int .i64 (.ofNat (nat_lit 0)))]) fun x2 =>
  bndV (kMov [(.int .i64 (.ofNat (nat_lit 0)))]) fun x3 =>
  bndV (kMov [x0]) fun x6 =>
  bndV (kNilc [x6]) fun x7 =>
  bndV (kFa 1 [x7]) fun x8 =>
  (f298_1 x3 x8 h)
def a298 : List Ann := [.no, .loop [3, 9, 10, 11] [((.exit 0), [3])], .no, .no]
theorem e298 : f298 = evFun Tryz.prog 298 1 a298 t298 := by kernel_rfl
theorem o298 : FnOk Tryz.prog 298 f298 := .of hmO (show enters Tryz.prog 298 = true by kernel_rfl) e298 (.nil)

/- (*concord/disk.Disk).Room -/
noncomputable def l249 : List (Nat × (List V → HT → Option J)) := [(298, f298)]
noncomputable def t249 : Fns := tab l249

noncomputable def f249 (vs : List V) (h : HT) : Option J := unc vs fun x0 vs =>
  bndV (kMov [(.int .i64 (.ofNat (nat_lit 0)))]) fun x2 =>
  bndV (kMov [x0]) fun x3 =>
  bndV (kNilc [x3]) fun x4 =>
  bndV (kFa 0 [x4]) fun x5 =>
  bndV (qLd h none [x5]) fun x6 =>
  bndV (kMov [x0]) fun x7 =>
  bndC (f298 [x7] h) fun x8 h =>
  chk1 (sameE (qLd h none [x5]) x6) (bndV (kBin .sub [x6, x8]) fun x9 =>
  bndV (kMov [x9]) fun x2 =>
  ret1 x2 h)
def a249 : List Ann := []
theorem e249 : f249 = evFun Tryz.prog 249 1 a249 t249 := by kernel_rfl
theorem o249 : FnOk Tryz.prog 249 f249 := .of hmO (show enters Tryz.prog 249 = true by kernel_rfl) e249 (.cons o298 (.nil))

/- slices.Insert[[]concord/disk.file,concord/disk.file] -/
noncomputable def l250 : List (Nat × (List V → HT → Option J)) := []
noncomputable def t250 : Fns := tab l250
noncomputable def f250_0 (x0 : V) (x1 : V) (x2 : V) (x7 : V) (x8 : V) (x31 : V) : Option J := tstv x31 (bndV (kMov [x0]) fun x32 =>
  bndV (kMov [x1]) fun x33 =>
  bndV (kSlS 3 false true [x32, x33]) fun x34 =>
  bndV (kMov [x8]) fun x35 =>
  bndV (kMov [x7]) fun x36 =>
  bndV (kBin .add [x35, x36]) fun x37 =>
  bndV (kMov [x1]) fun x38 =>
  bndV (kBin .sub [x37, x38]) fun x39 =>
  none)
  (bndV (kMov [x0]) fun x56 =>
  bndV (kMov [x8]) fun x57 =>
  bndV (kMov [x7]) fun x58 =>
  bndV (kBin .add [x57, x58]) fun x59 =>
  bndV (kSlS 3 false true [x56, x59]) fun x60 =>
  bndV (kMov [x60]) fun x0 =>
  bndV (kMov [x2]) fun x61 =>
  bndV (kMov [x0]) fun x62 =>
  bndV (kMov [x1]) fun x63 =>
  bndV (kMov [x7]) fun x64 =>
  bndV (kBin .add [x63, x64]) fun x65 =>
  bndV (kSlS 3 true false [x62, x65]) fun x66 =>
  none)
noncomputable def f250_1 (x0 : V) (x1 : V) (x2 : V) (x7 : V) (x8 : V) (x20 : V) (h : HT) : Option J := bndV (kMov [x8]) fun x21 =>
  bndV (kBin .eql [x20, x21]) fun x22 =>
  tstv x22 (bndV (kMov [x0]) fun x23 =>
  bndV (kMov [x2]) fun x24 =>
  bndE (dApp h 3 48 [x23, x24]) h fun x25 h =>
  bndV (kMov [x25]) fun x6 =>
  ret1 x6 h)
  (bndV (kMov [x8]) fun x26 =>
  bndV (kMov [x7]) fun x27 =>
  bndV (kBin .add [x26, x27]) fun x28 =>
  bndV (kMov [x0]) fun x29 =>
  bndV (kCapS [x29]) fun x30 =>
  bndV (kBin .gtr [x28, x30]) fun x31 =>
  (f250_0 x0 x1 x2 x7 x8 x31))
noncomputable def f250_2 (x0 : V) (x1 : V) (x2 : V) (x10 : V) (x11 : V) (h : HT) : Option J := bndV (kSlS 3 true false [x10, x11]) fun x12 =>
  bndV (kMov [x2]) fun x13 =>
  bndV (kLenS [x13]) fun x14 =>
  bndV (kMov [x14]) fun x7 =>
  bndV (kMov [x7]) fun x15 =>
  bndV (kBin .eql [x15, (.int .i64 (.ofNat (nat_lit 0)))]) fun x16 =>
  tstv x16 (bndV (kMov [x0]) fun x17 =>
  bndV (kMov [x17]) fun x6 =>
  ret1 x6 h)
  (bndV (kMov [x0]) fun x18 =>
  bndV (kLenS [x18]) fun x19 =>
  bndV (kMov [x19]) fun x8 =>
  bndV (kMov [x1]) fun x20 =>
  (f250_1 x0 x1 x2 x7 x8 x20 h))
noncomputable def f250 (vs : List V) (h : HT) : Option J := unc vs fun x0 vs =>
  unc vs fun x1 vs =>
  unc vs fun x2 vs =>
  bndV (kMov [(.slice none 0 true 0)]) fun x6 =>
  bndV (kMov [x0]) fun x10 =>
  bndV (kMov [x1]) fun x11 =>
  (f250_2 x0 x1 x2 x10 x11 h)
def a250 : List Ann := [.no, .no, .no, .no]
theorem e250 : f250 = evFun Tryz.prog 250 3 a250 t250 := by kernel_rfl
theorem o250 : FnOk Tryz.prog 250 f250 := .of hmO (show enters Tryz.prog 250 = true by kernel_rfl) e250 (.nil)

/- slices.Concat[[]byte,byte] -/
noncomputable def l251 : List (Nat × (List V → HT → Option J)) := [(301, (cGrow 1 1))]
noncomputable def t251 : Fns := tab l251
noncomputable def f251_0 (rc : List V → HT → Option J) (x0 : V) (x3 : V) (x9 : V) (x10 : V) (x11 : V) (h : HT) : Option J := bndV (kMov [x3]) fun x19 =>
  bndV (kBin .lss [x19, (.int .i64 (.ofNat (nat_lit 0)))]) fun x20 =>
  bndJ (tstv x20 (bndV (kMkI 9 [(.str (sb [108, 101, 110, 32, 111, 117, 116, 32, 111, 102, 32, 114, 97, 110, 103, 101]))]) fun x21 =>
  none)
  (some ⟨0, [x0, x3, x9, x10, x11], h⟩))
  fun j vs h => unc vs fun x0 vs =>
  unc vs fun x3 vs =>
  unc vs fun x9 vs =>
  unc vs fun x10 vs =>
  unc vs fun x11 vs =>
  bndV (kBin .add [x11, (.int .i64 (.ofNat (nat_lit 1)))]) fun x22 =>
  bndV (kMov [x22]) fun x11 =>
  rc [x0, x3, x9, x10, x11] h
noncomputable def f251_1 (rc : List V → HT → Option J) (x0 : V) (x3 : V) (vs : List V) (h : HT) : Option J := unc vs fun x9 vs =>
  unc vs fun x10 vs =>
  unc vs fun x11 vs =>
  bndV (kBin .lss [x11, x10]) fun x12 =>
  tstv x12 (bndV (kIaS 1 [x9, x11]) fun x13 =>
  bndV (qLd h none [x13]) fun x14 =>
  bndV (kMov [x14]) fun x5 =>
  bndV (kMov [x3]) fun x15 =>
  bndV (kMov [x5]) fun x16 =>
  bndV (kLenS [x16]) fun x17 =>
  bndV (kBin .add [x15, x17]) fun x18 =>
  bndV (kMov [x18]) fun x3 =>
  (f251_0 rc x0 x3 x9 x10 x11 h))
  (some ⟨0, [x0, x3], h⟩)
noncomputable def f251_2 (rc : List V → HT → Option J) (x6 : V) (x25 : V) (vs : List V) (h : HT) : Option J := unc vs fun x26 vs =>
  unc vs fun x27 vs =>
  bndV (kBin .lss [x27, x26]) fun x28 =>
  tstv x28 (bndV (kIaS 1 [x25, x27]) fun x29 =>
  bndV (qLd h none [x29]) fun x30 =>
  bndV (kMov [x30]) fun x8 =>
  bndV (kMov [x6]) fun x31 =>
  bndV (kMov [x8]) fun x32 =>
  bndE (dApp h 1 1 [x31, x32]) h fun x33 h =>
  bndV (kMov [x33]) fun x6 =>
  bndV (kBin .add [x27, (.int .i64 (.ofNat (nat_lit 1)))]) fun x34 =>
  bndV (kMov [x34]) fun x27 =>
  rc [x6, x25, x26, x27] h)
  (some ⟨0, [x6], h⟩)
noncomputable def f251_3 (x0 : V) (x3 : V) (h : HT) : Option J := bndV (kMov [x3]) fun x23 =>
  bndC ((cGrow 1 1) [(.slice none 0 true 0), x23] h) fun x24 h =>
  bndV (kMov [x24]) fun x6 =>
  bndV (kMov [x0]) fun x25 =>
  bndV (kLenS [x25]) fun x26 =>
  bndV (kMov [(.int .i64 (.ofNat (nat_lit 0)))]) fun x27 =>
  bndJ (loopF (fun rc vs h => unc vs fun x6 vs =>
  unc vs fun x25 vs =>
  (f251_2 rc x6 x25 vs h)) 1000000 [x6, x25, x26, x27] h)
  fun j vs h => unc vs fun x6 vs =>
  bndV (kMov [x6]) fun x35 =>
  bndV (kMov [x35]) fun x2 =>
  ret1 x2 h
noncomputable def f251 (vs : List V) (h : HT) : Option J := unc vs fun x0 vs =>
  bndV (kMov [(.slice none 0 true 0)]) fun x2 =>
  bndV (kMov [(.int .i64 (.ofNat (nat_lit 0)))]) fun x3 =>
  bndV (kMov [x0]) fun x9 =>
  bndV (kLenS [x9]) fun x10 =>
  bndV (kMov [(.int .i64 (.ofNat (nat_lit 0)))]) fun x11 =>
  bndJ (loopF (fun rc vs h => unc vs fun x0 vs =>
  unc vs fun x3 vs =>
  (f251_1 rc x0 x3 vs h)) 1000000 [x0, x3, x9, x10, x11] h)
  fun j vs h => unc vs fun x0 vs =>
  unc vs fun x3 vs =>
  (f251_3 x0 x3 h)
def a251 : List Ann := [.no, .loop [0, 3, 9, 10, 11] [((.exit 0), [0, 3])], .no, .no, .join [(.normal, [0, 3, 9, 10, 11])], .no, .loop [6, 25, 26, 27] [((.exit 2), [6])], .no, .no]
theorem e251 : f251 = evFun Tryz.prog 251 1 a251 t251 := by kernel_rfl
theorem o251 : FnOk Tryz.prog 251 f251 := .of hmO (show enters Tryz.prog 251 = true by kernel_rfl) e251 (.cons o301 (.nil))

/- (*concord/disk.Disk).Append -/
noncomputable def l185 : List (Nat × (List V → HT → Option J)) := [(163, f163), (171, f171), (248, f248), (249, f249), (250, f250), (251, f251)]
noncomputable def t185 : Fns := tab l185
noncomputable def f185_0 (x0 : V) (x1 : V) (x2 : V) (x8 : V) (x37 : V) (h : HT) : Option J := tstv x37 (bndV (kMov [x0]) fun x38 =>
  bndV (kMov [x0]) fun x39 =>
  bndV (kNilc [x39]) fun x40 =>
  bndV (kFa 1 [x40]) fun x41 =>
  bndV (qLd h none [x41]) fun x42 =>
  bndV (kMov [x8]) fun x43 =>
  bndV (kMov [x1]) fun x44 =>
  bndV (kBld [(.str (sb [])), (.slice none 0 true 0), (.int .i64 (.ofNat (nat_lit 0)))] [(0, 1)] [x44]) fun x45 =>
  bndN (kBsl 3 1 [(.str (sb [])), (.slice none 0 true 0), (.int .i64 (.ofNat (nat_lit 0)))] [(0, 3)] [x45]) h fun x46 h =>
  bndC (f250 [x42, x43, x46] h) fun x47 h =>
  bndV (kNilc [x38]) fun x48 =>
  bndV (kFa 1 [x48]) fun x49 =>
  bndE (dSt h 1 [x49, x47]) h fun _ h =>
  some ⟨0, [x0, x2, x8], h⟩)
  (some ⟨0, [x0, x2, x8], h⟩)
noncomputable def f185_1 (x2 : V) (x8 : V) (x52 : V) (x53 : V) (x54 : V) (x56 : V) (h : HT) : Option J := bndV (kFa 1 [x56]) fun x57 =>
  bndV (qLd h none [x57]) fun x58 =>
  bndV (kMov [x8]) fun x59 =>
  bndV (kIaS 3 [x58, x59]) fun x60 =>
  bndV (kFa 1 [x60]) fun x61 =>
  bndV (qLd h none [x61]) fun x62 =>
  bndV (kMov [x2]) fun x63 =>
  bndN (kBsl 1 2 [(.slice none 0 true 0), (.slice none 0 true 0)] [(0, 1), (1, 1)] [x62, x63]) h fun x64 h =>
  bndC (f251 [x64] h) fun x65 h =>
  chk1 (sameE (qLd h none [x52]) x53) (bndV (kIaS 3 [x53, x54]) fun x66 =>
  bndV (kFa 1 [x66]) fun x67 =>
  bndE (dSt h 1 [x67, x65]) h fun _ h =>
  bndV (kMov [(.int .i64 (.ofNat (nat_lit 0)))]) fun x6 =>
  ret1 x6 h)
noncomputable def f185_2 (x0 : V) (x1 : V) (x2 : V) (x8 : V) (x9 : V) (h : HT) : Option J := bndV (kMov [x9]) fun x36 =>
  bndV (kUn .not [x36]) fun x37 =>
  bndJ ((f185_0 x0 x1 x2 x8 x37 h))
  fun j vs h => unc vs fun x0 vs =>
  unc vs fun x2 vs =>
  unc vs fun x8 vs =>
  bndV (kMov [x0]) fun x50 =>
  bndV (kNilc [x50]) fun x51 =>
  bndV (kFa 1 [x51]) fun x52 =>
  bndV (qLd h none [x52]) fun x53 =>
  bndV (kMov [x8]) fun x54 =>
  bndV (kMov [x0]) fun x55 =>
  bndV (kNilc [x55]) fun x56 =>
  (f185_1 x2 x8 x52 x53 x54 x56 h)
noncomputable def f185_3 (x0 : V) (x1 : V) (x2 : V) (x7 : V) (h : HT) : Option J := bndV (kMov [x7]) fun x27 =>
  bndV (kBin .neq [x27, (.int .i64 (.ofNat (nat_lit 0)))]) fun x28 =>
  tstv x28 (bndV (kMov [x7]) fun x29 =>
  bndV (kMov [x29]) fun x6 =>
  ret1 x6 h)
  (bndV (kMov [x0]) fun x31 =>
  bndV (kMov [x1]) fun x32 =>
  bndC (f163 [x31, x32] h) fun x33 h =>
  bndV (kMov [x33]) fun x30 =>
  bndV (kExt 0 [x30]) fun x34 =>
  bndV (kExt 1 [x30]) fun x35 =>
  bndV (kMov [x34]) fun x8 =>
  bndV (kMov [x35]) fun x9 =>
  (f185_2 x0 x1 x2 x8 x9 h))
noncomputable def f185_4 (x0 : V) (x1 : V) (x2 : V) (x15 : V) (h : HT) : Option J := tstv x15 (bndV (kMov [(.int .i64 (.ofNat (nat_lit 11)))]) fun x6 =>
  ret1 x6 h)
  (bndV (kMov [x2]) fun x20 =>
  bndV (kLenS [x20]) fun x21 =>
  bndV (kMov [x0]) fun x22 =>
  bndC (f249 [x22] h) fun x23 h =>
  bndV (kBin .gtr [x21, x23]) fun x24 =>
  bndV (kMov [x24]) fun x19 =>
  tstv x19 (bndV (kMov [(.int .i64 (.ofNat (nat_lit 7)))]) fun x6 =>
  ret1 x6 h)
  (bndV (kMov [x0]) fun x25 =>
  bndC (f171 [x25] h) fun x26 h =>
  bndV (kMov [x26]) fun x7 =>
  (f185_3 x0 x1 x2 x7 h)))
noncomputable def f185_5 (x0 : V) (x1 : V) (vs : List V) (h : HT) : Option J := unc vs fun x2 vs =>
  bndV (kMov [(.int .i64 (.ofNat (nat_lit 0)))]) fun x6 =>
  bndV (kMov [x0]) fun x11 =>
  bndV (kNilc [x11]) fun x12 =>
  bndV (kFa 2 [x12]) fun x13 =>
  bndV (qLd h none [x13]) fun x14 =>
  bndV (kMov [x14]) fun x10 =>
  tstv x10 (bndV (kMov [(.int .i64 (.ofNat (nat_lit 10)))]) fun x6 =>
  ret1 x6 h)
  (bndV (kMov [x1]) fun x16 =>
  bndC (f248 [x16] h) fun x17 h =>
  bndV (kUn .not [x17]) fun x18 =>
  bndV (kMov [x18]) fun x15 =>
  (f185_4 x0 x1 x2 x15 h))
noncomputable def f185 (vs : List V) (h : HT) : Option J := unc vs fun x0 vs =>
  unc vs fun x1 vs =>
  (f185_5 x0 x1 vs h)
def a185 : List Ann := [.no, .no, .no, .no, .no, .join [(.normal, [0, 2, 8])]]
theorem e185 : f185 = evFun Tryz.prog 185 3 a185 t185 := by kernel_rfl
theorem o185 : FnOk Tryz.prog 185 f185 := .of hmO (show enters Tryz.prog 185 = true by kernel_rfl) e185 (.cons o163 (.cons o171 (.cons o248 (.cons o249 (.cons o250 (.cons o251 (.nil)))))))

/- (*concord/wal.Wal).write -/
noncomputable def l109 : List (Nat × (List V → HT → Option J)) := [(93, f93), (95, f95), (185, f185)]
noncomputable def t109 : Fns := tab l109
noncomputable def f109_0 (x0 : V) (x4 : V) (x7 : V) (x20 : V) (h : HT) : Option J := bndJ (tstv x20 (bndV (kMov [x0]) fun x21 =>
  bndV (kNilc [x21]) fun x22 =>
  bndV (kFa 0 [x22]) fun x23 =>
  bndV (qLd h none [x23]) fun x24 =>
  bndV (qLd h (some 2) [x4]) fun x25 =>
  bndC (f93 [x25] h) fun x26 h =>
  chk1 (sameE (qLd h none [x23]) x24) (bndC (f95 [x24, x26] h) fun x27 h =>
  bndV (kMov [x27]) fun x7 =>
  some ⟨0, [x0, x7], h⟩))
  (some ⟨0, [x0, x7], h⟩))
  fun j vs h => unc vs fun x0 vs =>
  unc vs fun x7 vs =>
  bndV (kMov [x0]) fun x28 =>
  bndV (kMov [x7]) fun x29 =>
  bndV (kBin .neq [x29, (.int .i64 (.ofNat (nat_lit 0)))]) fun x30 =>
  bndV (kNilc [x28]) fun x31 =>
  bndV (kFa 3 [x31]) fun x32 =>
  bndE (dSt h 1 [x32, x30]) h fun _ h =>
  bndV (kMov [x7]) fun x33 =>
  bndV (kMov [x33]) fun x6 =>
  ret1 x6 h
noncomputable def f109_1 (x0 : V) (x2 : V) (x4 : V) (x10 : V) (x11 : V) (h : HT) : Option J := bndV (qLd h (some 2) [x4]) fun x12 =>
  bndV (kMov [x2]) fun x14 =>
  bndC (f93 [x12] h) fun x13 h =>
  chk1 (sameE (qLd h none [x10]) x11) (bndC (f185 [x11, x13, x14] h) fun x15 h =>
  bndV (kMov [x15]) fun x7 =>
  bndV (kMov [x7]) fun x16 =>
  bndV (kBin .eql [x16, (.int .i64 (.ofNat (nat_lit 7)))]) fun x17 =>
  tstv x17 (bndV (kMov [x7]) fun x18 =>
  bndV (kMov [x18]) fun x6 =>
  ret1 x6 h)
  (bndV (kMov [x7]) fun x19 =>
  bndV (kBin .eql [x19, (.int .i64 (.ofNat (nat_lit 0)))]) fun x20 =>
  (f109_0 x0 x4 x7 x20 h)))
noncomputable def f109 (vs : List V) (h : HT) : Option J := unc vs fun x0 vs =>
  unc vs fun x1 vs =>
  unc vs fun x2 vs =>
  bndN (kBox [x1]) h fun x4 h =>
  bndV (kMov [(.int .i64 (.ofNat (nat_lit 0)))]) fun x6 =>
  bndV (kMov [x0]) fun x8 =>
  bndV (kNilc [x8]) fun x9 =>
  bndV (kFa 0 [x9]) fun x10 =>
  bndV (qLd h none [x10]) fun x11 =>
  (f109_1 x0 x2 x4 x10 x11 h)
def a109 : List Ann := [.no, .join [(.normal, [0, 7])]]
theorem e109 : f109 = evFun Tryz.prog 109 3 a109 t109 := by kernel_rfl
theorem o109 : FnOk Tryz.prog 109 f109 := .of hmO (show enters Tryz.prog 109 = true by kernel_rfl) e109 (.cons o93 (.cons o95 (.cons o185 (.nil))))

/- (*concord/wal.Wal).Anew -/
noncomputable def l36 : List (Nat × (List V → HT → Option J)) := [(106, f106), (107, f107), (108, f108), (109, f109)]
noncomputable def t36 : Fns := tab l36
noncomputable def f36_0 (rc : List V → HT → Option J) (x0 : V) (x7 : V) (x9 : V) (x67 : V) (h : HT) : Option J := bndV (kMov [x67]) fun x10 =>
  bndV (kMov [x10]) fun x68 =>
  bndV (kBin .neq [x68, (.int .i64 (.ofNat (nat_lit 0)))]) fun x69 =>
  tstv x69 (bndV (kMov [x0]) fun x70 =>
  bndV (kNilc [x70]) fun x71 =>
  bndV (kFa 3 [x71]) fun x72 =>
  bndE (dSt h 1 [x72, (.bool true)]) h fun _ h =>
  bndV (kMov [x10]) fun x73 =>
  bndV (kMov [x73]) fun x4 =>
  some ⟨1, [x4], h⟩)
  (bndV (kMov [x9]) fun x53 =>
  bndV (kBin .add [x53, (.int .i64 (.ofNat (nat_lit 1)))]) fun x54 =>
  bndV (kMov [x54]) fun x9 =>
  rc [x0, x7, x9] h)
noncomputable def f36_1 (rc : List V → HT → Option J) (x0 : V) (x7 : V) (x9 : V) (h : HT) : Option J := bndV (kMov [x0]) fun x55 =>
  bndV (kNilc [x55]) fun x56 =>
  bndV (kFa 0 [x56]) fun x57 =>
  bndV (qLd h none [x57]) fun x58 =>
  bndV (kMov [x0]) fun x59 =>
  bndV (kNilc [x59]) fun x60 =>
  bndV (kFa 1 [x60]) fun x61 =>
  bndV (kFa 0 [x61]) fun x62 =>
  bndV (qLd h none [x62]) fun x63 =>
  bndV (kMov [x9]) fun x64 =>
  bndV (kBld [(.int .i64 (.ofNat (nat_lit 0))), (.int .i64 (.ofNat (nat_lit 0)))] [(0, 1), (1, 1)] [x63, x64]) fun x65 =>
  bndC (noF [x65] h) fun x66 h =>
  chk1 (sameE (qLd h none [x57]) x58) (bndC (noF [x58, x66] h) fun x67 h =>
  (f36_0 rc x0 x7 x9 x67 h))
noncomputable def f36_2 (x0 : V) (x7 : V) (x9 : V) (h : HT) : Option J := bndJ (loopF (fun rc vs h => unc vs fun x0 vs =>
  unc vs fun x7 vs =>
  unc vs fun x9 vs =>
  bndV (kMov [x9]) fun x46 =>
  bndV (kMov [x0]) fun x47 =>
  bndV (kNilc [x47]) fun x48 =>
  bndV (kFa 1 [x48]) fun x49 =>
  bndV (kFa 1 [x49]) fun x50 =>
  bndV (qLd h none [x50]) fun x51 =>
  bndV (kBin .leq [x46, x51]) fun x52 =>
  tstv x52 ((f36_1 rc x0 x7 x9 h))
  (some ⟨0, [x0, x7], h⟩)) 1000000 [x0, x7, x9] h)
  fun j vs h => nsw j (unc vs fun x0 vs =>
  unc vs fun x7 vs =>
  bndV (kMov [x0]) fun x74 =>
  bndV (qLd h (some 2) [x7]) fun x75 =>
  bndV (kNilc [x74]) fun x76 =>
  bndV (kFa 1 [x76]) fun x77 =>
  bndE (dSt h 2 [x77, x75]) h fun _ h =>
  bndV (kMov [(.int .i64 (.ofNat (nat_lit 0)))]) fun x4 =>
  ret1 x4 h)
  fun j => unc vs fun x4 vs =>
  ret1 x4 h
noncomputable def f36_3 (x0 : V) (x5 : V) (x38 : V) (h : HT) : Option J := bndN (kAlloc [(.int .i64 (.ofNat (nat_lit 0))), (.int .i64 (.ofNat (nat_lit 0)))] []) h fun x7 h =>
  bndE (dSt h 2 [x7, x38]) h fun _ h =>
  bndV (kMov [x0]) fun x39 =>
  bndV (qLd h (some 2) [x7]) fun x40 =>
  bndV (kMov [x5]) fun x41 =>
  bndC (f109 [x39, x40, x41] h) fun x42 h =>
  bndV (kMov [x42]) fun x8 =>
  bndV (kMov [x8]) fun x43 =>
  bndV (kBin .neq [x43, (.int .i64 (.ofNat (nat_lit 0)))]) fun x44 =>
  tstv x44 (bndV (kMov [x8]) fun x45 =>
  bndV (kMov [x45]) fun x4 =>
  ret1 x4 h)
  (bndV (kMov [(.int .i64 (.ofNat (nat_lit 1)))]) fun x9 =>
  (f36_2 x0 x7 x9 h))
noncomputable def f36_4 (x0 : V) (x5 : V) (x27 : V) (h : HT) : Option J := bndV (kFa 1 [x27]) fun x28 =>
  bndV (kFa 0 [x28]) fun x29 =>
  bndV (qLd h none [x29]) fun x30 =>
  bndV (kBin .geq [x30, (.int .i64 (.ofNat (nat_lit 999999999)))]) fun x31 =>
  tstv x31 (bndV (kMov [(.int .i64 (.ofNat (nat_lit 7)))]) fun x4 =>
  ret1 x4 h)
  (bndV (kMov [x0]) fun x32 =>
  bndV (kNilc [x32]) fun x33 =>
  bndV (kFa 1 [x33]) fun x34 =>
  bndV (kFa 0 [x34]) fun x35 =>
  bndV (qLd h none [x35]) fun x36 =>
  bndV (kBin .add [x36, (.int .i64 (.ofNat (nat_lit 1)))]) fun x37 =>
  bndV (kBld [(.int .i64 (.ofNat (nat_lit 0))), (.int .i64 (.ofNat (nat_lit 0)))] [(0, 1), (1, 1)] [x37, (.int .i64 (.ofNat (nat_lit 1)))]) fun x38 =>
  (f36_3 x0 x5 x38 h))
noncomputable def f36_5 (x0 : V) (x1 : V) (x19 : V) (h : HT) : Option J := bndV (kMov [x1]) fun x20 =>
  bndC (f106 [x19, x20] h) fun x21 h =>
  bndV (kMov [x21]) fun x15 =>
  bndV (kExt 0 [x15]) fun x22 =>
  bndV (kExt 1 [x15]) fun x23 =>
  bndV (kMov [x22]) fun x5 =>
  bndV (kMov [x23]) fun x6 =>
  bndV (kMov [x6]) fun x24 =>
  bndV (kUn .not [x24]) fun x25 =>
  tstv x25 (bndV (kMov [(.int .i64 (.ofNat (nat_lit 1)))]) fun x4 =>
  ret1 x4 h)
  (bndV (kMov [x0]) fun x26 =>
  bndV (kNilc [x26]) fun x27 =>
  (f36_4 x0 x5 x27 h))
noncomputable def f36 (vs : List V) (h : HT) : Option J := unc vs fun x0 vs =>
  unc vs fun x1 vs =>
  bndV (kMov [(.int .i64 (.ofNat (nat_lit 0)))]) fun x4 =>
  bndV (kMov [x0]) fun x11 =>
  bndV (kNilc [x11]) fun x12 =>
  bndV (kFa 3 [x12]) fun x13 =>
  bndV (qLd h none [x13]) fun x14 =>
  tstv x14 (bndV (kMov [(.int .i64 (.ofNat (nat_lit 10)))]) fun x4 =>
  ret1 x4 h)
  (bndV (kMov [x1]) fun x16 =>
  bndV (kLenS [x16]) fun x17 =>
  bndC (f108 [(.slice none 0 true 0), x17] h) fun x18 h =>
  bndC (f107 [(.slice none 0 true 0), x18] h) fun x19 h =>
  (f36_5 x0 x1 x19 h))
def a36 : List Ann := [.no, .no, .no, .no, .no, .loop [0, 7, 9] [((.exit 0), [0, 7]), (.ret, [4])], .no, .no, .no]
theorem e36 : f36 = evFun Tryz.prog 36 2 a36 t36 := by kernel_rfl
theorem o36 : FnOk Tryz.prog 36 f36 := .of hmO (show enters Tryz.prog 36 = true by kernel_rfl) e36 (.cons o106 (.cons o107 (.cons o108 (.cons o109 (.nil)))))

/- concord/node.cutRecord -/
noncomputable def l37 : List (Nat × (List V → HT → Option J)) := [(108, f108)]
noncomputable def t37 : Fns := tab l37
noncomputable def f37_0 (rc : List V → HT → Option J) (vs : List V) (h : HT) : Option J := unc vs fun x3 vs =>
  unc vs fun x7 vs =>
  unc vs fun x8 vs =>
  bndV (kBin .lss [x8, (.int .i64 (.ofNat (nat_lit 7)))]) fun x9 =>
  tstv x9 (bndV (kIxA 7 1 false [x7, x8]) fun x10 =>
  bndV (kMov [x10]) fun x5 =>
  bndV (kMov [x3]) fun x11 =>
  bndV (kMov [x5]) fun x12 =>
  bndC (f108 [x11, x12] h) fun x13 h =>
  bndV (kMov [x13]) fun x3 =>
  bndV (kBin .add [x8, (.int .i64 (.ofNat (nat_lit 1)))]) fun x14 =>
  bndV (kMov [x14]) fun x8 =>
  rc [x3, x7, x8] h)
  (some ⟨0, [x3], h⟩)
noncomputable def f37 (vs : List V) (h : HT) : Option J := unc vs fun x0 vs =>
  bndN (kBox [x0]) h fun x1 h =>
  bndV (kMov [(.slice none 0 true 0)]) fun x2 =>
  bndN (kBsl 1 1 [(.int .u8 (.ofNat (nat_lit 0)))] [(0, 1)] [(.int .u8 (.ofNat (nat_lit 1)))]) h fun x6 h =>
  bndV (kMov [x6]) fun x3 =>
  bndV (qLd h (some 7) [x1]) fun x7 =>
  bndV (kMov [(.int .i64 (.ofNat (nat_lit 0)))]) fun x8 =>
  bndJ (loopF (fun rc vs h => (f37_0 rc vs h)) 1000000 [x3, x7, x8] h)
  fun j vs h => unc vs fun x3 vs =>
  bndV (kMov [x3]) fun x15 =>
  bndV (kMov [x15]) fun x2 =>
  ret1 x2 h
def a37 : List Ann := [.no, .loop [3, 7, 8] [((.exit 0), [3])], .no, .no]
theorem e37 : f37 = evFun Tryz.prog 37 1 a37 t37 := by kernel_rfl
theorem o37 : FnOk Tryz.prog 37 f37 := .of hmO (show enters Tryz.prog 37 = true by kernel_rfl) e37 (.cons o108 (.nil))

/- (*concord/front.Fronts).Hear -/
noncomputable def l38 : List (Nat × (List V → HT → Option J)) := [(99, f99)]
noncomputable def t38 : Fns := tab l38
noncomputable def f38_0 (rc : List V → HT → Option J) (x0 : V) (x1 : V) (x8 : V) (x25 : V) (x26 : V) (x30 : V) (x31 : V) (x32 : V) (x33 : V) (x34 : V) (x35 : V) (h : HT) : Option J := bndV (kNilc [x33]) fun x36 =>
  bndV (kFa 2 [x36]) fun x37 =>
  bndV (kIaA 7 7 [x37, x34]) fun x38 =>
  bndV (kIaA 7 1 [x38, x35]) fun x39 =>
  bndV (qLd h none [x39]) fun x40 =>
  bndV (kMov [x8]) fun x41 =>
  bndV (kMaxI [x40, x41]) fun x42 =>
  bndV (kNilc [x30]) fun x43 =>
  bndV (kFa 2 [x43]) fun x44 =>
  bndV (kIaA 7 7 [x44, x31]) fun x45 =>
  bndV (kIaA 7 1 [x45, x32]) fun x46 =>
  bndE (dSt h 1 [x46, x42]) h fun _ h =>
  bndV (kBin .add [x26, (.int .i64 (.ofNat (nat_lit 1)))]) fun x47 =>
  bndV (kMov [x47]) fun x26 =>
  rc [x0, x1, x25, x26] h
noncomputable def f38_1 (rc : List V → HT → Option J) (x0 : V) (x1 : V) (x25 : V) (vs : List V) (h : HT) : Option J := unc vs fun x26 vs =>
  bndV (kBin .lss [x26, (.int .i64 (.ofNat (nat_lit 7)))]) fun x27 =>
  tstv x27 (bndV (kMov [x26]) fun x28 =>
  bndV (kIxA 7 1 false [x25, x26]) fun x29 =>
  bndV (kMov [x28]) fun x7 =>
  bndV (kMov [x29]) fun x8 =>
  bndV (kMov [x0]) fun x30 =>
  bndV (kMov [x1]) fun x31 =>
  bndV (kMov [x7]) fun x32 =>
  bndV (kMov [x0]) fun x33 =>
  bndV (kMov [x1]) fun x34 =>
  bndV (kMov [x7]) fun x35 =>
  (f38_0 rc x0 x1 x8 x25 x26 x30 x31 x32 x33 x34 x35 h))
  (some ⟨0, [], h⟩)
noncomputable def f38_2 (x0 : V) (x1 : V) (x5 : V) (x19 : V) (x22 : V) (h : HT) : Option J := bndC (gsel x19 false (retV (kUn .not [x22]) h) h) fun x23 h =>
  bndV (kPick [x19, (.bool true), x23]) fun x24 =>
  tstv x24 (bndV (kMov [(.bool false)]) fun x6 =>
  ret1 x6 h)
  (bndV (qLd h (some 7) [x5]) fun x25 =>
  bndV (kMov [(.int .i64 (.ofNat (nat_lit 0)))]) fun x26 =>
  bndJ (loopF (fun rc vs h => unc vs fun x0 vs =>
  unc vs fun x1 vs =>
  unc vs fun x25 vs =>
  (f38_1 rc x0 x1 x25 vs h)) 1000000 [x0, x1, x25, x26] h)
  fun j vs h => bndV (kMov [(.bool true)]) fun x6 =>
  ret1 x6 h)
noncomputable def f38_3 (x0 : V) (x1 : V) (x5 : V) (h : HT) : Option J := bndV (kMov [x1]) fun x9 =>
  bndV (kBin .lss [x9, (.int .i64 (.ofNat (nat_lit 0)))]) fun x10 =>
  bndV (kMov [x10]) fun x11 =>
  bndC (gsel x11 false (retV (kMov [x1]) h) h) fun x12 h =>
  bndC (gsel x11 false (retV (kMov [x0]) h) h) fun x13 h =>
  bndC (gsel x11 false (retV (kNilc [x13]) h) h) fun x14 h =>
  bndC (gsel x11 false (retV (kFa 0 [x14]) h) h) fun x15 h =>
  bndC (gsel x11 false (retV (qLd h none [x15]) h) h) fun x16 h =>
  bndC (gsel x11 false (retV (kBin .geq [x12, x16]) h) h) fun x17 h =>
  bndV (kPick [x11, (.bool true), x17]) fun x18 =>
  bndV (kMov [x18]) fun x19 =>
  bndC (gsel x19 false (retV (qLd h (some 7) [x5]) h) h) fun x20 h =>
  bndC (gsel x19 false (retV (kBld [(.int .i64 (.ofNat (nat_lit 0))), (.int .i64 (.ofNat (nat_lit 0))), (.int .i64 (.ofNat (nat_lit 0))), (.int .i64 (.ofNat (nat_lit 0))), (.int .i64 (.ofNat (nat_lit 0))), (.int .i64 (.ofNat (nat_lit 0))), (.int .i64 (.ofNat (nat_lit 0))), (.int .i64 (.ofNat (nat_lit 0)))] [(1, 7)] [x20]) h) h) fun x21 h =>
  bndC (gsel x19 false (f99 [x21] h) h) fun x22 h =>
  (f38_2 x0 x1 x5 x19 x22 h)
noncomputable def f38 (vs : List V) (h : HT) : Option J := unc vs fun x0 vs =>
  unc vs fun x1 vs =>
  unc vs fun x2 vs =>
  bndN (kBox [x2]) h fun x5 h =>
  bndV (kMov [(.bool false)]) fun x6 =>
  (f38_3 x0 x1 x5 h)
def a38 : List Ann := [.no, .no, .loop [0, 1, 25, 26] [((.exit 0), [])], .no, .no]
theorem e38 : f38 = evFun Tryz.prog 38 3 a38 t38 := by kernel_rfl
theorem o38 : FnOk Tryz.prog 38 f38 := .of hmO (show enters Tryz.prog 38 = true by kernel_rfl) e38 (.cons o99 (.nil))

/- (*concord/core.Core).Drain -/
noncomputable def l186 : List (Nat × (List V → HT → Option J)) := []
noncomputable def t186 : Fns := tab l186
noncomputable def f186_0 (x0 : V) (x9 : V) (x13 : V) (h : HT) : Option J := bndV (kMov [x9]) fun x4 =>
  bndV (kMov [x13]) fun x5 =>
  bndV (kMov [x0]) fun x14 =>
  bndV (kMov [x0]) fun x15 =>
  bndV (kNilc [x14]) fun x16 =>
  bndV (kFa 6 [x16]) fun x17 =>
  bndE (dSt h 1 [x17, (.slice none 0 true 0)]) h fun _ h =>
  bndV (kNilc [x15]) fun x18 =>
  bndV (kFa 7 [x18]) fun x19 =>
  bndE (dSt h 1 [x19, (.slice none 0 true 0)]) h fun _ h =>
  bndV (kMov [x4]) fun x20 =>
  bndV (kMov [x5]) fun x21 =>
  bndV (kMov [x20]) fun x2 =>
  bndV (kMov [x21]) fun x3 =>
  ret1 (.tuple [x2, x3]) h
noncomputable def f186 (vs : List V) (h : HT) : Option J := unc vs fun x0 vs =>
  bndV (kMov [(.slice none 0 true 0)]) fun x2 =>
  bndV (kMov [(.slice none 0 true 0)]) fun x3 =>
  bndV (kMov [x0]) fun x6 =>
  bndV (kNilc [x6]) fun x7 =>
  bndV (kFa 6 [x7]) fun x8 =>
  bndV (qLd h none [x8]) fun x9 =>
  bndV (kMov [x0]) fun x10 =>
  bndV (kNilc [x10]) fun x11 =>
  bndV (kFa 7 [x11]) fun x12 =>
  bndV (qLd h none [x12]) fun x13 =>
  (f186_0 x0 x9 x13 h)
def a186 : List Ann := []
theorem e186 : f186 = evFun Tryz.prog 186 1 a186 t186 := by kernel_rfl
theorem o186 : FnOk Tryz.prog 186 f186 := .of hmO (show enters Tryz.prog 186 = true by kernel_rfl) e186 (.nil)

/- concord/node.cellRecord -/
noncomputable def l187 : List (Nat × (List V → HT → Option J)) := []
noncomputable def t187 : Fns := tab l187

noncomputable def f187 (vs : List V) (h : HT) : Option J := unc vs fun x0 vs =>
  bndV (kMov [(.slice none 0 true 0)]) fun x2 =>
  bndN (kBsl 1 1 [(.int .u8 (.ofNat (nat_lit 0)))] [(0, 1)] [(.int .u8 (.ofNat (nat_lit 2)))]) h fun x3 h =>
  bndV (kMov [x0]) fun x4 =>
  bndE (dApp h 1 1 [x3, x4]) h fun x5 h =>
  bndV (kMov [x5]) fun x2 =>
  ret1 x2 h
def a187 : List Ann := []
theorem e187 : f187 = evFun Tryz.prog 187 1 a187 t187 := by kernel_rfl
theorem o187 : FnOk Tryz.prog 187 f187 := .of hmO (show enters Tryz.prog 187 = true by kernel_rfl) e187 (.nil)

/- (*concord/wal.Wal).Add -/
noncomputable def l188 : List (Nat × (List V → HT → Option J)) := [(87, f87), (93, f93), (106, f106), (109, f109)]
noncomputable def t188 : Fns := tab l188
noncomputable def f188_0 (x0 : V) (x7 : V) (x57 : V) (x58 : V) (x59 : V) (h : HT) : Option J := bndC (f109 [x57, x58, x59] h) fun x60 h =>
  bndV (kMov [x60]) fun x10 =>
  bndV (kMov [x10]) fun x61 =>
  bndV (kBin .neq [x61, (.int .i64 (.ofNat (nat_lit 0)))]) fun x62 =>
  tstv x62 (bndV (kMov [x10]) fun x63 =>
  bndV (kMov [x63]) fun x4 =>
  ret1 x4 h)
  (bndV (kMov [x0]) fun x64 =>
  bndV (qLd h (some 2) [x7]) fun x65 =>
  bndV (kNilc [x64]) fun x66 =>
  bndV (kFa 1 [x66]) fun x67 =>
  bndE (dSt h 2 [x67, x65]) h fun _ h =>
  bndV (kMov [(.int .i64 (.ofNat (nat_lit 0)))]) fun x4 =>
  ret1 x4 h)
noncomputable def f188_1 (x0 : V) (x5 : V) (x7 : V) (x52 : V) (h : HT) : Option J := bndJ (tstv x52 (bndV (kFa 1 [x7]) fun x53 =>
  bndV (qLd h none [x53]) fun x54 =>
  bndV (kBin .add [x54, (.int .i64 (.ofNat (nat_lit 1)))]) fun x55 =>
  bndV (kFa 1 [x7]) fun x56 =>
  bndE (dSt h 1 [x56, x55]) h fun _ h =>
  some ⟨0, [x0, x5, x7], h⟩)
  (some ⟨0, [x0, x5, x7], h⟩))
  fun j vs h => unc vs fun x0 vs =>
  unc vs fun x5 vs =>
  unc vs fun x7 vs =>
  bndV (kMov [x0]) fun x57 =>
  bndV (qLd h (some 2) [x7]) fun x58 =>
  bndV (kMov [x5]) fun x59 =>
  (f188_0 x0 x7 x57 x58 x59 h)
noncomputable def f188_2 (x0 : V) (x5 : V) (x7 : V) (x39 : V) (x41 : V) (h : HT) : Option J := bndC (f87 [x39, x41] h) fun x42 h =>
  bndV (kMov [x42]) fun x35 =>
  bndV (kExt 0 [x35]) fun x43 =>
  bndV (kExt 1 [x35]) fun x44 =>
  bndV (kMov [x43]) fun x8 =>
  bndV (kMov [x44]) fun x9 =>
  bndV (kMov [x8]) fun x45 =>
  bndV (kLenS [x45]) fun x46 =>
  bndV (kBin .gtr [x46, (.int .i64 (.ofNat (nat_lit 4096)))]) fun x47 =>
  bndV (kMov [x47]) fun x48 =>
  bndC (gsel x48 true (retV (kFa 1 [x7]) h) h) fun x49 h =>
  bndC (gsel x48 true (retV (qLd h none [x49]) h) h) fun x50 h =>
  bndC (gsel x48 true (retV (kBin .lss [x50, (.int .i64 (.ofNat (nat_lit 999999999)))]) h) h) fun x51 h =>
  bndV (kPick [x48, x51, (.bool false)]) fun x52 =>
  (f188_1 x0 x5 x7 x52 h)
noncomputable def f188_3 (x0 : V) (x5 : V) (x30 : V) (h : HT) : Option J := tstv x30 (bndV (kMov [(.int .i64 (.ofNat (nat_lit 0)))]) fun x4 =>
  ret1 x4 h)
  (bndV (kMov [x0]) fun x31 =>
  bndV (kNilc [x31]) fun x32 =>
  bndV (kFa 1 [x32]) fun x33 =>
  bndV (qLd h (some 2) [x33]) fun x34 =>
  bndN (kAlloc [(.int .i64 (.ofNat (nat_lit 0))), (.int .i64 (.ofNat (nat_lit 0)))] []) h fun x7 h =>
  bndE (dSt h 2 [x7, x34]) h fun _ h =>
  bndV (kMov [x0]) fun x36 =>
  bndV (kNilc [x36]) fun x37 =>
  bndV (kFa 0 [x37]) fun x38 =>
  bndV (qLd h none [x38]) fun x39 =>
  bndV (qLd h (some 2) [x7]) fun x40 =>
  bndC (f93 [x40] h) fun x41 h =>
  chk1 (sameE (qLd h none [x38]) x39) ((f188_2 x0 x5 x7 x39 x41 h)))
noncomputable def f188_4 (x0 : V) (x1 : V) (x22 : V) (h : HT) : Option J := bndC (f106 [(.slice none 0 true 0), x22] h) fun x23 h =>
  bndV (kMov [x23]) fun x21 =>
  bndV (kExt 0 [x21]) fun x24 =>
  bndV (kExt 1 [x21]) fun x25 =>
  bndV (kMov [x24]) fun x5 =>
  bndV (kMov [x25]) fun x6 =>
  bndV (kMov [x6]) fun x26 =>
  bndV (kUn .not [x26]) fun x27 =>
  tstv x27 (bndV (kMov [(.int .i64 (.ofNat (nat_lit 1)))]) fun x4 =>
  ret1 x4 h)
  (bndV (kMov [x1]) fun x28 =>
  bndV (kLenS [x28]) fun x29 =>
  bndV (kBin .eql [x29, (.int .i64 (.ofNat (nat_lit 0)))]) fun x30 =>
  (f188_3 x0 x5 x30 h))
noncomputable def f188_5 (x0 : V) (x1 : V) (x13 : V) (h : HT) : Option J := bndV (qLd h none [x13]) fun x14 =>
  tstv x14 (bndV (kMov [(.int .i64 (.ofNat (nat_lit 10)))]) fun x4 =>
  ret1 x4 h)
  (bndV (kMov [x0]) fun x15 =>
  bndV (kNilc [x15]) fun x16 =>
  bndV (kFa 1 [x16]) fun x17 =>
  bndV (kFa 0 [x17]) fun x18 =>
  bndV (qLd h none [x18]) fun x19 =>
  bndV (kBin .eql [x19, (.int .i64 (.ofNat (nat_lit 0)))]) fun x20 =>
  tstv x20 (bndV (kMov [(.int .i64 (.ofNat (nat_lit 8)))]) fun x4 =>
  ret1 x4 h)
  (bndV (kMov [x1]) fun x22 =>
  (f188_4 x0 x1 x22 h)))
noncomputable def f188 (vs : List V) (h : HT) : Option J := unc vs fun x0 vs =>
  unc vs fun x1 vs =>
  bndV (kMov [(.int .i64 (.ofNat (nat_lit 0)))]) fun x4 =>
  bndV (kMov [x0]) fun x11 =>
  bndV (kNilc [x11]) fun x12 =>
  bndV (kFa 3 [x12]) fun x13 =>
  (f188_5 x0 x1 x13 h)
def a188 : List Ann := [.no, .no, .no, .no, .join [(.normal, [0, 5, 7])], .no]
theorem e188 : f188 = evFun Tryz.prog 188 2 a188 t188 := by kernel_rfl
theorem o188 : FnOk Tryz.prog 188 f188 := .of hmO (show enters Tryz.prog 188 = true by kernel_rfl) e188 (.cons o87 (.cons o93 (.cons o106 (.cons o109 (.nil)))))

/- (*concord/node.Node).drain -/
noncomputable def l110 : List (Nat × (List V → HT → Option J)) := [(186, f186), (187, f187), (188, f188)]
noncomputable def t110 : Fns := tab l110
noncomputable def f110_0 (rc : List V → HT → Option J) (x0 : V) (x3 : V) (x4 : V) (x15 : V) (x16 : V) (x17 : V) (x18 : V) (h : HT) : Option J := tstv x18 (bndV (kMov [x17]) fun x19 =>
  bndV (kIaS 1 [x15, x17]) fun x20 =>
  bndV (qLd h none [x20]) fun x21 =>
  bndV (kMov [x19]) fun x5 =>
  bndV (kMov [x21]) fun x6 =>
  bndV (kMov [x3]) fun x22 =>
  bndV (kMov [x5]) fun x23 =>
  bndV (kMov [x6]) fun x24 =>
  bndC (f187 [x24] h) fun x25 h =>
  bndV (kIaS 1 [x22, x23]) fun x26 =>
  bndE (dSt h 1 [x26, x25]) h fun _ h =>
  bndV (kBin .add [x17, (.int .i64 (.ofNat (nat_lit 1)))]) fun x27 =>
  bndV (kMov [x27]) fun x17 =>
  rc [x0, x3, x4, x15, x16, x17] h)
  (some ⟨0, [x0, x3, x4], h⟩)
noncomputable def f110_1 (x0 : V) (x4 : V) (x34 : V) (h : HT) : Option J := tstv x34 (bndV (kMov [x0]) fun x35 =>
  bndC (noF [x35] h) fun x36 h =>
  bndV (kMov [(.bool false)]) fun x2 =>
  ret1 x2 h)
  (bndV (kMov [x0]) fun x37 =>
  bndV (kMov [x0]) fun x38 =>
  bndV (kNilc [x38]) fun x39 =>
  bndV (kFa 72 [x39]) fun x40 =>
  bndV (qLd h none [x40]) fun x41 =>
  bndV (kMov [x4]) fun x42 =>
  bndE (dApp h 51 480 [x41, x42]) h fun x43 h =>
  bndV (kNilc [x37]) fun x44 =>
  bndV (kFa 72 [x44]) fun x45 =>
  bndE (dSt h 1 [x45, x43]) h fun _ h =>
  bndV (kMov [(.bool true)]) fun x2 =>
  ret1 x2 h)
noncomputable def f110_2 (x0 : V) (x3 : V) (x4 : V) (x15 : V) (x16 : V) (x17 : V) (h : HT) : Option J := bndJ (loopF (fun rc vs h => unc vs fun x0 vs =>
  unc vs fun x3 vs =>
  unc vs fun x4 vs =>
  unc vs fun x15 vs =>
  unc vs fun x16 vs =>
  unc vs fun x17 vs =>
  bndV (kBin .lss [x17, x16]) fun x18 =>
  (f110_0 rc x0 x3 x4 x15 x16 x17 x18 h)) 1000000 [x0, x3, x4, x15, x16, x17] h)
  fun j vs h => unc vs fun x0 vs =>
  unc vs fun x3 vs =>
  unc vs fun x4 vs =>
  bndV (kMov [x0]) fun x28 =>
  bndV (kNilc [x28]) fun x29 =>
  bndV (kFa 3 [x29]) fun x30 =>
  bndV (qLd h none [x30]) fun x31 =>
  bndV (kMov [x3]) fun x32 =>
  bndC (f188 [x31, x32] h) fun x33 h =>
  bndV (kBin .neq [x33, (.int .i64 (.ofNat (nat_lit 0)))]) fun x34 =>
  (f110_1 x0 x4 x34 h)
noncomputable def f110_3 (x0 : V) (h : HT) : Option J := bndV (kMov [(.bool false)]) fun x2 =>
  bndV (kMov [x0]) fun x8 =>
  bndV (kNilc [x8]) fun x9 =>
  bndV (kFa 4 [x9]) fun x10 =>
  bndV (qLd h none [x10]) fun x11 =>
  bndC (f186 [x11] h) fun x12 h =>
  bndV (kMov [x12]) fun x7 =>
  bndV (kExt 0 [x7]) fun x13 =>
  bndV (kExt 1 [x7]) fun x14 =>
  bndV (kMov [x13]) fun x3 =>
  bndV (kMov [x14]) fun x4 =>
  bndV (kMov [x3]) fun x15 =>
  bndV (kLenS [x15]) fun x16 =>
  bndV (kMov [(.int .i64 (.ofNat (nat_lit 0)))]) fun x17 =>
  (f110_2 x0 x3 x4 x15 x16 x17 h)
noncomputable def f110 (vs : List V) (h : HT) : Option J := unc vs fun x0 vs =>
  (f110_3 x0 h)
def a110 : List Ann := [.no, .loop [0, 3, 4, 15, 16, 17] [((.exit 0), [0, 3, 4])], .no, .no, .no]
theorem e110 : f110 = evFun Tryz.prog 110 1 a110 t110 := by kernel_rfl
theorem o110 : FnOk Tryz.prog 110 f110 := .of hmO (show enters Tryz.prog 110 = true by kernel_rfl) e110 (.cons o186 (.cons o187 (.cons o188 (.nil))))

/- slices.Clone[[]concord/api.Pair,concord/api.Pair] -/
noncomputable def l63 : List (Nat × (List V → HT → Option J)) := []
noncomputable def t63 : Fns := tab l63

noncomputable def f63 (vs : List V) (h : HT) : Option J := unc vs fun x0 vs =>
  bndV (kMov [(.slice none 0 true 0)]) fun x2 =>
  bndV (kMov [x0]) fun x3 =>
  bndV (kEqN false [x3, (.slice none 0 true 0)]) fun x4 =>
  tstv x4 (bndV (kMov [(.slice none 0 true 0)]) fun x2 =>
  ret1 x2 h)
  (bndN (kBsl 3 0 [] [] []) h fun x5 h =>
  bndV (kMov [x0]) fun x6 =>
  bndE (dApp h 3 40 [x5, x6]) h fun x7 h =>
  bndV (kMov [x7]) fun x2 =>
  ret1 x2 h)
def a63 : List Ann := [.no]
theorem e63 : f63 = evFun Tryz.prog 63 1 a63 t63 := by kernel_rfl
theorem o63 : FnOk Tryz.prog 63 f63 := .of hmO (show enters Tryz.prog 63 = true by kernel_rfl) e63 (.nil)

/- concord/dedup.known -/
noncomputable def l276 : List (Nat × (List V → HT → Option J)) := []
noncomputable def t276 : Fns := tab l276

noncomputable def f276 (vs : List V) (h : HT) : Option J := unc vs fun x0 vs =>
  bndV (kMov [(.bool false)]) fun x2 =>
  bndV (kMov [x0]) fun x3 =>
  bndV (kBin .geq [x3, (.int .i64 (.ofNat (nat_lit 1)))]) fun x4 =>
  bndV (kMov [x4]) fun x5 =>
  bndC (gsel x5 true (retV (kMov [x0]) h) h) fun x6 h =>
  bndC (gsel x5 true (retV (kBin .leq [x6, (.int .i64 (.ofNat (nat_lit 8)))]) h) h) fun x7 h =>
  bndV (kPick [x5, x7, (.bool false)]) fun x8 =>
  bndV (kMov [x8]) fun x2 =>
  ret1 x2 h
def a276 : List Ann := []
theorem e276 : f276 = evFun Tryz.prog 276 1 a276 t276 := by kernel_rfl
theorem o276 : FnOk Tryz.prog 276 f276 := .of hmO (show enters Tryz.prog 276 = true by kernel_rfl) e276 (.nil)

/- concord/dedup.copied -/
noncomputable def l277 : List (Nat × (List V → HT → Option J)) := [(63, f63)]
noncomputable def t277 : Fns := tab l277

noncomputable def f277 (vs : List V) (h : HT) : Option J := unc vs fun x0 vs =>
  bndN (kBox [x0]) h fun x1 h =>
  bndN (kAlloc [(.int .i64 (.ofNat (nat_lit 0))), (.bool false), (.str (sb [])), (.int .i64 (.ofNat (nat_lit 0))), (.slice none 0 true 0)] []) h fun x2 h =>
  bndV (kFa 4 [x1]) fun x3 =>
  bndV (qLd h none [x3]) fun x4 =>
  bndC (f63 [x4] h) fun x5 h =>
  bndV (kFa 4 [x1]) fun x6 =>
  bndE (dSt h 1 [x6, x5]) h fun _ h =>
  bndV (qLd h (some 5) [x1]) fun x7 =>
  bndE (dSt h 5 [x2, x7]) h fun _ h =>
  bndV (qLd h (some 5) [x2]) fun x900000 =>
  ret1 x900000 h
def a277 : List Ann := []
theorem e277 : f277 = evFun Tryz.prog 277 1 a277 t277 := by kernel_rfl
theorem o277 : FnOk Tryz.prog 277 f277 := .of hmO (show enters Tryz.prog 277 = true by kernel_rfl) e277 (.cons o63 (.nil))

/- concord/dedup.Note -/
noncomputable def l215 : List (Nat × (List V → HT → Option J)) := [(276, f276), (277, f277)]
noncomputable def t215 : Fns := tab l215
noncomputable def f215_0 (rc : List V → HT → Option J) (x4 : V) (x8 : V) (x18 : V) (x19 : V) (h : HT) : Option J := tstv x19 (bndV (kMov [x18]) fun x20 =>
  bndV (kMov [x20]) fun x9 =>
  bndV (kMov [x9]) fun x21 =>
  bndV (kMov [x9]) fun x22 =>
  bndV (kIaA 8 6 [x4, x22]) fun x23 =>
  bndV (kFa 1 [x23]) fun x24 =>
  bndV (qLd h (some 5) [x24]) fun x25 =>
  bndC (f277 [x25] h) fun x26 h =>
  bndV (kIaA 8 6 [x4, x21]) fun x27 =>
  bndV (kFa 1 [x27]) fun x28 =>
  bndE (dSt h 5 [x28, x26]) h fun _ h =>
  bndV (kBin .add [x18, (.int .i64 (.ofNat (nat_lit 1)))]) fun x29 =>
  bndV (kMov [x29]) fun x18 =>
  rc [x4, x8, x18] h)
  (some ⟨0, [x4, x8], h⟩)
noncomputable def f215_1 (x4 : V) (vs : List V) (h : HT) : Option J := unc vs fun x8 vs =>
  bndV (kMov [(.int .i64 (.ofNat (nat_lit 0)))]) fun x18 =>
  bndJ (loopF (fun rc vs h => unc vs fun x4 vs =>
  unc vs fun x8 vs =>
  unc vs fun x18 vs =>
  bndV (kBin .lss [x18, (.int .i64 (.ofNat (nat_lit 8)))]) fun x19 =>
  (f215_0 rc x4 x8 x18 x19 h)) 1000000 [x4, x8, x18] h)
  fun j vs h => unc vs fun x4 vs =>
  unc vs fun x8 vs =>
  bndV (qLd h (some 48) [x4]) fun x30 =>
  bndE (dSt h 48 [x8, x30]) h fun _ h =>
  bndV (qLd h (some 48) [x8]) fun x900000 =>
  ret1 x900000 h
noncomputable def f215_2 (x1 : V) (x2 : V) (x4 : V) (x7 : V) (x8 : V) (h : HT) : Option J := bndV (kMov [x1]) fun x10 =>
  bndC (f276 [x10] h) fun x11 h =>
  bndJ (tstv x11 (bndV (kMov [x1]) fun x12 =>
  bndV (kBin .sub [x12, (.int .i64 (.ofNat (nat_lit 1)))]) fun x13 =>
  bndV (kMov [x2]) fun x14 =>
  bndV (qLd h (some 5) [x7]) fun x15 =>
  bndV (kBld [(.int .i64 (.ofNat (nat_lit 0))), (.int .i64 (.ofNat (nat_lit 0))), (.bool false), (.str (sb [])), (.int .i64 (.ofNat (nat_lit 0))), (.slice none 0 true 0)] [(0, 1), (1, 5)] [x14, x15]) fun x16 =>
  bndV (kIaA 8 6 [x4, x13]) fun x17 =>
  bndE (dSt h 6 [x17, x16]) h fun _ h =>
  some ⟨0, [x4, x8], h⟩)
  (some ⟨0, [x4, x8], h⟩))
  fun j vs h => unc vs fun x4 vs =>
  (f215_1 x4 vs h)
noncomputable def f215 (vs : List V) (h : HT) : Option J := unc vs fun x0 vs =>
  unc vs fun x1 vs =>
  unc vs fun x2 vs =>
  unc vs fun x3 vs =>
  bndN (kBox [x0]) h fun x4 h =>
  bndN (kBox [x3]) h fun x7 h =>
  bndN (kAlloc [(.int .i64 (.ofNat (nat_lit 0))), (.int .i64 (.ofNat (nat_lit 0))), (.bool false), (.str (sb [])), (.int .i64 (.ofNat (nat_lit 0))), (.slice none 0 true 0), (.int .i64 (.ofNat (nat_lit 0))), (.int .i64 (.ofNat (nat_lit 0))), (.bool false), (.str (sb [])), (.int .i64 (.ofNat (nat_lit 0))), (.slice none 0 true 0), (.int .i64 (.ofNat (nat_lit 0))), (.int .i64 (.ofNat (nat_lit 0))), (.bool false), (.str (sb [])), (.int .i64 (.ofNat (nat_lit 0))), (.slice none 0 true 0), (.int .i64 (.ofNat (nat_lit 0))), (.int .i64 (.ofNat (nat_lit 0))), (.bool false), (.str (sb [])), (.int .i64 (.ofNat (nat_lit 0))), (.slice none 0 true 0), (.int .i64 (.ofNat (nat_lit 0))), (.int .i64 (.ofNat (nat_lit 0))), (.bool false), (.str (sb [])), (.int .i64 (.ofNat (nat_lit 0))), (.slice none 0 true 0), (.int .i64 (.ofNat (nat_lit 0))), (.int .i64 (.ofNat (nat_lit 0))), (.bool false), (.str (sb [])), (.int .i64 (.ofNat (nat_lit 0))), (.slice none 0 true 0), (.int .i64 (.ofNat (nat_lit 0))), (.int .i64 (.ofNat (nat_lit 0))), (.bool false), (.str (sb [])), (.int .i64 (.ofNat (nat_lit 0))), (.slice none 0 true 0), (.int .i64 (.ofNat (nat_lit 0))), (.int .i64 (.ofNat (nat_lit 0))), (.bool false), (.str (sb [])), (.int .i64 (.ofNat (nat_lit 0))), (.slice none 0 true 0)] []) h fun x8 h =>
  (f215_2 x1 x2 x4 x7 x8 h)
def a215 : List Ann := [.join [(.normal, [4, 8])], .no, .loop [4, 8, 18] [((.exit 0), [4, 8])], .no, .no]
theorem e215 : f215 = evFun Tryz.prog 215 4 a215 t215 := by kernel_rfl
theorem o215 : FnOk Tryz.prog 215 f215 := .of hmO (show enters Tryz.prog 215 = true by kernel_rfl) e215 (.cons o276 (.cons o277 (.nil)))

/- concord/state.copied -/
noncomputable def l139 : List (Nat × (List V → HT → Option J)) := [(63, f63), (215, f215)]
noncomputable def t139 : Fns := tab l139

noncomputable def f139 (vs : List V) (h : HT) : Option J := unc vs fun x0 vs =>
  bndN (kBox [x0]) h fun x1 h =>
  bndN (kAlloc [(.slice none 0 true 0), (.int .i64 (.ofNat (nat_lit 0))), (.int .i64 (.ofNat (nat_lit 0))), (.bool false), (.str (sb [])), (.int .i64 (.ofNat (nat_lit 0))), (.slice none 0 true 0), (.int .i64 (.ofNat (nat_lit 0))), (.int .i64 (.ofNat (nat_lit 0))), (.bool false), (.str (sb [])), (.int .i64 (.ofNat (nat_lit 0))), (.slice none 0 true 0), (.int .i64 (.ofNat (nat_lit 0))), (.int .i64 (.ofNat (nat_lit 0))), (.bool false), (.str (sb [])), (.int .i64 (.ofNat (nat_lit 0))), (.slice none 0 true 0), (.int .i64 (.ofNat (nat_lit 0))), (.int .i64 (.ofNat (nat_lit 0))), (.bool false), (.str (sb [])), (.int .i64 (.ofNat (nat_lit 0))), (.slice none 0 true 0), (.int .i64 (.ofNat (nat_lit 0))), (.int .i64 (.ofNat (nat_lit 0))), (.bool false), (.str (sb [])), (.int .i64 (.ofNat (nat_lit 0))), (.slice none 0 true 0), (.int .i64 (.ofNat (nat_lit 0))), (.int .i64 (.ofNat (nat_lit 0))), (.bool false), (.str (sb [])), (.int .i64 (.ofNat (nat_lit 0))), (.slice none 0 true 0), (.int .i64 (.ofNat (nat_lit 0))), (.int .i64 (.ofNat (nat_lit 0))), (.bool false), (.str (sb [])), (.int .i64 (.ofNat (nat_lit 0))), (.slice none 0 true 0), (.int .i64 (.ofNat (nat_lit 0))), (.int .i64 (.ofNat (nat_lit 0))), (.bool false), (.str (sb [])), (.int .i64 (.ofNat (nat_lit 0))), (.slice none 0 true 0)] []) h fun x2 h =>
  bndV (kFa 0 [x1]) fun x3 =>
  bndV (qLd h none [x3]) fun x4 =>
  bndV (kFa 1 [x1]) fun x6 =>
  bndV (qLd h (some 48) [x6]) fun x7 =>
  bndV (kBld [(.int .i64 (.ofNat (nat_lit 0))), (.bool false), (.str (sb [])), (.int .i64 (.ofNat (nat_lit 0))), (.slice none 0 true 0)] [] []) fun x8 =>
  bndC (f63 [x4] h) fun x5 h =>
  chk1 (sameE (qLd h (some 48) [x6]) x7) (bndC (f215 [x7, (.int .i64 (.ofNat (nat_lit 0))), (.int .i64 (.ofNat (nat_lit 0))), x8] h) fun x9 h =>
  bndV (kBld [(.slice none 0 true 0), (.int .i64 (.ofNat (nat_lit 0))), (.int .i64 (.ofNat (nat_lit 0))), (.bool false), (.str (sb [])), (.int .i64 (.ofNat (nat_lit 0))), (.slice none 0 true 0), (.int .i64 (.ofNat (nat_lit 0))), (.int .i64 (.ofNat (nat_lit 0))), (.bool false), (.str (sb [])), (.int .i64 (.ofNat (nat_lit 0))), (.slice none 0 true 0), (.int .i64 (.ofNat (nat_lit 0))), (.int .i64 (.ofNat (nat_lit 0))), (.bool false), (.str (sb [])), (.int .i64 (.ofNat (nat_lit 0))), (.slice none 0 true 0), (.int .i64 (.ofNat (nat_lit 0))), (.int .i64 (.ofNat (nat_lit 0))), (.bool false), (.str (sb [])), (.int .i64 (.ofNat (nat_lit 0))), (.slice none 0 true 0), (.int .i64 (.ofNat (nat_lit 0))), (.int .i64 (.ofNat (nat_lit 0))), (.bool false), (.str (sb [])), (.int .i64 (.ofNat (nat_lit 0))), (.slice none 0 true 0), (.int .i64 (.ofNat (nat_lit 0))), (.int .i64 (.ofNat (nat_lit 0))), (.bool false), (.str (sb [])), (.int .i64 (.ofNat (nat_lit 0))), (.slice none 0 true 0), (.int .i64 (.ofNat (nat_lit 0))), (.int .i64 (.ofNat (nat_lit 0))), (.bool false), (.str (sb [])), (.int .i64 (.ofNat (nat_lit 0))), (.slice none 0 true 0), (.int .i64 (.ofNat (nat_lit 0))), (.int .i64 (.ofNat (nat_lit 0))), (.bool false), (.str (sb [])), (.int .i64 (.ofNat (nat_lit 0))), (.slice none 0 true 0)] [(0, 1), (1, 48)] [x5, x9]) fun x10 =>
  bndE (dSt h 49 [x2, x10]) h fun _ h =>
  bndV (qLd h (some 49) [x2]) fun x900000 =>
  ret1 x900000 h)
def a139 : List Ann := []
theorem e139 : f139 = evFun Tryz.prog 139 1 a139 t139 := by kernel_rfl
theorem o139 : FnOk Tryz.prog 139 f139 := .of hmO (show enters Tryz.prog 139 = true by kernel_rfl) e139 (.cons o63 (.cons o215 (.nil)))

/- concord/dedup.Look -/
noncomputable def l216 : List (Nat × (List V → HT → Option J)) := [(276, f276)]
noncomputable def t216 : Fns := tab l216
noncomputable def f216_0 (x7 : V) (x8 : V) (x24 : V) (x26 : V) (h : HT) : Option J := bndV (kBin .eql [x24, x26]) fun x27 =>
  bndV (kMov [x27]) fun x23 =>
  tstv x23 (bndV (kFa 1 [x8]) fun x28 =>
  bndV (qLd h (some 5) [x28]) fun x29 =>
  bndC (noF [x29] h) fun x30 h =>
  bndV (kMov [(.int .i64 (.ofNat (nat_lit 2)))]) fun x6 =>
  bndE (dSt h 5 [x7, x30]) h fun _ h =>
  bndV (qLd h (some 5) [x7]) fun x900000 =>
  ret1 (.tuple [x6, x900000]) h)
  (bndV (kBld [(.int .i64 (.ofNat (nat_lit 0))), (.bool false), (.str (sb [])), (.int .i64 (.ofNat (nat_lit 0))), (.slice none 0 true 0)] [] []) fun x31 =>
  bndV (kMov [(.int .i64 (.ofNat (nat_lit 3)))]) fun x6 =>
  bndE (dSt h 5 [x7, x31]) h fun _ h =>
  bndV (qLd h (some 5) [x7]) fun x900000 =>
  ret1 (.tuple [x6, x900000]) h)
noncomputable def f216_1 (x2 : V) (x7 : V) (x8 : V) (h : HT) : Option J := bndV (kMov [x2]) fun x18 =>
  bndV (kFa 0 [x8]) fun x19 =>
  bndV (qLd h none [x19]) fun x20 =>
  bndV (kBin .gtr [x18, x20]) fun x21 =>
  bndV (kMov [x21]) fun x17 =>
  tstv x17 (bndV (kBld [(.int .i64 (.ofNat (nat_lit 0))), (.bool false), (.str (sb [])), (.int .i64 (.ofNat (nat_lit 0))), (.slice none 0 true 0)] [] []) fun x22 =>
  bndV (kMov [(.int .i64 (.ofNat (nat_lit 1)))]) fun x6 =>
  bndE (dSt h 5 [x7, x22]) h fun _ h =>
  bndV (qLd h (some 5) [x7]) fun x900000 =>
  ret1 (.tuple [x6, x900000]) h)
  (bndV (kMov [x2]) fun x24 =>
  bndV (kFa 0 [x8]) fun x25 =>
  bndV (qLd h none [x25]) fun x26 =>
  (f216_0 x7 x8 x24 x26 h))
noncomputable def f216_2 (x1 : V) (x2 : V) (x3 : V) (x7 : V) (x9 : V) (h : HT) : Option J := bndC (f276 [x9] h) fun x10 h =>
  bndV (kUn .not [x10]) fun x11 =>
  tstv x11 (bndV (kBld [(.int .i64 (.ofNat (nat_lit 0))), (.bool false), (.str (sb [])), (.int .i64 (.ofNat (nat_lit 0))), (.slice none 0 true 0)] [] []) fun x12 =>
  bndV (kMov [(.int .i64 (.ofNat (nat_lit 0)))]) fun x6 =>
  bndE (dSt h 5 [x7, x12]) h fun _ h =>
  bndV (qLd h (some 5) [x7]) fun x900000 =>
  ret1 (.tuple [x6, x900000]) h)
  (bndV (kMov [x1]) fun x13 =>
  bndV (kBin .sub [x13, (.int .i64 (.ofNat (nat_lit 1)))]) fun x14 =>
  bndV (kIaA 8 6 [x3, x14]) fun x15 =>
  bndV (qLd h (some 6) [x15]) fun x16 =>
  bndN (kAlloc [(.int .i64 (.ofNat (nat_lit 0))), (.int .i64 (.ofNat (nat_lit 0))), (.bool false), (.str (sb [])), (.int .i64 (.ofNat (nat_lit 0))), (.slice none 0 true 0)] []) h fun x8 h =>
  bndE (dSt h 6 [x8, x16]) h fun _ h =>
  (f216_1 x2 x7 x8 h))
noncomputable def f216 (vs : List V) (h : HT) : Option J := unc vs fun x0 vs =>
  unc vs fun x1 vs =>
  unc vs fun x2 vs =>
  bndN (kBox [x0]) h fun x3 h =>
  bndV (kMov [(.int .i64 (.ofNat (nat_lit 0)))]) fun x6 =>
  bndN (kAlloc [(.int .i64 (.ofNat (nat_lit 0))), (.bool false), (.str (sb [])), (.int .i64 (.ofNat (nat_lit 0))), (.slice none 0 true 0)] []) h fun x7 h =>
  bndV (kMov [x1]) fun x9 =>
  (f216_2 x1 x2 x3 x7 x9 h)
def a216 : List Ann := [.no, .no, .no, .no]
theorem e216 : f216 = evFun Tryz.prog 216 3 a216 t216 := by kernel_rfl
theorem o216 : FnOk Tryz.prog 216 f216 := .of hmO (show enters Tryz.prog 216 = true by kernel_rfl) e216 (.cons o276 (.nil))

/- concord/kv.find -/
noncomputable def l322 : List (Nat × (List V → HT → Option J)) := []
noncomputable def t322 : Fns := tab l322
noncomputable def f322_0 (rc : List V → HT → Option J) (x0 : V) (x1 : V) (x6 : V) (x7 : V) (x8 : V) (x9 : V) (x10 : V) (x15 : V) (h : HT) : Option J := bndV (qLd h none [x15]) fun x16 =>
  bndV (kMov [x1]) fun x17 =>
  bndV (kBin .geq [x16, x17]) fun x18 =>
  tstv x18 (bndV (kMov [x6]) fun x19 =>
  bndV (kFa 0 [x7]) fun x20 =>
  bndV (qLd h none [x20]) fun x21 =>
  bndV (kMov [x1]) fun x22 =>
  bndV (kBin .eql [x21, x22]) fun x23 =>
  bndV (kMov [x19]) fun x4 =>
  bndV (kMov [x23]) fun x5 =>
  some ⟨1, [x4, x5], h⟩)
  (bndV (kBin .add [x10, (.int .i64 (.ofNat (nat_lit 1)))]) fun x24 =>
  bndV (kMov [x24]) fun x10 =>
  rc [x0, x1, x8, x9, x10] h)
noncomputable def f322_1 (rc : List V → HT → Option J) (x0 : V) (vs : List V) (h : HT) : Option J := unc vs fun x1 vs =>
  unc vs fun x8 vs =>
  unc vs fun x9 vs =>
  unc vs fun x10 vs =>
  bndV (kBin .lss [x10, x9]) fun x11 =>
  tstv x11 (bndV (kMov [x10]) fun x12 =>
  bndV (kIaS 3 [x8, x10]) fun x13 =>
  bndV (qLd h (some 3) [x13]) fun x14 =>
  bndN (kAlloc [(.str (sb [])), (.str (sb [])), (.int .i64 (.ofNat (nat_lit 0)))] []) h fun x7 h =>
  bndV (kMov [x12]) fun x6 =>
  bndE (dSt h 3 [x7, x14]) h fun _ h =>
  bndV (kFa 0 [x7]) fun x15 =>
  (f322_0 rc x0 x1 x6 x7 x8 x9 x10 x15 h))
  (some ⟨0, [x0], h⟩)
noncomputable def f322_2 (x0 : V) (x1 : V) (x8 : V) (x9 : V) (h : HT) : Option J := bndV (kMov [(.int .i64 (.ofNat (nat_lit 0)))]) fun x10 =>
  bndJ (loopF (fun rc vs h => unc vs fun x0 vs =>
  (f322_1 rc x0 vs h)) 1000000 [x0, x1, x8, x9, x10] h)
  fun j vs h => nsw j (unc vs fun x0 vs =>
  bndV (kMov [x0]) fun x25 =>
  bndV (kLenS [x25]) fun x26 =>
  bndV (kMov [x26]) fun x4 =>
  bndV (kMov [(.bool false)]) fun x5 =>
  ret1 (.tuple [x4, x5]) h)
  fun j => unc vs fun x4 vs =>
  unc vs fun x5 vs =>
  ret1 (.tuple [x4, x5]) h
noncomputable def f322 (vs : List V) (h : HT) : Option J := unc vs fun x0 vs =>
  unc vs fun x1 vs =>
  bndV (kMov [(.int .i64 (.ofNat (nat_lit 0)))]) fun x4 =>
  bndV (kMov [(.bool false)]) fun x5 =>
  bndV (kMov [x0]) fun x8 =>
  bndV (kLenS [x8]) fun x9 =>
  (f322_2 x0 x1 x8 x9 h)
def a322 : List Ann := [.no, .loop [0, 1, 8, 9, 10] [((.exit 0), [0]), (.ret, [4, 5])], .no, .no, .no]
theorem e322 : f322 = evFun Tryz.prog 322 2 a322 t322 := by kernel_rfl
theorem o322 : FnOk Tryz.prog 322 f322 := .of hmO (show enters Tryz.prog 322 = true by kernel_rfl) e322 (.nil)

/- concord/kv.Get -/
noncomputable def l278 : List (Nat × (List V → HT → Option J)) := [(322, f322)]
noncomputable def t278 : Fns := tab l278
noncomputable def f278_0 (x0 : V) (x4 : V) (x6 : V) (x14 : V) (h : HT) : Option J := bndV (kUn .not [x14]) fun x15 =>
  tstv x15 (bndV (kBld [(.str (sb [])), (.str (sb [])), (.int .i64 (.ofNat (nat_lit 0)))] [] []) fun x16 =>
  bndE (dSt h 3 [x4, x16]) h fun _ h =>
  bndV (kMov [(.bool false)]) fun x5 =>
  bndV (qLd h (some 3) [x4]) fun x900000 =>
  ret1 (.tuple [x900000, x5]) h)
  (bndV (kMov [x0]) fun x17 =>
  bndV (kMov [x6]) fun x18 =>
  bndV (kIaS 3 [x17, x18]) fun x19 =>
  bndV (qLd h (some 3) [x19]) fun x20 =>
  bndE (dSt h 3 [x4, x20]) h fun _ h =>
  bndV (kMov [(.bool true)]) fun x5 =>
  bndV (qLd h (some 3) [x4]) fun x900000 =>
  ret1 (.tuple [x900000, x5]) h)
noncomputable def f278 (vs : List V) (h : HT) : Option J := unc vs fun x0 vs =>
  unc vs fun x1 vs =>
  bndN (kAlloc [(.str (sb [])), (.str (sb [])), (.int .i64 (.ofNat (nat_lit 0)))] []) h fun x4 h =>
  bndV (kMov [(.bool false)]) fun x5 =>
  bndV (kMov [x0]) fun x9 =>
  bndV (kMov [x1]) fun x10 =>
  bndC (f322 [x9, x10] h) fun x11 h =>
  bndV (kMov [x11]) fun x8 =>
  bndV (kExt 0 [x8]) fun x12 =>
  bndV (kExt 1 [x8]) fun x13 =>
  bndV (kMov [x12]) fun x6 =>
  bndV (kMov [x13]) fun x7 =>
  bndV (kMov [x7]) fun x14 =>
  (f278_0 x0 x4 x6 x14 h)
def a278 : List Ann := [.no]
theorem e278 : f278 = evFun Tryz.prog 278 2 a278 t278 := by kernel_rfl
theorem o278 : FnOk Tryz.prog 278 f278 := .of hmO (show enters Tryz.prog 278 = true by kernel_rfl) e278 (.cons o322 (.nil))

/- slices.Insert[[]concord/api.Pair,concord/api.Pair] -/
noncomputable def l323 : List (Nat × (List V → HT → Option J)) := []
noncomputable def t323 : Fns := tab l323
noncomputable def f323_0 (x0 : V) (x1 : V) (x2 : V) (x7 : V) (x8 : V) (x31 : V) : Option J := tstv x31 (bndV (kMov [x0]) fun x32 =>
  bndV (kMov [x1]) fun x33 =>
  bndV (kSlS 3 false true [x32, x33]) fun x34 =>
  bndV (kMov [x8]) fun x35 =>
  bndV (kMov [x7]) fun x36 =>
  bndV (kBin .add [x35, x36]) fun x37 =>
  bndV (kMov [x1]) fun x38 =>
  bndV (kBin .sub [x37, x38]) fun x39 =>
  none)
  (bndV (kMov [x0]) fun x56 =>
  bndV (kMov [x8]) fun x57 =>
  bndV (kMov [x7]) fun x58 =>
  bndV (kBin .add [x57, x58]) fun x59 =>
  bndV (kSlS 3 false true [x56, x59]) fun x60 =>
  bndV (kMov [x60]) fun x0 =>
  bndV (kMov [x2]) fun x61 =>
  bndV (kMov [x0]) fun x62 =>
  bndV (kMov [x1]) fun x63 =>
  bndV (kMov [x7]) fun x64 =>
  bndV (kBin .add [x63, x64]) fun x65 =>
  bndV (kSlS 3 true false [x62, x65]) fun x66 =>
  none)
noncomputable def f323_1 (x0 : V) (x1 : V) (x2 : V) (x7 : V) (x8 : V) (x20 : V) (h : HT) : Option J := bndV (kMov [x8]) fun x21 =>
  bndV (kBin .eql [x20, x21]) fun x22 =>
  tstv x22 (bndV (kMov [x0]) fun x23 =>
  bndV (kMov [x2]) fun x24 =>
  bndE (dApp h 3 40 [x23, x24]) h fun x25 h =>
  bndV (kMov [x25]) fun x6 =>
  ret1 x6 h)
  (bndV (kMov [x8]) fun x26 =>
  bndV (kMov [x7]) fun x27 =>
  bndV (kBin .add [x26, x27]) fun x28 =>
  bndV (kMov [x0]) fun x29 =>
  bndV (kCapS [x29]) fun x30 =>
  bndV (kBin .gtr [x28, x30]) fun x31 =>
  (f323_0 x0 x1 x2 x7 x8 x31))
noncomputable def f323_2 (x0 : V) (x1 : V) (x2 : V) (x10 : V) (x11 : V) (h : HT) : Option J := bndV (kSlS 3 true false [x10, x11]) fun x12 =>
  bndV (kMov [x2]) fun x13 =>
  bndV (kLenS [x13]) fun x14 =>
  bndV (kMov [x14]) fun x7 =>
  bndV (kMov [x7]) fun x15 =>
  bndV (kBin .eql [x15, (.int .i64 (.ofNat (nat_lit 0)))]) fun x16 =>
  tstv x16 (bndV (kMov [x0]) fun x17 =>
  bndV (kMov [x17]) fun x6 =>
  ret1 x6 h)
  (bndV (kMov [x0]) fun x18 =>
  bndV (kLenS [x18]) fun x19 =>
  bndV (kMov [x19]) fun x8 =>
  bndV (kMov [x1]) fun x20 =>
  (f323_1 x0 x1 x2 x7 x8 x20 h))
noncomputable def f323 (vs : List V) (h : HT) : Option J := unc vs fun x0 vs =>
  unc vs fun x1 vs =>
  unc vs fun x2 vs =>
  bndV (kMov [(.slice none 0 true 0)]) fun x6 =>
  bndV (kMov [x0]) fun x10 =>
  bndV (kMov [x1]) fun x11 =>
  (f323_2 x0 x1 x2 x10 x11 h)
def a323 : List Ann := [.no, .no, .no, .no]
theorem e323 : f323 = evFun Tryz.prog 323 3 a323 t323 := by kernel_rfl
theorem o323 : FnOk Tryz.prog 323 f323 := .of hmO (show enters Tryz.prog 323 = true by kernel_rfl) e323 (.nil)

/- concord/kv.Put -/
noncomputable def l279 : List (Nat × (List V → HT → Option J)) := [(63, f63), (322, f322), (323, f323)]
noncomputable def t279 : Fns := tab l279
noncomputable def f279_0 (x8 : V) (x10 : V) (x36 : V) (x37 : V) (h : HT) : Option J := bndV (kFa 1 [x37]) fun x38 =>
  bndE (dSt h 1 [x38, x36]) h fun _ h =>
  bndV (kMov [x10]) fun x39 =>
  bndV (kMov [x8]) fun x40 =>
  bndV (kIaS 3 [x39, x40]) fun x41 =>
  bndV (kFa 2 [x41]) fun x42 =>
  bndV (qLd h none [x42]) fun x43 =>
  bndV (kBin .add [x43, (.int .i64 (.ofNat (nat_lit 1)))]) fun x44 =>
  bndV (kIaS 3 [x39, x40]) fun x45 =>
  bndV (kFa 2 [x45]) fun x46 =>
  bndE (dSt h 1 [x46, x44]) h fun _ h =>
  bndV (kMov [x10]) fun x47 =>
  bndV (kMov [x47]) fun x6 =>
  bndV (kMov [(.int .i64 (.ofNat (nat_lit 0)))]) fun x7 =>
  ret1 (.tuple [x6, x7]) h
noncomputable def f279_1 (x1 : V) (x2 : V) (x8 : V) (x10 : V) (x27 : V) (h : HT) : Option J := bndJ (tstv x27 (bndV (kMov [x10]) fun x28 =>
  bndV (kMov [x8]) fun x29 =>
  bndV (kMov [x1]) fun x30 =>
  bndV (kBld [(.str (sb [])), (.str (sb [])), (.int .i64 (.ofNat (nat_lit 0)))] [(0, 1)] [x30]) fun x31 =>
  bndN (kBsl 3 1 [(.str (sb [])), (.str (sb [])), (.int .i64 (.ofNat (nat_lit 0)))] [(0, 3)] [x31]) h fun x32 h =>
  bndC (f323 [x28, x29, x32] h) fun x33 h =>
  bndV (kMov [x33]) fun x10 =>
  some ⟨0, [x2, x8, x10], h⟩)
  (some ⟨0, [x2, x8, x10], h⟩))
  fun j vs h => unc vs fun x2 vs =>
  unc vs fun x8 vs =>
  unc vs fun x10 vs =>
  bndV (kMov [x10]) fun x34 =>
  bndV (kMov [x8]) fun x35 =>
  bndV (kMov [x2]) fun x36 =>
  bndV (kIaS 3 [x34, x35]) fun x37 =>
  (f279_0 x8 x10 x36 x37 h)
noncomputable def f279_2 (x0 : V) (x1 : V) (x2 : V) (x8 : V) (x9 : V) (x18 : V) (h : HT) : Option J := bndV (kMov [x18]) fun x19 =>
  bndC (gsel x19 true (retV (kMov [x0]) h) h) fun x20 h =>
  bndC (gsel x19 true (retV (kLenS [x20]) h) h) fun x21 h =>
  bndC (gsel x19 true (retV (kBin .geq [x21, (.int .i64 (.ofNat (nat_lit 32)))]) h) h) fun x22 h =>
  bndV (kPick [x19, x22, (.bool false)]) fun x23 =>
  tstv x23 (bndV (kMov [(.slice none 0 true 0)]) fun x6 =>
  bndV (kMov [(.int .i64 (.ofNat (nat_lit 7)))]) fun x7 =>
  ret1 (.tuple [x6, x7]) h)
  (bndV (kMov [x0]) fun x24 =>
  bndC (f63 [x24] h) fun x25 h =>
  bndV (kMov [x25]) fun x10 =>
  bndV (kMov [x9]) fun x26 =>
  bndV (kUn .not [x26]) fun x27 =>
  (f279_1 x1 x2 x8 x10 x27 h))
noncomputable def f279_3 (x0 : V) (vs : List V) (h : HT) : Option J := unc vs fun x1 vs =>
  unc vs fun x2 vs =>
  bndV (kMov [(.slice none 0 true 0)]) fun x6 =>
  bndV (kMov [(.int .i64 (.ofNat (nat_lit 0)))]) fun x7 =>
  bndV (kMov [x0]) fun x12 =>
  bndV (kMov [x1]) fun x13 =>
  bndC (f322 [x12, x13] h) fun x14 h =>
  bndV (kMov [x14]) fun x11 =>
  bndV (kExt 0 [x11]) fun x15 =>
  bndV (kExt 1 [x11]) fun x16 =>
  bndV (kMov [x15]) fun x8 =>
  bndV (kMov [x16]) fun x9 =>
  bndV (kMov [x9]) fun x17 =>
  bndV (kUn .not [x17]) fun x18 =>
  (f279_2 x0 x1 x2 x8 x9 x18 h)
noncomputable def f279 (vs : List V) (h : HT) : Option J := unc vs fun x0 vs =>
  (f279_3 x0 vs h)
def a279 : List Ann := [.no, .join [(.normal, [2, 8, 10])]]
theorem e279 : f279 = evFun Tryz.prog 279 3 a279 t279 := by kernel_rfl
theorem o279 : FnOk Tryz.prog 279 f279 := .of hmO (show enters Tryz.prog 279 = true by kernel_rfl) e279 (.cons o63 (.cons o322 (.cons o323 (.nil))))

/- concord/state.done -/
noncomputable def l217 : List (Nat × (List V → HT → Option J)) := [(278, f278), (279, f279)]
noncomputable def t217 : Fns := tab l217
noncomputable def f217_0 (x0 : V) (x5 : V) (x6 : V) (x7 : V) (x8 : V) (x9 : V) (x46 : V) (h : HT) : Option J := tstv x46 (bndV (kMov [x0]) fun x47 =>
  bndV (kMov [x9]) fun x48 =>
  bndV (kBld [(.int .i64 (.ofNat (nat_lit 0))), (.bool false), (.str (sb [])), (.int .i64 (.ofNat (nat_lit 0))), (.slice none 0 true 0)] [(0, 1)] [x48]) fun x49 =>
  bndV (kMov [x47]) fun x4 =>
  bndE (dSt h 5 [x5, x49]) h fun _ h =>
  bndV (qLd h (some 5) [x5]) fun x900000 =>
  ret1 (.tuple [x4, x900000]) h)
  (bndV (kMov [x8]) fun x50 =>
  bndV (kMov [x7]) fun x51 =>
  bndV (kFa 2 [x6]) fun x52 =>
  bndV (qLd h none [x52]) fun x53 =>
  bndV (kBin .add [x53, (.int .i64 (.ofNat (nat_lit 1)))]) fun x54 =>
  bndV (kBld [(.int .i64 (.ofNat (nat_lit 0))), (.bool false), (.str (sb [])), (.int .i64 (.ofNat (nat_lit 0))), (.slice none 0 true 0)] [(1, 1), (3, 1)] [x51, x54]) fun x55 =>
  bndV (kMov [x50]) fun x4 =>
  bndE (dSt h 5 [x5, x55]) h fun _ h =>
  bndV (qLd h (some 5) [x5]) fun x900000 =>
  ret1 (.tuple [x4, x900000]) h)
noncomputable def f217_1 (x5 : V) (x6 : V) (x7 : V) (x59 : V) (x61 : V) (h : HT) : Option J := bndC (noF [x59, x61] h) fun x62 h =>
  bndV (kMov [x62]) fun x58 =>
  bndV (kExt 0 [x58]) fun x63 =>
  bndV (kExt 1 [x58]) fun x64 =>
  bndV (kMov [x63]) fun x10 =>
  bndV (kMov [x64]) fun x11 =>
  bndV (kMov [x10]) fun x65 =>
  bndV (kMov [x7]) fun x66 =>
  bndV (kFa 2 [x6]) fun x67 =>
  bndV (qLd h none [x67]) fun x68 =>
  bndV (kBld [(.int .i64 (.ofNat (nat_lit 0))), (.bool false), (.str (sb [])), (.int .i64 (.ofNat (nat_lit 0))), (.slice none 0 true 0)] [(1, 1), (3, 1)] [x66, x68]) fun x69 =>
  bndV (kMov [x65]) fun x4 =>
  bndE (dSt h 5 [x5, x69]) h fun _ h =>
  bndV (qLd h (some 5) [x5]) fun x900000 =>
  ret1 (.tuple [x4, x900000]) h
noncomputable def f217_2 (x5 : V) (x6 : V) (x87 : V) (h : HT) : Option J := bndV (kExt 0 [x87]) fun x94 =>
  bndV (kExt 1 [x87]) fun x95 =>
  bndV (kMov [x94]) fun x12 =>
  bndV (kMov [x95]) fun x13 =>
  bndV (kMov [x12]) fun x96 =>
  bndV (kFa 1 [x6]) fun x97 =>
  bndV (qLd h none [x97]) fun x98 =>
  bndV (kFa 2 [x6]) fun x99 =>
  bndV (qLd h none [x99]) fun x100 =>
  bndV (kBin .add [x100, (.int .i64 (.ofNat (nat_lit 1)))]) fun x101 =>
  bndV (kBld [(.int .i64 (.ofNat (nat_lit 0))), (.bool false), (.str (sb [])), (.int .i64 (.ofNat (nat_lit 0))), (.slice none 0 true 0)] [(1, 1), (2, 1), (3, 1)] [(.bool true), x98, x101]) fun x102 =>
  bndV (kMov [x96]) fun x4 =>
  bndE (dSt h 5 [x5, x102]) h fun _ h =>
  bndV (qLd h (some 5) [x5]) fun x900000 =>
  ret1 (.tuple [x4, x900000]) h
noncomputable def f217_3 (x0 : V) (x3 : V) (x5 : V) (x6 : V) (x80 : V) (h : HT) : Option J := tstv x80 (bndV (kMov [x0]) fun x81 =>
  bndV (kFa 1 [x6]) fun x82 =>
  bndV (qLd h none [x82]) fun x83 =>
  bndV (kFa 2 [x6]) fun x84 =>
  bndV (qLd h none [x84]) fun x85 =>
  bndV (kBld [(.int .i64 (.ofNat (nat_lit 0))), (.bool false), (.str (sb [])), (.int .i64 (.ofNat (nat_lit 0))), (.slice none 0 true 0)] [(2, 1), (3, 1)] [x83, x85]) fun x86 =>
  bndV (kMov [x81]) fun x4 =>
  bndE (dSt h 5 [x5, x86]) h fun _ h =>
  bndV (qLd h (some 5) [x5]) fun x900000 =>
  ret1 (.tuple [x4, x900000]) h)
  (bndV (kMov [x0]) fun x88 =>
  bndV (kFa 3 [x3]) fun x89 =>
  bndV (qLd h none [x89]) fun x90 =>
  bndV (kFa 6 [x3]) fun x91 =>
  bndV (qLd h none [x91]) fun x92 =>
  bndC (f279 [x88, x90, x92] h) fun x93 h =>
  bndV (kMov [x93]) fun x87 =>
  (f217_2 x5 x6 x87 h))
noncomputable def f217_4 (x0 : V) (x5 : V) (x104 : V) (x106 : V) (x108 : V) (h : HT) : Option J := bndV (kBld [(.str (sb [])), (.str (sb []))] [(0, 1), (1, 1)] [x106, x108]) fun x109 =>
  bndC (noF [x104, x109] h) fun x110 h =>
  bndV (kMov [x110]) fun x103 =>
  bndV (kExt 0 [x103]) fun x111 =>
  bndV (kExt 1 [x103]) fun x112 =>
  bndV (kMov [x111]) fun x14 =>
  bndV (kMov [x112]) fun x15 =>
  bndV (kMov [x0]) fun x113 =>
  bndV (kMov [x15]) fun x114 =>
  bndV (kMov [x14]) fun x115 =>
  bndV (kBld [(.int .i64 (.ofNat (nat_lit 0))), (.bool false), (.str (sb [])), (.int .i64 (.ofNat (nat_lit 0))), (.slice none 0 true 0)] [(1, 1), (4, 1)] [x114, x115]) fun x116 =>
  bndV (kMov [x113]) fun x4 =>
  bndE (dSt h 5 [x5, x116]) h fun _ h =>
  bndV (qLd h (some 5) [x5]) fun x900000 =>
  ret1 (.tuple [x4, x900000]) h
noncomputable def f217_5 (x0 : V) (x3 : V) (x5 : V) (x6 : V) (x7 : V) (x70 : V) (h : HT) : Option J := tstv x70 (bndV (kMov [x7]) fun x72 =>
  bndV (kUn .not [x72]) fun x73 =>
  bndV (kMov [x73]) fun x74 =>
  bndC (gsel x74 false (retV (kFa 1 [x6]) h) h) fun x75 h =>
  bndC (gsel x74 false (retV (qLd h none [x75]) h) h) fun x76 h =>
  bndC (gsel x74 false (retV (kFa 5 [x3]) h) h) fun x77 h =>
  bndC (gsel x74 false (retV (qLd h none [x77]) h) h) fun x78 h =>
  bndC (gsel x74 false (retV (kBin .neq [x76, x78]) h) h) fun x79 h =>
  bndV (kPick [x74, (.bool true), x79]) fun x80 =>
  (f217_3 x0 x3 x5 x6 x80 h))
  (bndV (kMov [x0]) fun x104 =>
  bndV (kFa 3 [x3]) fun x105 =>
  bndV (qLd h none [x105]) fun x106 =>
  bndV (kFa 4 [x3]) fun x107 =>
  bndV (qLd h none [x107]) fun x108 =>
  (f217_4 x0 x5 x104 x106 x108 h))
noncomputable def f217_6 (x0 : V) (x3 : V) (x5 : V) (x6 : V) (x7 : V) (x24 : V) (x34 : V) (h : HT) : Option J := tstv x34 (bndV (kMov [x0]) fun x37 =>
  bndV (kFa 3 [x3]) fun x38 =>
  bndV (qLd h none [x38]) fun x39 =>
  bndV (kFa 6 [x3]) fun x40 =>
  bndV (qLd h none [x40]) fun x41 =>
  bndC (f279 [x37, x39, x41] h) fun x42 h =>
  bndV (kMov [x42]) fun x36 =>
  bndV (kExt 0 [x36]) fun x43 =>
  bndV (kExt 1 [x36]) fun x44 =>
  bndV (kMov [x43]) fun x8 =>
  bndV (kMov [x44]) fun x9 =>
  bndV (kMov [x9]) fun x45 =>
  bndV (kBin .neq [x45, (.int .i64 (.ofNat (nat_lit 0)))]) fun x46 =>
  (f217_0 x0 x5 x6 x7 x8 x9 x46 h))
  (bndV (kBin .eql [x24, (.int .i64 (.ofNat (nat_lit 3)))]) fun x57 =>
  bndV (kMov [x57]) fun x56 =>
  tstv x56 (bndV (kMov [x0]) fun x59 =>
  bndV (kFa 3 [x3]) fun x60 =>
  bndV (qLd h none [x60]) fun x61 =>
  (f217_1 x5 x6 x7 x59 x61 h))
  (bndV (kBin .eql [x24, (.int .i64 (.ofNat (nat_lit 4)))]) fun x71 =>
  bndV (kMov [x71]) fun x70 =>
  (f217_5 x0 x3 x5 x6 x7 x70 h)))
noncomputable def f217_7 (x0 : V) (x3 : V) (x5 : V) (x6 : V) (x7 : V) (x24 : V) (x25 : V) (h : HT) : Option J := tstv x25 (bndV (kMov [x0]) fun x27 =>
  bndV (kMov [x7]) fun x28 =>
  bndV (kFa 1 [x6]) fun x29 =>
  bndV (qLd h none [x29]) fun x30 =>
  bndV (kFa 2 [x6]) fun x31 =>
  bndV (qLd h none [x31]) fun x32 =>
  bndV (kBld [(.int .i64 (.ofNat (nat_lit 0))), (.bool false), (.str (sb [])), (.int .i64 (.ofNat (nat_lit 0))), (.slice none 0 true 0)] [(1, 1), (2, 1), (3, 1)] [x28, x30, x32]) fun x33 =>
  bndV (kMov [x27]) fun x4 =>
  bndE (dSt h 5 [x5, x33]) h fun _ h =>
  bndV (qLd h (some 5) [x5]) fun x900000 =>
  ret1 (.tuple [x4, x900000]) h)
  (bndV (kBin .eql [x24, (.int .i64 (.ofNat (nat_lit 2)))]) fun x35 =>
  bndV (kMov [x35]) fun x34 =>
  (f217_6 x0 x3 x5 x6 x7 x24 x34 h))
noncomputable def f217_8 (x0 : V) (x3 : V) (x5 : V) (h : HT) : Option J := bndV (kMov [x0]) fun x17 =>
  bndV (kFa 3 [x3]) fun x18 =>
  bndV (qLd h none [x18]) fun x19 =>
  bndC (f278 [x17, x19] h) fun x20 h =>
  bndV (kMov [x20]) fun x16 =>
  bndV (kExt 0 [x16]) fun x21 =>
  bndV (kExt 1 [x16]) fun x22 =>
  bndN (kAlloc [(.str (sb [])), (.str (sb [])), (.int .i64 (.ofNat (nat_lit 0)))] []) h fun x6 h =>
  bndE (dSt h 3 [x6, x21]) h fun _ h =>
  bndV (kMov [x22]) fun x7 =>
  bndV (kFa 0 [x3]) fun x23 =>
  bndV (qLd h none [x23]) fun x24 =>
  bndV (kBin .eql [x24, (.int .i64 (.ofNat (nat_lit 1)))]) fun x26 =>
  bndV (kMov [x26]) fun x25 =>
  (f217_7 x0 x3 x5 x6 x7 x24 x25 h)
noncomputable def f217 (vs : List V) (h : HT) : Option J := unc vs fun x0 vs =>
  unc vs fun x1 vs =>
  bndN (kBox [x1]) h fun x3 h =>
  bndV (kMov [(.slice none 0 true 0)]) fun x4 =>
  bndN (kAlloc [(.int .i64 (.ofNat (nat_lit 0))), (.bool false), (.str (sb [])), (.int .i64 (.ofNat (nat_lit 0))), (.slice none 0 true 0)] []) h fun x5 h =>
  (f217_8 x0 x3 x5 h)
def a217 : List Ann := [.no, .no, .no, .no, .no, .no, .no]
theorem e217 : f217 = evFun Tryz.prog 217 2 a217 t217 := by kernel_rfl
theorem o217 : FnOk Tryz.prog 217 f217 := .of hmO (show enters Tryz.prog 217 = true by kernel_rfl) e217 (.cons o278 (.cons o279 (.nil)))

/- concord/state.Apply -/
noncomputable def l140 : List (Nat × (List V → HT → Option J)) := [(40, f40), (139, f139), (215, f215), (216, f216), (217, f217)]
noncomputable def t140 : Fns := tab l140
noncomputable def f140_0 (x3 : V) (x4 : V) (x5 : V) (x9 : V) (x48 : V) (x50 : V) (h : HT) : Option J := bndV (kFa 1 [x3]) fun x51 =>
  bndV (qLd h none [x51]) fun x52 =>
  bndV (kFa 2 [x3]) fun x53 =>
  bndV (qLd h none [x53]) fun x54 =>
  bndV (qLd h (some 5) [x9]) fun x55 =>
  bndV (qLd h (some 5) [x9]) fun x58 =>
  bndC (f215 [x50, x52, x54, x55] h) fun x56 h =>
  chk1 (sameE (qLd h (some 5) [x9]) x58) (bndV (kBld [(.slice none 0 true 0), (.int .i64 (.ofNat (nat_lit 0))), (.int .i64 (.ofNat (nat_lit 0))), (.bool false), (.str (sb [])), (.int .i64 (.ofNat (nat_lit 0))), (.slice none 0 true 0), (.int .i64 (.ofNat (nat_lit 0))), (.int .i64 (.ofNat (nat_lit 0))), (.bool false), (.str (sb [])), (.int .i64 (.ofNat (nat_lit 0))), (.slice none 0 true 0), (.int .i64 (.ofNat (nat_lit 0))), (.int .i64 (.ofNat (nat_lit 0))), (.bool false), (.str (sb [])), (.int .i64 (.ofNat (nat_lit 0))), (.slice none 0 true 0), (.int .i64 (.ofNat (nat_lit 0))), (.int .i64 (.ofNat (nat_lit 0))), (.bool false), (.str (sb [])), (.int .i64 (.ofNat (nat_lit 0))), (.slice none 0 true 0), (.int .i64 (.ofNat (nat_lit 0))), (.int .i64 (.ofNat (nat_lit 0))), (.bool false), (.str (sb [])), (.int .i64 (.ofNat (nat_lit 0))), (.slice none 0 true 0), (.int .i64 (.ofNat (nat_lit 0))), (.int .i64 (.ofNat (nat_lit 0))), (.bool false), (.str (sb [])), (.int .i64 (.ofNat (nat_lit 0))), (.slice none 0 true 0), (.int .i64 (.ofNat (nat_lit 0))), (.int .i64 (.ofNat (nat_lit 0))), (.bool false), (.str (sb [])), (.int .i64 (.ofNat (nat_lit 0))), (.slice none 0 true 0), (.int .i64 (.ofNat (nat_lit 0))), (.int .i64 (.ofNat (nat_lit 0))), (.bool false), (.str (sb [])), (.int .i64 (.ofNat (nat_lit 0))), (.slice none 0 true 0)] [(0, 1), (1, 48)] [x48, x56]) fun x57 =>
  bndE (dSt h 49 [x4, x57]) h fun _ h =>
  chk1 (sameE (qLd h (some 5) [x9]) x58) (bndE (dSt h 5 [x5, x58]) h fun _ h =>
  bndV (qLd h (some 49) [x4]) fun x900000 =>
  bndV (qLd h (some 5) [x5]) fun x900001 =>
  ret1 (.tuple [x900000, x900001]) h))
noncomputable def f140_1 (x2 : V) (x3 : V) (x4 : V) (x5 : V) (x37 : V) (h : HT) : Option J := tstv x37 (bndV (qLd h (some 49) [x2]) fun x39 =>
  bndV (kBld [(.int .i64 (.ofNat (nat_lit 0))), (.bool false), (.str (sb [])), (.int .i64 (.ofNat (nat_lit 0))), (.slice none 0 true 0)] [(0, 1)] [(.int .i64 (.ofNat (nat_lit 9)))]) fun x40 =>
  bndE (dSt h 49 [x4, x39]) h fun _ h =>
  bndE (dSt h 5 [x5, x40]) h fun _ h =>
  bndV (qLd h (some 49) [x4]) fun x900000 =>
  bndV (qLd h (some 5) [x5]) fun x900001 =>
  ret1 (.tuple [x900000, x900001]) h)
  (bndV (kFa 0 [x2]) fun x42 =>
  bndV (qLd h none [x42]) fun x43 =>
  bndV (qLd h (some 7) [x3]) fun x44 =>
  bndC (f217 [x43, x44] h) fun x45 h =>
  bndV (kMov [x45]) fun x41 =>
  bndV (kExt 0 [x41]) fun x46 =>
  bndV (kExt 1 [x41]) fun x47 =>
  bndN (kAlloc [(.int .i64 (.ofNat (nat_lit 0))), (.bool false), (.str (sb [])), (.int .i64 (.ofNat (nat_lit 0))), (.slice none 0 true 0)] []) h fun x9 h =>
  bndV (kMov [x46]) fun x8 =>
  bndE (dSt h 5 [x9, x47]) h fun _ h =>
  bndV (kMov [x8]) fun x48 =>
  bndV (kFa 1 [x2]) fun x49 =>
  bndV (qLd h (some 48) [x49]) fun x50 =>
  (f140_0 x3 x4 x5 x9 x48 x50 h))
noncomputable def f140_2 (x2 : V) (x3 : V) (x4 : V) (x5 : V) (x6 : V) (x7 : V) (h : HT) : Option J := bndV (kMov [x6]) fun x32 =>
  bndV (kBin .eql [x32, (.int .i64 (.ofNat (nat_lit 2)))]) fun x34 =>
  bndV (kMov [x34]) fun x33 =>
  tstv x33 (bndV (qLd h (some 49) [x2]) fun x35 =>
  bndV (qLd h (some 5) [x7]) fun x36 =>
  bndE (dSt h 49 [x4, x35]) h fun _ h =>
  chk1 (sameE (qLd h (some 5) [x7]) x36) (bndE (dSt h 5 [x5, x36]) h fun _ h =>
  bndV (qLd h (some 49) [x4]) fun x900000 =>
  bndV (qLd h (some 5) [x5]) fun x900001 =>
  ret1 (.tuple [x900000, x900001]) h))
  (bndV (kBin .eql [x32, (.int .i64 (.ofNat (nat_lit 3)))]) fun x38 =>
  bndV (kMov [x38]) fun x37 =>
  (f140_1 x2 x3 x4 x5 x37 h))
noncomputable def f140_3 (x2 : V) (x3 : V) (x4 : V) (x5 : V) (x19 : V) (h : HT) : Option J := tstv x19 (bndV (qLd h (some 49) [x2]) fun x20 =>
  bndV (kBld [(.int .i64 (.ofNat (nat_lit 0))), (.bool false), (.str (sb [])), (.int .i64 (.ofNat (nat_lit 0))), (.slice none 0 true 0)] [(0, 1)] [(.int .i64 (.ofNat (nat_lit 1)))]) fun x21 =>
  bndE (dSt h 49 [x4, x20]) h fun _ h =>
  bndE (dSt h 5 [x5, x21]) h fun _ h =>
  bndV (qLd h (some 49) [x4]) fun x900000 =>
  bndV (qLd h (some 5) [x5]) fun x900001 =>
  ret1 (.tuple [x900000, x900001]) h)
  (bndV (kFa 1 [x2]) fun x23 =>
  bndV (qLd h (some 48) [x23]) fun x24 =>
  bndV (kFa 1 [x3]) fun x25 =>
  bndV (qLd h none [x25]) fun x26 =>
  bndV (kFa 2 [x3]) fun x27 =>
  bndV (qLd h none [x27]) fun x28 =>
  bndC (f216 [x24, x26, x28] h) fun x29 h =>
  bndV (kMov [x29]) fun x22 =>
  bndV (kExt 0 [x22]) fun x30 =>
  bndV (kExt 1 [x22]) fun x31 =>
  bndN (kAlloc [(.int .i64 (.ofNat (nat_lit 0))), (.bool false), (.str (sb [])), (.int .i64 (.ofNat (nat_lit 0))), (.slice none 0 true 0)] []) h fun x7 h =>
  bndV (kMov [x30]) fun x6 =>
  bndE (dSt h 5 [x7, x31]) h fun _ h =>
  (f140_2 x2 x3 x4 x5 x6 x7 h))
noncomputable def f140_4 (x2 : V) (x3 : V) (x4 : V) (x5 : V) (h : HT) : Option J := bndV (qLd h (some 7) [x3]) fun x12 =>
  bndV (kBld [(.int .i64 (.ofNat (nat_lit 0))), (.int .i64 (.ofNat (nat_lit 0))), (.int .i64 (.ofNat (nat_lit 0))), (.str (sb [])), (.str (sb [])), (.str (sb [])), (.str (sb []))] [] []) fun x13 =>
  bndV (kEqF false [.i, .i, .i, .s, .s, .s, .s] [x12, x13]) fun x14 =>
  tstv x14 (bndV (qLd h (some 49) [x2]) fun x15 =>
  bndV (kBld [(.int .i64 (.ofNat (nat_lit 0))), (.bool false), (.str (sb [])), (.int .i64 (.ofNat (nat_lit 0))), (.slice none 0 true 0)] [] []) fun x16 =>
  bndE (dSt h 49 [x4, x15]) h fun _ h =>
  bndE (dSt h 5 [x5, x16]) h fun _ h =>
  bndV (qLd h (some 49) [x4]) fun x900000 =>
  bndV (qLd h (some 5) [x5]) fun x900001 =>
  ret1 (.tuple [x900000, x900001]) h)
  (bndV (qLd h (some 7) [x3]) fun x17 =>
  bndC (f40 [x17] h) fun x18 h =>
  bndV (kUn .not [x18]) fun x19 =>
  (f140_3 x2 x3 x4 x5 x19 h))
noncomputable def f140 (vs : List V) (h : HT) : Option J := unc vs fun x0 vs =>
  unc vs fun x1 vs =>
  bndN (kBox [x0]) h fun x2 h =>
  bndN (kBox [x1]) h fun x3 h =>
  bndN (kAlloc [(.slice none 0 true 0), (.int .i64 (.ofNat (nat_lit 0))), (.int .i64 (.ofNat (nat_lit 0))), (.bool false), (.str (sb [])), (.int .i64 (.ofNat (nat_lit 0))), (.slice none 0 true 0), (.int .i64 (.ofNat (nat_lit 0))), (.int .i64 (.ofNat (nat_lit 0))), (.bool false), (.str (sb [])), (.int .i64 (.ofNat (nat_lit 0))), (.slice none 0 true 0), (.int .i64 (.ofNat (nat_lit 0))), (.int .i64 (.ofNat (nat_lit 0))), (.bool false), (.str (sb [])), (.int .i64 (.ofNat (nat_lit 0))), (.slice none 0 true 0), (.int .i64 (.ofNat (nat_lit 0))), (.int .i64 (.ofNat (nat_lit 0))), (.bool false), (.str (sb [])), (.int .i64 (.ofNat (nat_lit 0))), (.slice none 0 true 0), (.int .i64 (.ofNat (nat_lit 0))), (.int .i64 (.ofNat (nat_lit 0))), (.bool false), (.str (sb [])), (.int .i64 (.ofNat (nat_lit 0))), (.slice none 0 true 0), (.int .i64 (.ofNat (nat_lit 0))), (.int .i64 (.ofNat (nat_lit 0))), (.bool false), (.str (sb [])), (.int .i64 (.ofNat (nat_lit 0))), (.slice none 0 true 0), (.int .i64 (.ofNat (nat_lit 0))), (.int .i64 (.ofNat (nat_lit 0))), (.bool false), (.str (sb [])), (.int .i64 (.ofNat (nat_lit 0))), (.slice none 0 true 0), (.int .i64 (.ofNat (nat_lit 0))), (.int .i64 (.ofNat (nat_lit 0))), (.bool false), (.str (sb [])), (.int .i64 (.ofNat (nat_lit 0))), (.slice none 0 true 0)] []) h fun x4 h =>
  bndN (kAlloc [(.int .i64 (.ofNat (nat_lit 0))), (.bool false), (.str (sb [])), (.int .i64 (.ofNat (nat_lit 0))), (.slice none 0 true 0)] []) h fun x5 h =>
  bndV (qLd h (some 49) [x2]) fun x10 =>
  bndC (f139 [x10] h) fun x11 h =>
  bndE (dSt h 49 [x2, x11]) h fun _ h =>
  (f140_4 x2 x3 x4 x5 h)
def a140 : List Ann := [.no, .no, .no, .no, .no]
theorem e140 : f140 = evFun Tryz.prog 140 2 a140 t140 := by kernel_rfl
theorem o140 : FnOk Tryz.prog 140 f140 := .of hmO (show enters Tryz.prog 140 = true by kernel_rfl) e140 (.cons o40 (.cons o139 (.cons o215 (.cons o216 (.cons o217 (.nil))))))

/- concord/inst.New -/
noncomputable def l302 : List (Nat × (List V → HT → Option J)) := []
noncomputable def t302 : Fns := tab l302
noncomputable def f302_0 (rc : List V → HT → Option J) (x3 : V) (x9 : V) (x10 : V) (x11 : V) (x12 : V) (h : HT) : Option J := tstv x12 (bndV (kIaS 2 [x9, x11]) fun x13 =>
  bndV (qLd h (some 2) [x13]) fun x14 =>
  bndN (kAlloc [(.int .i64 (.ofNat (nat_lit 0))), (.int .i64 (.ofNat (nat_lit 0)))] []) h fun x5 h =>
  bndE (dSt h 2 [x5, x14]) h fun _ h =>
  bndV (kMov [x3]) fun x15 =>
  bndV (kNilc [x15]) fun x16 =>
  bndV (kFa 0 [x16]) fun x17 =>
  bndV (qLd h none [x17]) fun x18 =>
  bndV (qLd h (some 2) [x5]) fun x19 =>
  bndV (kBld [] [] []) fun x20 =>
  bndE (dMset h true [.i, .i] [x18, x19, x20]) h fun _ h =>
  bndV (kBin .add [x11, (.int .i64 (.ofNat (nat_lit 1)))]) fun x21 =>
  bndV (kMov [x21]) fun x11 =>
  rc [x3, x9, x10, x11] h)
  (some ⟨0, [x3], h⟩)
noncomputable def f302_1 (x0 : V) (x3 : V) (h : HT) : Option J := bndV (kMov [x0]) fun x9 =>
  bndV (kLenS [x9]) fun x10 =>
  bndV (kMov [(.int .i64 (.ofNat (nat_lit 0)))]) fun x11 =>
  bndJ (loopF (fun rc vs h => unc vs fun x3 vs =>
  unc vs fun x9 vs =>
  unc vs fun x10 vs =>
  unc vs fun x11 vs =>
  bndV (kBin .lss [x11, x10]) fun x12 =>
  (f302_0 rc x3 x9 x10 x11 x12 h)) 1000000 [x3, x9, x10, x11] h)
  fun j vs h => unc vs fun x3 vs =>
  bndV (kMov [x3]) fun x22 =>
  bndV (kMov [x22]) fun x2 =>
  ret1 x2 h
noncomputable def f302 (vs : List V) (h : HT) : Option J := unc vs fun x0 vs =>
  bndV (kMov [(.ptr none)]) fun x2 =>
  bndN (kMkM []) h fun x6 h =>
  bndV (kBld [(.map none)] [(0, 1)] [x6]) fun x7 =>
  bndN (kBox [x7]) h fun x8 h =>
  bndV (kMov [x8]) fun x3 =>
  (f302_1 x0 x3 h)
def a302 : List Ann := [.no, .loop [3, 9, 10, 11] [((.exit 0), [3])], .no, .no]
theorem e302 : f302 = evFun Tryz.prog 302 1 a302 t302 := by kernel_rfl
theorem o302 : FnOk Tryz.prog 302 f302 := .of hmO (show enters Tryz.prog 302 = true by kernel_rfl) e302 (.nil)

/- (*concord/exec.plan).beyond -/
noncomputable def l303 : List (Nat × (List V → HT → Option J)) := []
noncomputable def t303 : Fns := tab l303
noncomputable def f303_0 (rc : List V → HT → Option J) (x3 : V) (x5 : V) (x10 : V) (x15 : V) (h : HT) : Option J := bndV (qLd h none [x15]) fun x16 =>
  bndV (kFa 0 [x3]) fun x17 =>
  bndV (qLd h none [x17]) fun x18 =>
  bndV (kBin .eql [x16, x18]) fun x19 =>
  bndV (kMov [x19]) fun x20 =>
  bndC (gsel x20 true (retV (kFa 1 [x5]) h) h) fun x21 h =>
  bndC (gsel x20 true (retV (qLd h none [x21]) h) h) fun x22 h =>
  bndC (gsel x20 true (retV (kFa 1 [x3]) h) h) fun x23 h =>
  bndC (gsel x20 true (retV (qLd h none [x23]) h) h) fun x24 h =>
  bndC (gsel x20 true (retV (kBin .gtr [x22, x24]) h) h) fun x25 h =>
  bndV (kPick [x20, x25, (.bool false)]) fun x26 =>
  tstv x26 (bndV (kMov [(.bool true)]) fun x4 =>
  some ⟨1, [x4], h⟩)
  (rc [x3, x10] h)
noncomputable def f303_1 (x3 : V) (x10 : V) (h : HT) : Option J := bndJ (loopF (fun rc vs h => unc vs fun x3 vs =>
  unc vs fun x10 vs =>
  bndE (dNx h [x10]) h fun x11 h =>
  bndV (kExt 0 [x11]) fun x12 =>
  tstv x12 (bndV (kEnt h.heap [x10]) fun x13 =>
  bndV (kExt 0 [x13]) fun x14 =>
  bndN (kAlloc [(.int .i64 (.ofNat (nat_lit 0))), (.int .i64 (.ofNat (nat_lit 0)))] []) h fun x5 h =>
  bndE (dSt h 2 [x5, x14]) h fun _ h =>
  bndV (kFa 0 [x5]) fun x15 =>
  (f303_0 rc x3 x5 x10 x15 h))
  (some ⟨0, [], h⟩)) 1000000 [x3, x10] h)
  fun j vs h => nsw j (bndV (kMov [(.bool false)]) fun x4 =>
  ret1 x4 h)
  fun j => unc vs fun x4 vs =>
  ret1 x4 h
noncomputable def f303 (vs : List V) (h : HT) : Option J := unc vs fun x0 vs =>
  unc vs fun x1 vs =>
  bndN (kBox [x1]) h fun x3 h =>
  bndV (kMov [(.bool false)]) fun x4 =>
  bndV (kMov [x0]) fun x6 =>
  bndV (kNilc [x6]) fun x7 =>
  bndV (kFa 7 [x7]) fun x8 =>
  bndV (qLd h none [x8]) fun x9 =>
  bndN (kRng h.heap [x9]) h fun x10 h =>
  (f303_1 x3 x10 h)
def a303 : List Ann := [.no, .loop [3, 10] [((.exit 0), []), (.ret, [4])], .no, .no, .no]
theorem e303 : f303 = evFun Tryz.prog 303 2 a303 t303 := by kernel_rfl
theorem o303 : FnOk Tryz.prog 303 f303 := .of hmO (show enters Tryz.prog 303 = true by kernel_rfl) e303 (.nil)

/- concord/exec.upto -/
noncomputable def l343 : List (Nat × (List V → HT → Option J)) := []
noncomputable def t343 : Fns := tab l343
noncomputable def f343_0 (x2 : V) (x3 : V) (x4 : V) (x10 : V) (h : HT) : Option J := tstv x10 (bndV (kMov [x2]) fun x11 =>
  bndV (kFa 12 [x4]) fun x12 =>
  bndV (kFa 1 [x12]) fun x13 =>
  bndV (kIaA 7 1 [x13, x11]) fun x14 =>
  bndV (qLd h none [x14]) fun x15 =>
  bndV (kFa 1 [x3]) fun x16 =>
  bndV (qLd h none [x16]) fun x17 =>
  bndV (kBin .sub [x17, (.int .i64 (.ofNat (nat_lit 1)))]) fun x18 =>
  bndV (kMaxI [x15, x18]) fun x19 =>
  bndV (kMov [x19]) fun x6 =>
  ret1 x6 h)
  (bndV (kMov [x2]) fun x20 =>
  bndV (kFa 12 [x4]) fun x21 =>
  bndV (kFa 1 [x21]) fun x22 =>
  bndV (kIaA 7 1 [x22, x20]) fun x23 =>
  bndV (qLd h none [x23]) fun x24 =>
  bndV (kMov [x24]) fun x6 =>
  ret1 x6 h)
noncomputable def f343 (vs : List V) (h : HT) : Option J := unc vs fun x0 vs =>
  unc vs fun x1 vs =>
  unc vs fun x2 vs =>
  bndN (kBox [x0]) h fun x3 h =>
  bndN (kBox [x1]) h fun x4 h =>
  bndV (kMov [(.int .i64 (.ofNat (nat_lit 0)))]) fun x6 =>
  bndV (kMov [x2]) fun x7 =>
  bndV (kFa 0 [x3]) fun x8 =>
  bndV (qLd h none [x8]) fun x9 =>
  bndV (kBin .eql [x7, x9]) fun x10 =>
  (f343_0 x2 x3 x4 x10 h)
def a343 : List Ann := [.no]
theorem e343 : f343 = evFun Tryz.prog 343 3 a343 t343 := by kernel_rfl
theorem o343 : FnOk Tryz.prog 343 f343 := .of hmO (show enters Tryz.prog 343 = true by kernel_rfl) e343 (.nil)

/- (*concord/exec.plan).hangs -/
noncomputable def l305 : List (Nat × (List V → HT → Option J)) := [(302, f302), (343, f343)]
noncomputable def t305 : Fns := tab l305
noncomputable def f305_0 (rc : List V → HT → Option J) (vs : List V) (h : HT) : Option J := unc vs fun x0 vs =>
  unc vs fun x5 vs =>
  unc vs fun x6 vs =>
  unc vs fun x7 vs =>
  unc vs fun x8 vs =>
  unc vs fun x9 vs =>
  unc vs fun x10 vs =>
  unc vs fun x11 vs =>
  unc vs fun x12 vs =>
  unc vs fun x13 vs =>
  unc vs fun x41 vs =>
  bndV (kMov [x13]) fun x58 =>
  bndV (kBin .add [x58, (.int .i64 (.ofNat (nat_lit 1)))]) fun x59 =>
  bndV (kMov [x59]) fun x13 =>
  rc [x0, x5, x6, x7, x8, x9, x10, x11, x12, x13, x41] h
noncomputable def f305_1 (rc : List V → HT → Option J) (x0 : V) (x5 : V) (x6 : V) (x7 : V) (x8 : V) (x9 : V) (x10 : V) (x11 : V) (x12 : V) (x13 : V) (x14 : V) (x41 : V) (x73 : V) (h : HT) : Option J := tstv x73 (bndV (qLd h (some 2) [x14]) fun x74 =>
  bndV (kMov [(.slice none 0 true 0)]) fun x4 =>
  bndE (dSt h 2 [x5, x74]) h fun _ h =>
  some ⟨1, [x4, x5], h⟩)
  (bndV (kMov [x6]) fun x75 =>
  bndV (qLd h (some 2) [x14]) fun x76 =>
  bndC (noF [x75, x76] h) fun x77 h =>
  bndJ (tstv x77 (bndV (kMov [x7]) fun x78 =>
  bndV (qLd h (some 2) [x14]) fun x79 =>
  bndN (kBsl 2 1 [(.int .i64 (.ofNat (nat_lit 0))), (.int .i64 (.ofNat (nat_lit 0)))] [(0, 2)] [x79]) h fun x80 h =>
  bndE (dApp h 2 16 [x78, x80]) h fun x81 h =>
  bndV (kMov [x81]) fun x7 =>
  some ⟨0, [x0, x5, x6, x7, x8, x9, x10, x11, x12, x13, x41], h⟩)
  (some ⟨0, [x0, x5, x6, x7, x8, x9, x10, x11, x12, x13, x41], h⟩))
  fun j vs h => (f305_0 rc vs h))
noncomputable def f305_2 (rc : List V → HT → Option J) (x0 : V) (x5 : V) (x6 : V) (x7 : V) (x8 : V) (x9 : V) (x10 : V) (x11 : V) (x12 : V) (x13 : V) (x14 : V) (x41 : V) (h : HT) : Option J := bndV (kMov [x0]) fun x64 =>
  bndV (kNilc [x64]) fun x65 =>
  bndV (kFa 7 [x65]) fun x66 =>
  bndV (qLd h none [x66]) fun x67 =>
  bndV (qLd h (some 2) [x14]) fun x68 =>
  bndV (kLkp h.heap true [.i, .i] (.agg [(.int .i64 (.ofNat (nat_lit 0))), (.int .i64 (.ofNat (nat_lit 0))), (.int .i64 (.ofNat (nat_lit 0))), (.int .i64 (.ofNat (nat_lit 0))), (.int .i64 (.ofNat (nat_lit 0))), (.int .i64 (.ofNat (nat_lit 0))), (.int .i64 (.ofNat (nat_lit 0))), (.int .i64 (.ofNat (nat_lit 0))), (.str (sb [])), (.str (sb [])), (.str (sb [])), (.str (sb [])), (.int .i64 (.ofNat (nat_lit 0))), (.int .i64 (.ofNat (nat_lit 0))), (.int .i64 (.ofNat (nat_lit 0))), (.int .i64 (.ofNat (nat_lit 0))), (.int .i64 (.ofNat (nat_lit 0))), (.int .i64 (.ofNat (nat_lit 0))), (.int .i64 (.ofNat (nat_lit 0))), (.int .i64 (.ofNat (nat_lit 0))), (.bool false)]) true [x67, x68]) fun x69 =>
  bndV (kMov [x69]) fun x63 =>
  bndV (kExt 0 [x63]) fun x70 =>
  bndV (kExt 1 [x63]) fun x71 =>
  bndN (kAlloc [(.int .i64 (.ofNat (nat_lit 0))), (.int .i64 (.ofNat (nat_lit 0))), (.int .i64 (.ofNat (nat_lit 0))), (.int .i64 (.ofNat (nat_lit 0))), (.int .i64 (.ofNat (nat_lit 0))), (.int .i64 (.ofNat (nat_lit 0))), (.int .i64 (.ofNat (nat_lit 0))), (.int .i64 (.ofNat (nat_lit 0))), (.str (sb [])), (.str (sb [])), (.str (sb [])), (.str (sb [])), (.int .i64 (.ofNat (nat_lit 0))), (.int .i64 (.ofNat (nat_lit 0))), (.int .i64 (.ofNat (nat_lit 0))), (.int .i64 (.ofNat (nat_lit 0))), (.int .i64 (.ofNat (nat_lit 0))), (.int .i64 (.ofNat (nat_lit 0))), (.int .i64 (.ofNat (nat_lit 0))), (.int .i64 (.ofNat (nat_lit 0))), (.bool false)] []) h fun x15 h =>
  bndE (dSt h 21 [x15, x70]) h fun _ h =>
  bndV (kMov [x71]) fun x16 =>
  bndV (kMov [x16]) fun x72 =>
  bndV (kUn .not [x72]) fun x73 =>
  (f305_1 rc x0 x5 x6 x7 x8 x9 x10 x11 x12 x13 x14 x41 x73 h)
noncomputable def f305_3 (rc : List V → HT → Option J) (x0 : V) (x5 : V) (x6 : V) (x7 : V) (x8 : V) (x9 : V) (x10 : V) (vs : List V) (h : HT) : Option J := unc vs fun x11 vs =>
  unc vs fun x12 vs =>
  unc vs fun x13 vs =>
  unc vs fun x41 vs =>
  bndV (kMov [x13]) fun x55 =>
  bndV (kMov [x12]) fun x56 =>
  bndV (kBin .leq [x55, x56]) fun x57 =>
  tstv x57 (bndV (kMov [x11]) fun x60 =>
  bndV (kMov [x13]) fun x61 =>
  bndV (kBld [(.int .i64 (.ofNat (nat_lit 0))), (.int .i64 (.ofNat (nat_lit 0)))] [(0, 1), (1, 1)] [x60, x61]) fun x62 =>
  bndN (kAlloc [(.int .i64 (.ofNat (nat_lit 0))), (.int .i64 (.ofNat (nat_lit 0)))] []) h fun x14 h =>
  bndE (dSt h 2 [x14, x62]) h fun _ h =>
  (f305_2 rc x0 x5 x6 x7 x8 x9 x10 x11 x12 x13 x14 x41 h))
  (some ⟨0, [x0, x5, x6, x7, x8, x9, x10, x41], h⟩)
noncomputable def f305_4 (rc : List V → HT → Option J) (j : Nat) (vs : List V) (h : HT) : Option J := nsw j (unc vs fun x0 vs =>
  unc vs fun x5 vs =>
  unc vs fun x6 vs =>
  unc vs fun x7 vs =>
  unc vs fun x8 vs =>
  unc vs fun x9 vs =>
  unc vs fun x10 vs =>
  unc vs fun x41 vs =>
  bndV (kBin .add [x41, (.int .i64 (.ofNat (nat_lit 1)))]) fun x82 =>
  bndV (kMov [x82]) fun x41 =>
  rc [x0, x5, x6, x7, x8, x9, x10, x41] h)
  fun j => unc vs fun x4 vs =>
  unc vs fun x5 vs =>
  some ⟨1, [x4, x5], h⟩
noncomputable def f305_5 (rc : List V → HT → Option J) (x0 : V) (x5 : V) (x6 : V) (x7 : V) (x8 : V) (x9 : V) (x10 : V) (x11 : V) (x12 : V) (x41 : V) (x49 : V) (x51 : V) (h : HT) : Option J := bndV (kIaA 7 1 [x51, x49]) fun x52 =>
  bndV (qLd h none [x52]) fun x53 =>
  bndV (kBin .add [x53, (.int .i64 (.ofNat (nat_lit 1)))]) fun x54 =>
  bndV (kMov [x54]) fun x13 =>
  bndJ (loopF (fun rc vs h => unc vs fun x0 vs =>
  unc vs fun x5 vs =>
  unc vs fun x6 vs =>
  unc vs fun x7 vs =>
  unc vs fun x8 vs =>
  unc vs fun x9 vs =>
  unc vs fun x10 vs =>
  (f305_3 rc x0 x5 x6 x7 x8 x9 x10 vs h)) 1000000 [x0, x5, x6, x7, x8, x9, x10, x11, x12, x13, x41] h)
  fun j vs h => (f305_4 rc j vs h)
noncomputable def f305_6 (rc : List V → HT → Option J) (x0 : V) (x5 : V) (x6 : V) (x7 : V) (x8 : V) (x9 : V) (x10 : V) (x41 : V) (h : HT) : Option J := bndV (kBin .lss [x41, (.int .i64 (.ofNat (nat_lit 7)))]) fun x42 =>
  tstv x42 (bndV (kMov [x41]) fun x43 =>
  bndV (kMov [x43]) fun x11 =>
  bndV (qLd h (some 2) [x9]) fun x44 =>
  bndV (qLd h (some 21) [x10]) fun x45 =>
  bndV (kMov [x11]) fun x46 =>
  bndC (f343 [x44, x45, x46] h) fun x47 h =>
  bndV (kMov [x47]) fun x12 =>
  bndV (kMov [x0]) fun x48 =>
  bndV (kMov [x11]) fun x49 =>
  bndV (kNilc [x48]) fun x50 =>
  bndV (kFa 0 [x50]) fun x51 =>
  (f305_5 rc x0 x5 x6 x7 x8 x9 x10 x11 x12 x41 x49 x51 h))
  (some ⟨0, [x0, x5, x6, x7, x8], h⟩)
noncomputable def f305_7 (rc : List V → HT → Option J) (x0 : V) (x5 : V) (x6 : V) (x7 : V) (x8 : V) (x9 : V) (x10 : V) (x41 : V) (h : HT) : Option J := bndJ (loopF (fun rc vs h => unc vs fun x0 vs =>
  unc vs fun x5 vs =>
  unc vs fun x6 vs =>
  unc vs fun x7 vs =>
  unc vs fun x8 vs =>
  unc vs fun x9 vs =>
  unc vs fun x10 vs =>
  unc vs fun x41 vs =>
  (f305_6 rc x0 x5 x6 x7 x8 x9 x10 x41 h)) 1000000 [x0, x5, x6, x7, x8, x9, x10, x41] h)
  fun j vs h => nsw j (unc vs fun x0 vs =>
  unc vs fun x5 vs =>
  unc vs fun x6 vs =>
  unc vs fun x7 vs =>
  unc vs fun x8 vs =>
  bndV (kMov [x8]) fun x26 =>
  bndV (kBin .add [x26, (.int .i64 (.ofNat (nat_lit 1)))]) fun x27 =>
  bndV (kMov [x27]) fun x8 =>
  rc [x0, x5, x6, x7, x8] h)
  fun j => unc vs fun x4 vs =>
  unc vs fun x5 vs =>
  some ⟨1, [x4, x5], h⟩
noncomputable def f305_8 (rc : List V → HT → Option J) (x0 : V) (x5 : V) (x6 : V) (x7 : V) (x8 : V) (x31 : V) (h : HT) : Option J := bndV (kMov [x8]) fun x32 =>
  bndV (kIaS 2 [x31, x32]) fun x33 =>
  bndV (qLd h (some 2) [x33]) fun x34 =>
  bndN (kAlloc [(.int .i64 (.ofNat (nat_lit 0))), (.int .i64 (.ofNat (nat_lit 0)))] []) h fun x9 h =>
  bndE (dSt h 2 [x9, x34]) h fun _ h =>
  bndV (kMov [x0]) fun x35 =>
  bndV (kNilc [x35]) fun x36 =>
  bndV (kFa 7 [x36]) fun x37 =>
  bndV (qLd h none [x37]) fun x38 =>
  bndV (qLd h (some 2) [x9]) fun x39 =>
  bndV (kLkp h.heap true [.i, .i] (.agg [(.int .i64 (.ofNat (nat_lit 0))), (.int .i64 (.ofNat (nat_lit 0))), (.int .i64 (.ofNat (nat_lit 0))), (.int .i64 (.ofNat (nat_lit 0))), (.int .i64 (.ofNat (nat_lit 0))), (.int .i64 (.ofNat (nat_lit 0))), (.int .i64 (.ofNat (nat_lit 0))), (.int .i64 (.ofNat (nat_lit 0))), (.str (sb [])), (.str (sb [])), (.str (sb [])), (.str (sb [])), (.int .i64 (.ofNat (nat_lit 0))), (.int .i64 (.ofNat (nat_lit 0))), (.int .i64 (.ofNat (nat_lit 0))), (.int .i64 (.ofNat (nat_lit 0))), (.int .i64 (.ofNat (nat_lit 0))), (.int .i64 (.ofNat (nat_lit 0))), (.int .i64 (.ofNat (nat_lit 0))), (.int .i64 (.ofNat (nat_lit 0))), (.bool false)]) false [x38, x39]) fun x40 =>
  bndN (kAlloc [(.int .i64 (.ofNat (nat_lit 0))), (.int .i64 (.ofNat (nat_lit 0))), (.int .i64 (.ofNat (nat_lit 0))), (.int .i64 (.ofNat (nat_lit 0))), (.int .i64 (.ofNat (nat_lit 0))), (.int .i64 (.ofNat (nat_lit 0))), (.int .i64 (.ofNat (nat_lit 0))), (.int .i64 (.ofNat (nat_lit 0))), (.str (sb [])), (.str (sb [])), (.str (sb [])), (.str (sb [])), (.int .i64 (.ofNat (nat_lit 0))), (.int .i64 (.ofNat (nat_lit 0))), (.int .i64 (.ofNat (nat_lit 0))), (.int .i64 (.ofNat (nat_lit 0))), (.int .i64 (.ofNat (nat_lit 0))), (.int .i64 (.ofNat (nat_lit 0))), (.int .i64 (.ofNat (nat_lit 0))), (.int .i64 (.ofNat (nat_lit 0))), (.bool false)] []) h fun x10 h =>
  bndE (dSt h 21 [x10, x40]) h fun _ h =>
  bndV (kMov [(.int .i64 (.ofNat (nat_lit 0)))]) fun x41 =>
  (f305_7 rc x0 x5 x6 x7 x8 x9 x10 x41 h)
noncomputable def f305_9 (rc : List V → HT → Option J) (x0 : V) (x5 : V) (x6 : V) (x7 : V) (x8 : V) (h : HT) : Option J := bndV (kMov [x8]) fun x22 =>
  bndV (kMov [x7]) fun x23 =>
  bndV (kLenS [x23]) fun x24 =>
  bndV (kBin .lss [x22, x24]) fun x25 =>
  tstv x25 (bndV (kMov [x8]) fun x28 =>
  bndV (kBin .eql [x28, (.int .i64 (.ofNat (nat_lit 512)))]) fun x29 =>
  tstv x29 (bndV (kBld [(.int .i64 (.ofNat (nat_lit 0))), (.int .i64 (.ofNat (nat_lit 0)))] [] []) fun x30 =>
  bndV (kMov [(.slice none 0 true 0)]) fun x4 =>
  bndE (dSt h 2 [x5, x30]) h fun _ h =>
  some ⟨1, [x4, x5], h⟩)
  (bndV (kMov [x7]) fun x31 =>
  (f305_8 rc x0 x5 x6 x7 x8 x31 h)))
  (some ⟨0, [x5, x7], h⟩)
noncomputable def f305_10 (x0 : V) (x5 : V) (x6 : V) (x7 : V) (x8 : V) (h : HT) : Option J := bndJ (loopF (fun rc vs h => unc vs fun x0 vs =>
  unc vs fun x5 vs =>
  unc vs fun x6 vs =>
  unc vs fun x7 vs =>
  unc vs fun x8 vs =>
  (f305_9 rc x0 x5 x6 x7 x8 h)) 1000000 [x0, x5, x6, x7, x8] h)
  fun j vs h => nsw j (unc vs fun x5 vs =>
  unc vs fun x7 vs =>
  bndV (kMov [x7]) fun x83 =>
  bndV (kBld [(.int .i64 (.ofNat (nat_lit 0))), (.int .i64 (.ofNat (nat_lit 0)))] [] []) fun x84 =>
  bndV (kMov [x83]) fun x4 =>
  bndE (dSt h 2 [x5, x84]) h fun _ h =>
  bndV (qLd h (some 2) [x5]) fun x900000 =>
  ret1 (.tuple [x4, x900000]) h)
  fun j => unc vs fun x4 vs =>
  unc vs fun x5 vs =>
  bndV (qLd h (some 2) [x5]) fun x900000 =>
  ret1 (.tuple [x4, x900000]) h
noncomputable def f305 (vs : List V) (h : HT) : Option J := unc vs fun x0 vs =>
  unc vs fun x1 vs =>
  bndN (kBox [x1]) h fun x3 h =>
  bndV (kMov [(.slice none 0 true 0)]) fun x4 =>
  bndN (kAlloc [(.int .i64 (.ofNat (nat_lit 0))), (.int .i64 (.ofNat (nat_lit 0)))] []) h fun x5 h =>
  bndV (qLd h (some 2) [x3]) fun x17 =>
  bndN (kBsl 2 1 [(.int .i64 (.ofNat (nat_lit 0))), (.int .i64 (.ofNat (nat_lit 0)))] [(0, 2)] [x17]) h fun x18 h =>
  bndC (f302 [x18] h) fun x19 h =>
  bndV (kMov [x19]) fun x6 =>
  bndV (qLd h (some 2) [x3]) fun x20 =>
  bndN (kBsl 2 1 [(.int .i64 (.ofNat (nat_lit 0))), (.int .i64 (.ofNat (nat_lit 0)))] [(0, 2)] [x20]) h fun x21 h =>
  bndV (kMov [x21]) fun x7 =>
  bndV (kMov [(.int .i64 (.ofNat (nat_lit 0)))]) fun x8 =>
  (f305_10 x0 x5 x6 x7 x8 h)
def a305 : List Ann := [.no, .loop [0, 5, 6, 7, 8] [((.exit 0), [5, 7]), (.ret, [4, 5])], .no, .no, .no, .no, .loop [0, 5, 6, 7, 8, 9, 10, 41] [((.exit 2), [0, 5, 6, 7, 8]), (.ret, [4, 5])], .no, .no, .no, .loop [0, 5, 6, 7, 8, 9, 10, 11, 12, 13, 41] [((.exit 4), [0, 5, 6, 7, 8, 9, 10, 41]), (.ret, [4, 5])], .no, .no, .no, .join [(.normal, [0, 5, 6, 7, 8, 9, 10, 11, 12, 13, 41])]]
theorem e305 : f305 = evFun Tryz.prog 305 2 a305 t305 := by kernel_rfl
theorem o305 : FnOk Tryz.prog 305 f305 := .of hmO (show enters Tryz.prog 305 = true by kernel_rfl) e305 (.cons o302 (.cons o343 (.nil)))

/- slices.insertionSortCmpFunc[concord/api.Inst] -/
noncomputable def l350 : List (Nat × (List V → HT → Option J)) := []
noncomputable def t350 : Fns := tab l350
noncomputable def f350_0 (rc : List V → HT → Option J) (x0 : V) (x1 : V) (x2 : V) (x3 : V) (x8 : V) (x9 : V) (x37 : V) (x38 : V) (x39 : V) (x41 : V) (x42 : V) (x43 : V) (h : HT) : Option J := bndV (kBin .sub [x43, (.int .i64 (.ofNat (nat_lit 1)))]) fun x44 =>
  bndV (kIaS 2 [x42, x44]) fun x45 =>
  bndV (qLd h (some 2) [x45]) fun x46 =>
  bndV (kMov [x0]) fun x47 =>
  bndV (kMov [x9]) fun x48 =>
  bndV (kIaS 2 [x47, x48]) fun x49 =>
  bndV (qLd h (some 2) [x49]) fun x50 =>
  bndV (kIaS 2 [x37, x38]) fun x51 =>
  bndE (dSt h 2 [x51, x46]) h fun _ h =>
  bndV (kIaS 2 [x39, x41]) fun x52 =>
  bndE (dSt h 2 [x52, x50]) h fun _ h =>
  bndV (kMov [x9]) fun x35 =>
  bndV (kBin .sub [x35, (.int .i64 (.ofNat (nat_lit 1)))]) fun x36 =>
  bndV (kMov [x36]) fun x9 =>
  rc [x0, x1, x2, x3, x8, x9] h
noncomputable def f350_1 (rc : List V → HT → Option J) (x0 : V) (x1 : V) (x2 : V) (x3 : V) (x8 : V) (x9 : V) (x21 : V) (x22 : V) (x26 : V) (x27 : V) (x29 : V) (h : HT) : Option J := bndC (gsel x21 true (retV (kIaS 2 [x27, x29]) h) h) fun x30 h =>
  bndC (gsel x21 true (retV (qLd h (some 2) [x30]) h) h) fun x31 h =>
  bndC (gsel x21 true (callvT t350 [x22, x26, x31] h) h) fun x32 h =>
  bndC (gsel x21 true (retV (kBin .lss [x32, (.int .i64 (.ofNat (nat_lit 0)))]) h) h) fun x33 h =>
  bndV (kPick [x21, x33, (.bool false)]) fun x34 =>
  tstv x34 (bndV (kMov [x0]) fun x37 =>
  bndV (kMov [x9]) fun x38 =>
  bndV (kMov [x0]) fun x39 =>
  bndV (kMov [x9]) fun x40 =>
  bndV (kBin .sub [x40, (.int .i64 (.ofNat (nat_lit 1)))]) fun x41 =>
  bndV (kMov [x0]) fun x42 =>
  bndV (kMov [x9]) fun x43 =>
  (f350_0 rc x0 x1 x2 x3 x8 x9 x37 x38 x39 x41 x42 x43 h))
  (some ⟨0, [x0, x1, x2, x3, x8], h⟩)
noncomputable def f350_2 (rc : List V → HT → Option J) (x0 : V) (x1 : V) (x2 : V) (x3 : V) (vs : List V) (h : HT) : Option J := unc vs fun x8 vs =>
  unc vs fun x9 vs =>
  bndV (kMov [x9]) fun x18 =>
  bndV (kMov [x1]) fun x19 =>
  bndV (kBin .gtr [x18, x19]) fun x20 =>
  bndV (kMov [x20]) fun x21 =>
  bndC (gsel x21 true (retV (kMov [x3]) h) h) fun x22 h =>
  bndC (gsel x21 true (retV (kMov [x0]) h) h) fun x23 h =>
  bndC (gsel x21 true (retV (kMov [x9]) h) h) fun x24 h =>
  bndC (gsel x21 true (retV (kIaS 2 [x23, x24]) h) h) fun x25 h =>
  bndC (gsel x21 true (retV (qLd h (some 2) [x25]) h) h) fun x26 h =>
  bndC (gsel x21 true (retV (kMov [x0]) h) h) fun x27 h =>
  bndC (gsel x21 true (retV (kMov [x9]) h) h) fun x28 h =>
  bndC (gsel x21 true (retV (kBin .sub [x28, (.int .i64 (.ofNat (nat_lit 1)))]) h) h) fun x29 h =>
  (f350_1 rc x0 x1 x2 x3 x8 x9 x21 x22 x26 x27 x29 h)
noncomputable def f350_3 (rc : List V → HT → Option J) (x0 : V) (x1 : V) (x2 : V) (x3 : V) (x8 : V) (x9 : V) (h : HT) : Option J := bndJ (loopF (fun rc vs h => unc vs fun x0 vs =>
  unc vs fun x1 vs =>
  unc vs fun x2 vs =>
  unc vs fun x3 vs =>
  (f350_2 rc x0 x1 x2 x3 vs h)) 1000000 [x0, x1, x2, x3, x8, x9] h)
  fun j vs h => unc vs fun x0 vs =>
  unc vs fun x1 vs =>
  unc vs fun x2 vs =>
  unc vs fun x3 vs =>
  unc vs fun x8 vs =>
  bndV (kMov [x8]) fun x15 =>
  bndV (kBin .add [x15, (.int .i64 (.ofNat (nat_lit 1)))]) fun x16 =>
  bndV (kMov [x16]) fun x8 =>
  rc [x0, x1, x2, x3, x8] h
noncomputable def f350_4 (x0 : V) (x1 : V) (x2 : V) (x3 : V) (x8 : V) (h : HT) : Option J := bndJ (loopF (fun rc vs h => unc vs fun x0 vs =>
  unc vs fun x1 vs =>
  unc vs fun x2 vs =>
  unc vs fun x3 vs =>
  unc vs fun x8 vs =>
  bndV (kMov [x8]) fun x12 =>
  bndV (kMov [x2]) fun x13 =>
  bndV (kBin .lss [x12, x13]) fun x14 =>
  tstv x14 (bndV (kMov [x8]) fun x17 =>
  bndV (kMov [x17]) fun x9 =>
  (f350_3 rc x0 x1 x2 x3 x8 x9 h))
  (some ⟨0, [], h⟩)) 1000000 [x0, x1, x2, x3, x8] h)
  fun j vs h => ret1 (.tuple []) h
noncomputable def f350 (vs : List V) (h : HT) : Option J := unc vs fun x0 vs =>
  unc vs fun x1 vs =>
  unc vs fun x2 vs =>
  unc vs fun x3 vs =>
  bndV (kMov [x1]) fun x10 =>
  bndV (kBin .add [x10, (.int .i64 (.ofNat (nat_lit 1)))]) fun x11 =>
  bndV (kMov [x11]) fun x8 =>
  (f350_4 x0 x1 x2 x3 x8 h)
def a350 : List Ann := [.no, .loop [0, 1, 2, 3, 8] [((.exit 0), [])], .no, .no, .no, .loop [0, 1, 2, 3, 8, 9] [((.exit 2), [0, 1, 2, 3, 8])], .no, .no]
theorem e350 : f350 = evFun Tryz.prog 350 4 a350 t350 := by kernel_rfl
theorem o350 : FnOk Tryz.prog 350 f350 := .of hmO (show enters Tryz.prog 350 = true by kernel_rfl) e350 (.nil)

/- slices.pdqsortCmpFunc[concord/api.Inst] -/
noncomputable def l314 : List (Nat × (List V → HT → Option J)) := [(350, f350)]
noncomputable def t314 : Fns := tab l314
noncomputable def f314_0 (x0 : V) (x1 : V) (x2 : V) (x3 : V) (x4 : V) (x10 : V) (x11 : V) (x12 : V) (x13 : V) (x14 : V) (x56 : V) (h : HT) : Option J := tstv x56 (bndV (kMov [x0]) fun x57 =>
  bndV (kMov [x1]) fun x58 =>
  bndV (kMov [x2]) fun x59 =>
  bndV (kMov [x4]) fun x60 =>
  bndC (noF [x57, x58, x59, x60] h) fun x61 h =>
  bndV (kMov [x2]) fun x62 =>
  bndV (kBin .sub [x62, (.int .i64 (.ofNat (nat_lit 1)))]) fun x63 =>
  bndV (kMov [x13]) fun x64 =>
  bndV (kMov [x1]) fun x65 =>
  bndV (kBin .sub [x64, x65]) fun x66 =>
  bndV (kBin .sub [x63, x66]) fun x67 =>
  bndV (kMov [x67]) fun x13 =>
  bndV (kMov [(.int .i64 (.ofNat (nat_lit 1)))]) fun x14 =>
  some ⟨0, [x0, x1, x2, x3, x4, x10, x11, x12, x13, x14], h⟩)
  (some ⟨0, [x0, x1, x2, x3, x4, x10, x11, x12, x13, x14], h⟩)
noncomputable def f314_1 (rc : List V → HT → Option J) (x0 : V) (x1 : V) (x2 : V) (x3 : V) (x4 : V) (x11 : V) (x16 : V) (x18 : V) (x19 : V) (x20 : V) (x125 : V) (h : HT) : Option J := tstv x125 (bndV (kMov [x18]) fun x126 =>
  bndV (kMov [x20]) fun x127 =>
  bndV (kBin .geq [x126, x127]) fun x128 =>
  bndV (kMov [x128]) fun x10 =>
  bndV (kMov [x0]) fun x129 =>
  bndV (kMov [x1]) fun x130 =>
  bndV (kMov [x16]) fun x131 =>
  bndV (kMov [x3]) fun x132 =>
  bndV (kMov [x4]) fun x133 =>
  bndC (noF [x129, x130, x131, x132, x133] h) fun x134 h =>
  bndV (kMov [x16]) fun x135 =>
  bndV (kBin .add [x135, (.int .i64 (.ofNat (nat_lit 1)))]) fun x136 =>
  bndV (kMov [x136]) fun x1 =>
  rc [x0, x1, x2, x3, x4, x10, x11] h)
  (bndV (kMov [x19]) fun x137 =>
  bndV (kMov [x20]) fun x138 =>
  bndV (kBin .geq [x137, x138]) fun x139 =>
  bndV (kMov [x139]) fun x10 =>
  bndV (kMov [x0]) fun x140 =>
  bndV (kMov [x16]) fun x141 =>
  bndV (kBin .add [x141, (.int .i64 (.ofNat (nat_lit 1)))]) fun x142 =>
  bndV (kMov [x2]) fun x143 =>
  bndV (kMov [x3]) fun x144 =>
  bndV (kMov [x4]) fun x145 =>
  bndC (noF [x140, x142, x143, x144, x145] h) fun x146 h =>
  bndV (kMov [x16]) fun x147 =>
  bndV (kMov [x147]) fun x2 =>
  rc [x0, x1, x2, x3, x4, x10, x11] h)
noncomputable def f314_2 (rc : List V → HT → Option J) (x0 : V) (x1 : V) (x2 : V) (x3 : V) (x4 : V) (x11 : V) (x12 : V) (x16 : V) (h : HT) : Option J := bndV (kMov [x16]) fun x115 =>
  bndV (kMov [x1]) fun x116 =>
  bndV (kBin .sub [x115, x116]) fun x117 =>
  bndV (kMov [x2]) fun x118 =>
  bndV (kMov [x16]) fun x119 =>
  bndV (kBin .sub [x118, x119]) fun x120 =>
  bndV (kMov [x117]) fun x18 =>
  bndV (kMov [x120]) fun x19 =>
  bndV (kMov [x12]) fun x121 =>
  bndV (kBin .quo [x121, (.int .i64 (.ofNat (nat_lit 8)))]) fun x122 =>
  bndV (kMov [x122]) fun x20 =>
  bndV (kMov [x18]) fun x123 =>
  bndV (kMov [x19]) fun x124 =>
  bndV (kBin .lss [x123, x124]) fun x125 =>
  (f314_1 rc x0 x1 x2 x3 x4 x11 x16 x18 x19 x20 x125 h)
noncomputable def f314_3 (rc : List V → HT → Option J) (x0 : V) (x1 : V) (x2 : V) (x3 : V) (x4 : V) (x10 : V) (x11 : V) (x12 : V) (x13 : V) (x97 : V) (h : HT) : Option J := tstv x97 (bndV (kMov [x0]) fun x98 =>
  bndV (kMov [x1]) fun x99 =>
  bndV (kMov [x2]) fun x100 =>
  bndV (kMov [x13]) fun x101 =>
  bndV (kMov [x4]) fun x102 =>
  bndC (noF [x98, x99, x100, x101, x102] h) fun x103 h =>
  bndV (kMov [x103]) fun x15 =>
  bndV (kMov [x15]) fun x104 =>
  bndV (kMov [x104]) fun x1 =>
  rc [x0, x1, x2, x3, x4, x10, x11] h)
  (bndV (kMov [x0]) fun x106 =>
  bndV (kMov [x1]) fun x107 =>
  bndV (kMov [x2]) fun x108 =>
  bndV (kMov [x13]) fun x109 =>
  bndV (kMov [x4]) fun x110 =>
  bndC (noF [x106, x107, x108, x109, x110] h) fun x111 h =>
  bndV (kMov [x111]) fun x105 =>
  bndV (kExt 0 [x105]) fun x112 =>
  bndV (kExt 1 [x105]) fun x113 =>
  bndV (kMov [x112]) fun x16 =>
  bndV (kMov [x113]) fun x17 =>
  bndV (kMov [x17]) fun x114 =>
  bndV (kMov [x114]) fun x11 =>
  (f314_2 rc x0 x1 x2 x3 x4 x11 x12 x16 h))
noncomputable def f314_4 (rc : List V → HT → Option J) (x0 : V) (x1 : V) (x2 : V) (x3 : V) (x4 : V) (x10 : V) (x11 : V) (x12 : V) (x13 : V) (x83 : V) (h : HT) : Option J := bndC (gsel x83 true (retV (kMov [x4]) h) h) fun x84 h =>
  bndC (gsel x83 true (retV (kMov [x0]) h) h) fun x85 h =>
  bndC (gsel x83 true (retV (kMov [x1]) h) h) fun x86 h =>
  bndC (gsel x83 true (retV (kBin .sub [x86, (.int .i64 (.ofNat (nat_lit 1)))]) h) h) fun x87 h =>
  bndC (gsel x83 true (retV (kIaS 2 [x85, x87]) h) h) fun x88 h =>
  bndC (gsel x83 true (retV (qLd h (some 2) [x88]) h) h) fun x89 h =>
  bndC (gsel x83 true (retV (kMov [x0]) h) h) fun x90 h =>
  bndC (gsel x83 true (retV (kMov [x13]) h) h) fun x91 h =>
  bndC (gsel x83 true (retV (kIaS 2 [x90, x91]) h) h) fun x92 h =>
  bndC (gsel x83 true (retV (qLd h (some 2) [x92]) h) h) fun x93 h =>
  bndC (gsel x83 true (callvT t314 [x84, x89, x93] h) h) fun x94 h =>
  bndC (gsel x83 true (retV (kBin .lss [x94, (.int .i64 (.ofNat (nat_lit 0)))]) h) h) fun x95 h =>
  bndC (gsel x83 true (retV (kUn .not [x95]) h) h) fun x96 h =>
  bndV (kPick [x83, x96, (.bool false)]) fun x97 =>
  (f314_3 rc x0 x1 x2 x3 x4 x10 x11 x12 x13 x97 h)
noncomputable def f314_5 (rc : List V → HT → Option J) (j : Nat) (vs : List V) (h : HT) : Option J := nsw j (some ⟨0, [], h⟩)
  fun j => unc vs fun x0 vs =>
  unc vs fun x1 vs =>
  unc vs fun x2 vs =>
  unc vs fun x3 vs =>
  unc vs fun x4 vs =>
  unc vs fun x10 vs =>
  unc vs fun x11 vs =>
  unc vs fun x12 vs =>
  unc vs fun x13 vs =>
  bndV (kMov [x1]) fun x81 =>
  bndV (kBin .gtr [x81, (.int .i64 (.ofNat (nat_lit 0)))]) fun x82 =>
  bndV (kMov [x82]) fun x83 =>
  (f314_4 rc x0 x1 x2 x3 x4 x10 x11 x12 x13 x83 h)
noncomputable def f314_6 (rc : List V → HT → Option J) (x0 : V) (x1 : V) (x2 : V) (x3 : V) (x4 : V) (x10 : V) (x11 : V) (x12 : V) (x13 : V) (x14 : V) (x72 : V) (h : HT) : Option J := bndC (gsel x72 true (retV (kMov [x14]) h) h) fun x73 h =>
  bndC (gsel x72 true (retV (kBin .eql [x73, (.int .i64 (.ofNat (nat_lit 1)))]) h) h) fun x74 h =>
  bndV (kPick [x72, x74, (.bool false)]) fun x75 =>
  bndJ (tstv x75 (bndV (kMov [x0]) fun x76 =>
  bndV (kMov [x1]) fun x77 =>
  bndV (kMov [x2]) fun x78 =>
  bndV (kMov [x4]) fun x79 =>
  bndC (noF [x76, x77, x78, x79] h) fun x80 h =>
  tstv x80 (some ⟨0, [], h⟩)
  (some ⟨1, [x0, x1, x2, x3, x4, x10, x11, x12, x13], h⟩))
  (some ⟨1, [x0, x1, x2, x3, x4, x10, x11, x12, x13], h⟩))
  fun j vs h => (f314_5 rc j vs h)
noncomputable def f314_7 (rc : List V → HT → Option J) (x0 : V) (vs : List V) (h : HT) : Option J := unc vs fun x1 vs =>
  unc vs fun x2 vs =>
  unc vs fun x3 vs =>
  unc vs fun x4 vs =>
  unc vs fun x10 vs =>
  unc vs fun x11 vs =>
  unc vs fun x12 vs =>
  unc vs fun x13 vs =>
  unc vs fun x14 vs =>
  bndV (kMov [x10]) fun x68 =>
  bndV (kMov [x68]) fun x69 =>
  bndC (gsel x69 true (retV (kMov [x11]) h) h) fun x70 h =>
  bndV (kPick [x69, x70, (.bool false)]) fun x71 =>
  bndV (kMov [x71]) fun x72 =>
  (f314_6 rc x0 x1 x2 x3 x4 x10 x11 x12 x13 x14 x72 h)
noncomputable def f314_8 (rc : List V → HT → Option J) (x0 : V) (x1 : V) (x2 : V) (x3 : V) (x4 : V) (x10 : V) (x11 : V) (x12 : V) (x48 : V) (h : HT) : Option J := bndV (kMov [x1]) fun x49 =>
  bndV (kMov [x2]) fun x50 =>
  bndV (kMov [x4]) fun x51 =>
  bndC (noF [x48, x49, x50, x51] h) fun x52 h =>
  bndV (kMov [x52]) fun x47 =>
  bndV (kExt 0 [x47]) fun x53 =>
  bndV (kExt 1 [x47]) fun x54 =>
  bndV (kMov [x53]) fun x13 =>
  bndV (kMov [x54]) fun x14 =>
  bndV (kMov [x14]) fun x55 =>
  bndV (kBin .eql [x55, (.int .i64 (.ofNat (nat_lit 2)))]) fun x56 =>
  bndJ ((f314_0 x0 x1 x2 x3 x4 x10 x11 x12 x13 x14 x56 h))
  fun j vs h => unc vs fun x0 vs =>
  (f314_7 rc x0 vs h)
noncomputable def f314_9 (rc : List V → HT → Option J) (x0 : V) (x1 : V) (x2 : V) (x3 : V) (x4 : V) (x10 : V) (x11 : V) (x12 : V) (x39 : V) (h : HT) : Option J := bndJ (tstv x39 (bndV (kMov [x0]) fun x40 =>
  bndV (kMov [x1]) fun x41 =>
  bndV (kMov [x2]) fun x42 =>
  bndV (kMov [x4]) fun x43 =>
  bndC (noF [x40, x41, x42, x43] h) fun x44 h =>
  bndV (kMov [x3]) fun x45 =>
  bndV (kBin .sub [x45, (.int .i64 (.ofNat (nat_lit 1)))]) fun x46 =>
  bndV (kMov [x46]) fun x3 =>
  some ⟨0, [x0, x1, x2, x3, x4, x10, x11, x12], h⟩)
  (some ⟨0, [x0, x1, x2, x3, x4, x10, x11, x12], h⟩))
  fun j vs h => unc vs fun x0 vs =>
  unc vs fun x1 vs =>
  unc vs fun x2 vs =>
  unc vs fun x3 vs =>
  unc vs fun x4 vs =>
  unc vs fun x10 vs =>
  unc vs fun x11 vs =>
  unc vs fun x12 vs =>
  bndV (kMov [x0]) fun x48 =>
  (f314_8 rc x0 x1 x2 x3 x4 x10 x11 x12 x48 h)
noncomputable def f314_10 (rc : List V → HT → Option J) (x0 : V) (x1 : V) (x2 : V) (x3 : V) (x4 : V) (x10 : V) (x11 : V) (x12 : V) (x25 : V) (h : HT) : Option J := tstv x25 (bndV (kMov [x0]) fun x26 =>
  bndV (kMov [x1]) fun x27 =>
  bndV (kMov [x2]) fun x28 =>
  bndV (kMov [x4]) fun x29 =>
  bndC (f350 [x26, x27, x28, x29] h) fun x30 h =>
  some ⟨0, [], h⟩)
  (bndV (kMov [x3]) fun x31 =>
  bndV (kBin .eql [x31, (.int .i64 (.ofNat (nat_lit 0)))]) fun x32 =>
  tstv x32 (bndV (kMov [x0]) fun x33 =>
  bndV (kMov [x1]) fun x34 =>
  bndV (kMov [x2]) fun x35 =>
  bndV (kMov [x4]) fun x36 =>
  bndC (noF [x33, x34, x35, x36] h) fun x37 h =>
  some ⟨0, [], h⟩)
  (bndV (kMov [x10]) fun x38 =>
  bndV (kUn .not [x38]) fun x39 =>
  (f314_9 rc x0 x1 x2 x3 x4 x10 x11 x12 x39 h)))
noncomputable def f314_11 (x0 : V) (x1 : V) (x2 : V) (x3 : V) (x4 : V) (x10 : V) (x11 : V) (h : HT) : Option J := loopF (fun rc vs h => unc vs fun x0 vs =>
  unc vs fun x1 vs =>
  unc vs fun x2 vs =>
  unc vs fun x3 vs =>
  unc vs fun x4 vs =>
  unc vs fun x10 vs =>
  unc vs fun x11 vs =>
  bndV (kMov [x2]) fun x21 =>
  bndV (kMov [x1]) fun x22 =>
  bndV (kBin .sub [x21, x22]) fun x23 =>
  bndV (kMov [x23]) fun x12 =>
  bndV (kMov [x12]) fun x24 =>
  bndV (kBin .leq [x24, (.int .i64 (.ofNat (nat_lit 12)))]) fun x25 =>
  (f314_10 rc x0 x1 x2 x3 x4 x10 x11 x12 x25 h)) 1000000 [x0, x1, x2, x3, x4, x10, x11] h
noncomputable def f314 (vs : List V) (h : HT) : Option J := unc vs fun x0 vs =>
  unc vs fun x1 vs =>
  unc vs fun x2 vs =>
  unc vs fun x3 vs =>
  unc vs fun x4 vs =>
  bndV (kMov [(.bool true)]) fun x10 =>
  bndV (kMov [(.bool true)]) fun x11 =>
  bndJ ((f314_11 x0 x1 x2 x3 x4 x10 x11 h))
  fun j vs h => ret1 (.tuple []) h
def a314 : List Ann := [.no, .loop [0, 1, 2, 3, 4, 10, 11] [(.ret, [])], .no, .no, .no, .join [(.normal, [0, 1, 2, 3, 4, 10, 11, 12])], .join [(.normal, [0, 1, 2, 3, 4, 10, 11, 12, 13, 14])], .join [(.ret, []), (.normal, [0, 1, 2, 3, 4, 10, 11, 12, 13])], .no, .no, .no]
theorem e314 : f314 = evFun Tryz.prog 314 5 a314 t314 := by kernel_rfl
theorem o314 : FnOk Tryz.prog 314 f314 := .of hmO (show enters Tryz.prog 314 = true by kernel_rfl) e314 (.cons o350 (.nil))

/- math/bits.Len64 -/
noncomputable def l327 : List (Nat × (List V → HT → Option J)) := []
noncomputable def t327 : Fns := tab l327
noncomputable def f327_0 (x0 : V) (x2 : V) (x14 : V) (h : HT) : Option J := bndJ (tstv x14 (bndV (kMov [x0]) fun x15 =>
  bndV (kBin .shr [x15, (.int .u64 (.ofNat (nat_lit 8)))]) fun x16 =>
  bndV (kMov [x16]) fun x0 =>
  bndV (kMov [x2]) fun x17 =>
  bndV (kBin .add [x17, (.int .i64 (.ofNat (nat_lit 8)))]) fun x18 =>
  bndV (kMov [x18]) fun x2 =>
  some ⟨0, [x0, x2], h⟩)
  (some ⟨0, [x0, x2], h⟩))
  fun j vs h => unc vs fun x0 vs =>
  unc vs fun x2 vs =>
  bndV (kMov [x2]) fun x19 =>
  bndV (kMov [x0]) fun x20 =>
  bndV (kCvI .u8 [x20]) fun x21 =>
  bndV (kIxStr [(.str (sb [0, 1, 2, 2, 3, 3, 3, 3, 4, 4, 4, 4, 4, 4, 4, 4, 5, 5, 5, 5, 5, 5, 5, 5, 5, 5, 5, 5, 5, 5, 5, 5, 6, 6, 6, 6, 6, 6, 6, 6, 6, 6, 6, 6, 6, 6, 6, 6, 6, 6, 6, 6, 6, 6, 6, 6, 6, 6, 6, 6, 6, 6, 6, 6, 7, 7, 7, 7, 7, 7, 7, 7, 7, 7, 7, 7, 7, 7, 7, 7, 7, 7, 7, 7, 7, 7, 7, 7, 7, 7, 7, 7, 7, 7, 7, 7, 7, 7, 7, 7, 7, 7, 7, 7, 7, 7, 7, 7, 7, 7, 7, 7, 7, 7, 7, 7, 7, 7, 7, 7, 7, 7, 7, 7, 7, 7, 7, 7, 8, 8, 8, 8, 8, 8, 8, 8, 8, 8, 8, 8, 8, 8, 8, 8, 8, 8, 8, 8, 8, 8, 8, 8, 8, 8, 8, 8, 8, 8, 8, 8, 8, 8, 8, 8, 8, 8, 8, 8, 8, 8, 8, 8, 8, 8, 8, 8, 8, 8, 8, 8, 8, 8, 8, 8, 8, 8, 8, 8, 8, 8, 8, 8, 8, 8, 8, 8, 8, 8, 8, 8, 8, 8, 8, 8, 8, 8, 8, 8, 8, 8, 8, 8, 8, 8, 8, 8, 8, 8, 8, 8, 8, 8, 8, 8, 8, 8, 8, 8, 8, 8, 8, 8, 8, 8, 8, 8, 8, 8, 8, 8, 8, 8, 8, 8, 8, 8, 8, 8, 8, 8, 8, 8, 8, 8, 8, 8])), x21]) fun x22 =>
  bndV (kCvI .i64 [x22]) fun x23 =>
  bndV (kBin .add [x19, x23]) fun x24 =>
  bndV (kMov [x24]) fun x2 =>
  ret1 x2 h
noncomputable def f327_1 (x0 : V) (x2 : V) (x8 : V) (h : HT) : Option J := bndJ (tstv x8 (bndV (kMov [x0]) fun x9 =>
  bndV (kBin .shr [x9, (.int .u64 (.ofNat (nat_lit 16)))]) fun x10 =>
  bndV (kMov [x10]) fun x0 =>
  bndV (kMov [x2]) fun x11 =>
  bndV (kBin .add [x11, (.int .i64 (.ofNat (nat_lit 16)))]) fun x12 =>
  bndV (kMov [x12]) fun x2 =>
  some ⟨0, [x0, x2], h⟩)
  (some ⟨0, [x0, x2], h⟩))
  fun j vs h => unc vs fun x0 vs =>
  unc vs fun x2 vs =>
  bndV (kMov [x0]) fun x13 =>
  bndV (kBin .geq [x13, (.int .u64 (.ofNat (nat_lit 256)))]) fun x14 =>
  (f327_0 x0 x2 x14 h)
noncomputable def f327_2 (x0 : V) (x2 : V) (h : HT) : Option J := bndV (kMov [x0]) fun x3 =>
  bndV (kBin .geq [x3, (.int .u64 (.ofNat (nat_lit 4294967296)))]) fun x4 =>
  bndJ (tstv x4 (bndV (kMov [x0]) fun x5 =>
  bndV (kBin .shr [x5, (.int .u64 (.ofNat (nat_lit 32)))]) fun x6 =>
  bndV (kMov [x6]) fun x0 =>
  bndV (kMov [(.int .i64 (.ofNat (nat_lit 32)))]) fun x2 =>
  some ⟨0, [x0, x2], h⟩)
  (some ⟨0, [x0, x2], h⟩))
  fun j vs h => unc vs fun x0 vs =>
  unc vs fun x2 vs =>
  bndV (kMov [x0]) fun x7 =>
  bndV (kBin .geq [x7, (.int .u64 (.ofNat (nat_lit 65536)))]) fun x8 =>
  (f327_1 x0 x2 x8 h)
noncomputable def f327 (vs : List V) (h : HT) : Option J := unc vs fun x0 vs =>
  bndV (kMov [(.int .i64 (.ofNat (nat_lit 0)))]) fun x2 =>
  (f327_2 x0 x2 h)
def a327 : List Ann := [.join [(.normal, [0, 2])], .join [(.normal, [0, 2])], .join [(.normal, [0, 2])]]
theorem e327 : f327 = evFun Tryz.prog 327 1 a327 t327 := by kernel_rfl
theorem o327 : FnOk Tryz.prog 327 f327 := .of hmO (show enters Tryz.prog 327 = true by kernel_rfl) e327 (.nil)

/- math/bits.Len -/
noncomputable def l315 : List (Nat × (List V → HT → Option J)) := [(327, f327)]
noncomputable def t315 : Fns := tab l315

noncomputable def f315 (vs : List V) (h : HT) : Option J := unc vs fun x0 vs =>
  bndV (kMov [(.int .i64 (.ofNat (nat_lit 0)))]) fun x2 =>
  tstv (.bool false) (bndV (kMov [x0]) fun x3 =>
  bndV (kCvI .u32 [x3]) fun x4 =>
  bndC (noF [x4] h) fun x5 h =>
  bndV (kMov [x5]) fun x2 =>
  ret1 x2 h)
  (bndV (kMov [x0]) fun x6 =>
  bndC (f327 [x6] h) fun x7 h =>
  bndV (kMov [x7]) fun x2 =>
  ret1 x2 h)
def a315 : List Ann := [.no]
theorem e315 : f315 = evFun Tryz.prog 315 1 a315 t315 := by kernel_rfl
theorem o315 : FnOk Tryz.prog 315 f315 := .of hmO (show enters Tryz.prog 315 = true by kernel_rfl) e315 (.cons o327 (.nil))

/- slices.SortFunc[[]concord/api.Inst,concord/api.Inst] -/
noncomputable def l264 : List (Nat × (List V → HT → Option J)) := [(314, f314), (315, f315)]
noncomputable def t264 : Fns := tab l264

noncomputable def f264 (vs : List V) (h : HT) : Option J := unc vs fun x0 vs =>
  unc vs fun x1 vs =>
  bndV (kMov [x0]) fun x5 =>
  bndV (kLenS [x5]) fun x6 =>
  bndV (kMov [x6]) fun x4 =>
  bndV (kMov [x0]) fun x7 =>
  bndV (kMov [x4]) fun x8 =>
  bndV (kMov [x4]) fun x9 =>
  bndV (kCvI .u64 [x9]) fun x10 =>
  bndC (f315 [x10] h) fun x11 h =>
  bndV (kMov [x1]) fun x12 =>
  bndC (f314 [x7, (.int .i64 (.ofNat (nat_lit 0))), x8, x11, x12] h) fun x13 h =>
  ret1 (.tuple []) h
def a264 : List Ann := []
theorem e264 : f264 = evFun Tryz.prog 264 2 a264 t264 := by kernel_rfl
theorem o264 : FnOk Tryz.prog 264 f264 := .of hmO (show enters Tryz.prog 264 = true by kernel_rfl) e264 (.cons o314 (.cons o315 (.nil)))

/- (*concord/graph.walk).come -/
noncomputable def l384 : List (Nat × (List V → HT → Option J)) := []
noncomputable def t384 : Fns := tab l384
noncomputable def f384_0 (x0 : V) (x1 : V) (x4 : V) (x38 : V) (h : HT) : Option J := bndV (kMov [x0]) fun x39 =>
  bndV (kNilc [x39]) fun x40 =>
  bndV (kFa 4 [x40]) fun x41 =>
  bndV (qLd h none [x41]) fun x42 =>
  bndV (kMov [x1]) fun x43 =>
  bndN (kBsl 1 1 [(.int .i64 (.ofNat (nat_lit 0)))] [(0, 1)] [x43]) h fun x44 h =>
  bndE (dApp h 1 8 [x42, x44]) h fun x45 h =>
  bndV (kNilc [x38]) fun x46 =>
  bndV (kFa 4 [x46]) fun x47 =>
  bndE (dSt h 1 [x47, x45]) h fun _ h =>
  bndV (kMov [x1]) fun x48 =>
  bndV (kBld [(.int .i64 (.ofNat (nat_lit 0))), (.int .i64 (.ofNat (nat_lit 0)))] [(0, 1), (1, 1)] [x48, (.int .i64 (.ofNat (nat_lit 0)))]) fun x49 =>
  bndE (dSt h 2 [x4, x49]) h fun _ h =>
  bndV (qLd h (some 2) [x4]) fun x900000 =>
  ret1 x900000 h
noncomputable def f384_1 (x0 : V) (x1 : V) (x4 : V) (x15 : V) (x16 : V) (x20 : V) (x21 : V) (x25 : V) (x26 : V) (x27 : V) (h : HT) : Option J := bndV (kNilc [x27]) fun x28 =>
  bndV (kFa 7 [x28]) fun x29 =>
  bndV (qLd h none [x29]) fun x30 =>
  bndV (kMov [x0]) fun x31 =>
  bndV (kNilc [x31]) fun x32 =>
  bndV (kFa 7 [x32]) fun x33 =>
  bndV (qLd h none [x33]) fun x34 =>
  bndV (kIaS 1 [x15, x16]) fun x35 =>
  bndE (dSt h 1 [x35, x30]) h fun _ h =>
  bndV (kIaS 1 [x20, x21]) fun x36 =>
  bndE (dSt h 1 [x36, x34]) h fun _ h =>
  bndV (kIaS 1 [x25, x26]) fun x37 =>
  bndE (dSt h 1 [x37, (.bool true)]) h fun _ h =>
  bndV (kMov [x0]) fun x38 =>
  (f384_0 x0 x1 x4 x38 h)
noncomputable def f384_2 (x0 : V) (x1 : V) (x4 : V) (x13 : V) (h : HT) : Option J := bndV (kFa 1 [x13]) fun x14 =>
  bndV (qLd h none [x14]) fun x15 =>
  bndV (kMov [x1]) fun x16 =>
  bndV (kMov [x0]) fun x17 =>
  bndV (kNilc [x17]) fun x18 =>
  bndV (kFa 2 [x18]) fun x19 =>
  bndV (qLd h none [x19]) fun x20 =>
  bndV (kMov [x1]) fun x21 =>
  bndV (kMov [x0]) fun x22 =>
  bndV (kNilc [x22]) fun x23 =>
  bndV (kFa 3 [x23]) fun x24 =>
  bndV (qLd h none [x24]) fun x25 =>
  bndV (kMov [x1]) fun x26 =>
  bndV (kMov [x0]) fun x27 =>
  (f384_1 x0 x1 x4 x15 x16 x20 x21 x25 x26 x27 h)
noncomputable def f384 (vs : List V) (h : HT) : Option J := unc vs fun x0 vs =>
  unc vs fun x1 vs =>
  bndN (kAlloc [(.int .i64 (.ofNat (nat_lit 0))), (.int .i64 (.ofNat (nat_lit 0)))] []) h fun x4 h =>
  bndV (kMov [x0]) fun x5 =>
  bndV (kNilc [x5]) fun x6 =>
  bndV (kFa 7 [x6]) fun x7 =>
  bndV (qLd h none [x7]) fun x8 =>
  bndV (kBin .add [x8, (.int .i64 (.ofNat (nat_lit 1)))]) fun x9 =>
  bndV (kNilc [x5]) fun x10 =>
  bndV (kFa 7 [x10]) fun x11 =>
  bndE (dSt h 1 [x11, x9]) h fun _ h =>
  bndV (kMov [x0]) fun x12 =>
  bndV (kNilc [x12]) fun x13 =>
  (f384_2 x0 x1 x4 x13 h)
def a384 : List Ann := []
theorem e384 : f384 = evFun Tryz.prog 384 2 a384 t384 := by kernel_rfl
theorem o384 : FnOk Tryz.prog 384 f384 := .of hmO (show enters Tryz.prog 384 = true by kernel_rfl) e384 (.nil)

/- (*concord/graph.walk).leave -/
noncomputable def l385 : List (Nat × (List V → HT → Option J)) := []
noncomputable def t385 : Fns := tab l385
noncomputable def f385_0 (rc : List V → HT → Option J) (x0 : V) (x1 : V) (x4 : V) (x49 : V) (x50 : V) (x54 : V) (h : HT) : Option J := bndV (kMov [x4]) fun x55 =>
  bndV (kMov [x0]) fun x56 =>
  bndV (kNilc [x56]) fun x57 =>
  bndV (kFa 6 [x57]) fun x58 =>
  bndV (qLd h none [x58]) fun x59 =>
  bndV (kIaS 1 [x49, x50]) fun x60 =>
  bndE (dSt h 1 [x60, (.bool false)]) h fun _ h =>
  bndV (kIaS 1 [x54, x55]) fun x61 =>
  bndE (dSt h 1 [x61, x59]) h fun _ h =>
  bndV (kMov [x4]) fun x62 =>
  bndV (kMov [x1]) fun x63 =>
  bndV (kBin .eql [x62, x63]) fun x64 =>
  tstv x64 (some ⟨0, [x0], h⟩)
  (rc [x0, x1] h)
noncomputable def f385_1 (rc : List V → HT → Option J) (x0 : V) (x1 : V) (x4 : V) (x32 : V) (x36 : V) (x41 : V) (h : HT) : Option J := bndV (kBin .sub [x41, (.int .i64 (.ofNat (nat_lit 1)))]) fun x42 =>
  bndV (kSlS 1 false true [x36, x42]) fun x43 =>
  bndV (kNilc [x32]) fun x44 =>
  bndV (kFa 4 [x44]) fun x45 =>
  bndE (dSt h 1 [x45, x43]) h fun _ h =>
  bndV (kMov [x0]) fun x46 =>
  bndV (kNilc [x46]) fun x47 =>
  bndV (kFa 3 [x47]) fun x48 =>
  bndV (qLd h none [x48]) fun x49 =>
  bndV (kMov [x4]) fun x50 =>
  bndV (kMov [x0]) fun x51 =>
  bndV (kNilc [x51]) fun x52 =>
  bndV (kFa 5 [x52]) fun x53 =>
  bndV (qLd h none [x53]) fun x54 =>
  (f385_0 rc x0 x1 x4 x49 x50 x54 h)
noncomputable def f385_2 (rc : List V → HT → Option J) (x0 : V) (x1 : V) (x23 : V) (x28 : V) (h : HT) : Option J := bndV (kBin .sub [x28, (.int .i64 (.ofNat (nat_lit 1)))]) fun x29 =>
  bndV (kIaS 1 [x23, x29]) fun x30 =>
  bndV (qLd h none [x30]) fun x31 =>
  bndV (kMov [x31]) fun x4 =>
  bndV (kMov [x0]) fun x32 =>
  bndV (kMov [x0]) fun x33 =>
  bndV (kNilc [x33]) fun x34 =>
  bndV (kFa 4 [x34]) fun x35 =>
  bndV (qLd h none [x35]) fun x36 =>
  bndV (kMov [x0]) fun x37 =>
  bndV (kNilc [x37]) fun x38 =>
  bndV (kFa 4 [x38]) fun x39 =>
  bndV (qLd h none [x39]) fun x40 =>
  bndV (kLenS [x40]) fun x41 =>
  (f385_1 rc x0 x1 x4 x32 x36 x41 h)
noncomputable def f385_3 (x0 : V) (x1 : V) (h : HT) : Option J := bndJ (loopF (fun rc vs h => unc vs fun x0 vs =>
  unc vs fun x1 vs =>
  bndV (kMov [x0]) fun x20 =>
  bndV (kNilc [x20]) fun x21 =>
  bndV (kFa 4 [x21]) fun x22 =>
  bndV (qLd h none [x22]) fun x23 =>
  bndV (kMov [x0]) fun x24 =>
  bndV (kNilc [x24]) fun x25 =>
  bndV (kFa 4 [x25]) fun x26 =>
  bndV (qLd h none [x26]) fun x27 =>
  bndV (kLenS [x27]) fun x28 =>
  (f385_2 rc x0 x1 x23 x28 h)) 1000000 [x0, x1] h)
  fun j vs h => unc vs fun x0 vs =>
  bndV (kMov [x0]) fun x65 =>
  bndV (kNilc [x65]) fun x66 =>
  bndV (kFa 6 [x66]) fun x67 =>
  bndV (qLd h none [x67]) fun x68 =>
  bndV (kBin .add [x68, (.int .i64 (.ofNat (nat_lit 1)))]) fun x69 =>
  bndV (kNilc [x65]) fun x70 =>
  bndV (kFa 6 [x70]) fun x71 =>
  bndE (dSt h 1 [x71, x69]) h fun _ h =>
  ret1 (.tuple []) h
noncomputable def f385_4 (x0 : V) (x1 : V) (x7 : V) (h : HT) : Option J := bndV (qLd h none [x7]) fun x8 =>
  bndV (kMov [x1]) fun x9 =>
  bndV (kIaS 1 [x8, x9]) fun x10 =>
  bndV (qLd h none [x10]) fun x11 =>
  bndV (kMov [x0]) fun x12 =>
  bndV (kNilc [x12]) fun x13 =>
  bndV (kFa 1 [x13]) fun x14 =>
  bndV (qLd h none [x14]) fun x15 =>
  bndV (kMov [x1]) fun x16 =>
  bndV (kIaS 1 [x15, x16]) fun x17 =>
  bndV (qLd h none [x17]) fun x18 =>
  bndV (kBin .neq [x11, x18]) fun x19 =>
  tstv x19 (ret1 (.tuple []) h)
  ((f385_3 x0 x1 h))
noncomputable def f385 (vs : List V) (h : HT) : Option J := unc vs fun x0 vs =>
  unc vs fun x1 vs =>
  bndV (kMov [x0]) fun x5 =>
  bndV (kNilc [x5]) fun x6 =>
  bndV (kFa 2 [x6]) fun x7 =>
  (f385_4 x0 x1 x7 h)
def a385 : List Ann := [.no, .no, .loop [0, 1] [((.exit 0), [0])], .no, .no]
theorem e385 : f385 = evFun Tryz.prog 385 2 a385 t385 := by kernel_rfl
theorem o385 : FnOk Tryz.prog 385 f385 := .of hmO (show enters Tryz.prog 385 = true by kernel_rfl) e385 (.nil)

/- (*concord/graph.walk).from -/
noncomputable def l370 : List (Nat × (List V → HT → Option J)) := [(384, f384), (385, f385)]
noncomputable def t370 : Fns := tab l370
noncomputable def f370_0 (rc : List V → HT → Option J) (x0 : V) (x4 : V) (x6 : V) (x7 : V) (x62 : V) (x63 : V) (x66 : V) (h : HT) : Option J := bndV (qLd h none [x66]) fun x67 =>
  bndV (kMov [x7]) fun x68 =>
  bndV (kIaS 1 [x67, x68]) fun x69 =>
  bndV (qLd h none [x69]) fun x70 =>
  bndV (kMov [x0]) fun x71 =>
  bndV (kNilc [x71]) fun x72 =>
  bndV (kFa 2 [x72]) fun x73 =>
  bndV (qLd h none [x73]) fun x74 =>
  bndV (kMov [x6]) fun x75 =>
  bndV (kIaS 1 [x74, x75]) fun x76 =>
  bndV (qLd h none [x76]) fun x77 =>
  bndV (kMinI [x70, x77]) fun x78 =>
  bndV (kIaS 1 [x62, x63]) fun x79 =>
  bndE (dSt h 1 [x79, x78]) h fun _ h =>
  rc [x0, x4] h
noncomputable def f370_1 (rc : List V → HT → Option J) (x0 : V) (x4 : V) (x6 : V) (x52 : V) (x53 : V) (h : HT) : Option J := bndV (kLenS [x53]) fun x54 =>
  bndV (kBin .sub [x54, (.int .i64 (.ofNat (nat_lit 1)))]) fun x55 =>
  bndV (kIaS 2 [x52, x55]) fun x56 =>
  bndV (kFa 0 [x56]) fun x57 =>
  bndV (qLd h none [x57]) fun x58 =>
  bndV (kMov [x58]) fun x7 =>
  bndV (kMov [x0]) fun x59 =>
  bndV (kNilc [x59]) fun x60 =>
  bndV (kFa 2 [x60]) fun x61 =>
  bndV (qLd h none [x61]) fun x62 =>
  bndV (kMov [x7]) fun x63 =>
  bndV (kMov [x0]) fun x64 =>
  bndV (kNilc [x64]) fun x65 =>
  bndV (kFa 2 [x65]) fun x66 =>
  (f370_0 rc x0 x4 x6 x7 x62 x63 x66 h)
noncomputable def f370_2 (rc : List V → HT → Option J) (x0 : V) (x4 : V) (x6 : V) (x41 : V) (x42 : V) (h : HT) : Option J := bndC (f385 [x41, x42] h) fun x43 h =>
  bndV (kMov [x4]) fun x44 =>
  bndV (kMov [x4]) fun x45 =>
  bndV (kLenS [x45]) fun x46 =>
  bndV (kBin .sub [x46, (.int .i64 (.ofNat (nat_lit 1)))]) fun x47 =>
  bndV (kSlS 2 false true [x44, x47]) fun x48 =>
  bndV (kMov [x48]) fun x4 =>
  bndV (kMov [x4]) fun x49 =>
  bndV (kLenS [x49]) fun x50 =>
  bndV (kBin .gtr [x50, (.int .i64 (.ofNat (nat_lit 0)))]) fun x51 =>
  tstv x51 (bndV (kMov [x4]) fun x52 =>
  bndV (kMov [x4]) fun x53 =>
  (f370_1 rc x0 x4 x6 x52 x53 h))
  (rc [x0, x4] h)
noncomputable def f370_3 (rc : List V → HT → Option J) (x0 : V) (x4 : V) (x8 : V) (x141 : V) (x145 : V) (x149 : V) (x151 : V) (h : HT) : Option J := bndV (kFa 0 [x151]) fun x152 =>
  bndV (qLd h none [x152]) fun x153 =>
  bndV (kIaS 1 [x149, x153]) fun x154 =>
  bndV (qLd h none [x154]) fun x155 =>
  bndV (kMov [x0]) fun x156 =>
  bndV (kNilc [x156]) fun x157 =>
  bndV (kFa 1 [x157]) fun x158 =>
  bndV (qLd h none [x158]) fun x159 =>
  bndV (kMov [x8]) fun x160 =>
  bndV (kIaS 1 [x159, x160]) fun x161 =>
  bndV (qLd h none [x161]) fun x162 =>
  bndV (kMinI [x155, x162]) fun x163 =>
  bndV (kIaS 1 [x141, x145]) fun x164 =>
  bndE (dSt h 1 [x164, x163]) h fun _ h =>
  rc [x0, x4] h
noncomputable def f370_4 (rc : List V → HT → Option J) (x0 : V) (x4 : V) (x5 : V) (x8 : V) (h : HT) : Option J := bndV (kMov [x0]) fun x138 =>
  bndV (kNilc [x138]) fun x139 =>
  bndV (kFa 2 [x139]) fun x140 =>
  bndV (qLd h none [x140]) fun x141 =>
  bndV (kMov [x5]) fun x142 =>
  bndV (kNilc [x142]) fun x143 =>
  bndV (kFa 0 [x143]) fun x144 =>
  bndV (qLd h none [x144]) fun x145 =>
  bndV (kMov [x0]) fun x146 =>
  bndV (kNilc [x146]) fun x147 =>
  bndV (kFa 2 [x147]) fun x148 =>
  bndV (qLd h none [x148]) fun x149 =>
  bndV (kMov [x5]) fun x150 =>
  bndV (kNilc [x150]) fun x151 =>
  (f370_3 rc x0 x4 x8 x141 x145 x149 x151 h)
noncomputable def f370_5 (rc : List V → HT → Option J) (x0 : V) (x4 : V) (x5 : V) (x8 : V) (x115 : V) (h : HT) : Option J := tstv x115 (bndV (kMov [x4]) fun x124 =>
  bndV (kMov [x0]) fun x125 =>
  bndV (kMov [x8]) fun x126 =>
  bndC (f384 [x125, x126] h) fun x127 h =>
  bndN (kBsl 2 1 [(.int .i64 (.ofNat (nat_lit 0))), (.int .i64 (.ofNat (nat_lit 0)))] [(0, 2)] [x127]) h fun x128 h =>
  bndE (dApp h 2 16 [x124, x128]) h fun x129 h =>
  bndV (kMov [x129]) fun x4 =>
  rc [x0, x4] h)
  (bndV (kMov [x0]) fun x131 =>
  bndV (kNilc [x131]) fun x132 =>
  bndV (kFa 3 [x132]) fun x133 =>
  bndV (qLd h none [x133]) fun x134 =>
  bndV (kMov [x8]) fun x135 =>
  bndV (kIaS 1 [x134, x135]) fun x136 =>
  bndV (qLd h none [x136]) fun x137 =>
  bndV (kMov [x137]) fun x130 =>
  tstv x130 ((f370_4 rc x0 x4 x5 x8 h))
  (rc [x0, x4] h))
noncomputable def f370_6 (rc : List V → HT → Option J) (x0 : V) (x4 : V) (x5 : V) (x8 : V) (x106 : V) (x107 : V) (x112 : V) (h : HT) : Option J := bndC (gsel x106 false (retV (kBin .geq [x107, x112]) h) h) fun x113 h =>
  bndV (kPick [x106, (.bool true), x113]) fun x114 =>
  bndV (kMov [x114]) fun x103 =>
  tstv x103 (rc [x0, x4] h)
  (bndV (kMov [x0]) fun x116 =>
  bndV (kNilc [x116]) fun x117 =>
  bndV (kFa 1 [x117]) fun x118 =>
  bndV (qLd h none [x118]) fun x119 =>
  bndV (kMov [x8]) fun x120 =>
  bndV (kIaS 1 [x119, x120]) fun x121 =>
  bndV (qLd h none [x121]) fun x122 =>
  bndV (kBin .eql [x122, (.int .i64 (.ofNat (nat_lit 0)))]) fun x123 =>
  bndV (kMov [x123]) fun x115 =>
  (f370_5 rc x0 x4 x5 x8 x115 h))
noncomputable def f370_7 (rc : List V → HT → Option J) (x0 : V) (x4 : V) (x5 : V) (x8 : V) (x96 : V) (x98 : V) (h : HT) : Option J := bndV (qLd h none [x98]) fun x99 =>
  bndV (kBin .add [x99, (.int .i64 (.ofNat (nat_lit 1)))]) fun x100 =>
  bndV (kNilc [x96]) fun x101 =>
  bndV (kFa 1 [x101]) fun x102 =>
  bndE (dSt h 1 [x102, x100]) h fun _ h =>
  bndV (kMov [x8]) fun x104 =>
  bndV (kBin .lss [x104, (.int .i64 (.ofNat (nat_lit 0)))]) fun x105 =>
  bndV (kMov [x105]) fun x106 =>
  bndC (gsel x106 false (retV (kMov [x8]) h) h) fun x107 h =>
  bndC (gsel x106 false (retV (kMov [x0]) h) h) fun x108 h =>
  bndC (gsel x106 false (retV (kNilc [x108]) h) h) fun x109 h =>
  bndC (gsel x106 false (retV (kFa 0 [x109]) h) h) fun x110 h =>
  bndC (gsel x106 false (retV (qLd h none [x110]) h) h) fun x111 h =>
  bndC (gsel x106 false (retV (kLenS [x111]) h) h) fun x112 h =>
  (f370_6 rc x0 x4 x5 x8 x106 x107 x112 h)
noncomputable def f370_8 (rc : List V → HT → Option J) (x0 : V) (x4 : V) (x5 : V) (x83 : V) (x85 : V) (h : HT) : Option J := bndV (kFa 0 [x85]) fun x86 =>
  bndV (qLd h none [x86]) fun x87 =>
  bndV (kIaS 1 [x83, x87]) fun x88 =>
  bndV (qLd h none [x88]) fun x89 =>
  bndV (kMov [x5]) fun x90 =>
  bndV (kNilc [x90]) fun x91 =>
  bndV (kFa 1 [x91]) fun x92 =>
  bndV (qLd h none [x92]) fun x93 =>
  bndV (kIaS 1 [x89, x93]) fun x94 =>
  bndV (qLd h none [x94]) fun x95 =>
  bndV (kMov [x95]) fun x8 =>
  bndV (kMov [x5]) fun x96 =>
  bndV (kNilc [x96]) fun x97 =>
  bndV (kFa 1 [x97]) fun x98 =>
  (f370_7 rc x0 x4 x5 x8 x96 x98 h)
noncomputable def f370_9 (rc : List V → HT → Option J) (x0 : V) (x4 : V) (x5 : V) (x36 : V) (h : HT) : Option J := tstv x36 (bndV (kMov [x5]) fun x37 =>
  bndV (kNilc [x37]) fun x38 =>
  bndV (kFa 0 [x38]) fun x39 =>
  bndV (qLd h none [x39]) fun x40 =>
  bndV (kMov [x40]) fun x6 =>
  bndV (kMov [x0]) fun x41 =>
  bndV (kMov [x6]) fun x42 =>
  (f370_2 rc x0 x4 x6 x41 x42 h))
  (bndV (kMov [x0]) fun x80 =>
  bndV (kNilc [x80]) fun x81 =>
  bndV (kFa 0 [x81]) fun x82 =>
  bndV (qLd h none [x82]) fun x83 =>
  bndV (kMov [x5]) fun x84 =>
  bndV (kNilc [x84]) fun x85 =>
  (f370_8 rc x0 x4 x5 x83 x85 h))
noncomputable def f370_10 (rc : List V → HT → Option J) (x0 : V) (x4 : V) (x5 : V) (x22 : V) (h : HT) : Option J := bndV (kFa 1 [x22]) fun x23 =>
  bndV (qLd h none [x23]) fun x24 =>
  bndV (kMov [x0]) fun x25 =>
  bndV (kNilc [x25]) fun x26 =>
  bndV (kFa 0 [x26]) fun x27 =>
  bndV (qLd h none [x27]) fun x28 =>
  bndV (kMov [x5]) fun x29 =>
  bndV (kNilc [x29]) fun x30 =>
  bndV (kFa 0 [x30]) fun x31 =>
  bndV (qLd h none [x31]) fun x32 =>
  bndV (kIaS 1 [x28, x32]) fun x33 =>
  bndV (qLd h none [x33]) fun x34 =>
  bndV (kLenS [x34]) fun x35 =>
  bndV (kBin .eql [x24, x35]) fun x36 =>
  (f370_9 rc x0 x4 x5 x36 h)
noncomputable def f370_11 (rc : List V → HT → Option J) (x0 : V) (vs : List V) (h : HT) : Option J := unc vs fun x4 vs =>
  bndV (kMov [x4]) fun x13 =>
  bndV (kLenS [x13]) fun x14 =>
  bndV (kBin .gtr [x14, (.int .i64 (.ofNat (nat_lit 0)))]) fun x15 =>
  tstv x15 (bndV (kMov [x4]) fun x16 =>
  bndV (kMov [x4]) fun x17 =>
  bndV (kLenS [x17]) fun x18 =>
  bndV (kBin .sub [x18, (.int .i64 (.ofNat (nat_lit 1)))]) fun x19 =>
  bndV (kIaS 2 [x16, x19]) fun x20 =>
  bndV (kMov [x20]) fun x5 =>
  bndV (kMov [x5]) fun x21 =>
  bndV (kNilc [x21]) fun x22 =>
  (f370_10 rc x0 x4 x5 x22 h))
  (some ⟨0, [], h⟩)
noncomputable def f370 (vs : List V) (h : HT) : Option J := unc vs fun x0 vs =>
  unc vs fun x1 vs =>
  bndV (kMov [x0]) fun x9 =>
  bndV (kMov [x1]) fun x10 =>
  bndC (f384 [x9, x10] h) fun x11 h =>
  bndN (kBsl 2 1 [(.int .i64 (.ofNat (nat_lit 0))), (.int .i64 (.ofNat (nat_lit 0)))] [(0, 2)] [x11]) h fun x12 h =>
  bndV (kMov [x12]) fun x4 =>
  bndJ (loopF (fun rc vs h => unc vs fun x0 vs =>
  (f370_11 rc x0 vs h)) 1000000 [x0, x4] h)
  fun j vs h => ret1 (.tuple []) h
def a370 : List Ann := [.no, .loop [0, 4] [((.exit 0), [])], .no, .no, .no, .no, .no, .no, .no, .no]
theorem e370 : f370 = evFun Tryz.prog 370 2 a370 t370 := by kernel_rfl
theorem o370 : FnOk Tryz.prog 370 f370 := .of hmO (show enters Tryz.prog 370 = true by kernel_rfl) e370 (.cons o384 (.cons o385 (.nil)))

/- concord/graph.order -/
noncomputable def l371 : List (Nat × (List V → HT → Option J)) := []
noncomputable def t371 : Fns := tab l371
noncomputable def f371_0 (x0 : V) (x1 : V) (x2 : V) (x7 : V) (x8 : V) (x9 : V) (x12 : V) (x25 : V) (x26 : V) (x27 : V) (x32 : V) (x33 : V) (x34 : V) (x66 : V) (x69 : V) (x70 : V) (x71 : V) (x72 : V) (h : HT) : Option J := bndV (kMov [x12]) fun x73 =>
  bndV (kIaS 1 [x72, x73]) fun x74 =>
  bndV (qLd h none [x74]) fun x75 =>
  bndV (kIaS 1 [x71, x75]) fun x76 =>
  bndV (qLd h none [x76]) fun x77 =>
  bndV (kMov [x1]) fun x78 =>
  bndV (kMov [x9]) fun x79 =>
  bndV (kIaS 1 [x78, x79]) fun x80 =>
  bndV (qLd h none [x80]) fun x81 =>
  bndN (kBsl 1 1 [(.int .i64 (.ofNat (nat_lit 0)))] [(0, 1)] [x81]) h fun x82 h =>
  bndE (dApp h 1 8 [x77, x82]) h fun x83 h =>
  chk1 (sameE (qLd h none [x69]) x70) (bndV (kIaS 1 [x66, x70]) fun x84 =>
  bndE (dSt h 1 [x84, x83]) h fun _ h =>
  some ⟨0, [x0, x1, x2, x7, x8, x9, x25, x26, x27, x32, x33, x34], h⟩)
noncomputable def f371_1 (x0 : V) (x1 : V) (x2 : V) (x7 : V) (x8 : V) (x9 : V) (x12 : V) (x25 : V) (x26 : V) (x27 : V) (x32 : V) (x33 : V) (x34 : V) (x57 : V) (x58 : V) (x59 : V) (h : HT) : Option J := bndV (kIaS 1 [x58, x59]) fun x60 =>
  bndV (qLd h none [x60]) fun x61 =>
  bndV (kIaS 1 [x57, x61]) fun x62 =>
  bndV (qLd h none [x62]) fun x63 =>
  bndV (kBin .add [x63, (.int .i64 (.ofNat (nat_lit 1)))]) fun x64 =>
  bndV (kIaS 1 [x57, x61]) fun x65 =>
  bndE (dSt h 1 [x65, x64]) h fun _ h =>
  bndV (kMov [x8]) fun x66 =>
  bndV (kMov [x1]) fun x67 =>
  bndV (kMov [x12]) fun x68 =>
  bndV (kIaS 1 [x67, x68]) fun x69 =>
  bndV (qLd h none [x69]) fun x70 =>
  bndV (kMov [x8]) fun x71 =>
  bndV (kMov [x1]) fun x72 =>
  (f371_0 x0 x1 x2 x7 x8 x9 x12 x25 x26 x27 x32 x33 x34 x66 x69 x70 x71 x72 h)
noncomputable def f371_2 (rc : List V → HT → Option J) (vs : List V) (h : HT) : Option J := unc vs fun x0 vs =>
  unc vs fun x1 vs =>
  unc vs fun x2 vs =>
  unc vs fun x7 vs =>
  unc vs fun x8 vs =>
  unc vs fun x9 vs =>
  unc vs fun x25 vs =>
  unc vs fun x26 vs =>
  unc vs fun x27 vs =>
  unc vs fun x32 vs =>
  unc vs fun x33 vs =>
  unc vs fun x34 vs =>
  bndV (kBin .add [x34, (.int .i64 (.ofNat (nat_lit 1)))]) fun x85 =>
  bndV (kMov [x85]) fun x34 =>
  rc [x0, x1, x2, x7, x8, x9, x25, x26, x27, x32, x33, x34] h
noncomputable def f371_3 (rc : List V → HT → Option J) (x0 : V) (x1 : V) (x2 : V) (x7 : V) (x8 : V) (x9 : V) (x12 : V) (x25 : V) (x26 : V) (x27 : V) (x32 : V) (x33 : V) (x34 : V) (x46 : V) (x49 : V) (h : HT) : Option J := bndC (gsel x46 true (retV (qLd h none [x49]) h) h) fun x50 h =>
  bndC (gsel x46 true (retV (kMov [x1]) h) h) fun x51 h =>
  bndC (gsel x46 true (retV (kMov [x9]) h) h) fun x52 h =>
  bndC (gsel x46 true (retV (kIaS 1 [x51, x52]) h) h) fun x53 h =>
  bndC (gsel x46 true (retV (qLd h none [x53]) h) h) fun x54 h =>
  bndC (gsel x46 true (retV (kBin .neq [x50, x54]) h) h) fun x55 h =>
  bndV (kPick [x46, x55, (.bool false)]) fun x56 =>
  bndJ (tstv x56 (bndV (kMov [x7]) fun x57 =>
  bndV (kMov [x1]) fun x58 =>
  bndV (kMov [x9]) fun x59 =>
  (f371_1 x0 x1 x2 x7 x8 x9 x12 x25 x26 x27 x32 x33 x34 x57 x58 x59 h))
  (some ⟨0, [x0, x1, x2, x7, x8, x9, x25, x26, x27, x32, x33, x34], h⟩))
  fun j vs h => (f371_2 rc vs h)
noncomputable def f371_4 (rc : List V → HT → Option J) (x0 : V) (x1 : V) (x2 : V) (x7 : V) (x8 : V) (x9 : V) (x25 : V) (x26 : V) (x27 : V) (x32 : V) (x33 : V) (x34 : V) (x36 : V) (h : HT) : Option J := bndV (qLd h none [x36]) fun x37 =>
  bndV (kMov [x37]) fun x12 =>
  bndV (kMov [x12]) fun x38 =>
  bndV (kBin .geq [x38, (.int .i64 (.ofNat (nat_lit 0)))]) fun x39 =>
  bndV (kMov [x39]) fun x40 =>
  bndC (gsel x40 true (retV (kMov [x12]) h) h) fun x41 h =>
  bndC (gsel x40 true (retV (kMov [x0]) h) h) fun x42 h =>
  bndC (gsel x40 true (retV (kLenS [x42]) h) h) fun x43 h =>
  bndC (gsel x40 true (retV (kBin .lss [x41, x43]) h) h) fun x44 h =>
  bndV (kPick [x40, x44, (.bool false)]) fun x45 =>
  bndV (kMov [x45]) fun x46 =>
  bndC (gsel x46 true (retV (kMov [x1]) h) h) fun x47 h =>
  bndC (gsel x46 true (retV (kMov [x12]) h) h) fun x48 h =>
  bndC (gsel x46 true (retV (kIaS 1 [x47, x48]) h) h) fun x49 h =>
  (f371_3 rc x0 x1 x2 x7 x8 x9 x12 x25 x26 x27 x32 x33 x34 x46 x49 h)
noncomputable def f371_5 (rc : List V → HT → Option J) (x0 : V) (x1 : V) (vs : List V) (h : HT) : Option J := unc vs fun x2 vs =>
  unc vs fun x7 vs =>
  unc vs fun x8 vs =>
  unc vs fun x9 vs =>
  unc vs fun x25 vs =>
  unc vs fun x26 vs =>
  unc vs fun x27 vs =>
  unc vs fun x32 vs =>
  unc vs fun x33 vs =>
  unc vs fun x34 vs =>
  bndV (kBin .lss [x34, x33]) fun x35 =>
  tstv x35 (bndV (kIaS 1 [x32, x34]) fun x36 =>
  (f371_4 rc x0 x1 x2 x7 x8 x9 x25 x26 x27 x32 x33 x34 x36 h))
  (some ⟨0, [x0, x1, x2, x7, x8, x25, x26, x27], h⟩)
noncomputable def f371_6 (rc : List V → HT → Option J) (x0 : V) (x1 : V) (x2 : V) (x7 : V) (x8 : V) (x9 : V) (x25 : V) (x26 : V) (x27 : V) (x32 : V) (x33 : V) (x34 : V) (h : HT) : Option J := bndJ (loopF (fun rc vs h => unc vs fun x0 vs =>
  unc vs fun x1 vs =>
  (f371_5 rc x0 x1 vs h)) 1000000 [x0, x1, x2, x7, x8, x9, x25, x26, x27, x32, x33, x34] h)
  fun j vs h => unc vs fun x0 vs =>
  unc vs fun x1 vs =>
  unc vs fun x2 vs =>
  unc vs fun x7 vs =>
  unc vs fun x8 vs =>
  unc vs fun x25 vs =>
  unc vs fun x26 vs =>
  unc vs fun x27 vs =>
  bndV (kBin .add [x27, (.int .i64 (.ofNat (nat_lit 1)))]) fun x86 =>
  bndV (kMov [x86]) fun x27 =>
  rc [x0, x1, x2, x7, x8, x25, x26, x27] h
noncomputable def f371_7 (rc : List V → HT → Option J) (x0 : V) (x1 : V) (x2 : V) (x7 : V) (x8 : V) (vs : List V) (h : HT) : Option J := unc vs fun x25 vs =>
  unc vs fun x26 vs =>
  unc vs fun x27 vs =>
  bndV (kBin .lss [x27, x26]) fun x28 =>
  tstv x28 (bndV (kMov [x27]) fun x29 =>
  bndV (kIaS 1 [x25, x27]) fun x30 =>
  bndV (qLd h none [x30]) fun x31 =>
  bndV (kMov [x29]) fun x9 =>
  bndV (kMov [x31]) fun x10 =>
  bndV (kMov [x10]) fun x32 =>
  bndV (kLenS [x32]) fun x33 =>
  bndV (kMov [(.int .i64 (.ofNat (nat_lit 0)))]) fun x34 =>
  (f371_6 rc x0 x1 x2 x7 x8 x9 x25 x26 x27 x32 x33 x34 h))
  (some ⟨0, [x2, x7, x8], h⟩)
noncomputable def f371_8 (rc : List V → HT → Option J) (x2 : V) (x7 : V) (x8 : V) (x13 : V) (x14 : V) (x15 : V) (x16 : V) (x96 : V) (x97 : V) (x130 : V) (h : HT) : Option J := bndJ (tstv x130 (bndV (kMov [x16]) fun x131 =>
  bndV (kMov [x131]) fun x15 =>
  some ⟨0, [x2, x7, x8, x13, x14, x15, x96, x97], h⟩)
  (some ⟨0, [x2, x7, x8, x13, x14, x15, x96, x97], h⟩))
  fun j vs h => unc vs fun x2 vs =>
  unc vs fun x7 vs =>
  unc vs fun x8 vs =>
  unc vs fun x13 vs =>
  unc vs fun x14 vs =>
  unc vs fun x15 vs =>
  unc vs fun x96 vs =>
  unc vs fun x97 vs =>
  bndV (kBin .add [x97, (.int .i64 (.ofNat (nat_lit 1)))]) fun x132 =>
  bndV (kMov [x132]) fun x97 =>
  rc [x2, x7, x8, x13, x14, x15, x96, x97] h
noncomputable def f371_9 (rc : List V → HT → Option J) (x2 : V) (x7 : V) (x8 : V) (x13 : V) (x14 : V) (x15 : V) (x16 : V) (x96 : V) (x97 : V) (x112 : V) (x115 : V) (x116 : V) (h : HT) : Option J := bndC (gsel x115 false (retV (kMov [x16]) h) h) fun x117 h =>
  bndC (gsel x115 false (retV (kIaS 1 [x116, x117]) h) h) fun x118 h =>
  bndC (gsel x115 false (retV (qLd h none [x118]) h) h) fun x119 h =>
  bndC (gsel x115 false (retV (kIaS 1 [x119, (.int .i64 (.ofNat (nat_lit 0)))]) h) h) fun x120 h =>
  bndC (gsel x115 false (retV (qLd h none [x120]) h) h) fun x121 h =>
  bndC (gsel x115 false (retV (kMov [x2]) h) h) fun x122 h =>
  bndC (gsel x115 false (retV (kMov [x15]) h) h) fun x123 h =>
  bndC (gsel x115 false (retV (kIaS 1 [x122, x123]) h) h) fun x124 h =>
  bndC (gsel x115 false (retV (qLd h none [x124]) h) h) fun x125 h =>
  bndC (gsel x115 false (retV (kIaS 1 [x125, (.int .i64 (.ofNat (nat_lit 0)))]) h) h) fun x126 h =>
  bndC (gsel x115 false (retV (qLd h none [x126]) h) h) fun x127 h =>
  bndC (gsel x115 false (retV (kBin .lss [x121, x127]) h) h) fun x128 h =>
  bndC (gsel x112 true (retV (kPick [x115, (.bool true), x128]) h) h) fun x129 h =>
  bndV (kPick [x112, x129, (.bool false)]) fun x130 =>
  (f371_8 rc x2 x7 x8 x13 x14 x15 x16 x96 x97 x130 h)
noncomputable def f371_10 (rc : List V → HT → Option J) (x2 : V) (x7 : V) (x8 : V) (x13 : V) (x14 : V) (x15 : V) (x16 : V) (x96 : V) (x97 : V) (x102 : V) (h : HT) : Option J := bndV (qLd h none [x102]) fun x103 =>
  bndV (kBin .eql [x103, (.int .i64 (.ofNat (nat_lit 0)))]) fun x104 =>
  bndV (kMov [x104]) fun x105 =>
  bndC (gsel x105 true (retV (kMov [x7]) h) h) fun x106 h =>
  bndC (gsel x105 true (retV (kMov [x16]) h) h) fun x107 h =>
  bndC (gsel x105 true (retV (kIaS 1 [x106, x107]) h) h) fun x108 h =>
  bndC (gsel x105 true (retV (qLd h none [x108]) h) h) fun x109 h =>
  bndC (gsel x105 true (retV (kBin .eql [x109, (.int .i64 (.ofNat (nat_lit 0)))]) h) h) fun x110 h =>
  bndV (kPick [x105, x110, (.bool false)]) fun x111 =>
  bndV (kMov [x111]) fun x112 =>
  bndC (gsel x112 true (retV (kMov [x15]) h) h) fun x113 h =>
  bndC (gsel x112 true (retV (kBin .lss [x113, (.int .i64 (.ofNat (nat_lit 0)))]) h) h) fun x114 h =>
  bndC (gsel x112 true (retV (kMov [x114]) h) h) fun x115 h =>
  bndC (gsel x115 false (retV (kMov [x2]) h) h) fun x116 h =>
  (f371_9 rc x2 x7 x8 x13 x14 x15 x16 x96 x97 x112 x115 x116 h)
noncomputable def f371_11 (rc : List V → HT → Option J) (x2 : V) (x7 : V) (vs : List V) (h : HT) : Option J := unc vs fun x8 vs =>
  unc vs fun x13 vs =>
  unc vs fun x14 vs =>
  unc vs fun x15 vs =>
  unc vs fun x96 vs =>
  unc vs fun x97 vs =>
  bndV (kBin .lss [x97, x96]) fun x98 =>
  tstv x98 (bndV (kMov [x97]) fun x99 =>
  bndV (kMov [x99]) fun x16 =>
  bndV (kMov [x13]) fun x100 =>
  bndV (kMov [x16]) fun x101 =>
  bndV (kIaS 1 [x100, x101]) fun x102 =>
  (f371_10 rc x2 x7 x8 x13 x14 x15 x16 x96 x97 x102 h))
  (some ⟨0, [x2, x7, x8, x13, x14, x15], h⟩)
noncomputable def f371_12 (rc : List V → HT → Option J) (x2 : V) (x7 : V) (x8 : V) (x13 : V) (x14 : V) (x146 : V) (x147 : V) (x148 : V) (x149 : V) (h : HT) : Option J := tstv x149 (bndV (kIaS 1 [x146, x148]) fun x150 =>
  bndV (qLd h none [x150]) fun x151 =>
  bndV (kMov [x151]) fun x18 =>
  bndV (kMov [x7]) fun x152 =>
  bndV (kMov [x18]) fun x153 =>
  bndV (kIaS 1 [x152, x153]) fun x154 =>
  bndV (qLd h none [x154]) fun x155 =>
  bndV (kBin .sub [x155, (.int .i64 (.ofNat (nat_lit 1)))]) fun x156 =>
  bndV (kIaS 1 [x152, x153]) fun x157 =>
  bndE (dSt h 1 [x157, x156]) h fun _ h =>
  bndV (kBin .add [x148, (.int .i64 (.ofNat (nat_lit 1)))]) fun x158 =>
  bndV (kMov [x158]) fun x148 =>
  rc [x2, x7, x8, x13, x14, x146, x147, x148] h)
  (some ⟨0, [x2, x7, x8, x13, x14], h⟩)
noncomputable def f371_13 (rc : List V → HT → Option J) (x2 : V) (x7 : V) (x8 : V) (x13 : V) (x14 : V) (x146 : V) (x147 : V) (x148 : V) (h : HT) : Option J := bndJ (loopF (fun rc vs h => unc vs fun x2 vs =>
  unc vs fun x7 vs =>
  unc vs fun x8 vs =>
  unc vs fun x13 vs =>
  unc vs fun x14 vs =>
  unc vs fun x146 vs =>
  unc vs fun x147 vs =>
  unc vs fun x148 vs =>
  bndV (kBin .lss [x148, x147]) fun x149 =>
  (f371_12 rc x2 x7 x8 x13 x14 x146 x147 x148 x149 h)) 1000000 [x2, x7, x8, x13, x14, x146, x147, x148] h)
  fun j vs h => unc vs fun x2 vs =>
  unc vs fun x7 vs =>
  unc vs fun x8 vs =>
  unc vs fun x13 vs =>
  unc vs fun x14 vs =>
  rc [x2, x7, x8, x13, x14] h
noncomputable def f371_14 (rc : List V → HT → Option J) (x2 : V) (x7 : V) (x8 : V) (x13 : V) (x14 : V) (x15 : V) (h : HT) : Option J := bndV (kMov [x14]) fun x136 =>
  bndV (kMov [x2]) fun x137 =>
  bndV (kMov [x15]) fun x138 =>
  bndV (kIaS 1 [x137, x138]) fun x139 =>
  bndV (qLd h none [x139]) fun x140 =>
  bndN (kBsl 1 1 [(.slice none 0 true 0)] [(0, 1)] [x140]) h fun x141 h =>
  bndE (dApp h 1 24 [x136, x141]) h fun x142 h =>
  bndV (kMov [x142]) fun x14 =>
  bndV (kMov [x8]) fun x143 =>
  bndV (kMov [x15]) fun x144 =>
  bndV (kIaS 1 [x143, x144]) fun x145 =>
  bndV (qLd h none [x145]) fun x146 =>
  bndV (kLenS [x146]) fun x147 =>
  bndV (kMov [(.int .i64 (.ofNat (nat_lit 0)))]) fun x148 =>
  (f371_13 rc x2 x7 x8 x13 x14 x146 x147 x148 h)
noncomputable def f371_15 (rc : List V → HT → Option J) (x2 : V) (x7 : V) (x8 : V) (x13 : V) (x14 : V) (x15 : V) (x96 : V) (x97 : V) (h : HT) : Option J := bndJ (loopF (fun rc vs h => unc vs fun x2 vs =>
  unc vs fun x7 vs =>
  (f371_11 rc x2 x7 vs h)) 1000000 [x2, x7, x8, x13, x14, x15, x96, x97] h)
  fun j vs h => unc vs fun x2 vs =>
  unc vs fun x7 vs =>
  unc vs fun x8 vs =>
  unc vs fun x13 vs =>
  unc vs fun x14 vs =>
  unc vs fun x15 vs =>
  bndV (kMov [x13]) fun x133 =>
  bndV (kMov [x15]) fun x134 =>
  bndV (kIaS 1 [x133, x134]) fun x135 =>
  bndE (dSt h 1 [x135, (.int .i64 (.ofNat (nat_lit 1)))]) h fun _ h =>
  (f371_14 rc x2 x7 x8 x13 x14 x15 h)
noncomputable def f371_16 (rc : List V → HT → Option J) (x2 : V) (x7 : V) (vs : List V) (h : HT) : Option J := unc vs fun x8 vs =>
  unc vs fun x13 vs =>
  unc vs fun x14 vs =>
  bndV (kMov [x14]) fun x90 =>
  bndV (kLenS [x90]) fun x91 =>
  bndV (kMov [x2]) fun x92 =>
  bndV (kLenS [x92]) fun x93 =>
  bndV (kBin .lss [x91, x93]) fun x94 =>
  tstv x94 (bndV (kMov [(.int .i64 (.negSucc (nat_lit 0)))]) fun x15 =>
  bndV (kMov [x2]) fun x95 =>
  bndV (kLenS [x95]) fun x96 =>
  bndV (kMov [(.int .i64 (.ofNat (nat_lit 0)))]) fun x97 =>
  (f371_15 rc x2 x7 x8 x13 x14 x15 x96 x97 h))
  (some ⟨0, [x14], h⟩)
noncomputable def f371_17 (x2 : V) (x7 : V) (vs : List V) (h : HT) : Option J := unc vs fun x8 vs =>
  bndV (kMov [x2]) fun x87 =>
  bndV (kLenS [x87]) fun x88 =>
  bndN (kMkS 1 8 [(.int .i64 (.ofNat (nat_lit 0)))] [x88, x88]) h fun x89 h =>
  bndV (kMov [x89]) fun x13 =>
  bndV (kMov [(.slice none 0 true 0)]) fun x14 =>
  bndJ (loopF (fun rc vs h => unc vs fun x2 vs =>
  unc vs fun x7 vs =>
  (f371_16 rc x2 x7 vs h)) 1000000 [x2, x7, x8, x13, x14] h)
  fun j vs h => unc vs fun x14 vs =>
  bndV (kMov [x14]) fun x159 =>
  bndV (kMov [x159]) fun x6 =>
  ret1 x6 h
noncomputable def f371_18 (x0 : V) (x1 : V) (x2 : V) (x7 : V) (x24 : V) (h : HT) : Option J := bndV (kMov [x24]) fun x8 =>
  bndV (kMov [x0]) fun x25 =>
  bndV (kLenS [x25]) fun x26 =>
  bndV (kMov [(.int .i64 (.ofNat (nat_lit 0)))]) fun x27 =>
  bndJ (loopF (fun rc vs h => unc vs fun x0 vs =>
  unc vs fun x1 vs =>
  unc vs fun x2 vs =>
  unc vs fun x7 vs =>
  unc vs fun x8 vs =>
  (f371_7 rc x0 x1 x2 x7 x8 vs h)) 1000000 [x0, x1, x2, x7, x8, x25, x26, x27] h)
  fun j vs h => unc vs fun x2 vs =>
  unc vs fun x7 vs =>
  (f371_17 x2 x7 vs h)
noncomputable def f371 (vs : List V) (h : HT) : Option J := unc vs fun x0 vs =>
  unc vs fun x1 vs =>
  unc vs fun x2 vs =>
  bndV (kMov [(.slice none 0 true 0)]) fun x6 =>
  bndV (kMov [x2]) fun x19 =>
  bndV (kLenS [x19]) fun x20 =>
  bndN (kMkS 1 8 [(.int .i64 (.ofNat (nat_lit 0)))] [x20, x20]) h fun x21 h =>
  bndV (kMov [x21]) fun x7 =>
  bndV (kMov [x2]) fun x22 =>
  bndV (kLenS [x22]) fun x23 =>
  bndN (kMkS 1 24 [(.slice none 0 true 0)] [x23, x23]) h fun x24 h =>
  (f371_18 x0 x1 x2 x7 x24 h)
def a371 : List Ann := [.no, .loop [0, 1, 2, 7, 8, 25, 26, 27] [((.exit 0), [2, 7, 8])], .no, .no, .no, .loop [0, 1, 2, 7, 8, 9, 25, 26, 27, 32, 33, 34] [((.exit 2), [0, 1, 2, 7, 8, 25, 26, 27])], .no, .no, .join [(.normal, [0, 1, 2, 7, 8, 9, 25, 26, 27, 32, 33, 34])], .no, .loop [2, 7, 8, 13, 14] [((.exit 4), [14])], .no, .no, .no, .loop [2, 7, 8, 13, 14, 15, 96, 97] [((.exit 6), [2, 7, 8, 13, 14, 15])], .no, .no, .join [(.normal, [2, 7, 8, 13, 14, 15, 96, 97])], .no, .loop [2, 7, 8, 13, 14, 146, 147, 148] [((.exit 8), [2, 7, 8, 13, 14])], .no, .no]
theorem e371 : f371 = evFun Tryz.prog 371 3 a371 t371 := by kernel_rfl
theorem o371 : FnOk Tryz.prog 371 f371 := .of hmO (show enters Tryz.prog 371 = true by kernel_rfl) e371 (.nil)

/- concord/graph.Parts -/
noncomputable def l345 : List (Nat × (List V → HT → Option J)) := [(370, f370), (371, f371)]
noncomputable def t345 : Fns := tab l345
noncomputable def f345_0 (rc : List V → HT → Option J) (x0 : V) (x5 : V) (x6 : V) (x25 : V) (x26 : V) (x35 : V) (h : HT) : Option J := bndV (kBin .eql [x35, (.int .i64 (.ofNat (nat_lit 0)))]) fun x36 =>
  bndJ (tstv x36 (bndV (kMov [x5]) fun x37 =>
  bndV (kMov [x6]) fun x38 =>
  bndC (f370 [x37, x38] h) fun x39 h =>
  some ⟨0, [x0, x5, x25, x26], h⟩)
  (some ⟨0, [x0, x5, x25, x26], h⟩))
  fun j vs h => unc vs fun x0 vs =>
  unc vs fun x5 vs =>
  unc vs fun x25 vs =>
  unc vs fun x26 vs =>
  bndV (kBin .add [x26, (.int .i64 (.ofNat (nat_lit 1)))]) fun x40 =>
  bndV (kMov [x40]) fun x26 =>
  rc [x0, x5, x25, x26] h
noncomputable def f345_1 (rc : List V → HT → Option J) (x0 : V) (x5 : V) (vs : List V) (h : HT) : Option J := unc vs fun x25 vs =>
  unc vs fun x26 vs =>
  bndV (kBin .lss [x26, x25]) fun x27 =>
  tstv x27 (bndV (kMov [x26]) fun x28 =>
  bndV (kMov [x28]) fun x6 =>
  bndV (kMov [x5]) fun x29 =>
  bndV (kNilc [x29]) fun x30 =>
  bndV (kFa 1 [x30]) fun x31 =>
  bndV (qLd h none [x31]) fun x32 =>
  bndV (kMov [x6]) fun x33 =>
  bndV (kIaS 1 [x32, x33]) fun x34 =>
  bndV (qLd h none [x34]) fun x35 =>
  (f345_0 rc x0 x5 x6 x25 x26 x35 h))
  (some ⟨0, [x0, x5], h⟩)
noncomputable def f345_2 (rc : List V → HT → Option J) (x0 : V) (x5 : V) (x7 : V) (x8 : V) (x49 : V) (x50 : V) (x51 : V) (x55 : V) (h : HT) : Option J := bndV (kMov [x55]) fun x9 =>
  bndV (kMov [x7]) fun x56 =>
  bndV (kMov [x9]) fun x57 =>
  bndV (kMov [x7]) fun x58 =>
  bndV (kMov [x9]) fun x59 =>
  bndV (kIaS 1 [x58, x59]) fun x60 =>
  bndV (qLd h none [x60]) fun x61 =>
  bndV (kMov [x8]) fun x62 =>
  bndN (kBsl 1 1 [(.int .i64 (.ofNat (nat_lit 0)))] [(0, 1)] [x62]) h fun x63 h =>
  bndE (dApp h 1 8 [x61, x63]) h fun x64 h =>
  bndV (kIaS 1 [x56, x57]) fun x65 =>
  bndE (dSt h 1 [x65, x64]) h fun _ h =>
  bndV (kBin .add [x51, (.int .i64 (.ofNat (nat_lit 1)))]) fun x66 =>
  bndV (kMov [x66]) fun x51 =>
  rc [x0, x5, x7, x49, x50, x51] h
noncomputable def f345_3 (x0 : V) (x5 : V) (x7 : V) (x49 : V) (x50 : V) (x51 : V) (h : HT) : Option J := loopF (fun rc vs h => unc vs fun x0 vs =>
  unc vs fun x5 vs =>
  unc vs fun x7 vs =>
  unc vs fun x49 vs =>
  unc vs fun x50 vs =>
  unc vs fun x51 vs =>
  bndV (kBin .lss [x51, x50]) fun x52 =>
  tstv x52 (bndV (kMov [x51]) fun x53 =>
  bndV (kIaS 1 [x49, x51]) fun x54 =>
  bndV (qLd h none [x54]) fun x55 =>
  bndV (kMov [x53]) fun x8 =>
  (f345_2 rc x0 x5 x7 x8 x49 x50 x51 x55 h))
  (some ⟨0, [x0, x5, x7], h⟩)) 1000000 [x0, x5, x7, x49, x50, x51] h
noncomputable def f345_4 (x0 : V) (x5 : V) (x7 : V) (x49 : V) (x50 : V) (x51 : V) (h : HT) : Option J := bndJ ((f345_3 x0 x5 x7 x49 x50 x51 h))
  fun j vs h => unc vs fun x0 vs =>
  unc vs fun x5 vs =>
  unc vs fun x7 vs =>
  bndV (kMov [x0]) fun x67 =>
  bndV (kMov [x5]) fun x68 =>
  bndV (kNilc [x68]) fun x69 =>
  bndV (kFa 5 [x69]) fun x70 =>
  bndV (qLd h none [x70]) fun x71 =>
  bndV (kMov [x7]) fun x72 =>
  bndC (f371 [x67, x71, x72] h) fun x73 h =>
  bndV (kMov [x73]) fun x2 =>
  bndV (kMov [(.int .i64 (.ofNat (nat_lit 0)))]) fun x3 =>
  ret1 (.tuple [x2, x3]) h
noncomputable def f345_5 (vs : List V) (h : HT) : Option J := unc vs fun x0 vs =>
  unc vs fun x5 vs =>
  bndV (kMov [x5]) fun x41 =>
  bndV (kNilc [x41]) fun x42 =>
  bndV (kFa 6 [x42]) fun x43 =>
  bndV (qLd h none [x43]) fun x44 =>
  bndN (kMkS 1 24 [(.slice none 0 true 0)] [x44, x44]) h fun x45 h =>
  bndV (kMov [x45]) fun x7 =>
  bndV (kMov [x5]) fun x46 =>
  bndV (kNilc [x46]) fun x47 =>
  bndV (kFa 5 [x47]) fun x48 =>
  bndV (qLd h none [x48]) fun x49 =>
  bndV (kLenS [x49]) fun x50 =>
  bndV (kMov [(.int .i64 (.ofNat (nat_lit 0)))]) fun x51 =>
  (f345_4 x0 x5 x7 x49 x50 x51 h)
noncomputable def f345_6 (x0 : V) (x4 : V) (x14 : V) (x16 : V) (x18 : V) (h : HT) : Option J := bndV (kMov [x4]) fun x19 =>
  bndN (kMkS 1 1 [(.bool false)] [x19, x19]) h fun x20 h =>
  bndV (kMov [x4]) fun x21 =>
  bndN (kMkS 1 8 [(.int .i64 (.ofNat (nat_lit 0)))] [x21, x21]) h fun x22 h =>
  bndV (kBld [(.slice none 0 true 0), (.slice none 0 true 0), (.slice none 0 true 0), (.slice none 0 true 0), (.slice none 0 true 0), (.slice none 0 true 0), (.int .i64 (.ofNat (nat_lit 0))), (.int .i64 (.ofNat (nat_lit 0)))] [(0, 1), (1, 1), (2, 1), (3, 1), (5, 1)] [x14, x16, x18, x20, x22]) fun x23 =>
  bndN (kBox [x23]) h fun x24 h =>
  bndV (kMov [x24]) fun x5 =>
  bndV (kMov [x4]) fun x25 =>
  bndV (kMov [(.int .i64 (.ofNat (nat_lit 0)))]) fun x26 =>
  bndJ (loopF (fun rc vs h => unc vs fun x0 vs =>
  unc vs fun x5 vs =>
  (f345_1 rc x0 x5 vs h)) 1000000 [x0, x5, x25, x26] h)
  fun j vs h => (f345_5 vs h)
noncomputable def f345_7 (x0 : V) (h : HT) : Option J := bndV (kMov [x0]) fun x10 =>
  bndV (kLenS [x10]) fun x11 =>
  bndV (kMov [x11]) fun x4 =>
  bndV (kMov [x4]) fun x12 =>
  bndV (kBin .gtr [x12, (.int .i64 (.ofNat (nat_lit 512)))]) fun x13 =>
  tstv x13 (bndV (kMov [(.slice none 0 true 0)]) fun x2 =>
  bndV (kMov [(.int .i64 (.ofNat (nat_lit 2)))]) fun x3 =>
  ret1 (.tuple [x2, x3]) h)
  (bndV (kMov [x0]) fun x14 =>
  bndV (kMov [x4]) fun x15 =>
  bndN (kMkS 1 8 [(.int .i64 (.ofNat (nat_lit 0)))] [x15, x15]) h fun x16 h =>
  bndV (kMov [x4]) fun x17 =>
  bndN (kMkS 1 8 [(.int .i64 (.ofNat (nat_lit 0)))] [x17, x17]) h fun x18 h =>
  (f345_6 x0 x4 x14 x16 x18 h))
noncomputable def f345 (vs : List V) (h : HT) : Option J := unc vs fun x0 vs =>
  bndV (kMov [(.slice none 0 true 0)]) fun x2 =>
  bndV (kMov [(.int .i64 (.ofNat (nat_lit 0)))]) fun x3 =>
  (f345_7 x0 h)
def a345 : List Ann := [.no, .no, .loop [0, 5, 25, 26] [((.exit 0), [0, 5])], .no, .no, .join [(.normal, [0, 5, 25, 26])], .no, .loop [0, 5, 7, 49, 50, 51] [((.exit 2), [0, 5, 7])], .no, .no]
theorem e345 : f345 = evFun Tryz.prog 345 1 a345 t345 := by kernel_rfl
theorem o345 : FnOk Tryz.prog 345 f345 := .of hmO (show enters Tryz.prog 345 = true by kernel_rfl) e345 (.cons o370 (.cons o371 (.nil)))

/- (*concord/exec.plan).edges -/
noncomputable def l346 : List (Nat × (List V → HT → Option J)) := []
noncomputable def t346 : Fns := tab l346
noncomputable def f346_0 (rc : List V → HT → Option J) (vs : List V) (h : HT) : Option J := unc vs fun x0 vs =>
  unc vs fun x1 vs =>
  unc vs fun x5 vs =>
  unc vs fun x6 vs =>
  unc vs fun x7 vs =>
  unc vs fun x8 vs =>
  unc vs fun x14 vs =>
  unc vs fun x15 vs =>
  unc vs fun x16 vs =>
  unc vs fun x29 vs =>
  unc vs fun x30 vs =>
  unc vs fun x31 vs =>
  bndV (kBin .add [x31, (.int .i64 (.ofNat (nat_lit 1)))]) fun x68 =>
  bndV (kMov [x68]) fun x31 =>
  rc [x0, x1, x5, x6, x7, x8, x14, x15, x16, x29, x30, x31] h
noncomputable def f346_1 (rc : List V → HT → Option J) (x0 : V) (x1 : V) (x5 : V) (x6 : V) (x7 : V) (x8 : V) (x9 : V) (x14 : V) (x15 : V) (x16 : V) (x29 : V) (x30 : V) (x31 : V) (x57 : V) (h : HT) : Option J := bndJ (tstv x57 (bndV (kMov [x5]) fun x58 =>
  bndV (kMov [x6]) fun x59 =>
  bndV (kMov [x5]) fun x60 =>
  bndV (kMov [x6]) fun x61 =>
  bndV (kIaS 1 [x60, x61]) fun x62 =>
  bndV (qLd h none [x62]) fun x63 =>
  bndV (kMov [x9]) fun x64 =>
  bndN (kBsl 1 1 [(.int .i64 (.ofNat (nat_lit 0)))] [(0, 1)] [x64]) h fun x65 h =>
  bndE (dApp h 1 8 [x63, x65]) h fun x66 h =>
  bndV (kIaS 1 [x58, x59]) fun x67 =>
  bndE (dSt h 1 [x67, x66]) h fun _ h =>
  some ⟨0, [x0, x1, x5, x6, x7, x8, x14, x15, x16, x29, x30, x31], h⟩)
  (some ⟨0, [x0, x1, x5, x6, x7, x8, x14, x15, x16, x29, x30, x31], h⟩))
  fun j vs h => (f346_0 rc vs h)
noncomputable def f346_2 (rc : List V → HT → Option J) (x0 : V) (x1 : V) (x5 : V) (x6 : V) (x7 : V) (x8 : V) (x9 : V) (x10 : V) (x14 : V) (x15 : V) (x16 : V) (x29 : V) (x30 : V) (x31 : V) (x39 : V) (x43 : V) (h : HT) : Option J := bndC (gsel x43 false (retV (kFa 0 [x10]) h) h) fun x44 h =>
  bndC (gsel x43 false (retV (qLd h none [x44]) h) h) fun x45 h =>
  bndC (gsel x43 false (retV (kFa 0 [x7]) h) h) fun x46 h =>
  bndC (gsel x43 false (retV (qLd h none [x46]) h) h) fun x47 h =>
  bndC (gsel x43 false (retV (kBin .eql [x45, x47]) h) h) fun x48 h =>
  bndC (gsel x43 false (retV (kMov [x48]) h) h) fun x49 h =>
  bndC (gsel x49 true (retV (kFa 1 [x10]) h) h) fun x50 h =>
  bndC (gsel x49 true (retV (qLd h none [x50]) h) h) fun x51 h =>
  bndC (gsel x49 true (retV (kFa 1 [x7]) h) h) fun x52 h =>
  bndC (gsel x49 true (retV (qLd h none [x52]) h) h) fun x53 h =>
  bndC (gsel x49 true (retV (kBin .lss [x51, x53]) h) h) fun x54 h =>
  bndC (gsel x43 false (retV (kPick [x49, x54, (.bool false)]) h) h) fun x55 h =>
  bndC (gsel x39 true (retV (kPick [x43, (.bool true), x55]) h) h) fun x56 h =>
  bndV (kPick [x39, x56, (.bool false)]) fun x57 =>
  (f346_1 rc x0 x1 x5 x6 x7 x8 x9 x14 x15 x16 x29 x30 x31 x57 h)
noncomputable def f346_3 (rc : List V → HT → Option J) (x0 : V) (x1 : V) (x5 : V) (x6 : V) (x7 : V) (x8 : V) (x14 : V) (x15 : V) (x16 : V) (x29 : V) (x30 : V) (x31 : V) (h : HT) : Option J := bndV (kMov [x31]) fun x33 =>
  bndV (kIaS 2 [x29, x31]) fun x34 =>
  bndV (qLd h (some 2) [x34]) fun x35 =>
  bndN (kAlloc [(.int .i64 (.ofNat (nat_lit 0))), (.int .i64 (.ofNat (nat_lit 0)))] []) h fun x10 h =>
  bndV (kMov [x33]) fun x9 =>
  bndE (dSt h 2 [x10, x35]) h fun _ h =>
  bndV (kMov [x6]) fun x36 =>
  bndV (kMov [x9]) fun x37 =>
  bndV (kBin .neq [x36, x37]) fun x38 =>
  bndV (kMov [x38]) fun x39 =>
  bndC (gsel x39 true (retV (qLd h (some 7) [x8]) h) h) fun x40 h =>
  bndC (gsel x39 true (retV (qLd h (some 2) [x10]) h) h) fun x41 h =>
  bndC (gsel x39 true (noF [x40, x41] h) h) fun x42 h =>
  bndC (gsel x39 true (retV (kMov [x42]) h) h) fun x43 h =>
  (f346_2 rc x0 x1 x5 x6 x7 x8 x9 x10 x14 x15 x16 x29 x30 x31 x39 x43 h)
noncomputable def f346_4 (rc : List V → HT → Option J) (x0 : V) (vs : List V) (h : HT) : Option J := unc vs fun x1 vs =>
  unc vs fun x5 vs =>
  unc vs fun x6 vs =>
  unc vs fun x7 vs =>
  unc vs fun x8 vs =>
  unc vs fun x14 vs =>
  unc vs fun x15 vs =>
  unc vs fun x16 vs =>
  unc vs fun x29 vs =>
  unc vs fun x30 vs =>
  unc vs fun x31 vs =>
  bndV (kBin .lss [x31, x30]) fun x32 =>
  tstv x32 ((f346_3 rc x0 x1 x5 x6 x7 x8 x14 x15 x16 x29 x30 x31 h))
  (some ⟨0, [x0, x1, x5, x14, x15, x16], h⟩)
noncomputable def f346_5 (rc : List V → HT → Option J) (x0 : V) (x1 : V) (x5 : V) (x6 : V) (x7 : V) (x8 : V) (x14 : V) (x15 : V) (x16 : V) (x29 : V) (h : HT) : Option J := bndV (kLenS [x29]) fun x30 =>
  bndV (kMov [(.int .i64 (.ofNat (nat_lit 0)))]) fun x31 =>
  bndJ (loopF (fun rc vs h => unc vs fun x0 vs =>
  (f346_4 rc x0 vs h)) 1000000 [x0, x1, x5, x6, x7, x8, x14, x15, x16, x29, x30, x31] h)
  fun j vs h => unc vs fun x0 vs =>
  unc vs fun x1 vs =>
  unc vs fun x5 vs =>
  unc vs fun x14 vs =>
  unc vs fun x15 vs =>
  unc vs fun x16 vs =>
  bndV (kBin .add [x16, (.int .i64 (.ofNat (nat_lit 1)))]) fun x69 =>
  bndV (kMov [x69]) fun x16 =>
  rc [x0, x1, x5, x14, x15, x16] h
noncomputable def f346_6 (rc : List V → HT → Option J) (x0 : V) (x1 : V) (x5 : V) (x14 : V) (x15 : V) (x16 : V) (x18 : V) (x20 : V) (h : HT) : Option J := bndN (kAlloc [(.int .i64 (.ofNat (nat_lit 0))), (.int .i64 (.ofNat (nat_lit 0)))] []) h fun x7 h =>
  bndV (kMov [x18]) fun x6 =>
  bndE (dSt h 2 [x7, x20]) h fun _ h =>
  bndV (kMov [x0]) fun x21 =>
  bndV (kNilc [x21]) fun x22 =>
  bndV (kFa 7 [x22]) fun x23 =>
  bndV (qLd h none [x23]) fun x24 =>
  bndV (qLd h (some 2) [x7]) fun x25 =>
  bndV (kLkp h.heap true [.i, .i] (.agg [(.int .i64 (.ofNat (nat_lit 0))), (.int .i64 (.ofNat (nat_lit 0))), (.int .i64 (.ofNat (nat_lit 0))), (.int .i64 (.ofNat (nat_lit 0))), (.int .i64 (.ofNat (nat_lit 0))), (.int .i64 (.ofNat (nat_lit 0))), (.int .i64 (.ofNat (nat_lit 0))), (.int .i64 (.ofNat (nat_lit 0))), (.str (sb [])), (.str (sb [])), (.str (sb [])), (.str (sb [])), (.int .i64 (.ofNat (nat_lit 0))), (.int .i64 (.ofNat (nat_lit 0))), (.int .i64 (.ofNat (nat_lit 0))), (.int .i64 (.ofNat (nat_lit 0))), (.int .i64 (.ofNat (nat_lit 0))), (.int .i64 (.ofNat (nat_lit 0))), (.int .i64 (.ofNat (nat_lit 0))), (.int .i64 (.ofNat (nat_lit 0))), (.bool false)]) false [x24, x25]) fun x26 =>
  bndV (kFld 12 8 true [x26]) fun x27 =>
  bndV (kFld 1 7 true [x27]) fun x28 =>
  bndN (kAlloc [(.int .i64 (.ofNat (nat_lit 0))), (.int .i64 (.ofNat (nat_lit 0))), (.int .i64 (.ofNat (nat_lit 0))), (.int .i64 (.ofNat (nat_lit 0))), (.int .i64 (.ofNat (nat_lit 0))), (.int .i64 (.ofNat (nat_lit 0))), (.int .i64 (.ofNat (nat_lit 0)))] []) h fun x8 h =>
  bndE (dSt h 7 [x8, x28]) h fun _ h =>
  bndV (kMov [x1]) fun x29 =>
  (f346_5 rc x0 x1 x5 x6 x7 x8 x14 x15 x16 x29 h)
noncomputable def f346_7 (x0 : V) (x1 : V) (x5 : V) (x14 : V) (x15 : V) (x16 : V) (h : HT) : Option J := bndJ (loopF (fun rc vs h => unc vs fun x0 vs =>
  unc vs fun x1 vs =>
  unc vs fun x5 vs =>
  unc vs fun x14 vs =>
  unc vs fun x15 vs =>
  unc vs fun x16 vs =>
  bndV (kBin .lss [x16, x15]) fun x17 =>
  tstv x17 (bndV (kMov [x16]) fun x18 =>
  bndV (kIaS 2 [x14, x16]) fun x19 =>
  bndV (qLd h (some 2) [x19]) fun x20 =>
  (f346_6 rc x0 x1 x5 x14 x15 x16 x18 x20 h))
  (some ⟨0, [x5], h⟩)) 1000000 [x0, x1, x5, x14, x15, x16] h)
  fun j vs h => unc vs fun x5 vs =>
  bndV (kMov [x5]) fun x70 =>
  bndV (kMov [x70]) fun x4 =>
  ret1 x4 h
noncomputable def f346 (vs : List V) (h : HT) : Option J := unc vs fun x0 vs =>
  unc vs fun x1 vs =>
  bndV (kMov [(.slice none 0 true 0)]) fun x4 =>
  bndV (kMov [x1]) fun x11 =>
  bndV (kLenS [x11]) fun x12 =>
  bndN (kMkS 1 24 [(.slice none 0 true 0)] [x12, x12]) h fun x13 h =>
  bndV (kMov [x13]) fun x5 =>
  bndV (kMov [x1]) fun x14 =>
  bndV (kLenS [x14]) fun x15 =>
  bndV (kMov [(.int .i64 (.ofNat (nat_lit 0)))]) fun x16 =>
  (f346_7 x0 x1 x5 x14 x15 x16 h)
def a346 : List Ann := [.no, .loop [0, 1, 5, 14, 15, 16] [((.exit 0), [5])], .no, .no, .no, .loop [0, 1, 5, 6, 7, 8, 14, 15, 16, 29, 30, 31] [((.exit 2), [0, 1, 5, 14, 15, 16])], .no, .no, .join [(.normal, [0, 1, 5, 6, 7, 8, 14, 15, 16, 29, 30, 31])]]
theorem e346 : f346 = evFun Tryz.prog 346 2 a346 t346 := by kernel_rfl
theorem o346 : FnOk Tryz.prog 346 f346 := .of hmO (show enters Tryz.prog 346 = true by kernel_rfl) e346 (.nil)

/- slices.insertionSortCmpFunc[int] -/
noncomputable def l386 : List (Nat × (List V → HT → Option J)) := []
noncomputable def t386 : Fns := tab l386
noncomputable def f386_0 (rc : List V → HT → Option J) (x0 : V) (x1 : V) (x2 : V) (x3 : V) (x8 : V) (x9 : V) (x37 : V) (x38 : V) (x39 : V) (x41 : V) (x42 : V) (x43 : V) (h : HT) : Option J := bndV (kBin .sub [x43, (.int .i64 (.ofNat (nat_lit 1)))]) fun x44 =>
  bndV (kIaS 1 [x42, x44]) fun x45 =>
  bndV (qLd h none [x45]) fun x46 =>
  bndV (kMov [x0]) fun x47 =>
  bndV (kMov [x9]) fun x48 =>
  bndV (kIaS 1 [x47, x48]) fun x49 =>
  bndV (qLd h none [x49]) fun x50 =>
  bndV (kIaS 1 [x37, x38]) fun x51 =>
  bndE (dSt h 1 [x51, x46]) h fun _ h =>
  bndV (kIaS 1 [x39, x41]) fun x52 =>
  bndE (dSt h 1 [x52, x50]) h fun _ h =>
  bndV (kMov [x9]) fun x35 =>
  bndV (kBin .sub [x35, (.int .i64 (.ofNat (nat_lit 1)))]) fun x36 =>
  bndV (kMov [x36]) fun x9 =>
  rc [x0, x1, x2, x3, x8, x9] h
noncomputable def f386_1 (rc : List V → HT → Option J) (x0 : V) (x1 : V) (x2 : V) (x3 : V) (x8 : V) (x9 : V) (x21 : V) (x22 : V) (x26 : V) (x27 : V) (x29 : V) (h : HT) : Option J := bndC (gsel x21 true (retV (kIaS 1 [x27, x29]) h) h) fun x30 h =>
  bndC (gsel x21 true (retV (qLd h none [x30]) h) h) fun x31 h =>
  bndC (gsel x21 true (callvT t386 [x22, x26, x31] h) h) fun x32 h =>
  bndC (gsel x21 true (retV (kBin .lss [x32, (.int .i64 (.ofNat (nat_lit 0)))]) h) h) fun x33 h =>
  bndV (kPick [x21, x33, (.bool false)]) fun x34 =>
  tstv x34 (bndV (kMov [x0]) fun x37 =>
  bndV (kMov [x9]) fun x38 =>
  bndV (kMov [x0]) fun x39 =>
  bndV (kMov [x9]) fun x40 =>
  bndV (kBin .sub [x40, (.int .i64 (.ofNat (nat_lit 1)))]) fun x41 =>
  bndV (kMov [x0]) fun x42 =>
  bndV (kMov [x9]) fun x43 =>
  (f386_0 rc x0 x1 x2 x3 x8 x9 x37 x38 x39 x41 x42 x43 h))
  (some ⟨0, [x0, x1, x2, x3, x8], h⟩)
noncomputable def f386_2 (rc : List V → HT → Option J) (x0 : V) (x1 : V) (x2 : V) (x3 : V) (vs : List V) (h : HT) : Option J := unc vs fun x8 vs =>
  unc vs fun x9 vs =>
  bndV (kMov [x9]) fun x18 =>
  bndV (kMov [x1]) fun x19 =>
  bndV (kBin .gtr [x18, x19]) fun x20 =>
  bndV (kMov [x20]) fun x21 =>
  bndC (gsel x21 true (retV (kMov [x3]) h) h) fun x22 h =>
  bndC (gsel x21 true (retV (kMov [x0]) h) h) fun x23 h =>
  bndC (gsel x21 true (retV (kMov [x9]) h) h) fun x24 h =>
  bndC (gsel x21 true (retV (kIaS 1 [x23, x24]) h) h) fun x25 h =>
  bndC (gsel x21 true (retV (qLd h none [x25]) h) h) fun x26 h =>
  bndC (gsel x21 true (retV (kMov [x0]) h) h) fun x27 h =>
  bndC (gsel x21 true (retV (kMov [x9]) h) h) fun x28 h =>
  bndC (gsel x21 true (retV (kBin .sub [x28, (.int .i64 (.ofNat (nat_lit 1)))]) h) h) fun x29 h =>
  (f386_1 rc x0 x1 x2 x3 x8 x9 x21 x22 x26 x27 x29 h)
noncomputable def f386_3 (rc : List V → HT → Option J) (x0 : V) (x1 : V) (x2 : V) (x3 : V) (x8 : V) (x9 : V) (h : HT) : Option J := bndJ (loopF (fun rc vs h => unc vs fun x0 vs =>
  unc vs fun x1 vs =>
  unc vs fun x2 vs =>
  unc vs fun x3 vs =>
  (f386_2 rc x0 x1 x2 x3 vs h)) 1000000 [x0, x1, x2, x3, x8, x9] h)
  fun j vs h => unc vs fun x0 vs =>
  unc vs fun x1 vs =>
  unc vs fun x2 vs =>
  unc vs fun x3 vs =>
  unc vs fun x8 vs =>
  bndV (kMov [x8]) fun x15 =>
  bndV (kBin .add [x15, (.int .i64 (.ofNat (nat_lit 1)))]) fun x16 =>
  bndV (kMov [x16]) fun x8 =>
  rc [x0, x1, x2, x3, x8] h
noncomputable def f386_4 (x0 : V) (x1 : V) (x2 : V) (x3 : V) (x8 : V) (h : HT) : Option J := bndJ (loopF (fun rc vs h => unc vs fun x0 vs =>
  unc vs fun x1 vs =>
  unc vs fun x2 vs =>
  unc vs fun x3 vs =>
  unc vs fun x8 vs =>
  bndV (kMov [x8]) fun x12 =>
  bndV (kMov [x2]) fun x13 =>
  bndV (kBin .lss [x12, x13]) fun x14 =>
  tstv x14 (bndV (kMov [x8]) fun x17 =>
  bndV (kMov [x17]) fun x9 =>
  (f386_3 rc x0 x1 x2 x3 x8 x9 h))
  (some ⟨0, [], h⟩)) 1000000 [x0, x1, x2, x3, x8] h)
  fun j vs h => ret1 (.tuple []) h
noncomputable def f386 (vs : List V) (h : HT) : Option J := unc vs fun x0 vs =>
  unc vs fun x1 vs =>
  unc vs fun x2 vs =>
  unc vs fun x3 vs =>
  bndV (kMov [x1]) fun x10 =>
  bndV (kBin .add [x10, (.int .i64 (.ofNat (nat_lit 1)))]) fun x11 =>
  bndV (kMov [x11]) fun x8 =>
  (f386_4 x0 x1 x2 x3 x8 h)
def a386 : List Ann := [.no, .loop [0, 1, 2, 3, 8] [((.exit 0), [])], .no, .no, .no, .loop [0, 1, 2, 3, 8, 9] [((.exit 2), [0, 1, 2, 3, 8])], .no, .no]
theorem e386 : f386 = evFun Tryz.prog 386 4 a386 t386 := by kernel_rfl
theorem o386 : FnOk Tryz.prog 386 f386 := .of hmO (show enters Tryz.prog 386 = true by kernel_rfl) e386 (.nil)

/- slices.stableCmpFunc[int] -/
noncomputable def l372 : List (Nat × (List V → HT → Option J)) := [(386, f386)]
noncomputable def t372 : Fns := tab l372
noncomputable def f372_0 (rc : List V → HT → Option J) (x0 : V) (x1 : V) (x2 : V) (x6 : V) (x7 : V) (x8 : V) (x11 : V) (x12 : V) (h : HT) : Option J := bndV (kBin .leq [x11, x12]) fun x13 =>
  tstv x13 (bndV (kMov [x0]) fun x14 =>
  bndV (kMov [x7]) fun x15 =>
  bndV (kMov [x8]) fun x16 =>
  bndV (kMov [x2]) fun x17 =>
  bndC (f386 [x14, x15, x16, x17] h) fun x18 h =>
  bndV (kMov [x8]) fun x19 =>
  bndV (kMov [x19]) fun x7 =>
  bndV (kMov [x8]) fun x20 =>
  bndV (kMov [x6]) fun x21 =>
  bndV (kBin .add [x20, x21]) fun x22 =>
  bndV (kMov [x22]) fun x8 =>
  rc [x0, x1, x2, x6, x7, x8] h)
  (some ⟨0, [x0, x1, x2, x6, x7], h⟩)
noncomputable def f372_1 (rc : List V → HT → Option J) (x0 : V) (x1 : V) (x2 : V) (x6 : V) (x7 : V) (x8 : V) (x36 : V) (h : HT) : Option J := bndV (kMov [x7]) fun x37 =>
  bndV (kMov [x7]) fun x38 =>
  bndV (kMov [x6]) fun x39 =>
  bndV (kBin .add [x38, x39]) fun x40 =>
  bndV (kMov [x8]) fun x41 =>
  bndV (kMov [x2]) fun x42 =>
  bndC (noF [x36, x37, x40, x41, x42] h) fun x43 h =>
  bndV (kMov [x8]) fun x44 =>
  bndV (kMov [x44]) fun x7 =>
  bndV (kMov [x8]) fun x45 =>
  bndV (kMov [x6]) fun x46 =>
  bndV (kBin .mul [(.int .i64 (.ofNat (nat_lit 2))), x46]) fun x47 =>
  bndV (kBin .add [x45, x47]) fun x48 =>
  bndV (kMov [x48]) fun x8 =>
  rc [x0, x1, x2, x6, x7, x8] h
noncomputable def f372_2 (rc : List V → HT → Option J) (x0 : V) (x1 : V) (x2 : V) (x6 : V) (x7 : V) (x9 : V) (x54 : V) (h : HT) : Option J := bndJ (tstv x54 (bndV (kMov [x0]) fun x55 =>
  bndV (kMov [x7]) fun x56 =>
  bndV (kMov [x9]) fun x57 =>
  bndV (kMov [x1]) fun x58 =>
  bndV (kMov [x2]) fun x59 =>
  bndC (noF [x55, x56, x57, x58, x59] h) fun x60 h =>
  some ⟨0, [x0, x1, x2, x6], h⟩)
  (some ⟨0, [x0, x1, x2, x6], h⟩))
  fun j vs h => unc vs fun x0 vs =>
  unc vs fun x1 vs =>
  unc vs fun x2 vs =>
  unc vs fun x6 vs =>
  bndV (kMov [x6]) fun x61 =>
  bndV (kBin .mul [x61, (.int .i64 (.ofNat (nat_lit 2)))]) fun x62 =>
  bndV (kMov [x62]) fun x6 =>
  rc [x0, x1, x2, x6] h
noncomputable def f372_3 (rc : List V → HT → Option J) (x0 : V) (x1 : V) (x2 : V) (x6 : V) (x7 : V) (x8 : V) (h : HT) : Option J := bndJ (loopF (fun rc vs h => unc vs fun x0 vs =>
  unc vs fun x1 vs =>
  unc vs fun x2 vs =>
  unc vs fun x6 vs =>
  unc vs fun x7 vs =>
  unc vs fun x8 vs =>
  bndV (kMov [x8]) fun x33 =>
  bndV (kMov [x1]) fun x34 =>
  bndV (kBin .leq [x33, x34]) fun x35 =>
  tstv x35 (bndV (kMov [x0]) fun x36 =>
  (f372_1 rc x0 x1 x2 x6 x7 x8 x36 h))
  (some ⟨0, [x0, x1, x2, x6, x7], h⟩)) 1000000 [x0, x1, x2, x6, x7, x8] h)
  fun j vs h => unc vs fun x0 vs =>
  unc vs fun x1 vs =>
  unc vs fun x2 vs =>
  unc vs fun x6 vs =>
  unc vs fun x7 vs =>
  bndV (kMov [x7]) fun x49 =>
  bndV (kMov [x6]) fun x50 =>
  bndV (kBin .add [x49, x50]) fun x51 =>
  bndV (kMov [x51]) fun x9 =>
  bndV (kMov [x9]) fun x52 =>
  bndV (kMov [x1]) fun x53 =>
  bndV (kBin .lss [x52, x53]) fun x54 =>
  (f372_2 rc x0 x1 x2 x6 x7 x9 x54 h)
noncomputable def f372_4 (x0 : V) (x1 : V) (x2 : V) (x6 : V) (h : HT) : Option J := loopF (fun rc vs h => unc vs fun x0 vs =>
  unc vs fun x1 vs =>
  unc vs fun x2 vs =>
  unc vs fun x6 vs =>
  bndV (kMov [x6]) fun x28 =>
  bndV (kMov [x1]) fun x29 =>
  bndV (kBin .lss [x28, x29]) fun x30 =>
  tstv x30 (bndV (kMov [x6]) fun x31 =>
  bndV (kBin .mul [(.int .i64 (.ofNat (nat_lit 2))), x31]) fun x32 =>
  bndV (kMov [(.int .i64 (.ofNat (nat_lit 0)))]) fun x7 =>
  bndV (kMov [x32]) fun x8 =>
  (f372_3 rc x0 x1 x2 x6 x7 x8 h))
  (some ⟨0, [], h⟩)) 1000000 [x0, x1, x2, x6] h
noncomputable def f372_5 (x0 : V) (x1 : V) (x2 : V) (x6 : V) (x7 : V) (x8 : V) (h : HT) : Option J := bndJ (loopF (fun rc vs h => unc vs fun x0 vs =>
  unc vs fun x1 vs =>
  unc vs fun x2 vs =>
  unc vs fun x6 vs =>
  unc vs fun x7 vs =>
  unc vs fun x8 vs =>
  bndV (kMov [x8]) fun x11 =>
  bndV (kMov [x1]) fun x12 =>
  (f372_0 rc x0 x1 x2 x6 x7 x8 x11 x12 h)) 1000000 [x0, x1, x2, x6, x7, x8] h)
  fun j vs h => unc vs fun x0 vs =>
  unc vs fun x1 vs =>
  unc vs fun x2 vs =>
  unc vs fun x6 vs =>
  unc vs fun x7 vs =>
  bndV (kMov [x0]) fun x23 =>
  bndV (kMov [x7]) fun x24 =>
  bndV (kMov [x1]) fun x25 =>
  bndV (kMov [x2]) fun x26 =>
  bndC (f386 [x23, x24, x25, x26] h) fun x27 h =>
  bndJ ((f372_4 x0 x1 x2 x6 h))
  fun j vs h => ret1 (.tuple []) h
noncomputable def f372 (vs : List V) (h : HT) : Option J := unc vs fun x0 vs =>
  unc vs fun x1 vs =>
  unc vs fun x2 vs =>
  bndV (kMov [(.int .i64 (.ofNat (nat_lit 20)))]) fun x6 =>
  bndV (kMov [x6]) fun x10 =>
  bndV (kMov [(.int .i64 (.ofNat (nat_lit 0)))]) fun x7 =>
  bndV (kMov [x10]) fun x8 =>
  (f372_5 x0 x1 x2 x6 x7 x8 h)
def a372 : List Ann := [.no, .loop [0, 1, 2, 6, 7, 8] [((.exit 0), [0, 1, 2, 6, 7])], .no, .no, .no, .loop [0, 1, 2, 6] [((.exit 2), [])], .no, .no, .no, .loop [0, 1, 2, 6, 7, 8] [((.exit 4), [0, 1, 2, 6, 7])], .no, .no, .join [(.normal, [0, 1, 2, 6])]]
theorem e372 : f372 = evFun Tryz.prog 372 3 a372 t372 := by kernel_rfl
theorem o372 : FnOk Tryz.prog 372 f372 := .of hmO (show enters Tryz.prog 372 = true by kernel_rfl) e372 (.cons o386 (.nil))

/- slices.SortStableFunc[[]int,int] -/
noncomputable def l347 : List (Nat × (List V → HT → Option J)) := [(372, f372)]
noncomputable def t347 : Fns := tab l347

noncomputable def f347 (vs : List V) (h : HT) : Option J := unc vs fun x0 vs =>
  unc vs fun x1 vs =>
  bndV (kMov [x0]) fun x4 =>
  bndV (kMov [x0]) fun x5 =>
  bndV (kLenS [x5]) fun x6 =>
  bndV (kMov [x1]) fun x7 =>
  bndC (f372 [x4, x6, x7] h) fun x8 h =>
  ret1 (.tuple []) h
def a347 : List Ann := []
theorem e347 : f347 = evFun Tryz.prog 347 2 a347 t347 := by kernel_rfl
theorem o347 : FnOk Tryz.prog 347 f347 := .of hmO (show enters Tryz.prog 347 = true by kernel_rfl) e347 (.cons o372 (.nil))

/- (*concord/exec.plan).do -/
noncomputable def l306 : List (Nat × (List V → HT → Option J)) := [(264, f264), (345, f345), (346, f346), (347, f347)]
noncomputable def t306 : Fns := tab l306
noncomputable def f306_0 (rc : List V → HT → Option J) (x2 : V) (x3 : V) (x10 : V) (x20 : V) (x21 : V) (x22 : V) (x29 : V) (x30 : V) (x31 : V) (x56 : V) (x58 : V) (x59 : V) (x60 : V) (h : HT) : Option J := bndV (qLd h none [x60]) fun x61 =>
  bndV (kNilc [x59]) fun x62 =>
  bndV (kFa 0 [x62]) fun x63 =>
  bndV (kIaA 7 1 [x63, x61]) fun x64 =>
  bndV (qLd h none [x64]) fun x65 =>
  bndV (kFa 1 [x10]) fun x66 =>
  bndV (qLd h none [x66]) fun x67 =>
  bndV (kMaxI [x65, x67]) fun x68 =>
  bndV (kNilc [x56]) fun x69 =>
  bndV (kFa 0 [x69]) fun x70 =>
  bndV (kIaA 7 1 [x70, x58]) fun x71 =>
  bndE (dSt h 1 [x71, x68]) h fun _ h =>
  bndV (kBin .add [x31, (.int .i64 (.ofNat (nat_lit 1)))]) fun x72 =>
  bndV (kMov [x72]) fun x31 =>
  rc [x2, x3, x20, x21, x22, x29, x30, x31] h
noncomputable def f306_1 (rc : List V → HT → Option J) (x2 : V) (x3 : V) (x10 : V) (x20 : V) (x21 : V) (x22 : V) (x29 : V) (x30 : V) (x31 : V) (x39 : V) (x43 : V) (x44 : V) (x48 : V) (h : HT) : Option J := bndV (qLd h (some 2) [x10]) fun x49 =>
  bndV (kLkp h.heap true [.i, .i] (.agg [(.int .i64 (.ofNat (nat_lit 0))), (.int .i64 (.ofNat (nat_lit 0))), (.int .i64 (.ofNat (nat_lit 0))), (.int .i64 (.ofNat (nat_lit 0))), (.int .i64 (.ofNat (nat_lit 0))), (.int .i64 (.ofNat (nat_lit 0))), (.int .i64 (.ofNat (nat_lit 0))), (.int .i64 (.ofNat (nat_lit 0))), (.str (sb [])), (.str (sb [])), (.str (sb [])), (.str (sb [])), (.int .i64 (.ofNat (nat_lit 0))), (.int .i64 (.ofNat (nat_lit 0))), (.int .i64 (.ofNat (nat_lit 0))), (.int .i64 (.ofNat (nat_lit 0))), (.int .i64 (.ofNat (nat_lit 0))), (.int .i64 (.ofNat (nat_lit 0))), (.int .i64 (.ofNat (nat_lit 0))), (.int .i64 (.ofNat (nat_lit 0))), (.bool false)]) false [x48, x49]) fun x50 =>
  bndV (kBld [(.int .i64 (.ofNat (nat_lit 0))), (.int .i64 (.ofNat (nat_lit 0))), (.int .i64 (.ofNat (nat_lit 0))), (.int .i64 (.ofNat (nat_lit 0))), (.int .i64 (.ofNat (nat_lit 0))), (.int .i64 (.ofNat (nat_lit 0))), (.int .i64 (.ofNat (nat_lit 0))), (.int .i64 (.ofNat (nat_lit 0))), (.int .i64 (.ofNat (nat_lit 0))), (.int .i64 (.ofNat (nat_lit 0))), (.str (sb [])), (.str (sb [])), (.str (sb [])), (.str (sb [])), (.int .i64 (.ofNat (nat_lit 0))), (.int .i64 (.ofNat (nat_lit 0))), (.int .i64 (.ofNat (nat_lit 0))), (.int .i64 (.ofNat (nat_lit 0))), (.int .i64 (.ofNat (nat_lit 0))), (.int .i64 (.ofNat (nat_lit 0))), (.int .i64 (.ofNat (nat_lit 0))), (.int .i64 (.ofNat (nat_lit 0))), (.bool false)] [(0, 2), (2, 21)] [x44, x50]) fun x51 =>
  bndN (kBsl 23 1 [(.int .i64 (.ofNat (nat_lit 0))), (.int .i64 (.ofNat (nat_lit 0))), (.int .i64 (.ofNat (nat_lit 0))), (.int .i64 (.ofNat (nat_lit 0))), (.int .i64 (.ofNat (nat_lit 0))), (.int .i64 (.ofNat (nat_lit 0))), (.int .i64 (.ofNat (nat_lit 0))), (.int .i64 (.ofNat (nat_lit 0))), (.int .i64 (.ofNat (nat_lit 0))), (.int .i64 (.ofNat (nat_lit 0))), (.str (sb [])), (.str (sb [])), (.str (sb [])), (.str (sb [])), (.int .i64 (.ofNat (nat_lit 0))), (.int .i64 (.ofNat (nat_lit 0))), (.int .i64 (.ofNat (nat_lit 0))), (.int .i64 (.ofNat (nat_lit 0))), (.int .i64 (.ofNat (nat_lit 0))), (.int .i64 (.ofNat (nat_lit 0))), (.int .i64 (.ofNat (nat_lit 0))), (.int .i64 (.ofNat (nat_lit 0))), (.bool false)] [(0, 23)] [x51]) h fun x52 h =>
  bndE (dApp h 23 216 [x43, x52]) h fun x53 h =>
  chk1 (sameE (qLd h none [x2]) x39) (bndV (kNilc [x39]) fun x54 =>
  bndV (kFa 8 [x54]) fun x55 =>
  bndE (dSt h 1 [x55, x53]) h fun _ h =>
  bndV (qLd h none [x2]) fun x56 =>
  bndV (kFa 0 [x10]) fun x57 =>
  bndV (qLd h none [x57]) fun x58 =>
  bndV (qLd h none [x2]) fun x59 =>
  bndV (kFa 0 [x10]) fun x60 =>
  (f306_0 rc x2 x3 x10 x20 x21 x22 x29 x30 x31 x56 x58 x59 x60 h))
noncomputable def f306_2 (rc : List V → HT → Option J) (x2 : V) (x3 : V) (x20 : V) (x21 : V) (x22 : V) (x29 : V) (x30 : V) (x31 : V) (x35 : V) (x36 : V) (h : HT) : Option J := bndV (kIaS 2 [x35, x36]) fun x37 =>
  bndV (qLd h (some 2) [x37]) fun x38 =>
  bndN (kAlloc [(.int .i64 (.ofNat (nat_lit 0))), (.int .i64 (.ofNat (nat_lit 0)))] []) h fun x10 h =>
  bndE (dSt h 2 [x10, x38]) h fun _ h =>
  bndV (qLd h none [x2]) fun x39 =>
  bndV (qLd h none [x2]) fun x40 =>
  bndV (kNilc [x40]) fun x41 =>
  bndV (kFa 8 [x41]) fun x42 =>
  bndV (qLd h none [x42]) fun x43 =>
  bndV (qLd h (some 2) [x10]) fun x44 =>
  bndV (qLd h none [x2]) fun x45 =>
  bndV (kNilc [x45]) fun x46 =>
  bndV (kFa 7 [x46]) fun x47 =>
  bndV (qLd h none [x47]) fun x48 =>
  (f306_1 rc x2 x3 x10 x20 x21 x22 x29 x30 x31 x39 x43 x44 x48 h)
noncomputable def f306_3 (rc : List V → HT → Option J) (x2 : V) (x3 : V) (vs : List V) (h : HT) : Option J := unc vs fun x20 vs =>
  unc vs fun x21 vs =>
  unc vs fun x22 vs =>
  unc vs fun x29 vs =>
  unc vs fun x30 vs =>
  unc vs fun x31 vs =>
  bndV (kBin .lss [x31, x30]) fun x32 =>
  tstv x32 (bndV (kIaS 1 [x29, x31]) fun x33 =>
  bndV (qLd h none [x33]) fun x34 =>
  bndV (kMov [x34]) fun x9 =>
  bndV (qLd h none [x3]) fun x35 =>
  bndV (kMov [x9]) fun x36 =>
  (f306_2 rc x2 x3 x20 x21 x22 x29 x30 x31 x35 x36 h))
  (some ⟨0, [x2, x3, x20, x21, x22], h⟩)
noncomputable def f306_4 (rc : List V → HT → Option J) (x2 : V) (x3 : V) (x20 : V) (x21 : V) (x22 : V) (x29 : V) (h : HT) : Option J := bndV (kLenS [x29]) fun x30 =>
  bndV (kMov [(.int .i64 (.ofNat (nat_lit 0)))]) fun x31 =>
  bndJ (loopF (fun rc vs h => unc vs fun x2 vs =>
  unc vs fun x3 vs =>
  (f306_3 rc x2 x3 vs h)) 1000000 [x2, x3, x20, x21, x22, x29, x30, x31] h)
  fun j vs h => unc vs fun x2 vs =>
  unc vs fun x3 vs =>
  unc vs fun x20 vs =>
  unc vs fun x21 vs =>
  unc vs fun x22 vs =>
  bndV (kBin .add [x22, (.int .i64 (.ofNat (nat_lit 1)))]) fun x73 =>
  bndV (kMov [x73]) fun x22 =>
  rc [x2, x3, x20, x21, x22] h
noncomputable def f306_5 (rc : List V → HT → Option J) (x2 : V) (vs : List V) (h : HT) : Option J := unc vs fun x3 vs =>
  unc vs fun x20 vs =>
  unc vs fun x21 vs =>
  unc vs fun x22 vs =>
  bndV (kBin .lss [x22, x21]) fun x23 =>
  tstv x23 (bndV (kIaS 1 [x20, x22]) fun x24 =>
  bndV (qLd h none [x24]) fun x25 =>
  bndV (kMov [x25]) fun x7 =>
  bndV (kMov [x7]) fun x26 =>
  bndV (kMkF 348 [x2, x3]) fun x27 =>
  bndC (f347 [x26, x27] h) fun x28 h =>
  bndV (kMov [x7]) fun x29 =>
  (f306_4 rc x2 x3 x20 x21 x22 x29 h))
  (some ⟨0, [], h⟩)
noncomputable def f306_6 (x2 : V) (x3 : V) (x14 : V) (x15 : V) (h : HT) : Option J := bndC (f346 [x14, x15] h) fun x16 h =>
  bndC (f345 [x16] h) fun x17 h =>
  bndV (kMov [x17]) fun x13 =>
  bndV (kExt 0 [x13]) fun x18 =>
  bndV (kExt 1 [x13]) fun x19 =>
  bndV (kMov [x18]) fun x4 =>
  bndV (kMov [x19]) fun x5 =>
  bndV (kMov [x4]) fun x20 =>
  bndV (kLenS [x20]) fun x21 =>
  bndV (kMov [(.int .i64 (.ofNat (nat_lit 0)))]) fun x22 =>
  bndJ (loopF (fun rc vs h => unc vs fun x2 vs =>
  (f306_5 rc x2 vs h)) 1000000 [x2, x3, x20, x21, x22] h)
  fun j vs h => ret1 (.tuple []) h
noncomputable def f306 (vs : List V) (h : HT) : Option J := unc vs fun x0 vs =>
  unc vs fun x1 vs =>
  bndN (kBox [x0]) h fun x2 h =>
  bndN (kBox [x1]) h fun x3 h =>
  bndV (qLd h none [x3]) fun x11 =>
  bndC (f264 [x11, (.func 344 [])] h) fun x12 h =>
  bndV (qLd h none [x2]) fun x14 =>
  bndV (qLd h none [x3]) fun x15 =>
  (f306_6 x2 x3 x14 x15 h)
def a306 : List Ann := [.no, .loop [2, 3, 20, 21, 22] [((.exit 0), [])], .no, .no, .no, .loop [2, 3, 20, 21, 22, 29, 30, 31] [((.exit 2), [2, 3, 20, 21, 22])], .no, .no]
theorem e306 : f306 = evFun Tryz.prog 306 2 a306 t306 := by kernel_rfl
theorem o306 : FnOk Tryz.prog 306 f306 := .of hmO (show enters Tryz.prog 306 = true by kernel_rfl) e306 (.cons o264 (.cons o345 (.cons o346 (.cons o347 (.nil)))))

/- (*concord/exec.plan).round -/
noncomputable def l252 : List (Nat × (List V → HT → Option J)) := [(302, f302), (303, f303), (305, f305), (306, f306)]
noncomputable def t252 : Fns := tab l252
noncomputable def f252_0 (x0 : V) (x4 : V) (x5 : V) (x7 : V) (x13 : V) (h : HT) : Option J := bndV (kMov [x0]) fun x36 =>
  bndV (qLd h (some 2) [x7]) fun x37 =>
  bndC (f303 [x36, x37] h) fun x38 h =>
  bndJ (tstv x38 (bndV (kMov [x5]) fun x39 =>
  bndV (qLd h (some 2) [x7]) fun x40 =>
  bndC (noF [x39, x40] h) fun x41 h =>
  some ⟨0, [x0, x4, x5, x13], h⟩)
  (some ⟨0, [x0, x4, x5, x13], h⟩))
  fun j vs h => unc vs fun x0 vs =>
  unc vs fun x4 vs =>
  unc vs fun x5 vs =>
  unc vs fun x13 vs =>
  some ⟨0, [x0, x4, x5, x13], h⟩
noncomputable def f252_1 (x0 : V) (x4 : V) (x5 : V) (x11 : V) (x13 : V) (x56 : V) (h : HT) : Option J := bndV (kBld [(.int .i64 (.ofNat (nat_lit 0))), (.int .i64 (.ofNat (nat_lit 0)))] [] []) fun x57 =>
  bndV (kEqF true [.i, .i] [x56, x57]) fun x58 =>
  bndV (kMov [x58]) fun x55 =>
  bndJ (tstv x55 (bndV (kMov [x5]) fun x59 =>
  bndV (qLd h (some 2) [x11]) fun x60 =>
  bndC (noF [x59, x60] h) fun x61 h =>
  some ⟨0, [x0, x4, x5, x13], h⟩)
  (some ⟨0, [x0, x4, x5, x13], h⟩))
  fun j vs h => unc vs fun x0 vs =>
  unc vs fun x4 vs =>
  unc vs fun x5 vs =>
  unc vs fun x13 vs =>
  some ⟨0, [x0, x4, x5, x13], h⟩
noncomputable def f252_2 (x0 : V) (x4 : V) (x5 : V) (x10 : V) (x11 : V) (x13 : V) (x51 : V) (h : HT) : Option J := bndV (kMov [x51]) fun x48 =>
  bndJ (tstv x48 (bndV (kMov [x0]) fun x52 =>
  bndV (kMov [x10]) fun x53 =>
  bndC (f306 [x52, x53] h) fun x54 h =>
  bndV (kMov [(.bool true)]) fun x4 =>
  some ⟨0, [x0, x4, x5, x13], h⟩)
  (bndV (qLd h (some 2) [x11]) fun x56 =>
  (f252_1 x0 x4 x5 x11 x13 x56 h)))
  fun j vs h => unc vs fun x0 vs =>
  unc vs fun x4 vs =>
  unc vs fun x5 vs =>
  unc vs fun x13 vs =>
  some ⟨0, [x0, x4, x5, x13], h⟩
noncomputable def f252_3 (x0 : V) (x4 : V) (x5 : V) (x7 : V) (x13 : V) (x35 : V) (h : HT) : Option J := tstv x35 ((f252_0 x0 x4 x5 x7 x13 h))
  (bndV (kMov [x0]) fun x43 =>
  bndV (qLd h (some 2) [x7]) fun x44 =>
  bndC (f305 [x43, x44] h) fun x45 h =>
  bndV (kMov [x45]) fun x42 =>
  bndV (kExt 0 [x42]) fun x46 =>
  bndV (kExt 1 [x42]) fun x47 =>
  bndN (kAlloc [(.int .i64 (.ofNat (nat_lit 0))), (.int .i64 (.ofNat (nat_lit 0)))] []) h fun x11 h =>
  bndV (kMov [x46]) fun x10 =>
  bndE (dSt h 2 [x11, x47]) h fun _ h =>
  bndV (kMov [x10]) fun x49 =>
  bndV (kLenS [x49]) fun x50 =>
  bndV (kBin .gtr [x50, (.int .i64 (.ofNat (nat_lit 0)))]) fun x51 =>
  (f252_2 x0 x4 x5 x10 x11 x13 x51 h))
noncomputable def f252_4 (x0 : V) (x4 : V) (x5 : V) (x7 : V) (x13 : V) (h : HT) : Option J := bndV (kMov [x0]) fun x26 =>
  bndV (kNilc [x26]) fun x27 =>
  bndV (kFa 7 [x27]) fun x28 =>
  bndV (qLd h none [x28]) fun x29 =>
  bndV (qLd h (some 2) [x7]) fun x30 =>
  bndV (kLkp h.heap true [.i, .i] (.agg [(.int .i64 (.ofNat (nat_lit 0))), (.int .i64 (.ofNat (nat_lit 0))), (.int .i64 (.ofNat (nat_lit 0))), (.int .i64 (.ofNat (nat_lit 0))), (.int .i64 (.ofNat (nat_lit 0))), (.int .i64 (.ofNat (nat_lit 0))), (.int .i64 (.ofNat (nat_lit 0))), (.int .i64 (.ofNat (nat_lit 0))), (.str (sb [])), (.str (sb [])), (.str (sb [])), (.str (sb [])), (.int .i64 (.ofNat (nat_lit 0))), (.int .i64 (.ofNat (nat_lit 0))), (.int .i64 (.ofNat (nat_lit 0))), (.int .i64 (.ofNat (nat_lit 0))), (.int .i64 (.ofNat (nat_lit 0))), (.int .i64 (.ofNat (nat_lit 0))), (.int .i64 (.ofNat (nat_lit 0))), (.int .i64 (.ofNat (nat_lit 0))), (.bool false)]) true [x29, x30]) fun x31 =>
  bndV (kMov [x31]) fun x25 =>
  bndV (kExt 0 [x25]) fun x32 =>
  bndV (kExt 1 [x25]) fun x33 =>
  bndN (kAlloc [(.int .i64 (.ofNat (nat_lit 0))), (.int .i64 (.ofNat (nat_lit 0))), (.int .i64 (.ofNat (nat_lit 0))), (.int .i64 (.ofNat (nat_lit 0))), (.int .i64 (.ofNat (nat_lit 0))), (.int .i64 (.ofNat (nat_lit 0))), (.int .i64 (.ofNat (nat_lit 0))), (.int .i64 (.ofNat (nat_lit 0))), (.str (sb [])), (.str (sb [])), (.str (sb [])), (.str (sb [])), (.int .i64 (.ofNat (nat_lit 0))), (.int .i64 (.ofNat (nat_lit 0))), (.int .i64 (.ofNat (nat_lit 0))), (.int .i64 (.ofNat (nat_lit 0))), (.int .i64 (.ofNat (nat_lit 0))), (.int .i64 (.ofNat (nat_lit 0))), (.int .i64 (.ofNat (nat_lit 0))), (.int .i64 (.ofNat (nat_lit 0))), (.bool false)] []) h fun x8 h =>
  bndE (dSt h 21 [x8, x32]) h fun _ h =>
  bndV (kMov [x33]) fun x9 =>
  bndV (kMov [x9]) fun x34 =>
  bndV (kUn .not [x34]) fun x35 =>
  (f252_3 x0 x4 x5 x7 x13 x35 h)
noncomputable def f252_5 (rc : List V → HT → Option J) (x0 : V) (x4 : V) (x5 : V) (x13 : V) (h : HT) : Option J := bndJ (bndV (kMov [x13]) fun x15 =>
  bndV (kMov [x15]) fun x6 =>
  bndV (kMov [x6]) fun x16 =>
  bndV (kMov [x0]) fun x17 =>
  bndV (kMov [x6]) fun x18 =>
  bndV (kNilc [x17]) fun x19 =>
  bndV (kFa 0 [x19]) fun x20 =>
  bndV (kIaA 7 1 [x20, x18]) fun x21 =>
  bndV (qLd h none [x21]) fun x22 =>
  bndV (kBin .add [x22, (.int .i64 (.ofNat (nat_lit 1)))]) fun x23 =>
  bndV (kBld [(.int .i64 (.ofNat (nat_lit 0))), (.int .i64 (.ofNat (nat_lit 0)))] [(0, 1), (1, 1)] [x16, x23]) fun x24 =>
  bndN (kAlloc [(.int .i64 (.ofNat (nat_lit 0))), (.int .i64 (.ofNat (nat_lit 0)))] []) h fun x7 h =>
  bndE (dSt h 2 [x7, x24]) h fun _ h =>
  (f252_4 x0 x4 x5 x7 x13 h))
  fun j vs h => unc vs fun x0 vs =>
  unc vs fun x4 vs =>
  unc vs fun x5 vs =>
  unc vs fun x13 vs =>
  bndV (kBin .add [x13, (.int .i64 (.ofNat (nat_lit 1)))]) fun x62 =>
  bndV (kMov [x62]) fun x13 =>
  rc [x0, x4, x5, x13] h
noncomputable def f252_6 (x0 : V) (x4 : V) (x5 : V) (x13 : V) (h : HT) : Option J := bndJ (loopF (fun rc vs h => unc vs fun x0 vs =>
  unc vs fun x4 vs =>
  unc vs fun x5 vs =>
  unc vs fun x13 vs =>
  bndV (kBin .lss [x13, (.int .i64 (.ofNat (nat_lit 7)))]) fun x14 =>
  tstv x14 ((f252_5 rc x0 x4 x5 x13 h))
  (some ⟨0, [x4, x5], h⟩)) 1000000 [x0, x4, x5, x13] h)
  fun j vs h => unc vs fun x4 vs =>
  unc vs fun x5 vs =>
  bndV (kMov [x4]) fun x63 =>
  bndV (kMov [x5]) fun x64 =>
  bndV (kMov [x63]) fun x2 =>
  bndV (kMov [x64]) fun x3 =>
  ret1 (.tuple [x2, x3]) h
noncomputable def f252 (vs : List V) (h : HT) : Option J := unc vs fun x0 vs =>
  bndV (kMov [(.bool false)]) fun x2 =>
  bndV (kMov [(.ptr none)]) fun x3 =>
  bndC (f302 [(.slice none 0 true 0)] h) fun x12 h =>
  bndV (kMov [(.bool false)]) fun x4 =>
  bndV (kMov [x12]) fun x5 =>
  bndV (kMov [(.int .i64 (.ofNat (nat_lit 0)))]) fun x13 =>
  (f252_6 x0 x4 x5 x13 h)
def a252 : List Ann := [.no, .loop [0, 4, 5, 13] [((.exit 0), [4, 5])], .no, .join [(.normal, [0, 4, 5, 13])], .no, .join [(.normal, [0, 4, 5, 13])], .no, .join [(.normal, [0, 4, 5, 13])], .join [(.normal, [0, 4, 5, 13])]]
theorem e252 : f252 = evFun Tryz.prog 252 1 a252 t252 := by kernel_rfl
theorem o252 : FnOk Tryz.prog 252 f252 := .of hmO (show enters Tryz.prog 252 = true by kernel_rfl) e252 (.cons o302 (.cons o303 (.cons o305 (.cons o306 (.nil)))))

/- (*concord/inst.Set).List -/
noncomputable def l253 : List (Nat × (List V → HT → Option J)) := [(264, f264)]
noncomputable def t253 : Fns := tab l253
noncomputable def f253_0 (rc : List V → HT → Option J) (x3 : V) (vs : List V) (h : HT) : Option J := unc vs fun x9 vs =>
  bndE (dNx h [x9]) h fun x10 h =>
  bndV (kExt 0 [x10]) fun x11 =>
  tstv x11 (bndV (kEnt h.heap [x9]) fun x12 =>
  bndV (kExt 0 [x12]) fun x13 =>
  bndN (kAlloc [(.int .i64 (.ofNat (nat_lit 0))), (.int .i64 (.ofNat (nat_lit 0)))] []) h fun x4 h =>
  bndE (dSt h 2 [x4, x13]) h fun _ h =>
  bndV (kMov [x3]) fun x14 =>
  bndV (qLd h (some 2) [x4]) fun x15 =>
  bndN (kBsl 2 1 [(.int .i64 (.ofNat (nat_lit 0))), (.int .i64 (.ofNat (nat_lit 0)))] [(0, 2)] [x15]) h fun x16 h =>
  bndE (dApp h 2 16 [x14, x16]) h fun x17 h =>
  bndV (kMov [x17]) fun x3 =>
  rc [x3, x9] h)
  (some ⟨0, [x3], h⟩)
noncomputable def f253_1 (x0 : V) (x3 : V) (h : HT) : Option J := bndV (kMov [x0]) fun x5 =>
  bndV (kNilc [x5]) fun x6 =>
  bndV (kFa 0 [x6]) fun x7 =>
  bndV (qLd h none [x7]) fun x8 =>
  bndN (kRng h.heap [x8]) h fun x9 h =>
  bndJ (loopF (fun rc vs h => unc vs fun x3 vs =>
  (f253_0 rc x3 vs h)) 1000000 [x3, x9] h)
  fun j vs h => unc vs fun x3 vs =>
  bndV (kMov [x3]) fun x18 =>
  bndC (f264 [x18, (.func 307 [])] h) fun x19 h =>
  bndV (kMov [x3]) fun x20 =>
  bndV (kMov [x20]) fun x2 =>
  ret1 x2 h
noncomputable def f253 (vs : List V) (h : HT) : Option J := unc vs fun x0 vs =>
  bndV (kMov [(.slice none 0 true 0)]) fun x2 =>
  bndV (kMov [(.slice none 0 true 0)]) fun x3 =>
  (f253_1 x0 x3 h)
def a253 : List Ann := [.no, .loop [3, 9] [((.exit 0), [3])], .no, .no]
theorem e253 : f253 = evFun Tryz.prog 253 1 a253 t253 := by kernel_rfl
theorem o253 : FnOk Tryz.prog 253 f253 := .of hmO (show enters Tryz.prog 253 = true by kernel_rfl) e253 (.cons o264 (.nil))

/- concord/exec.Plan -/
noncomputable def l190 : List (Nat × (List V → HT → Option J)) := [(252, f252), (253, f253)]
noncomputable def t190 : Fns := tab l190
noncomputable def f190_0 (x6 : V) (x8 : V) (x17 : V) (x18 : V) (x19 : V) (x34 : V) (x36 : V) (h : HT) : Option J := bndC (gsel x34 false (retV (qLd h none [x36]) h) h) fun x37 h =>
  bndC (gsel x34 false (retV (kBin .neq [x37, (.int .i64 (.ofNat (nat_lit 3)))]) h) h) fun x38 h =>
  bndV (kPick [x34, (.bool true), x38]) fun x39 =>
  tstv x39 (some ⟨0, [x6, x17, x18, x19], h⟩)
  (bndV (kMov [x6]) fun x40 =>
  bndV (kNilc [x40]) fun x41 =>
  bndV (kFa 7 [x41]) fun x42 =>
  bndV (qLd h none [x42]) fun x43 =>
  bndV (kFa 0 [x8]) fun x44 =>
  bndV (qLd h (some 2) [x44]) fun x45 =>
  bndV (kFa 2 [x8]) fun x46 =>
  bndV (qLd h (some 21) [x46]) fun x47 =>
  bndE (dMset h true [.i, .i] [x43, x45, x47]) h fun _ h =>
  some ⟨0, [x6, x17, x18, x19], h⟩)
noncomputable def f190_1 (x6 : V) (x8 : V) (x17 : V) (x18 : V) (x19 : V) (x26 : V) (h : HT) : Option J := bndV (qLd h none [x26]) fun x27 =>
  bndV (kFa 0 [x8]) fun x28 =>
  bndV (qLd h (some 2) [x28]) fun x29 =>
  bndV (kLkp h.heap true [.i, .i] (.agg [(.int .i64 (.ofNat (nat_lit 0))), (.int .i64 (.ofNat (nat_lit 0))), (.int .i64 (.ofNat (nat_lit 0))), (.int .i64 (.ofNat (nat_lit 0))), (.int .i64 (.ofNat (nat_lit 0))), (.int .i64 (.ofNat (nat_lit 0))), (.int .i64 (.ofNat (nat_lit 0))), (.int .i64 (.ofNat (nat_lit 0))), (.str (sb [])), (.str (sb [])), (.str (sb [])), (.str (sb [])), (.int .i64 (.ofNat (nat_lit 0))), (.int .i64 (.ofNat (nat_lit 0))), (.int .i64 (.ofNat (nat_lit 0))), (.int .i64 (.ofNat (nat_lit 0))), (.int .i64 (.ofNat (nat_lit 0))), (.int .i64 (.ofNat (nat_lit 0))), (.int .i64 (.ofNat (nat_lit 0))), (.int .i64 (.ofNat (nat_lit 0))), (.bool false)]) true [x27, x29]) fun x30 =>
  bndV (kMov [x30]) fun x23 =>
  bndV (kExt 0 [x23]) fun x31 =>
  bndV (kExt 1 [x23]) fun x32 =>
  bndN (kAlloc [(.int .i64 (.ofNat (nat_lit 0))), (.int .i64 (.ofNat (nat_lit 0))), (.int .i64 (.ofNat (nat_lit 0))), (.int .i64 (.ofNat (nat_lit 0))), (.int .i64 (.ofNat (nat_lit 0))), (.int .i64 (.ofNat (nat_lit 0))), (.int .i64 (.ofNat (nat_lit 0))), (.int .i64 (.ofNat (nat_lit 0))), (.str (sb [])), (.str (sb [])), (.str (sb [])), (.str (sb [])), (.int .i64 (.ofNat (nat_lit 0))), (.int .i64 (.ofNat (nat_lit 0))), (.int .i64 (.ofNat (nat_lit 0))), (.int .i64 (.ofNat (nat_lit 0))), (.int .i64 (.ofNat (nat_lit 0))), (.int .i64 (.ofNat (nat_lit 0))), (.int .i64 (.ofNat (nat_lit 0))), (.int .i64 (.ofNat (nat_lit 0))), (.bool false)] []) h fun x9 h =>
  bndE (dSt h 21 [x9, x31]) h fun _ h =>
  bndV (kMov [x32]) fun x10 =>
  bndV (kMov [x10]) fun x33 =>
  bndV (kMov [x33]) fun x34 =>
  bndC (gsel x34 false (retV (kFa 2 [x8]) h) h) fun x35 h =>
  bndC (gsel x34 false (retV (kFa 0 [x35]) h) h) fun x36 h =>
  (f190_0 x6 x8 x17 x18 x19 x34 x36 h)
noncomputable def f190_2 (rc : List V → HT → Option J) (x6 : V) (x17 : V) (x18 : V) (x19 : V) (h : HT) : Option J := bndJ (bndV (kIaS 23 [x17, x19]) fun x21 =>
  bndV (qLd h (some 23) [x21]) fun x22 =>
  bndN (kAlloc [(.int .i64 (.ofNat (nat_lit 0))), (.int .i64 (.ofNat (nat_lit 0))), (.int .i64 (.ofNat (nat_lit 0))), (.int .i64 (.ofNat (nat_lit 0))), (.int .i64 (.ofNat (nat_lit 0))), (.int .i64 (.ofNat (nat_lit 0))), (.int .i64 (.ofNat (nat_lit 0))), (.int .i64 (.ofNat (nat_lit 0))), (.int .i64 (.ofNat (nat_lit 0))), (.int .i64 (.ofNat (nat_lit 0))), (.str (sb [])), (.str (sb [])), (.str (sb [])), (.str (sb [])), (.int .i64 (.ofNat (nat_lit 0))), (.int .i64 (.ofNat (nat_lit 0))), (.int .i64 (.ofNat (nat_lit 0))), (.int .i64 (.ofNat (nat_lit 0))), (.int .i64 (.ofNat (nat_lit 0))), (.int .i64 (.ofNat (nat_lit 0))), (.int .i64 (.ofNat (nat_lit 0))), (.int .i64 (.ofNat (nat_lit 0))), (.bool false)] []) h fun x8 h =>
  bndE (dSt h 23 [x8, x22]) h fun _ h =>
  bndV (kMov [x6]) fun x24 =>
  bndV (kNilc [x24]) fun x25 =>
  bndV (kFa 7 [x25]) fun x26 =>
  (f190_1 x6 x8 x17 x18 x19 x26 h))
  fun j vs h => unc vs fun x6 vs =>
  unc vs fun x17 vs =>
  unc vs fun x18 vs =>
  unc vs fun x19 vs =>
  bndV (kBin .add [x19, (.int .i64 (.ofNat (nat_lit 1)))]) fun x48 =>
  bndV (kMov [x48]) fun x19 =>
  rc [x6, x17, x18, x19] h
noncomputable def f190_3 (rc : List V → HT → Option J) (x6 : V) (x11 : V) (x53 : V) (h : HT) : Option J := bndV (kMov [x53]) fun x12 =>
  bndV (kMov [x11]) fun x54 =>
  bndV (kUn .not [x54]) fun x55 =>
  tstv x55 (bndV (kMov [x6]) fun x56 =>
  bndV (kNilc [x56]) fun x57 =>
  bndV (kFa 8 [x57]) fun x58 =>
  bndV (qLd h none [x58]) fun x59 =>
  bndV (kMov [x12]) fun x60 =>
  bndC (f253 [x60] h) fun x61 h =>
  chk1 (sameE (qLd h none [x58]) x59) (bndV (kMov [x59]) fun x4 =>
  bndV (kMov [x61]) fun x5 =>
  some ⟨0, [x4, x5], h⟩))
  (rc [x6] h)
noncomputable def f190_4 (x6 : V) (x17 : V) (x18 : V) (x19 : V) (h : HT) : Option J := bndJ (loopF (fun rc vs h => unc vs fun x6 vs =>
  unc vs fun x17 vs =>
  unc vs fun x18 vs =>
  unc vs fun x19 vs =>
  bndV (kBin .lss [x19, x18]) fun x20 =>
  tstv x20 ((f190_2 rc x6 x17 x18 x19 h))
  (some ⟨0, [x6], h⟩)) 1000000 [x6, x17, x18, x19] h)
  fun j vs h => unc vs fun x6 vs =>
  bndJ (loopF (fun rc vs h => unc vs fun x6 vs =>
  bndV (kMov [x6]) fun x50 =>
  bndC (f252 [x50] h) fun x51 h =>
  bndV (kMov [x51]) fun x49 =>
  bndV (kExt 0 [x49]) fun x52 =>
  bndV (kExt 1 [x49]) fun x53 =>
  bndV (kMov [x52]) fun x11 =>
  (f190_3 rc x6 x11 x53 h)) 1000000 [x6] h)
  fun j vs h => unc vs fun x4 vs =>
  unc vs fun x5 vs =>
  ret1 (.tuple [x4, x5]) h
noncomputable def f190 (vs : List V) (h : HT) : Option J := unc vs fun x0 vs =>
  unc vs fun x1 vs =>
  bndN (kBox [x0]) h fun x2 h =>
  bndV (kMov [(.slice none 0 true 0)]) fun x4 =>
  bndV (kMov [(.slice none 0 true 0)]) fun x5 =>
  bndV (qLd h (some 7) [x2]) fun x13 =>
  bndN (kMkM []) h fun x14 h =>
  bndV (kBld [(.int .i64 (.ofNat (nat_lit 0))), (.int .i64 (.ofNat (nat_lit 0))), (.int .i64 (.ofNat (nat_lit 0))), (.int .i64 (.ofNat (nat_lit 0))), (.int .i64 (.ofNat (nat_lit 0))), (.int .i64 (.ofNat (nat_lit 0))), (.int .i64 (.ofNat (nat_lit 0))), (.map none), (.slice none 0 true 0)] [(0, 7), (7, 1)] [x13, x14]) fun x15 =>
  bndN (kBox [x15]) h fun x16 h =>
  bndV (kMov [x16]) fun x6 =>
  bndV (kMov [x1]) fun x17 =>
  bndV (kLenS [x17]) fun x18 =>
  bndV (kMov [(.int .i64 (.ofNat (nat_lit 0)))]) fun x19 =>
  (f190_4 x6 x17 x18 x19 h)
def a190 : List Ann := [.no, .loop [6, 17, 18, 19] [((.exit 0), [6])], .no, .join [(.normal, [6, 17, 18, 19])], .no, .no, .loop [6] [(.ret, [4, 5])], .no, .no]
theorem e190 : f190 = evFun Tryz.prog 190 2 a190 t190 := by kernel_rfl
theorem o190 : FnOk Tryz.prog 190 f190 := .of hmO (show enters Tryz.prog 190 = true by kernel_rfl) e190 (.cons o252 (.cons o253 (.nil)))

/- (*concord/log.Log).List -/
noncomputable def l199 : List (Nat × (List V → HT → Option J)) := [(264, f264)]
noncomputable def t199 : Fns := tab l199
noncomputable def f199_0 (rc : List V → HT → Option J) (x3 : V) (vs : List V) (h : HT) : Option J := unc vs fun x9 vs =>
  bndE (dNx h [x9]) h fun x10 h =>
  bndV (kExt 0 [x10]) fun x11 =>
  tstv x11 (bndV (kEnt h.heap [x9]) fun x12 =>
  bndV (kExt 0 [x12]) fun x13 =>
  bndN (kAlloc [(.int .i64 (.ofNat (nat_lit 0))), (.int .i64 (.ofNat (nat_lit 0)))] []) h fun x4 h =>
  bndE (dSt h 2 [x4, x13]) h fun _ h =>
  bndV (kMov [x3]) fun x14 =>
  bndV (qLd h (some 2) [x4]) fun x15 =>
  bndN (kBsl 2 1 [(.int .i64 (.ofNat (nat_lit 0))), (.int .i64 (.ofNat (nat_lit 0)))] [(0, 2)] [x15]) h fun x16 h =>
  bndE (dApp h 2 16 [x14, x16]) h fun x17 h =>
  bndV (kMov [x17]) fun x3 =>
  rc [x3, x9] h)
  (some ⟨0, [x3], h⟩)
noncomputable def f199_1 (x0 : V) (x3 : V) (h : HT) : Option J := bndV (kMov [x0]) fun x5 =>
  bndV (kNilc [x5]) fun x6 =>
  bndV (kFa 0 [x6]) fun x7 =>
  bndV (qLd h none [x7]) fun x8 =>
  bndN (kRng h.heap [x8]) h fun x9 h =>
  bndJ (loopF (fun rc vs h => unc vs fun x3 vs =>
  (f199_0 rc x3 vs h)) 1000000 [x3, x9] h)
  fun j vs h => unc vs fun x3 vs =>
  bndV (kMov [x3]) fun x18 =>
  bndC (f264 [x18, (.func 265 [])] h) fun x19 h =>
  bndV (kMov [x3]) fun x20 =>
  bndV (kMov [x20]) fun x2 =>
  ret1 x2 h
noncomputable def f199 (vs : List V) (h : HT) : Option J := unc vs fun x0 vs =>
  bndV (kMov [(.slice none 0 true 0)]) fun x2 =>
  bndV (kMov [(.slice none 0 true 0)]) fun x3 =>
  (f199_1 x0 x3 h)
def a199 : List Ann := [.no, .loop [3, 9] [((.exit 0), [3])], .no, .no]
theorem e199 : f199 = evFun Tryz.prog 199 1 a199 t199 := by kernel_rfl
theorem o199 : FnOk Tryz.prog 199 f199 := .of hmO (show enters Tryz.prog 199 = true by kernel_rfl) e199 (.cons o264 (.nil))

/- (*concord/core.Core).Cells -/
noncomputable def l118 : List (Nat × (List V → HT → Option J)) := [(199, f199)]
noncomputable def t118 : Fns := tab l118

noncomputable def f118 (vs : List V) (h : HT) : Option J := unc vs fun x0 vs =>
  bndV (kMov [(.slice none 0 true 0)]) fun x2 =>
  bndV (kMov [x0]) fun x3 =>
  bndV (kNilc [x3]) fun x4 =>
  bndV (kFa 2 [x4]) fun x5 =>
  bndV (qLd h none [x5]) fun x6 =>
  bndC (f199 [x6] h) fun x7 h =>
  bndV (kMov [x7]) fun x2 =>
  ret1 x2 h
def a118 : List Ann := []
theorem e118 : f118 = evFun Tryz.prog 118 1 a118 t118 := by kernel_rfl
theorem o118 : FnOk Tryz.prog 118 f118 := .of hmO (show enters Tryz.prog 118 = true by kernel_rfl) e118 (.cons o199 (.nil))

/- (*concord/log.Log).Cell -/
noncomputable def l200 : List (Nat × (List V → HT → Option J)) := []
noncomputable def t200 : Fns := tab l200
noncomputable def f200_0 (x4 : V) (x6 : V) (x15 : V) (x16 : V) (h : HT) : Option J := bndE (dSt h 21 [x6, x15]) h fun _ h =>
  bndV (kMov [x16]) fun x7 =>
  bndV (kMov [x7]) fun x17 =>
  bndV (kUn .not [x17]) fun x18 =>
  tstv x18 (bndV (kBld [(.int .i64 (.ofNat (nat_lit 0))), (.int .i64 (.ofNat (nat_lit 0))), (.int .i64 (.ofNat (nat_lit 0))), (.int .i64 (.ofNat (nat_lit 0))), (.int .i64 (.ofNat (nat_lit 0))), (.int .i64 (.ofNat (nat_lit 0))), (.int .i64 (.ofNat (nat_lit 0))), (.int .i64 (.ofNat (nat_lit 0))), (.str (sb [])), (.str (sb [])), (.str (sb [])), (.str (sb [])), (.int .i64 (.ofNat (nat_lit 0))), (.int .i64 (.ofNat (nat_lit 0))), (.int .i64 (.ofNat (nat_lit 0))), (.int .i64 (.ofNat (nat_lit 0))), (.int .i64 (.ofNat (nat_lit 0))), (.int .i64 (.ofNat (nat_lit 0))), (.int .i64 (.ofNat (nat_lit 0))), (.int .i64 (.ofNat (nat_lit 0))), (.bool false)] [] []) fun x19 =>
  bndE (dSt h 21 [x4, x19]) h fun _ h =>
  bndV (kMov [(.bool false)]) fun x5 =>
  bndV (qLd h (some 21) [x4]) fun x900000 =>
  ret1 (.tuple [x900000, x5]) h)
  (bndV (qLd h (some 21) [x6]) fun x20 =>
  bndE (dSt h 21 [x4, x20]) h fun _ h =>
  bndV (kMov [(.bool true)]) fun x5 =>
  bndV (qLd h (some 21) [x4]) fun x900000 =>
  ret1 (.tuple [x900000, x5]) h)
noncomputable def f200_1 (x0 : V) (vs : List V) (h : HT) : Option J := unc vs fun x1 vs =>
  bndN (kBox [x1]) h fun x3 h =>
  bndN (kAlloc [(.int .i64 (.ofNat (nat_lit 0))), (.int .i64 (.ofNat (nat_lit 0))), (.int .i64 (.ofNat (nat_lit 0))), (.int .i64 (.ofNat (nat_lit 0))), (.int .i64 (.ofNat (nat_lit 0))), (.int .i64 (.ofNat (nat_lit 0))), (.int .i64 (.ofNat (nat_lit 0))), (.int .i64 (.ofNat (nat_lit 0))), (.str (sb [])), (.str (sb [])), (.str (sb [])), (.str (sb [])), (.int .i64 (.ofNat (nat_lit 0))), (.int .i64 (.ofNat (nat_lit 0))), (.int .i64 (.ofNat (nat_lit 0))), (.int .i64 (.ofNat (nat_lit 0))), (.int .i64 (.ofNat (nat_lit 0))), (.int .i64 (.ofNat (nat_lit 0))), (.int .i64 (.ofNat (nat_lit 0))), (.int .i64 (.ofNat (nat_lit 0))), (.bool false)] []) h fun x4 h =>
  bndV (kMov [(.bool false)]) fun x5 =>
  bndV (kMov [x0]) fun x9 =>
  bndV (kNilc [x9]) fun x10 =>
  bndV (kFa 0 [x10]) fun x11 =>
  bndV (qLd h none [x11]) fun x12 =>
  bndV (qLd h (some 2) [x3]) fun x13 =>
  bndV (kLkp h.heap true [.i, .i] (.agg [(.int .i64 (.ofNat (nat_lit 0))), (.int .i64 (.ofNat (nat_lit 0))), (.int .i64 (.ofNat (nat_lit 0))), (.int .i64 (.ofNat (nat_lit 0))), (.int .i64 (.ofNat (nat_lit 0))), (.int .i64 (.ofNat (nat_lit 0))), (.int .i64 (.ofNat (nat_lit 0))), (.int .i64 (.ofNat (nat_lit 0))), (.str (sb [])), (.str (sb [])), (.str (sb [])), (.str (sb [])), (.int .i64 (.ofNat (nat_lit 0))), (.int .i64 (.ofNat (nat_lit 0))), (.int .i64 (.ofNat (nat_lit 0))), (.int .i64 (.ofNat (nat_lit 0))), (.int .i64 (.ofNat (nat_lit 0))), (.int .i64 (.ofNat (nat_lit 0))), (.int .i64 (.ofNat (nat_lit 0))), (.int .i64 (.ofNat (nat_lit 0))), (.bool false)]) true [x12, x13]) fun x14 =>
  bndV (kMov [x14]) fun x8 =>
  bndV (kExt 0 [x8]) fun x15 =>
  bndV (kExt 1 [x8]) fun x16 =>
  bndN (kAlloc [(.int .i64 (.ofNat (nat_lit 0))), (.int .i64 (.ofNat (nat_lit 0))), (.int .i64 (.ofNat (nat_lit 0))), (.int .i64 (.ofNat (nat_lit 0))), (.int .i64 (.ofNat (nat_lit 0))), (.int .i64 (.ofNat (nat_lit 0))), (.int .i64 (.ofNat (nat_lit 0))), (.int .i64 (.ofNat (nat_lit 0))), (.str (sb [])), (.str (sb [])), (.str (sb [])), (.str (sb [])), (.int .i64 (.ofNat (nat_lit 0))), (.int .i64 (.ofNat (nat_lit 0))), (.int .i64 (.ofNat (nat_lit 0))), (.int .i64 (.ofNat (nat_lit 0))), (.int .i64 (.ofNat (nat_lit 0))), (.int .i64 (.ofNat (nat_lit 0))), (.int .i64 (.ofNat (nat_lit 0))), (.int .i64 (.ofNat (nat_lit 0))), (.bool false)] []) h fun x6 h =>
  (f200_0 x4 x6 x15 x16 h)
noncomputable def f200 (vs : List V) (h : HT) : Option J := unc vs fun x0 vs =>
  (f200_1 x0 vs h)
def a200 : List Ann := [.no]
theorem e200 : f200 = evFun Tryz.prog 200 2 a200 t200 := by kernel_rfl
theorem o200 : FnOk Tryz.prog 200 f200 := .of hmO (show enters Tryz.prog 200 = true by kernel_rfl) e200 (.nil)
end Go.Cn
